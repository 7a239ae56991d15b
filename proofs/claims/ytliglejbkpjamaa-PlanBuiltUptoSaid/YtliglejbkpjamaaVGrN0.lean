/-
  Layer 16 (graph): visit, plainly, and what holds of it.
-/
import Derived.Test.YtliglejbkpjamaaVGrM0
import Derived.Test.YtliglejbkpjamaaVSuffC
set_option linter.unusedVariables false
set_option linter.unusedSimpArgs false
set_option maxRecDepth 20000
namespace Go.Proofs.Ytliglejbkpjamaa
open Go.RowKit

section
variable {ways : List (ByteArray × ByteArray)} {Z : Nat}
theorem nextOf_sz (hZ : ∀ p, p ∈ ways → p.1.size ≤ Z) {z x : ByteArray} (h : z ∈ nextOf x ways) : z.size ≤ x.size + Z := by
  unfold nextOf at h
  obtain ⟨p, hp, he⟩ := List.mem_filterMap.1 h
  split at he
  · cases he
    have := hZ p hp
    rw [ByteArray.size_append]
    have e : (cutSuf x p.2).size ≤ x.size := by
      unfold cutSuf
      rw [ByteArray.size_extract]; omega
    omega
  · cases he
theorem chain_size (hZ : ∀ p, p ∈ ways → p.1.size ≤ Z) {name : ByteArray} {there : List ByteArray} (hh : hit ways name there = true) :
    (walkOf ways name there).2.size ≤ name.size + 7 * Z ∧ ∀ x, x ∈ chainL ways name there → x.size ≤ name.size + 7 * Z := by
  obtain ⟨n, l, f1, f2, f3, f4, f5, f6, f7, f8⟩ := chain_facts hh
  have hc : chainL ways name there = l := by unfold chainL; rw [up_mono f3 (by omega)]; rfl
  have key : ∀ j, j ≤ n → ∃ z, ((walkOf ways name there).2 :: l)[n - j]? = some z ∧ z.size ≤ name.size + j * Z := by
    intro j
    induction j with
    | zero => intro _; exact ⟨name, f7, by omega⟩
    | succ j ih =>
      intro hj
      obtain ⟨x, e1, e2⟩ := ih (by omega)
      obtain ⟨z, x', k1, k2, k3, _⟩ := f8 (n - (j + 1)) (by omega)
      rw [show n - (j + 1) + 1 = n - j from by omega, e1] at k2
      cases k2
      refine ⟨z, k1, ?_⟩
      have := nextOf_sz hZ k3
      rw [Nat.add_mul]; omega
  have hle : ∀ j, j ≤ n → j * Z ≤ 7 * Z := fun j hj => Nat.mul_le_mul_right _ (by omega)
  refine ⟨?_, fun x hx => ?_⟩
  · obtain ⟨z, e1, e2⟩ := key n (Nat.le_refl _)
    rw [Nat.sub_self] at e1
    cases e1
    have := hle n (Nat.le_refl _)
    omega
  · rw [hc] at hx
    obtain ⟨i, hi, rfl⟩ := List.getElem_of_mem hx
    obtain ⟨z, e1, e2⟩ := key (n - (i + 1)) (by omega)
    rw [show n - (n - (i + 1)) = i + 1 from by omega, List.getElem?_cons_succ, List.getElem?_eq_getElem hi] at e1
    cases e1
    have := hle (n - (i + 1)) (by omega)
    omega
/-- No link is longer. -/
def Szd (B : Nat) (L : List (ByteArray × ByteArray)) : Prop := ∀ k v, mget L k = some v → v.size ≤ B
theorem Szd.mono {B B' : Nat} {L : List (ByteArray × ByteArray)} (h : Szd B L) (hB : B ≤ B') : Szd B' L := fun k v e => Nat.le_trans (h k v e) hB
theorem linkAll_szd {B : Nat} : ∀ (xs : List ByteArray) (m : List (ByteArray × ByteArray)) (f : ByteArray), Szd B m → f.size ≤ B → (∀ x, x ∈ xs → x.size ≤ B) → Szd B (linkAll m f xs)
  | [], m, f, h, _, _ => h
  | x :: xs, m, f, h, hf, hx => by
    unfold linkAll
    refine linkAll_szd xs _ x ?_ (hx x (by simp)) (fun y hy => hx y (by simp [hy]))
    split
    · exact h
    · intro k v e
      rw [mget_put] at e
      split at e
      · cases e; exact hf
      · exact h k v e
theorem implB_szd (hZ : ∀ p, p ∈ ways → p.1.size ≤ Z) {suf there : List ByteArray} {L : List (ByteArray × ByteArray)} {name : ByteArray} {B : Nat} (hL : Szd B L) (hB : name.size + 7 * Z ≤ B) :
    (implB suf ways there L name).1.size ≤ B ∧ Szd B (implB suf ways there L name).2 := by
  unfold implB
  split
  · rename_i s hs
    exact ⟨hL _ _ hs, hL⟩
  · split
    · rename_i hh
      rw [Bool.and_eq_true] at hh
      obtain ⟨h1, h2⟩ := chain_size hZ hh.2
      have h3 := linkAll_szd (chainL ways name there) L (walkOf ways name there).2 hL (by omega) (fun x hx => by have := h2 x hx; omega)
      refine ⟨?_, h3⟩
      show (mval _ name).size ≤ B
      unfold mval
      cases hg : mget (linkAll L (walkOf ways name there).2 (chainL ways name there)) name with
      | none => exact Nat.zero_le _
      | some v => exact h3 _ _ hg
    · exact ⟨Nat.zero_le _, hL⟩
end

/-- What visit turns, plainly. -/
structure VS where
  links : List (ByteArray × ByteArray)
  state : List (ByteArray × Int)
  nodes : List NodeS
  count : Int
  why : Int
  pname : ByteArray
  pat : Int
def BS.put (X : BS) (NV : Value) (xs : List NX) (s : VS) : BS := { X with NV := NV, nodes := xs, links := s.links, state := s.state, count := s.count, why := s.why, pname := s.pname, pat := s.pat }
def VS.wrong (s : VS) (e : Int) (name : ByteArray) : VS := if s.why = 0 then { s with why := e, pname := name, pat := 0 } else s
theorem put_wrong (X : BS) (NV : Value) (xs : List NX) (s : VS) (e : Int) (name : ByteArray) : (X.put NV xs s).wrong e name = X.put NV xs (s.wrong e name) := by
  unfold BS.wrong VS.wrong BS.put
  simp only
  split <;> rfl
def nodeL (raw : List RuleS) (X : BS) (L : List (ByteArray × ByteArray)) (name : ByteArray) : NodeS × Bool × List (ByteArray × ByteArray) := nodeB raw { X with links := L } name
def stAt (s : VS) (name : ByteArray) : Int := (mget s.state name).getD 0
/-- Behind the sources of a node. -/
def endB (s : VS) (name : ByteArray) (n : NodeS) : VS :=
  if s.why = 0 then { s with state := mput s.state name 2, nodes := s.nodes ++ [n] } else { s with state := mput s.state name 2 }
def beginB (s : VS) (name : ByteArray) (L : List (ByteArray × ByteArray)) : VS := { s with links := L, count := s.count + 1, state := mput s.state name 1 }
def visitB (raw : List RuleS) (X : BS) : Nat → ByteArray → VS → VS
  | 0, _, s => s
  | k + 1, name, s =>
    if s.why ≠ 0 ∨ stAt s name = 2 then s
    else if stAt s name = 1 then s.wrong 11 name
    else if (nodeL raw X s.links name).2.1 = false then ({ s with links := (nodeL raw X s.links name).2.2 } : VS).wrong 6 name
    else if s.count = 512 then ({ s with links := (nodeL raw X s.links name).2.2 } : VS).wrong 5 name
    else endB ((nodeL raw X s.links name).1.src.foldl (fun s x => visitB raw X k x s) (beginB s name (nodeL raw X s.links name).2.2)) name (nodeL raw X s.links name).1
def visitAll (raw : List RuleS) (X : BS) (k : Nat) (l : List ByteArray) (s : VS) : VS := l.foldl (fun s x => visitB raw X k x s) s
theorem visitAll_snoc (raw : List RuleS) (X : BS) (k : Nat) (l : List ByteArray) (s : VS) (i : Nat) (h : i < l.length) : visitAll raw X k (l.take (i + 1)) s = visitB raw X k l[i] (visitAll raw X k (l.take i) s) := by
  rw [List.take_succ_eq_append_getElem h]
  unfold visitAll
  rw [List.foldl_append]; rfl
theorem visitB_bad (raw : List RuleS) (X : BS) (k : Nat) (name : ByteArray) (s : VS) (h : s.why ≠ 0) : visitB raw X k name s = s := by
  cases k with
  | zero => rfl
  | succ k => unfold visitB; rw [if_pos (.inl h)]
theorem visitAll_bad (raw : List RuleS) (X : BS) (k : Nat) : ∀ (l : List ByteArray) (s : VS), s.why ≠ 0 → visitAll raw X k l s = s
  | [], _, _ => rfl
  | x :: l, s, h => by
    show visitAll raw X k l (visitB raw X k x s) = s
    rw [visitB_bad raw X k x s h, visitAll_bad raw X k l s h]
theorem wrong_why (s : VS) (e : Int) (he : e ≠ 0) (name : ByteArray) : (s.wrong e name).why ≠ 0 := by
  unfold VS.wrong
  split
  · exact he
  · assumption

/-- What holds where nothing is wrong yet. -/
structure Inv (s : VS) : Prop where
  why : s.why = 0
  cnt : s.count ≤ 512
  st : ∀ x, stAt s x = 2 ↔ x ∈ s.nodes.map NodeS.name
  tri : ∀ x, stAt s x = 0 ∨ stAt s x = 1 ∨ stAt s x = 2
  nd : (s.nodes.map NodeS.name).Nodup
  src : ∀ (i : Nat) n, s.nodes[i]? = some n → ∀ x, x ∈ n.src → ∃ (j : Nat) (m : NodeS), j < i ∧ s.nodes[j]? = some m ∧ m.name = x
  sd : ∀ n, n ∈ s.nodes → n.src.Nodup ∧ waitN ∉ n.src ∧ n.aft = []
/-- What is new is come to from what is behind it, or from l. -/
def From (l : List ByteArray) (new : List NodeS) : Prop := ∀ (i : Nat) n, new[i]? = some n → n.name ∈ l ∨ ∃ (j : Nat) (m : NodeS), i < j ∧ new[j]? = some m ∧ n.name ∈ m.src
structure Goes (l : List ByteArray) (s s' : VS) : Prop where
  inv : Inv s'
  one : ∀ x, stAt s x = 1 → stAt s' x = 1
  cnt : s.count ≤ s'.count
  len : (s'.nodes.length : Int) + s.count ≤ s.nodes.length + s'.count
  has : ∀ x, x ∈ l → x ∈ s'.nodes.map NodeS.name
  new : ∃ new, s'.nodes = s.nodes ++ new ∧ From l new
theorem Goes.refl {s : VS} (h : Inv s) : Goes [] s s := ⟨h, fun _ h => h, Int.le_refl _, by omega, fun _ h => (by cases h), [], by simp, fun i n h => (by simp at h)⟩
theorem From.append {l m : List ByteArray} {a b : List NodeS} (h : From l a) (k : From m b) : From (l ++ m) (a ++ b) := by
  intro i n hi
  by_cases hlt : i < a.length
  · rw [List.getElem?_append_left hlt] at hi
    rcases h i n hi with h | ⟨j, x, h1, h2, h3⟩
    · exact .inl (by simp [h])
    · exact .inr ⟨j, x, h1, by rw [List.getElem?_append_left ((List.getElem?_eq_some_iff.1 h2).1)]; exact h2, h3⟩
  · rw [List.getElem?_append_right (by omega)] at hi
    rcases k _ n hi with h | ⟨j, x, h1, h2, h3⟩
    · exact .inl (by simp [h])
    · exact .inr ⟨j + a.length, x, by omega, by rw [List.getElem?_append_right (by omega), Nat.add_sub_cancel]; exact h2, h3⟩
theorem Goes.trans {l m : List ByteArray} {a b c : VS} (h : Goes l a b) (k : Goes m b c) : Goes (l ++ m) a c := by
  obtain ⟨n1, e1, f1⟩ := h.new
  obtain ⟨n2, e2, f2⟩ := k.new
  refine ⟨k.inv, fun x hx => k.one x (h.one x hx), Int.le_trans h.cnt k.cnt, by have := h.len; have := k.len; omega, fun x hx => ?_, n1 ++ n2, by rw [e2, e1, List.append_assoc], f1.append f2⟩
  rcases List.mem_append.1 hx with hx | hx
  · rw [e2, List.map_append, List.mem_append]; exact .inl (h.has x hx)
  · exact k.has x hx
theorem stAt_put (s : VS) (name x : ByteArray) (v : Int) : (mget (mput s.state name v) x).getD 0 = if x = name then v else stAt s x := by
  rw [mget_put]
  split
  · rfl
  · rfl
theorem nodeL_facts (raw : List RuleS) (X : BS) (L : List (ByteArray × ByteArray)) (name : ByteArray) : (nodeL raw X L name).1.name = name ∧ (nodeL raw X L name).1.src.Nodup ∧ waitN ∉ (nodeL raw X L name).1.src ∧ (nodeL raw X L name).1.aft = [] := by
  have key : ∀ (c : Prop) [Decidable c] (l m : List ByteArray), (if c then srcB l else srcB m).Nodup ∧ waitN ∉ (if c then srcB l else srcB m) := by
    intro c _ l m
    split
    · exact ⟨(srcB_good _).1, (srcB_good _).2.1⟩
    · exact ⟨(srcB_good _).1, (srcB_good _).2.1⟩
  exact ⟨rfl, (key _ _ _).1, (key _ _ _).2, rfl⟩
theorem all_goes {raw : List RuleS} {X : BS} {k : Nat} (hv : ∀ name s, Inv s → 512 < s.count + k → (visitB raw X k name s).why = 0 → Goes [name] s (visitB raw X k name s)) :
    ∀ (l : List ByteArray) (s : VS), Inv s → 512 < s.count + k → (visitAll raw X k l s).why = 0 → Goes l s (visitAll raw X k l s)
  | [], s, h, _, _ => Goes.refl h
  | x :: l, s, h, hc, hw => by
    have e : visitAll raw X k (x :: l) s = visitAll raw X k l (visitB raw X k x s) := rfl
    rw [e] at hw ⊢
    have h1 : (visitB raw X k x s).why = 0 := by
      by_cases h0 : (visitB raw X k x s).why = 0
      · exact h0
      · rw [visitAll_bad raw X k l _ h0] at hw; exact hw
    have g1 := hv x s h hc h1
    exact g1.trans (all_goes hv l _ g1.inv (by have := g1.cnt; omega) hw)
theorem visit_goes (raw : List RuleS) (X : BS) : ∀ (k : Nat) (name : ByteArray) (s : VS), Inv s → 512 < s.count + k → (visitB raw X k name s).why = 0 → Goes [name] s (visitB raw X k name s)
  | 0, name, s, h, hc, _ => by have := h.cnt; omega
  | k + 1, name, s, h, hc, hw => by
    unfold visitB at hw ⊢
    by_cases c1 : s.why ≠ 0 ∨ stAt s name = 2
    · rw [if_pos c1] at hw ⊢
      have c2 : stAt s name = 2 := by
        rcases c1 with c | c
        · exact absurd h.why c
        · exact c
      exact ⟨h, fun _ h => h, Int.le_refl _, by omega, fun x hx => by rw [List.mem_singleton.1 hx]; exact (h.st name).1 c2, [], by simp, fun i n hi => by simp at hi⟩
    rw [if_neg c1] at hw ⊢
    by_cases c2 : stAt s name = 1
    · rw [if_pos c2] at hw; exact absurd hw (wrong_why _ _ (by decide) _)
    rw [if_neg c2] at hw ⊢
    by_cases c3 : (nodeL raw X s.links name).2.1 = false
    · rw [if_pos c3] at hw; exact absurd hw (wrong_why _ _ (by decide) _)
    rw [if_neg c3] at hw ⊢
    by_cases c4 : s.count = 512
    · rw [if_pos c4] at hw; exact absurd hw (wrong_why _ _ (by decide) _)
    rw [if_neg c4] at hw ⊢
    have c5 : ¬ stAt s name = 2 := fun h => c1 (.inr h)
    have hn : name ∉ s.nodes.map NodeS.name := fun hc => c5 ((h.st name).2 hc)
    obtain ⟨q1, q2, q3, q4⟩ := nodeL_facts raw X s.links name
    generalize (nodeL raw X s.links name).2.2 = L at *
    generalize (nodeL raw X s.links name).1 = n at *
    have hcnt := h.cnt
    have hi : Inv (beginB s name L) := by
      refine ⟨h.why, by show s.count + 1 ≤ 512; omega, fun x => ?_, fun x => ?_, h.nd, h.src, h.sd⟩
      · show (mget (mput s.state name 1) x).getD 0 = 2 ↔ _
        rw [stAt_put]
        by_cases hx : x = name
        · subst hx; rw [if_pos rfl]; exact ⟨fun h => by omega, fun h => absurd h hn⟩
        · rw [if_neg hx]; exact h.st x
      · show (mget (mput s.state name 1) x).getD 0 = 0 ∨ (mget (mput s.state name 1) x).getD 0 = 1 ∨ (mget (mput s.state name 1) x).getD 0 = 2
        rw [stAt_put]
        by_cases hx : x = name
        · rw [if_pos hx]; exact .inr (.inl rfl)
        · rw [if_neg hx]; exact h.tri x
    have hall : (n.src.foldl (fun s x => visitB raw X k x s) (beginB s name L)) = visitAll raw X k n.src (beginB s name L) := rfl
    rw [hall] at hw ⊢
    have hw3 : (visitAll raw X k n.src (beginB s name L)).why = 0 := by
      unfold endB at hw
      split at hw
      · assumption
      · exact hw
    have g := all_goes (visit_goes raw X k) n.src (beginB s name L) hi (by show 512 < s.count + 1 + (k : Int); omega) hw3
    generalize visitAll raw X k n.src (beginB s name L) = t at *
    have ee : endB t name n = { t with state := mput t.state name 2, nodes := t.nodes ++ [n] } := by unfold endB; rw [if_pos hw3]
    rw [ee]
    have h1 : stAt t name = 1 := g.one name (by
      show (mget (mput s.state name 1) name).getD 0 = 1
      rw [stAt_put, if_pos rfl])
    have hnt : name ∉ t.nodes.map NodeS.name := fun hc => by
      have := (g.inv.st name).2 hc
      omega
    obtain ⟨new, en, fn⟩ := g.new
    refine ⟨⟨hw3, g.inv.cnt, fun x => ?_, fun x => ?_, ?_, ?_, ?_⟩, fun x hx => ?_, ?_, ?_, fun x hx => ?_, new ++ [n], ?_, ?_⟩
    · show (mget (mput t.state name 2) x).getD 0 = 2 ↔ _
      rw [stAt_put, List.map_append, List.mem_append]
      by_cases hx : x = name
      · subst hx; rw [if_pos rfl]; exact ⟨fun _ => .inr (by simp [q1]), fun _ => rfl⟩
      · rw [if_neg hx, g.inv.st x]
        refine ⟨.inl, fun h => ?_⟩
        rcases h with h | h
        · exact h
        · simp [q1] at h; exact absurd h hx
    · show (mget (mput t.state name 2) x).getD 0 = 0 ∨ (mget (mput t.state name 2) x).getD 0 = 1 ∨ (mget (mput t.state name 2) x).getD 0 = 2
      rw [stAt_put]
      by_cases hx : x = name
      · rw [if_pos hx]; exact .inr (.inr rfl)
      · rw [if_neg hx]; exact g.inv.tri x
    · show ((t.nodes ++ [n]).map NodeS.name).Nodup
      rw [List.map_append, List.nodup_append]
      refine ⟨g.inv.nd, by simp, fun a ha b hb e => ?_⟩
      simp [q1] at hb
      subst hb e
      exact hnt ha
    · intro i m hm x hx
      have hm : (t.nodes ++ [n])[i]? = some m := hm
      by_cases hlt : i < t.nodes.length
      · rw [List.getElem?_append_left hlt] at hm
        obtain ⟨j, y, h1, h2, h3⟩ := g.inv.src i m hm x hx
        exact ⟨j, y, h1, by show (t.nodes ++ [n])[j]? = some y; rw [List.getElem?_append_left (by omega)]; exact h2, h3⟩
      · rw [List.getElem?_append_right (by omega)] at hm
        have h0 : i - t.nodes.length = 0 := by
          have := (List.getElem?_eq_some_iff.1 hm).1
          simp at this; omega
        rw [h0] at hm
        have : n = m := by simpa using hm
        subst this
        have hx2 := g.has x hx
        obtain ⟨y, hy, rfl⟩ := List.mem_map.1 hx2
        obtain ⟨j, hj, rfl⟩ := List.getElem_of_mem hy
        exact ⟨j, t.nodes[j], by omega, by show (t.nodes ++ [n])[j]? = _; rw [List.getElem?_append_left hj, List.getElem?_eq_getElem hj], rfl⟩
    · intro m hm
      have hm : m ∈ t.nodes ++ [n] := hm
      rcases List.mem_append.1 hm with hm | hm
      · exact g.inv.sd m hm
      · simp at hm; subst hm; exact ⟨q2, q3, q4⟩
    · show (mget (mput t.state name 2) x).getD 0 = 1
      rw [stAt_put]
      by_cases hxn : x = name
      · subst hxn; exact absurd hx c2
      · rw [if_neg hxn]
        refine g.one x ?_
        show (mget (mput s.state name 1) x).getD 0 = 1
        rw [stAt_put, if_neg hxn]; exact hx
    · have : s.count + 1 ≤ t.count := g.cnt
      show s.count ≤ t.count
      omega
    · have : (t.nodes.length : Int) + (s.count + 1) ≤ s.nodes.length + t.count := g.len
      show (((t.nodes ++ [n]).length : Nat) : Int) + s.count ≤ s.nodes.length + t.count
      rw [List.length_append]; simp; omega
    · rw [List.mem_singleton.1 hx]
      show name ∈ (t.nodes ++ [n]).map NodeS.name
      simp [q1]
    · show t.nodes ++ [n] = s.nodes ++ (new ++ [n])
      have en : t.nodes = s.nodes ++ new := en
      rw [en, List.append_assoc]
    · intro i m hm
      by_cases hlt : i < new.length
      · rw [List.getElem?_append_left hlt] at hm
        rcases fn i m hm with h | ⟨j, y, h1, h2, h3⟩
        · exact .inr ⟨new.length, n, hlt, by simp, h⟩
        · exact .inr ⟨j, y, h1, by rw [List.getElem?_append_left ((List.getElem?_eq_some_iff.1 h2).1)]; exact h2, h3⟩
      · rw [List.getElem?_append_right (by omega)] at hm
        have h0 : i - new.length = 0 := by
          have := (List.getElem?_eq_some_iff.1 hm).1
          simp at this; omega
        rw [h0] at hm
        have : n = m := by simpa using hm
        subst this
        exact .inl (by simp [q1])

/-- What the texts are no longer than, by the count. -/
def bnd (Z : Nat) (c : Int) : Nat := Z * (1 + 8 * c.toNat)
/-- What the walk of visit wants: bounds alone. -/
structure VOk (Z : Nat) (s : VS) : Prop where
  cnt0 : 0 ≤ s.count
  cnt : s.count ≤ 512
  len : (s.nodes.length : Int) ≤ s.count
  szd : s.why = 0 → Szd (bnd Z s.count) s.links
/-- The surroundings. -/
structure Env (raw : List RuleS) (X : BS) (Z : Nat) : Prop where
  hZ : Z ≤ 1048576
  ways : ∀ p, p ∈ X.ways → p.1.size ≤ Z
  cmds : ∀ r, r ∈ raw → r.cmd.length * 16 ≤ 140737488355328
  own : ∀ name, (ownX X.own name).r.src.length ≤ 1000000 ∧ (ownX X.own name).r.cmd.length * 16 ≤ 140737488355328 ∧ ∀ x, x ∈ (ownX X.own name).r.src → x.size ≤ Z
theorem bnd_le {Z : Nat} {c : Int} (hZ : Z ≤ 1048576) (hc : c ≤ 512) : bnd Z c ≤ 4300000000 := by
  unfold bnd
  have h1 : 1 + 8 * c.toNat ≤ 4097 := by omega
  exact Nat.le_trans (Nat.mul_le_mul hZ h1) (by decide)
theorem bnd_succ (Z : Nat) {c : Int} (hc : 0 ≤ c) : bnd Z (c + 1) = bnd Z c + 8 * Z := by
  unfold bnd
  have h1 : 1 + 8 * (c + 1).toNat = (1 + 8 * c.toNat) + 8 := by omega
  rw [h1, Nat.mul_add, Nat.mul_comm Z 8]
theorem bnd_ge (Z : Nat) (c : Int) : Z ≤ bnd Z c := by
  unfold bnd
  exact Nat.le_mul_of_pos_right _ (by omega)
theorem bnd_mono (Z : Nat) {c d : Int} (h : c ≤ d) : bnd Z c ≤ bnd Z d := by
  unfold bnd
  exact Nat.mul_le_mul_left _ (by omega)
/-- A node's sources, and the links behind it, are bounded. -/
theorem nodeL_szd {raw : List RuleS} {X : BS} {Z : Nat} (E : Env raw X Z) {L : List (ByteArray × ByteArray)} {name : ByteArray} {c : Int} (hc : 0 ≤ c) (hL : Szd (bnd Z c) L) (hn : name.size ≤ bnd Z c) :
    Szd (bnd Z (c + 1)) (nodeL raw X L name).2.2 ∧ ∀ x, x ∈ (nodeL raw X L name).1.src → x.size ≤ bnd Z (c + 1) := by
  have h1 := bnd_succ Z hc
  have h2 := bnd_ge Z c
  have hL' : Szd (bnd Z (c + 1)) L := hL.mono (by omega)
  have hI := implB_szd (suf := X.suf) (there := X.there) E.ways hL' (name := name) (by omega)
  have hown : ∀ x, x ∈ (ownR X.own name).src → x.size ≤ bnd Z (c + 1) := fun x hx => by
    rw [ownR_eq] at hx
    have := (E.own name).2.2 x hx
    omega
  have key : ∀ (P : Prop) [Decidable P] (q : ByteArray × List (ByteArray × ByteArray)), (q = if P then implB X.suf X.ways X.there L name else (⟨#[]⟩, L)) → Szd (bnd Z (c + 1)) q.2 ∧ ∀ x, x ∈ (if decide (q.1 ≠ ⟨#[]⟩) then srcB (q.1 :: (ownR X.own name).src) else srcB (ownR X.own name).src) → x.size ≤ bnd Z (c + 1) := by
    intro P _ q hq
    have hq2 : q.1.size ≤ bnd Z (c + 1) ∧ Szd (bnd Z (c + 1)) q.2 := by
      rw [hq]
      split
      · exact hI
      · exact ⟨Nat.zero_le _, hL'⟩
    refine ⟨hq2.2, fun x hx => ?_⟩
    clear hq
    split at hx
    · rcases List.mem_cons.1 ((srcB_good _).2.2 x hx) with h | h
      · rw [h]; exact hq2.1
      · exact hown x h
    · exact hown x ((srcB_good _).2.2 x hx)
  exact key _ _ rfl
theorem wrong_ok {Z : Nat} {s : VS} {e : Int} {name : ByteArray} (he : e ≠ 0) (h : VOk Z s) : VOk Z (s.wrong e name) := by
  refine ⟨?_, ?_, ?_, fun h0 => absurd h0 (wrong_why _ _ he _)⟩
  · unfold VS.wrong; split <;> exact h.cnt0
  · unfold VS.wrong; split <;> exact h.cnt
  · unfold VS.wrong; split <;> exact h.len
theorem wrong_ok' {Z : Nat} {s : VS} {L : List (ByteArray × ByteArray)} {e : Int} {name : ByteArray} (he : e ≠ 0) (h : VOk Z s) : VOk Z (({ s with links := L } : VS).wrong e name) := by
  refine ⟨?_, ?_, ?_, fun h0 => absurd h0 (wrong_why _ _ he _)⟩
  · unfold VS.wrong; split <;> exact h.cnt0
  · unfold VS.wrong; split <;> exact h.cnt
  · unfold VS.wrong; split <;> exact h.len
theorem wrong_keep (s : VS) (e : Int) (name : ByteArray) : (s.wrong e name).nodes = s.nodes ∧ (s.wrong e name).count = s.count := by unfold VS.wrong; split <;> exact ⟨rfl, rfl⟩
structure Grows (Z : Nat) (s s' : VS) : Prop where
  ok : VOk Z s'
  cnt : s.count ≤ s'.count
  len : (s'.nodes.length : Int) + s.count ≤ s.nodes.length + s'.count
  why : s'.why = 0 → s.why = 0
theorem Grows.refl {Z : Nat} {s : VS} (h : VOk Z s) : Grows Z s s := ⟨h, Int.le_refl _, by omega, fun h => h⟩
theorem Grows.trans {Z : Nat} {a b c : VS} (h : Grows Z a b) (k : Grows Z b c) : Grows Z a c := ⟨k.ok, Int.le_trans h.cnt k.cnt, by have := h.len; have := k.len; omega, fun e => h.why (k.why e)⟩
theorem all_grows {raw : List RuleS} {X : BS} {Z k : Nat} (hv : ∀ name s, VOk Z s → (s.why = 0 → name.size ≤ bnd Z s.count) → Grows Z s (visitB raw X k name s)) :
    ∀ (l : List ByteArray) (s : VS), VOk Z s → (s.why = 0 → ∀ x, x ∈ l → x.size ≤ bnd Z s.count) → Grows Z s (visitAll raw X k l s)
  | [], s, h, _ => Grows.refl h
  | x :: l, s, h, hb => by
    have g := hv x s h (fun h0 => hb h0 x (by simp))
    refine g.trans (all_grows hv l _ g.ok (fun h0 y hy => ?_))
    exact Nat.le_trans (hb (g.why h0) y (by simp [hy])) (bnd_mono Z g.cnt)
theorem begin_ok {raw : List RuleS} {X : BS} {Z : Nat} (E : Env raw X Z) {s : VS} {name : ByteArray} (h : VOk Z s) (h0 : s.why = 0) (hn : name.size ≤ bnd Z s.count) (hc : ¬ s.count = 512) : VOk Z (beginB s name (nodeL raw X s.links name).2.2) :=
  ⟨by have := h.cnt0; show 0 ≤ s.count + 1; omega, by have := h.cnt; show s.count + 1 ≤ 512; omega, by have := h.len; show (s.nodes.length : Int) ≤ s.count + 1; omega, fun _ => (nodeL_szd E h.cnt0 (h.szd h0) hn).1⟩
theorem visit_grows {raw : List RuleS} {X : BS} {Z : Nat} (E : Env raw X Z) : ∀ (k : Nat) (name : ByteArray) (s : VS), VOk Z s → (s.why = 0 → name.size ≤ bnd Z s.count) → Grows Z s (visitB raw X k name s)
  | 0, name, s, h, _ => Grows.refl h
  | k + 1, name, s, h, hn => by
    unfold visitB
    by_cases c1 : s.why ≠ 0 ∨ stAt s name = 2
    · rw [if_pos c1]; exact Grows.refl h
    rw [if_neg c1]
    have hw : ∀ (L : List (ByteArray × ByteArray)) (e : Int), e ≠ 0 → Grows Z s (({ s with links := L } : VS).wrong e name) := fun L e he => by
      obtain ⟨a, b⟩ := wrong_keep ({ s with links := L } : VS) e name
      exact ⟨wrong_ok' he h, by rw [b]; exact Int.le_refl _, by rw [a, b]; show (s.nodes.length : Int) + s.count ≤ s.nodes.length + s.count; omega, fun h0 => absurd h0 (wrong_why _ _ he _)⟩
    by_cases c2 : stAt s name = 1
    · rw [if_pos c2]; exact hw s.links 11 (by decide)
    rw [if_neg c2]
    by_cases c3 : (nodeL raw X s.links name).2.1 = false
    · rw [if_pos c3]; exact hw _ 6 (by decide)
    rw [if_neg c3]
    by_cases c4 : s.count = 512
    · rw [if_pos c4]; exact hw _ 5 (by decide)
    rw [if_neg c4]
    have h0 : s.why = 0 := Classical.byContradiction fun h => c1 (.inl h)
    have hs := (nodeL_szd E h.cnt0 (h.szd h0) (hn h0)).2
    have g := all_grows (visit_grows E k) (nodeL raw X s.links name).1.src _ (begin_ok E h h0 (hn h0) c4) (fun _ x hx => hs x hx)
    have hall : ((nodeL raw X s.links name).1.src.foldl (fun s x => visitB raw X k x s) (beginB s name (nodeL raw X s.links name).2.2)) = visitAll raw X k (nodeL raw X s.links name).1.src (beginB s name (nodeL raw X s.links name).2.2) := rfl
    rw [hall]
    generalize visitAll raw X k (nodeL raw X s.links name).1.src (beginB s name (nodeL raw X s.links name).2.2) = t at *
    have g1 : s.count + 1 ≤ t.count := g.cnt
    have g2 : (t.nodes.length : Int) + (s.count + 1) ≤ s.nodes.length + t.count := g.len
    have g3 := g.ok.len
    have g4 := h.len
    unfold endB
    split
    · exact ⟨⟨g.ok.cnt0, g.ok.cnt, by show (((t.nodes ++ [_]).length : Nat) : Int) ≤ t.count; rw [List.length_append]; simp; omega, g.ok.szd⟩, by show s.count ≤ t.count; omega, by show (((t.nodes ++ [_]).length : Nat) : Int) + s.count ≤ s.nodes.length + t.count; rw [List.length_append]; simp; omega, g.why⟩
    · exact ⟨⟨g.ok.cnt0, g.ok.cnt, g.ok.len, g.ok.szd⟩, by show s.count ≤ t.count; omega, by show (t.nodes.length : Int) + s.count ≤ s.nodes.length + t.count; omega, g.why⟩
end Go.Proofs.Ytliglejbkpjamaa
