/-
  Layer 16 (graph): nodes that nothing left is needed for go one by one, and none is left.
-/
/-
  Layer 19 (plan) over layer 16 (graph): a built graph has a plan, plainly.
-/
import Derived.Test.YtliglejbkpjamaaVGrX0
import Derived.Test.YtliglejbkpjamaaVPlanN
import Derived.Test.YtliglejbkpjamaaVPlanA
set_option linter.unusedVariables false
set_option linter.unusedSimpArgs false
section
set_option maxRecDepth 20000
namespace Go.Proofs.Ytliglejbkpjamaa
open Go.RowKit

theorem nx_of {xs : List NX} (hnd : (xs.map fun x => x.nd.name).Nodup) {x : NX} (hx : x ∈ xs) : nx (nextP (xs.map NX.nd)) x.nd.name = x.nd.src ++ x.nd.aft := by
  unfold nx nextP
  induction xs with
  | nil => cases hx
  | cons y ys ih =>
    obtain ⟨h1, h2⟩ := List.nodup_cons.1 (by simpa using hnd : (y.nd.name :: ys.map fun x => x.nd.name).Nodup)
    rw [List.map_cons, List.map_cons, mget_cons]
    by_cases e : x.nd.name = y.nd.name
    · rw [if_pos e]
      rcases List.mem_cons.1 hx with rfl | hx
      · rfl
      · exact absurd (List.mem_map.2 ⟨x, hx, e⟩) h1
    · rw [if_neg e]
      rcases List.mem_cons.1 hx with rfl | hx
      · exact absurd rfl e
      · exact ih h2 hx
theorem Reach.left {P : NextP} {a b c : ByteArray} (h : b ∈ nx P a) (k : Reach P b c) : Reach P a c := by
  induction k with
  | one h2 => exact .more (.one h) h2
  | more _ h2 ih => exact .more ih h2
theorem countP_lt {α : Type} (p q : α → Bool) (hpq : ∀ y, p y = true → q y = true) : ∀ l : List α, (∃ y, y ∈ l ∧ q y = true ∧ p y = false) → l.countP p < l.countP q
  | [], h => by obtain ⟨_, h, _⟩ := h; cases h
  | x :: l, h => by
    have hle : l.countP p ≤ l.countP q := List.countP_mono_left (fun y _ hy => hpq y hy)
    rw [List.countP_cons, List.countP_cons]
    obtain ⟨y, hy, h1, h2⟩ := h
    rcases List.mem_cons.1 hy with rfl | hy
    · simp only [h1, h2, if_true, Bool.false_eq_true, if_false]; omega
    · have := countP_lt p q hpq l ⟨y, hy, h1, h2⟩
      cases hp : p x
      · simp only [Bool.false_eq_true, if_false]
        split <;> omega
      · simp only [hpq x hp, if_true]; omega
section
variable {ν : Type}
def lackB (m : List (ByteArray × ν)) (l : List ByteArray) : Bool := l.all fun s => !mhas m s
def stepM (m : List (ByteArray × ν)) (x : NX) : List (ByteArray × ν) := if mhas m x.nd.name = true ∧ lackB m (x.nd.src ++ x.nd.aft) = true then mdel m x.nd.name else m
def passM (xs : List NX) (m : List (ByteArray × ν)) : List (ByteArray × ν) := xs.foldl stepM m
def iterM (xs : List NX) (m : List (ByteArray × ν)) : Nat → List (ByteArray × ν)
  | 0 => m
  | k + 1 => passM xs (iterM xs m k)
theorem mdel_sub (m : List (ByteArray × ν)) (k : ByteArray) : (mdel m k).Sublist m := by
  unfold mdel
  split
  · exact List.eraseIdx_sublist _ _
  · exact List.Sublist.refl _
theorem mhas_mem (m : List (ByteArray × ν)) (s : ByteArray) : mhas m s = true ↔ s ∈ m.map Prod.fst := by
  unfold mhas
  induction m with
  | nil => simp [mget_nil]
  | cons p m ih =>
    rw [mget_cons, List.map_cons, List.mem_cons]
    by_cases e : s = p.1
    · rw [if_pos e]; simp [e]
    · rw [if_neg e, ih]
      exact ⟨.inr, fun h => h.resolve_left e⟩
theorem mdel_len {m : List (ByteArray × ν)} {k : ByteArray} (h : mhas m k = true) : (mdel m k).length < m.length := by
  induction m with
  | nil => simp [mhas, mget_nil] at h
  | cons p m ih =>
    rw [mdel_cons]
    by_cases e : k = p.1
    · rw [if_pos e]; simp
    · rw [if_neg e, List.length_cons, List.length_cons]
      unfold mhas at h ih
      rw [mget_cons, if_neg e] at h
      have := ih h
      omega
theorem mhas_sub {m m' : List (ByteArray × ν)} (h : m'.Sublist m) {s : ByteArray} (hs : mhas m s = false) : mhas m' s = false := by
  cases h1 : mhas m' s
  · rfl
  · have := (mhas_mem m s).2 ((h.map Prod.fst).subset ((mhas_mem m' s).1 h1))
    rw [hs] at this; cases this
theorem stepM_sub (m : List (ByteArray × ν)) (x : NX) : (stepM m x).Sublist m := by
  unfold stepM
  split
  · exact mdel_sub _ _
  · exact List.Sublist.refl _
theorem passM_sub (xs : List NX) : ∀ m : List (ByteArray × ν), (passM xs m).Sublist m := by
  unfold passM
  induction xs with
  | nil => exact fun m => List.Sublist.refl _
  | cons x xs ih => exact fun m => (ih _).trans (stepM_sub m x)
theorem lackB_sub {m m' : List (ByteArray × ν)} (h : m'.Sublist m) {l : List ByteArray} (hl : lackB m l = true) : lackB m' l = true := by
  unfold lackB at hl ⊢
  rw [List.all_eq_true] at hl ⊢
  intro s hs
  have := hl s hs
  simp only [Bool.not_eq_true'] at this ⊢
  exact mhas_sub h this
theorem passM_less (m : List (ByteArray × ν)) (x : NX) (hx : mhas m x.nd.name = true) (hl : lackB m (x.nd.src ++ x.nd.aft) = true) : ∀ (xs : List NX) (m' : List (ByteArray × ν)), m'.Sublist m → x ∈ xs → (passM xs m').length < m.length := by
  intro xs
  induction xs with
  | nil => intro _ _ h; cases h
  | cons y xs ih =>
    intro m' hs hx2
    have e : passM (y :: xs) m' = passM xs (stepM m' y) := rfl
    rw [e]
    by_cases hxy : x ∈ xs
    · exact ih _ ((stepM_sub m' y).trans hs) hxy
    · obtain rfl : x = y := (List.mem_cons.1 hx2).resolve_right hxy
      refine Nat.lt_of_le_of_lt (passM_sub xs _).length_le ?_
      unfold stepM
      cases h1 : mhas m' x.nd.name
      · rw [if_neg (by simp)]
        rcases Nat.lt_or_ge m'.length m.length with h2 | h2
        · exact h2
        · have := hs.eq_of_length_le h2
          rw [this, hx] at h1; cases h1
      · rw [if_pos ⟨rfl, lackB_sub hs hl⟩]
        exact Nat.lt_of_lt_of_le (mdel_len h1) hs.length_le
theorem least {gs : List ByteArray} {xs : List NX} (h : Laid gs xs) (m : List (ByteArray × ν)) (hm : ∀ s, mhas m s = true → s ∈ xs.map fun x => x.nd.name) (hne : m ≠ []) : ∃ x, x ∈ xs ∧ mhas m x.nd.name = true ∧ lackB m (x.nd.src ++ x.nd.aft) = true := by
  classical
  refine Classical.byContradiction fun hno => ?_
  have key : ∀ (n : Nat) (a : ByteArray), mhas m a = true → (m.map Prod.fst).countP (fun y => decide (Reach (nextP (xs.map NX.nd)) a y)) = n → False := by
    intro n
    induction n using Nat.strongRecOn with
    | ind n ih =>
      intro a ha hn
      obtain ⟨x, hx, rfl⟩ := List.mem_map.1 (hm a ha)
      have hl : ¬ lackB m (x.nd.src ++ x.nd.aft) = true := fun hl => hno ⟨x, hx, ha, hl⟩
      unfold lackB at hl
      rw [List.all_eq_true] at hl
      obtain ⟨s, hs, hs2⟩ : ∃ s, s ∈ x.nd.src ++ x.nd.aft ∧ mhas m s = true := by
        refine Classical.byContradiction fun h2 => hl fun s hs => ?_
        cases h3 : mhas m s
        · rfl
        · exact absurd ⟨s, hs, h3⟩ h2
      have hsx : s ∈ nx (nextP (xs.map NX.nd)) x.nd.name := by rw [nx_of h.nd hx]; exact hs
      obtain ⟨z, hz, hze⟩ := List.mem_map.1 (hm s hs2)
      refine ih _ ?_ s hs2 rfl
      rw [← hn]
      refine countP_lt _ _ (fun y hy => ?_) _ ⟨s, (mhas_mem m s).1 hs2, ?_, ?_⟩
      · exact decide_eq_true (Reach.left hsx (of_decide_eq_true hy))
      · exact decide_eq_true (.one hsx)
      · refine decide_eq_false ?_
        rw [← hze]
        exact h.loop z hz
  cases m with
  | nil => exact hne rfl
  | cons p m => exact key _ p.1 ((mhas_mem _ _).2 (by simp)) rfl
theorem iterM_len {gs : List ByteArray} {xs : List NX} (h : Laid gs xs) (m : List (ByteArray × ν)) (hm : m.map Prod.fst = xs.map fun x => x.nd.name) : ∀ k, (iterM xs m k).Sublist m ∧ ((iterM xs m k).length + k ≤ m.length ∨ iterM xs m k = [])
  | 0 => ⟨List.Sublist.refl _, .inl (Nat.le_refl _)⟩
  | k + 1 => by
    obtain ⟨h1, h2⟩ := iterM_len h m hm k
    refine ⟨(passM_sub xs _).trans h1, ?_⟩
    by_cases hne : iterM xs m k = []
    · refine .inr ?_
      have := (passM_sub xs (iterM xs m k)).length_le
      rw [hne] at this
      show passM xs (iterM xs m k) = []
      rw [hne]
      exact List.length_eq_zero_iff.1 (Nat.le_zero.1 this)
    · refine .inl ?_
      have h3 := h2.resolve_right hne
      obtain ⟨x, hx, hx1, hx2⟩ := least h (iterM xs m k) (fun s hs => by
        have := (h1.map Prod.fst).subset ((mhas_mem _ s).1 hs)
        rw [hm] at this
        exact this) hne
      have h4 := passM_less (iterM xs m k) x hx1 hx2 xs _ (List.Sublist.refl _) hx
      show (passM xs (iterM xs m k)).length + (k + 1) ≤ m.length
      omega
theorem kahn {gs : List ByteArray} {xs : List NX} (h : Laid gs xs) (m : List (ByteArray × ν)) (hm : m.map Prod.fst = xs.map fun x => x.nd.name) : iterM xs m xs.length = [] := by
  obtain ⟨_, h2⟩ := iterM_len h m hm xs.length
  have hl : m.length = xs.length := by
    have := congrArg List.length hm
    simpa using this
  rcases h2 with h2 | h2
  · exact List.length_eq_zero_iff.1 (by omega)
  · exact h2
end
end Go.Proofs.Ytliglejbkpjamaa
end
section
set_option maxRecDepth 20000
namespace Go.Proofs.Ytliglejbkpjamaa
open Go.RowKit

def ndOf (x : NX) : Nd := ⟨x.nd.name, x.nd.src, x.nd.aft⟩
theorem atRun_some : ∀ (r : List Nd) (i : Nat) (m : List (ByteArray × Int)), (r.map Nd.name).Nodup → (∀ x, x ∈ r → mhas m x.name = false) → ∃ m', atRun m i r = some m'
  | [], i, m, _, _ => ⟨m, rfl⟩
  | x :: r, i, m, h1, h2 => by
    obtain ⟨n1, n2⟩ := List.nodup_cons.1 (by simpa using h1 : (x.name :: r.map Nd.name).Nodup)
    unfold atRun
    rw [h2 x (by simp)]
    refine atRun_some r (i + 1) _ n2 (fun y hy => ?_)
    rw [mhas_mput, h2 y (by simp [hy]), Bool.or_false]
    exact decide_eq_false (fun e => n1 (by rw [← e]; exact List.mem_map.2 ⟨y, hy, rfl⟩))
theorem placesOf_some {m : List (ByteArray × Int)} {ahead : Int} : ∀ (l : List ByteArray), (∀ s, s ∈ l → ∃ i, mget m s = some i ∧ i < ahead) → ∃ a, placesOf m ahead l = some a
  | [], _ => ⟨[], rfl⟩
  | s :: l, h => by
    obtain ⟨i, h1, h2⟩ := h s (by simp)
    obtain ⟨a, ha⟩ := placesOf_some l (fun t ht => h t (by simp [ht]))
    refine ⟨i :: a, ?_⟩
    simp only [placesOf, h1]
    rw [if_neg (by omega), ha]; rfl
theorem placesOf_from {m : List (ByteArray × Int)} {ahead : Int} : ∀ {l : List ByteArray} {a : List Int}, placesOf m ahead l = some a → ∀ j, j ∈ a → ∃ s, s ∈ l ∧ mget m s = some j
  | [], a, h, j, hj => by cases h; cases hj
  | s :: l, a, h, j, hj => by
    simp only [placesOf] at h
    cases hs : mget m s with
    | none => rw [hs] at h; cases h
    | some i =>
      rw [hs] at h
      simp only at h
      split at h
      · cases h
      · cases hp : placesOf m ahead l with
        | none => rw [hp] at h; cases h
        | some b =>
          rw [hp] at h
          cases h
          rcases List.mem_cons.1 hj with rfl | hj
          · exact ⟨s, by simp, hs⟩
          · obtain ⟨t, ht, e⟩ := placesOf_from hp j hj
            exact ⟨t, by simp [ht], e⟩
theorem edRun_some (m : List (ByteArray × Int)) (n : Nat) : ∀ (g : List Nd) (i : Nat) (acc : List (List Int × List Int)), (∀ j (h : j < g.length), (∃ a, placesOf m ((i + j : Nat) : Int) g[j].src = some a) ∧ ∃ b, placesOf m (n : Int) g[j].aft = some b) → ∃ E, edRun m n i acc g = some E
  | [], i, acc, _ => ⟨acc, rfl⟩
  | x :: g, i, acc, h => by
    obtain ⟨⟨a, ha⟩, b, hb⟩ := h 0 (by simp)
    simp only [Nat.add_zero, List.getElem_cons_zero] at ha hb
    simp only [edRun, ha, hb]
    refine edRun_some m n g (i + 1) _ (fun j hj => ?_)
    have := h (j + 1) (by simp; omega)
    simp only [List.getElem_cons_succ] at this
    rw [show i + 1 + j = i + (j + 1) from by omega]
    exact this
theorem planable {gs : List ByteArray} {xs : List NX} (h : Laid gs xs) : (buildOf (xs.map ndOf)).isSome = true := by
  classical
  have hgl : (xs.map ndOf).length = xs.length := List.length_map ..
  have hnm : (xs.map ndOf).map Nd.name = xs.map fun x => x.nd.name := by rw [List.map_map]; rfl
  obtain ⟨m, hm⟩ := atRun_some (xs.map ndOf) 0 [] (by rw [hnm]; exact h.nd) (fun x _ => by simp [mhas, mget_nil])
  obtain ⟨m1, m2, m3⟩ := atRun_spec (xs.map ndOf) 0 [] m hm
  have hat : ∀ j (hj : j < xs.length), mget m xs[j].nd.name = some (j : Int) := fun j hj => by
    have := m2 j (by rw [hgl]; exact hj)
    simpa [ndOf] using this
  have hback : ∀ s v, mget m s = some v → ∃ j, ∃ hj : j < xs.length, xs[j].nd.name = s ∧ v = (j : Int) := fun s v hv => by
    rcases m3 s v hv with h1 | ⟨j, hj, e1, e2⟩
    · rw [mget_nil] at h1; cases h1
    · have hj2 : j < xs.length := by rw [← hgl]; exact hj
      exact ⟨j, hj2, by simpa [ndOf] using e1, by rw [e2]; simp⟩
  obtain ⟨E, hE⟩ := edRun_some m (xs.map ndOf).length (xs.map ndOf) 0 [] (fun k hk => by
    have hk2 : k < xs.length := by rw [← hgl]; exact hk
    have hek : (xs.map ndOf)[k] = ndOf xs[k] := by rw [List.getElem_map]
    rw [hek]
    refine ⟨placesOf_some _ (fun s hs => ?_), placesOf_some _ (fun s hs => ?_)⟩
    · obtain ⟨x, hx, e⟩ := List.mem_map.1 (h.src k hk2 s hs)
      obtain ⟨j, hj, rfl⟩ := List.getElem_of_mem hx
      rw [List.length_take] at hj
      rw [List.getElem_take] at e
      exact ⟨(j : Int), by rw [← e]; exact hat j (by omega), by omega⟩
    · obtain ⟨x, hx, e⟩ := List.mem_map.1 ((h.afts _ (List.getElem_mem hk2)).2 s hs)
      obtain ⟨j, hj, rfl⟩ := List.getElem_of_mem hx
      exact ⟨(j : Int), by rw [← e]; exact hat j hj, by rw [hgl]; omega⟩)
  obtain ⟨E', e1, e2, e3⟩ := edRun_spec m (xs.map ndOf).length (xs.map ndOf) 0 [] E hE
  rw [List.nil_append] at e1
  subst e1
  have hbe : ∀ k (hk : k < xs.length), (befores (planOf (xs.map ndOf) m E)).getD k [] = (E[k]'(by rw [e2, hgl]; exact hk)).1 ++ (E[k]'(by rw [e2, hgl]; exact hk)).2 := fun k hk => by
    have hkE : k < E.length := by rw [e2, hgl]; exact hk
    unfold befores planOf
    simp only
    rw [List.getD_eq_getElem?_getD, List.getElem?_zipWith]
    simp [hkE]
  have hin : ∀ k (hk : k < xs.length) j, j ∈ (befores (planOf (xs.map ndOf) m E)).getD k [] → ∃ s, s ∈ xs[k].nd.src ++ xs[k].nd.aft ∧ mget m s = some j := fun k hk j hj => by
    have hkE : k < E.length := by rw [e2, hgl]; exact hk
    have hek : (xs.map ndOf)[k]'(by rw [hgl]; exact hk) = ndOf xs[k] := by rw [List.getElem_map]
    obtain ⟨p1, p2⟩ := e3 k (by rw [hgl]; exact hk) hkE
    rw [hek] at p1 p2
    rw [hbe k hk] at hj
    rcases List.mem_append.1 hj with hj | hj
    · obtain ⟨s, hs, e⟩ := placesOf_from p1 j hj
      exact ⟨s, List.mem_append.2 (.inl hs), e⟩
    · obtain ⟨s, hs, e⟩ := placesOf_from p2 j hj
      exact ⟨s, List.mem_append.2 (.inr hs), e⟩
  have hbl : (befores (planOf (xs.map ndOf) m E)).length = xs.length := by
    unfold befores planOf
    simp only [List.length_zipWith, List.length_map, e2, hgl, Nat.min_self]
  have hpn : (planOf (xs.map ndOf) m E).names.length = xs.length := by
    unfold planOf
    simp only [List.length_map]
  have hloop : loopsOf (planOf (xs.map ndOf) m E) = false := by
    unfold loopsOf
    rw [hpn]
    refine decide_eq_false (fun hK => ?_)
    have hA : AllR xs.length (befores (planOf (xs.map ndOf) m E)) := fun l hl j hj => by
      obtain ⟨k, hk, rfl⟩ := List.getElem_of_mem hl
      have hk2 : k < xs.length := by rw [← hbl]; exact hk
      obtain ⟨s, _, e⟩ := hin k hk2 j (by rw [List.getD_eq_getElem?_getD, List.getElem?_eq_getElem hk]; exact hj)
      obtain ⟨i, hi, _, rfl⟩ := hback s j e
      exact ⟨by omega, by omega⟩
    obtain ⟨C, ⟨k0, hk0, hC0⟩, hC⟩ := kahn_stuck hA hbl hK
    obtain ⟨lf, hlf⟩ : ∃ lf : List (ByteArray × Unit), lf = ((List.range xs.length).filter fun k => decide (C k)).map fun k => (((xs.map fun x => x.nd.name).getD k ⟨#[]⟩), ()) := ⟨_, rfl⟩
    have hmem : ∀ s, mhas lf s = true ↔ ∃ k, ∃ hk : k < xs.length, C k ∧ xs[k].nd.name = s := fun s => by
      rw [mhas_mem, hlf, List.map_map, List.mem_map]
      constructor
      · rintro ⟨k, hk, e⟩
        rw [List.mem_filter, List.mem_range, decide_eq_true_iff] at hk
        refine ⟨k, hk.1, hk.2, ?_⟩
        rw [← e]
        simp [List.getD_eq_getElem?_getD, hk.1]
      · rintro ⟨k, hk, hCk, e⟩
        refine ⟨k, ?_, ?_⟩
        · rw [List.mem_filter, List.mem_range, decide_eq_true_iff]; exact ⟨hk, hCk⟩
        · rw [← e]
          simp [List.getD_eq_getElem?_getD, hk]
    have hne : lf ≠ [] := fun e => by
      have := (hmem _).2 ⟨k0, hk0, hC0, rfl⟩
      rw [e] at this
      simp [mhas, mget_nil] at this
    obtain ⟨x, hx, hx1, hx2⟩ := least h lf (fun s hs => by
      obtain ⟨k, hk, _, e⟩ := (hmem s).1 hs
      exact List.mem_map.2 ⟨xs[k], List.getElem_mem hk, e⟩) hne
    obtain ⟨k, hk, hCk, e⟩ := (hmem _).1 hx1
    obtain ⟨kx, hkx, rfl⟩ := List.getElem_of_mem hx
    have hkk : k = kx := by
      have a1 := hat k hk
      have a2 := hat kx hkx
      rw [e, a2] at a1
      have := Option.some.inj a1
      omega
    subst hkk
    obtain ⟨j, hj, hCj⟩ := hC k hk hCk
    obtain ⟨s, hs, es⟩ := hin k hk j hj
    obtain ⟨i, hi, e4, rfl⟩ := hback s j es
    unfold lackB at hx2
    rw [List.all_eq_true] at hx2
    have h5 := hx2 s hs
    rw [(hmem s).2 ⟨i, hi, by simpa using hCj, e4⟩] at h5
    cases h5
  unfold buildOf
  rw [if_neg (by rw [hgl]; have := h.len; omega), hm]
  simp only
  rw [hE]
  simp only
  rw [hloop]
  rfl
end Go.Proofs.Ytliglejbkpjamaa
end
