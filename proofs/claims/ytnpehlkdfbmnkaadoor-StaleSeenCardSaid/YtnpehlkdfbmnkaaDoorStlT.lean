/-
  Layer 18 (stale): plain laws of texts: what is written is parsed; replacing and cutting at one byte.
  Layer 18 (stale): plain laws of what touches tell of files.
-/
import Derived.Test.YtnpehlkdfbmnkaaDoorMaps
import Derived.Lib.SplitLaws
import Derived.Lib.Replace
import Derived.Lib.IndexBytes
set_option linter.unusedVariables false
set_option linter.unusedSimpArgs false
namespace Go.Proofs.YtnpehlkdfbmnkaaDoor
section
/-- What is seen of a text in a line. -/
def escB (c : UInt8) : List UInt8 := if c = 92 then [92, 92] else if c = 10 then [92, 110] else [c]
def tellL (s : List UInt8) : List UInt8 := s.flatMap escB
def lineL (k : UInt8) (s : List UInt8) : List UInt8 := k :: 32 :: (tellL s ++ [10])
def letterB (k : Int) : UInt8 := if k = 1 then 82 else if k = 2 then 87 else 68
def badK (k : Int) : Prop := k < 1 ∨ 3 < k
instance (k : Int) : Decidable (badK k) := by unfold badK; infer_instance
abbrev Tou := Int × List UInt8
def bodyT (cs : List (List UInt8)) (ts : List Tou) : List UInt8 := cs.flatMap (lineL 67) ++ ts.flatMap (fun t => lineL (letterB t.1) t.2)
def writeT (cs : List (List UInt8)) (ts : List Tou) : List UInt8 × Int :=
  if ts.any (fun t => decide (badK t.1)) = true then ([], 3) else if 65536 < (bodyT cs ts).length then ([], 5) else (bodyT cs ts, 0)
def meantL : List UInt8 → Option (List UInt8)
  | [] => some []
  | [c] => if c = 92 then none else some [c]
  | c :: d :: r => if c = 92 then (if d = 92 then (meantL r).map (92 :: ·) else if d = 110 then (meantL r).map (10 :: ·) else none) else (meantL (d :: r)).map (c :: ·)
/-- A text's first line, and what is behind it. -/
def cutB (c : UInt8) : List UInt8 → Option (List UInt8 × List UInt8)
  | [] => none
  | x :: s => if x = c then some ([], s) else (cutB c s).map fun p => (x :: p.1, p.2)
inductive LineR where
  | bad
  | cmd (t : List UInt8)
  | tou (k : Int) (t : List UInt8)
def kindB (c : UInt8) : Int := if c = 82 then 1 else if c = 87 then 2 else if c = 68 then 3 else 0
def lineR (l : List UInt8) (noT : Bool) : LineR :=
  match l with
  | a :: b :: r =>
    if b = 32 then
      match meantL r with
      | none => .bad
      | some t => if a = 67 ∧ noT = true then .cmd t else if 0 < kindB a then .tou (kindB a) t else .bad
    else .bad
  | _ => .bad
def parseF : Nat → List UInt8 → Int → List (List UInt8) → List Tou → (List (List UInt8) × List Tou × Int × Int)
  | 0, _, _, cs, ts => (cs, ts, 0, 0)
  | n + 1, s, at_, cs, ts =>
    if s = [] then (cs, ts, 0, 0) else
    match cutB 10 s with
    | none => ([], [], 3, at_)
    | some (l, rest) =>
      match lineR l ts.isEmpty with
      | .bad => ([], [], 3, at_)
      | .cmd t => parseF n rest (at_ + 1) (cs ++ [t]) ts
      | .tou k t => parseF n rest (at_ + 1) cs (ts ++ [(k, t)])
def parseT (s : List UInt8) : List (List UInt8) × List Tou × Int × Int := if 65536 < s.length then ([], [], 5, 0) else parseF s.length s 1 [] []

theorem cutB_len {c : UInt8} : ∀ {s l r : List UInt8}, cutB c s = some (l, r) → s = l ++ c :: r ∧ c ∉ l
  | [], _, _, h => by cases h
  | x :: s, l, r, h => by
    rw [cutB] at h
    split at h
    · rename_i hx; cases h; exact ⟨by simp [hx], by simp⟩
    · rename_i hx
      cases hc : cutB c s with
      | none => rw [hc] at h; cases h
      | some p =>
        obtain ⟨a, b⟩ := p
        rw [hc] at h
        simp only [Option.map_some, Option.some.injEq, Prod.mk.injEq] at h
        obtain ⟨rfl, rfl⟩ := h
        obtain ⟨e1, e2⟩ := cutB_len hc
        exact ⟨by rw [e1]; rfl, by simp [e2]; exact fun e => hx e.symm⟩
theorem cutB_none {c : UInt8} : ∀ {s : List UInt8}, cutB c s = none → c ∉ s
  | [], _ => by simp
  | x :: s, h => by
    rw [cutB] at h
    split at h
    · cases h
    · rename_i hx
      cases hc : cutB c s with
      | none => have := cutB_none hc; simp [this]; exact fun e => hx e.symm
      | some p => rw [hc] at h; cases h
theorem cutB_app {c : UInt8} : ∀ {l : List UInt8} (r : List UInt8), c ∉ l → cutB c (l ++ c :: r) = some (l, r)
  | [], r, _ => by simp [cutB]
  | x :: l, r, h => by
    simp only [List.mem_cons, not_or] at h
    rw [List.cons_append, cutB, if_neg (fun e => h.1 e.symm), cutB_app r h.2]; rfl
theorem meant_tell : ∀ s : List UInt8, meantL (tellL s) = some s
  | [] => rfl
  | c :: s => by
    have ih := meant_tell s
    have e : tellL (c :: s) = escB c ++ tellL s := by simp [tellL]
    rw [e]
    unfold escB
    split
    · rename_i h; simp [meantL, ih, h]
    · split
      · rename_i h; simp [meantL, ih, h]
      · rename_i h1 h2
        cases ht : tellL s with
        | nil => rw [ht] at ih; simp [meantL] at ih; simp [meantL, h1, ih]
        | cons d r => rw [ht] at ih; simp [meantL, h1, ih]
theorem esc_no10 (c : UInt8) : (10 : UInt8) ∉ escB c := by
  unfold escB
  split
  · decide
  · split
    · decide
    · rename_i h; simp; exact fun e => h e.symm
theorem tell_no10 (s : List UInt8) : (10 : UInt8) ∉ tellL s := by
  unfold tellL
  intro h
  obtain ⟨c, _, hc⟩ := List.mem_flatMap.1 h
  exact esc_no10 c hc
theorem kind_letter {k : Int} (h : ¬ badK k) : kindB (letterB k) = k ∧ letterB k ≠ 67 ∧ letterB k ≠ 10 := by
  unfold badK at h
  have : k = 1 ∨ k = 2 ∨ k = 3 := by omega
  rcases this with rfl | rfl | rfl <;> decide
theorem parse_cmds : ∀ (cs : List (List UInt8)) (rest : List UInt8) (n : Nat) (a : Int) (acc : List (List UInt8)), cs.length ≤ n → parseF n (cs.flatMap (lineL 67) ++ rest) a acc [] = parseF (n - cs.length) rest (a + cs.length) (acc ++ cs) []
  | [], rest, n, a, acc, _ => by simp
  | c :: cs, rest, 0, a, acc, h => by simp at h
  | c :: cs, rest, n + 1, a, acc, h => by
    have e : (c :: cs).flatMap (lineL 67) ++ rest = (67 :: 32 :: tellL c) ++ 10 :: (cs.flatMap (lineL 67) ++ rest) := by simp [lineL]
    rw [e, parseF]
    have h10 : (10 : UInt8) ∉ 67 :: 32 :: tellL c := by simp [tell_no10]
    rw [if_neg (by simp), cutB_app _ h10]
    simp only [lineR, meant_tell, if_true, List.isEmpty_nil, and_self]
    rw [parse_cmds cs rest n (a + 1) (acc ++ [c]) (by simpa using h)]
    simp only [List.length_cons, List.append_assoc, List.singleton_append, Nat.add_sub_add_right]
    congr 1
    omega
theorem parse_tous : ∀ (us : List Tou) (n : Nat) (a : Int) (cs : List (List UInt8)) (acc : List Tou), us.length ≤ n → (∀ t, t ∈ us → ¬ badK t.1) → parseF n (us.flatMap (fun t => lineL (letterB t.1) t.2)) a cs acc = (cs, acc ++ us, 0, 0)
  | [], 0, a, cs, acc, _, _ => by simp [parseF]
  | [], n + 1, a, cs, acc, _, _ => by simp [parseF]
  | c :: us, 0, a, cs, acc, h, _ => by simp at h
  | c :: us, n + 1, a, cs, acc, h, hb => by
    obtain ⟨k1, k2, k3⟩ := kind_letter (hb c (by simp))
    have hk : 0 < c.1 := by have := hb c (by simp); unfold badK at this; omega
    have e : (c :: us).flatMap (fun t => lineL (letterB t.1) t.2) = (letterB c.1 :: 32 :: tellL c.2) ++ 10 :: us.flatMap (fun t => lineL (letterB t.1) t.2) := by simp [lineL]
    have h10 : (10 : UInt8) ∉ letterB c.1 :: 32 :: tellL c.2 := by simp [tell_no10]; exact fun e => k3 e.symm
    rw [e, parseF, if_neg (by simp), cutB_app _ h10]
    simp only [lineR, meant_tell, if_true]
    rw [if_neg (by simp [k2]), if_pos (by rw [k1]; exact hk), k1]
    simp only
    rw [parse_tous us n (a + 1) cs (acc ++ [(c.1, c.2)]) (by simpa using h) (fun t ht => hb t (by simp [ht]))]
    simp
theorem line_len (k : UInt8) (s : List UInt8) : 1 ≤ (lineL k s).length := by simp [lineL]
theorem flat_len {α : Type} (f : α → List UInt8) (h : ∀ x, 1 ≤ (f x).length) : ∀ l : List α, l.length ≤ (l.flatMap f).length
  | [] => by simp
  | x :: l => by
    have := flat_len f h l
    have := h x
    simp only [List.length_cons, List.flatMap_cons, List.length_append]
    omega
/-- What is written is parsed. -/
theorem parse_write {cs : List (List UInt8)} {ts : List Tou} {t : List UInt8} (h : writeT cs ts = (t, 0)) : parseT t = (cs, ts, 0, 0) := by
  unfold writeT at h
  split at h
  · cases h
  · rename_i hb
    split at h
    · cases h
    · rename_i hl
      cases h
      unfold parseT
      rw [if_neg hl]
      have hg : ∀ t, t ∈ ts → ¬ badK t.1 := fun t ht hc => hb (List.any_eq_true.2 ⟨t, ht, by simp [hc]⟩)
      have l1 := flat_len (lineL 67) (line_len 67) cs
      have l2 := flat_len (fun t : Tou => lineL (letterB t.1) t.2) (fun t => line_len _ _) ts
      unfold bodyT
      rw [parse_cmds _ _ _ _ _ (by rw [List.length_append]; omega), parse_tous _ _ _ _ _ (by rw [List.length_append]; omega) hg]
      simp
theorem iB_cons {x c : UInt8} (h : x ≠ c) (s : List UInt8) : Lib.indexByte (x :: s) c = if Lib.indexByte s c = -1 then -1 else Lib.indexByte s c + 1 := by
  have hxb : (x == c) = false := by simpa using h
  rw [Lib.indexByte, hxb]
  by_cases hi : Lib.indexByte s c = -1 <;> simp [hi]
theorem replaceK_one (c : UInt8) (r : List UInt8) : ∀ (s : List UInt8) (k : Nat), s.count c ≤ k → Lib.replaceK [c] r k s = s.flatMap (fun x => if x = c then r else [x])
  | [], 0, _ => rfl
  | [], k + 1, _ => by
    rw [Lib.replaceK]
    have : Lib.index ([] : List UInt8) [c] = -1 := by rw [Lib.index_one]; rfl
    rw [this]; rfl
  | x :: s, k, h => by
    by_cases hx : x = c
    · subst hx
      rw [List.count_cons_self] at h
      cases k with
      | zero => omega
      | succ k =>
        have h0 : Lib.index (x :: s) [x] = ((0 : Nat) : Int) := by rw [Lib.index_one]; simp [Lib.indexByte]
        rw [Lib.replaceK_hit _ _ _ _ 0 h0, List.flatMap_cons, if_pos rfl]
        have := replaceK_one x r s k (by omega)
        simpa using this
    · rw [List.count_cons_of_ne (by simpa using hx)] at h
      have ih := replaceK_one c r s k h
      rw [List.flatMap_cons, if_neg hx, ← ih]
      cases k with
      | zero => rfl
      | succ k =>
        have hge := Lib.indexByte_ge s c
        by_cases hi : Lib.indexByte s c = -1
        · have e1 : Lib.index s [c] = -1 := by rw [Lib.index_one]; exact hi
          have e2 : Lib.index (x :: s) [c] = -1 := by rw [Lib.index_one, iB_cons hx, if_pos hi]
          rw [Lib.replaceK, Lib.replaceK, e1, e2]; rfl
        · obtain ⟨i, hi'⟩ : ∃ i : Nat, Lib.indexByte s c = i := ⟨(Lib.indexByte s c).toNat, by omega⟩
          have e1 : Lib.index s [c] = (i : Int) := by rw [Lib.index_one]; exact hi'
          have e2 : Lib.index (x :: s) [c] = ((i + 1 : Nat) : Int) := by
            rw [Lib.index_one, iB_cons hx, if_neg hi, hi']; rfl
          rw [Lib.replaceK_hit _ _ _ _ i e1, Lib.replaceK_hit _ _ _ _ (i + 1) e2]
          have : i + 1 + [c].length = (i + [c].length) + 1 := by simp
          rw [this, List.take_succ_cons, List.drop_succ_cons]; rfl
theorem replaceAll_one (s : List UInt8) (c : UInt8) (r : List UInt8) (hr : r ≠ [c]) : Lib.replaceAll s [c] r = s.flatMap (fun x => if x = c then r else [x]) := by
  unfold Lib.replaceAll Lib.replace
  rw [if_neg (by simpa using fun e => hr e.symm)]
  refine replaceK_one c r s _ ?_
  unfold Lib.replaceNum
  rw [if_pos (.inl (by omega)), Lib.count_one]
  exact Nat.le_refl _
theorem cutB_index (c : UInt8) : ∀ s : List UInt8, cutB c s = if 0 ≤ Lib.indexByte s c then some (s.take (Lib.indexByte s c).toNat, s.drop ((Lib.indexByte s c).toNat + 1)) else none
  | [] => rfl
  | x :: s => by
    rw [cutB, cutB_index c s]
    have hge := Lib.indexByte_ge s c
    by_cases hx : x = c
    · subst hx
      simp [Lib.indexByte]
    · rw [if_neg hx, iB_cons hx]
      by_cases hi : Lib.indexByte s c = -1
      · rw [hi]; simp
      · rw [if_neg hi, if_pos (by omega), if_pos (by omega)]
        have : (Lib.indexByte s c + 1).toNat = (Lib.indexByte s c).toNat + 1 := by omega
        rw [this]
        simp
theorem cut_one (s : List UInt8) (c : UInt8) : Lib.cut s [c] = match cutB c s with | some p => (p.1, p.2, true) | none => (s, [], false) := by
  unfold Lib.cut
  rw [Lib.index_one, cutB_index]
  by_cases h : 0 ≤ Lib.indexByte s c
  · rw [if_pos h, if_pos h]; rfl
  · rw [if_neg h, if_neg h]
end
section
/-- What was done to a path: whether it was read first, and whether it is there at last. -/
structure Fate where
  read : Bool
  wrote : Bool
def seeT (t : Tou) (f : Fate) : Fate := ⟨f.read, if t.1 = 1 then f.wrote else decide (t.1 = 2)⟩
def seeS (m : List (List UInt8 × Fate)) (t : Tou) : List (List UInt8 × Fate) := mput m t.2 (seeT t ((mget m t.2).getD ⟨decide (t.1 = 1), false⟩))
def outT (p : List UInt8 × Fate) : List Tou := (if p.2.read = true then [(1, p.1)] else []) ++ if p.2.wrote = true then [(2, p.1)] else []
def seenL (l : List Tou) : List Tou := (l.foldl seeS []).flatMap outT
def wroteB (q : List UInt8) (l : List Tou) : Bool := l.foldl (fun b t => if t.2 = q ∧ t.1 ≠ 1 then decide (t.1 = 2) else b) false
def firstB (l : List Tou) (i : Nat) (q : List UInt8) : Bool := (l.take i).all (fun t => decide (t.2 ≠ q))
/-- What the document's answer adds at place i. -/
def refOne (l : List Tou) (i : Nat) (t : Tou) : List Tou := if firstB l i t.2 = true then (if t.1 = 1 then [t] else []) ++ (if wroteB t.2 (l.drop i) = true then [(2, t.2)] else []) else []
def refSeen (l : List Tou) : Nat → List Tou
  | 0 => []
  | i + 1 => refSeen l i ++ match l[i]? with | none => [] | some t => refOne l i t

/-- The paths met, each with its first touch. -/
def metS (l : List Tou) : Nat → List Tou
  | 0 => []
  | i + 1 => metS l i ++ match l[i]? with | none => [] | some t => if firstB l i t.2 = true then [t] else []
theorem mget_map (g : Tou → Fate) (q : List UInt8) : ∀ m : List Tou, mget (m.map (fun t => (t.2, g t))) q = (m.find? (fun t => decide (q = t.2))).map g
  | [] => rfl
  | t :: m => by
    rw [List.map_cons, mget_cons, List.find?_cons, mget_map g q m]
    by_cases h : q = t.2
    · subst h; simp
    · simp [h]
theorem mput_map_new (g : Tou → Fate) (q : List UInt8) (v : Fate) : ∀ m : List Tou, (∀ t, t ∈ m → t.2 ≠ q) → mput (m.map (fun t => (t.2, g t))) q v = m.map (fun t => (t.2, g t)) ++ [(q, v)]
  | [], _ => rfl
  | t :: m, h => by
    rw [List.map_cons, mput_cons, if_neg (fun e => h t (by simp) e.symm), mput_map_new g q v m (fun t ht => h t (by simp [ht]))]; rfl
theorem mput_map_old (g g' : Tou → Fate) (q : List UInt8) : ∀ m : List Tou, (m.map (·.2)).Nodup → (∃ t, t ∈ m ∧ t.2 = q) → (∀ t, t ∈ m → t.2 ≠ q → g t = g' t) → (∀ t, t ∈ m → t.2 = q → ∀ t0, t0 ∈ m → t0.2 = q → t0 = t) → ∀ v, (∀ t, t ∈ m → t.2 = q → g' t = v) →
    mput (m.map (fun t => (t.2, g t))) q v = m.map (fun t => (t.2, g' t))
  | [], _, h, _, _, _, _ => by obtain ⟨_, h, _⟩ := h; cases h
  | t :: m, hn, h, h1, h2, v, h3 => by
    rw [List.map_cons, mput_cons]
    rw [List.map_cons, List.nodup_cons] at hn
    by_cases e : q = t.2
    · subst e
      rw [if_pos rfl, List.map_cons, h3 t (by simp) rfl]
      congr 1
      refine List.map_congr_left fun x hx => ?_
      rw [h1 x (by simp [hx]) (fun e => hn.1 (List.mem_map.2 ⟨x, hx, e⟩))]
    · rw [if_neg e, List.map_cons, h1 t (by simp) (fun e' => e e'.symm)]
      congr 1
      refine mput_map_old g g' q m hn.2 ?_ (fun x hx => h1 x (by simp [hx])) (fun x hx e x0 hx0 e0 => h2 x (by simp [hx]) e x0 (by simp [hx0]) e0) v (fun x hx => h3 x (by simp [hx]))
      obtain ⟨x, hx, ex⟩ := h
      rcases List.mem_cons.1 hx with rfl | hx
      · exact absurd ex.symm e
      · exact ⟨x, hx, ex⟩
theorem firstB_iff {l : List Tou} {i : Nat} {q : List UInt8} : firstB l i q = true ↔ ∀ t, t ∈ l.take i → t.2 ≠ q := by
  unfold firstB; rw [List.all_eq_true]
  exact ⟨fun h t ht => of_decide_eq_true (h t ht), fun h t ht => decide_eq_true (h t ht)⟩
theorem metS_mem {l : List Tou} : ∀ {i : Nat}, i ≤ l.length → ∀ q, (∃ t, t ∈ metS l i ∧ t.2 = q) ↔ ∃ t, t ∈ l.take i ∧ t.2 = q
  | 0, _, q => by simp [metS]
  | i + 1, h, q => by
    have hi : i < l.length := h
    have ih := metS_mem (l := l) (i := i) (by omega) q
    rw [List.take_succ_eq_append_getElem hi, metS, List.getElem?_eq_getElem hi]
    simp only
    constructor
    · rintro ⟨t, ht, e⟩
      rcases List.mem_append.1 ht with ht | ht
      · obtain ⟨t', ht', e'⟩ := ih.1 ⟨t, ht, e⟩
        exact ⟨t', List.mem_append.2 (.inl ht'), e'⟩
      · split at ht
        · rw [List.mem_singleton.1 ht] at e; exact ⟨_, List.mem_append.2 (.inr (List.mem_singleton.2 rfl)), e⟩
        · cases ht
    · rintro ⟨t, ht, e⟩
      rcases List.mem_append.1 ht with ht | ht
      · obtain ⟨t', ht', e'⟩ := ih.2 ⟨t, ht, e⟩
        exact ⟨t', by simp [ht'], e'⟩
      · rw [List.mem_singleton.1 ht] at e
        by_cases hf : firstB l i l[i].2 = true
        · exact ⟨l[i], by rw [if_pos hf]; simp, e⟩
        · have : ∃ t, t ∈ l.take i ∧ t.2 = l[i].2 := by
            apply Classical.byContradiction
            intro hc
            exact hf (firstB_iff.2 fun t ht e => hc ⟨t, ht, e⟩)
          obtain ⟨t', ht', e'⟩ := this
          obtain ⟨t2, ht2, e2⟩ := ih.2 ⟨t', ht', e'.trans e⟩
          exact ⟨t2, by simp [ht2], e2⟩
theorem metS_nodup {l : List Tou} : ∀ {i : Nat}, i ≤ l.length → ((metS l i).map (·.2)).Nodup
  | 0, _ => by simp [metS]
  | i + 1, h => by
    have hi : i < l.length := h
    have ih := metS_nodup (l := l) (i := i) (by omega)
    rw [metS, List.getElem?_eq_getElem hi]
    simp only
    split
    · rename_i hf
      rw [List.map_append, List.nodup_append]
      refine ⟨ih, by simp, fun a ha b hb => ?_⟩
      simp at hb
      subst hb
      intro e
      subst e
      obtain ⟨t, ht, e⟩ := List.mem_map.1 ha
      obtain ⟨t', ht', e'⟩ := (metS_mem (l := l) (i := i) (by omega) _).1 ⟨t, ht, e⟩
      exact firstB_iff.1 hf t' ht' e'
    · rw [List.append_nil]; exact ih
theorem wrote_snoc (q : List UInt8) (l : List Tou) (t : Tou) : wroteB q (l ++ [t]) = if t.2 = q ∧ t.1 ≠ 1 then decide (t.1 = 2) else wroteB q l := by
  unfold wroteB; rw [List.foldl_append]; rfl
theorem wrote_free {q : List UInt8} : ∀ {l : List Tou}, (∀ t, t ∈ l → t.2 ≠ q) → ∀ r, wroteB q (l ++ r) = wroteB q r
  | [], _, r => rfl
  | t :: l, h, r => by
    have := wrote_free (q := q) (l := l) (fun t ht => h t (by simp [ht])) r
    unfold wroteB at this ⊢
    rw [List.cons_append, List.foldl_cons, if_neg (fun e => h t (by simp) e.1)]
    exact this
theorem see_met (l : List Tou) : ∀ i, i ≤ l.length → (l.take i).foldl seeS [] = (metS l i).map (fun t => (t.2, (⟨decide (t.1 = 1), wroteB t.2 (l.take i)⟩ : Fate)))
  | 0, _ => by simp [metS]
  | i + 1, h => by
    have hi : i < l.length := h
    have ih := see_met l i (by omega)
    rw [List.take_succ_eq_append_getElem hi, List.foldl_append, ih]
    generalize hx : l[i] = x
    have hmem := metS_mem (l := l) (i := i) (by omega) x.2
    have hnd := metS_nodup (l := l) (i := i) (by omega)
    show seeS _ x = _
    unfold seeS
    rw [mget_map]
    rw [metS, List.getElem?_eq_getElem hi, hx]
    simp only
    by_cases hf : firstB l i x.2 = true
    · have hno : ∀ t, t ∈ metS l i → t.2 ≠ x.2 := fun t ht e => by
        obtain ⟨t', ht', e'⟩ := hmem.1 ⟨t, ht, e⟩
        exact firstB_iff.1 hf t' ht' e'
      rw [mput_map_new _ _ _ _ hno, if_pos hf, List.map_append]
      have hfn : (metS l i).find? (fun t => decide (x.2 = t.2)) = none := List.find?_eq_none.2 fun t ht => by simp; exact fun e => hno t ht e.symm
      rw [hfn]
      simp only [Option.map_none, Option.getD_none, List.map_cons, List.map_nil]
      congr 1
      · refine List.map_congr_left fun t ht => ?_
        rw [wrote_snoc, if_neg (fun e => hno t ht e.1.symm)]
      · have hw : wroteB x.2 (l.take i) = false := by
          have := wrote_free (firstB_iff.1 hf) []
          rw [List.append_nil] at this
          rw [this]; rfl
        unfold seeT
        rw [wrote_snoc, hw]
        simp only
        by_cases h1 : x.1 = 1 <;> simp [h1]
    · rw [if_neg hf, List.append_nil]
      have hex : ∃ t, t ∈ metS l i ∧ t.2 = x.2 := by
        apply Classical.byContradiction
        intro hc
        refine hf (firstB_iff.2 fun t ht e => hc (hmem.2 ⟨t, ht, e⟩))
      have huniq : ∀ t, t ∈ metS l i → t.2 = x.2 → ∀ t0, t0 ∈ metS l i → t0.2 = x.2 → t0 = t := fun t ht e t0 ht0 e0 => by
        obtain ⟨a, ha, rfl⟩ := List.getElem_of_mem ht
        obtain ⟨b, hb, rfl⟩ := List.getElem_of_mem ht0
        have ha' : a < ((metS l i).map (·.2)).length := by simpa using ha
        have hb' : b < ((metS l i).map (·.2)).length := by simpa using hb
        have hab : b = a := (List.getElem_inj (h₀ := hb') (h₁ := ha') hnd).1 (by rw [List.getElem_map, List.getElem_map, e, e0])
        subst hab; rfl
      cases hfind : (metS l i).find? (fun t => decide (x.2 = t.2)) with
      | none =>
        obtain ⟨t, ht, e⟩ := hex
        have := List.find?_eq_none.1 hfind t ht
        simp at this
        exact absurd e.symm this
      | some y =>
        have hy := List.find?_some hfind
        have hyin := List.mem_of_find?_eq_some hfind
        have hy' : x.2 = y.2 := of_decide_eq_true hy
        simp only [Option.map_some, Option.getD_some]
        refine mput_map_old _ (fun t => ⟨decide (t.1 = 1), wroteB t.2 (l.take i ++ [x])⟩) x.2 _ hnd hex ?_ huniq _ ?_
        · intro t ht e
          rw [wrote_snoc, if_neg (fun e' => e e'.1.symm)]
        · intro t ht e
          have := huniq y hyin hy'.symm t ht e
          subst this
          unfold seeT
          rw [wrote_snoc]
          simp only
          by_cases h1 : x.1 = 1
          · rw [if_neg (fun e => e.2 h1), if_pos h1]
          · rw [if_pos ⟨hy', h1⟩, if_neg h1]
theorem firstS_map (l : List Tou) : ∀ i, i ≤ l.length → (metS l i).flatMap (fun t => outT (t.2, (⟨decide (t.1 = 1), wroteB t.2 l⟩ : Fate))) = refSeen l i
  | 0, _ => rfl
  | i + 1, h => by
    have hi : i < l.length := h
    rw [metS, refSeen, List.flatMap_append, firstS_map l i (by omega), List.getElem?_eq_getElem hi]
    simp only
    congr 1
    generalize hx : l[i] = x
    unfold refOne
    by_cases hf : firstB l i x.2 = true
    · rw [if_pos hf, if_pos hf]
      have hw := wrote_free (firstB_iff.1 hf) (l.drop i)
      rw [List.take_append_drop] at hw
      simp only [List.flatMap_cons, List.flatMap_nil, List.append_nil, outT]
      rw [hw]
      congr 1
      by_cases h1 : x.1 = 1
      · obtain ⟨a, b⟩ := x; simp at h1; subst h1; simp
      · simp [h1]
    · rw [if_neg hf, if_neg hf]; rfl
/-- Both tell the same. -/
theorem seen_eq (l : List Tou) : seenL l = refSeen l l.length := by
  rw [← firstS_map l l.length (Nat.le_refl _)]
  unfold seenL
  have := see_met l l.length (Nat.le_refl _)
  rw [List.take_length] at this
  rw [this, List.flatMap_map]
theorem seenL_len (l : List Tou) : (seenL l).length ≤ 2 * l.length := by
  rw [seen_eq]
  have key : ∀ i, i ≤ l.length → (refSeen l i).length ≤ 2 * i := by
    intro i
    induction i with
    | zero => intro _; simp [refSeen]
    | succ i ih =>
      intro h
      have := ih (by omega)
      rw [refSeen, List.length_append, List.getElem?_eq_getElem (by omega)]
      simp only
      have : (refOne l i l[i]).length ≤ 2 := by
        unfold refOne
        split
        · rw [List.length_append]
          have h1 : (if l[i].1 = 1 then [l[i]] else []).length ≤ 1 := by split <;> simp
          have h2 : (if wroteB l[i].2 (l.drop i) = true then [((2 : Int), l[i].2)] else []).length ≤ 1 := by split <;> simp
          omega
        · simp
      omega
  exact key _ (Nat.le_refl _)
end
end Go.Proofs.YtnpehlkdfbmnkaaDoor
