/-
  Layer 18 (stale): plain laws of what touches tell of files.
-/
import Derived.Test.YtnpehlkdfbmnkaaDoorStlT
set_option linter.unusedVariables false
set_option linter.unusedSimpArgs false
namespace Go.Proofs.YtnpehlkdfbmnkaaDoor
/-- What was done to a path: whether it was read first, and whether it is there at last. -/
structure Fate where
  read : Bool
  wrote : Bool
def seeT (t : Tou) (f : Fate) : Fate := ⟨f.read, if t.1 = 1 then f.wrote else decide (t.1 = 2)⟩
def seeS (m : List (List UInt8 × Fate)) (t : Tou) : List (List UInt8 × Fate) := mput m t.2 (seeT t ((mget m t.2).getD ⟨decide (t.1 = 1), false⟩))
def outT (p : List UInt8 × Fate) : List Tou := (if p.2.read = true then [(1, p.1)] else []) ++ if p.2.wrote = true then [(2, p.1)] else []
def seenL (l : List Tou) : List Tou := (l.foldl seeS []).flatMap outT
def wroteB (q : List UInt8) (l : List Tou) : Bool := l.foldl (fun b t => if t.2 = q ∧ t.1 ≠ 1 then decide (t.1 = 2) else b) false
def firstB (l : List Tou) (i : Nat) (q : List UInt8) : Bool := (l.take i).all (fun t => decide (t.2 ≠ q))
/-- What the document's answer adds at place i. -/
def refOne (l : List Tou) (i : Nat) (t : Tou) : List Tou := if firstB l i t.2 = true then (if t.1 = 1 then [t] else []) ++ (if wroteB t.2 (l.drop i) = true then [(2, t.2)] else []) else []
def refSeen (l : List Tou) : Nat → List Tou
  | 0 => []
  | i + 1 => refSeen l i ++ match l[i]? with | none => [] | some t => refOne l i t

/-- The paths met, each with its first touch. -/
def metS (l : List Tou) : Nat → List Tou
  | 0 => []
  | i + 1 => metS l i ++ match l[i]? with | none => [] | some t => if firstB l i t.2 = true then [t] else []
theorem mget_map (g : Tou → Fate) (q : List UInt8) : ∀ m : List Tou, mget (m.map (fun t => (t.2, g t))) q = (m.find? (fun t => decide (q = t.2))).map g
  | [] => rfl
  | t :: m => by
    rw [List.map_cons, mget_cons, List.find?_cons, mget_map g q m]
    by_cases h : q = t.2
    · subst h; simp
    · simp [h]
theorem mput_map_new (g : Tou → Fate) (q : List UInt8) (v : Fate) : ∀ m : List Tou, (∀ t, t ∈ m → t.2 ≠ q) → mput (m.map (fun t => (t.2, g t))) q v = m.map (fun t => (t.2, g t)) ++ [(q, v)]
  | [], _ => rfl
  | t :: m, h => by
    rw [List.map_cons, mput_cons, if_neg (fun e => h t (by simp) e.symm), mput_map_new g q v m (fun t ht => h t (by simp [ht]))]; rfl
theorem mput_map_old (g g' : Tou → Fate) (q : List UInt8) : ∀ m : List Tou, (m.map (·.2)).Nodup → (∃ t, t ∈ m ∧ t.2 = q) → (∀ t, t ∈ m → t.2 ≠ q → g t = g' t) → (∀ t, t ∈ m → t.2 = q → ∀ t0, t0 ∈ m → t0.2 = q → t0 = t) → ∀ v, (∀ t, t ∈ m → t.2 = q → g' t = v) →
    mput (m.map (fun t => (t.2, g t))) q v = m.map (fun t => (t.2, g' t))
  | [], _, h, _, _, _, _ => by obtain ⟨_, h, _⟩ := h; cases h
  | t :: m, hn, h, h1, h2, v, h3 => by
    rw [List.map_cons, mput_cons]
    rw [List.map_cons, List.nodup_cons] at hn
    by_cases e : q = t.2
    · subst e
      rw [if_pos rfl, List.map_cons, h3 t (by simp) rfl]
      congr 1
      refine List.map_congr_left fun x hx => ?_
      rw [h1 x (by simp [hx]) (fun e => hn.1 (List.mem_map.2 ⟨x, hx, e⟩))]
    · rw [if_neg e, List.map_cons, h1 t (by simp) (fun e' => e e'.symm)]
      congr 1
      refine mput_map_old g g' q m hn.2 ?_ (fun x hx => h1 x (by simp [hx])) (fun x hx e x0 hx0 e0 => h2 x (by simp [hx]) e x0 (by simp [hx0]) e0) v (fun x hx => h3 x (by simp [hx]))
      obtain ⟨x, hx, ex⟩ := h
      rcases List.mem_cons.1 hx with rfl | hx
      · exact absurd ex.symm e
      · exact ⟨x, hx, ex⟩
theorem firstB_iff {l : List Tou} {i : Nat} {q : List UInt8} : firstB l i q = true ↔ ∀ t, t ∈ l.take i → t.2 ≠ q := by
  unfold firstB; rw [List.all_eq_true]
  exact ⟨fun h t ht => of_decide_eq_true (h t ht), fun h t ht => decide_eq_true (h t ht)⟩
theorem metS_mem {l : List Tou} : ∀ {i : Nat}, i ≤ l.length → ∀ q, (∃ t, t ∈ metS l i ∧ t.2 = q) ↔ ∃ t, t ∈ l.take i ∧ t.2 = q
  | 0, _, q => by simp [metS]
  | i + 1, h, q => by
    have hi : i < l.length := h
    have ih := metS_mem (l := l) (i := i) (by omega) q
    rw [List.take_succ_eq_append_getElem hi, metS, List.getElem?_eq_getElem hi]
    simp only
    constructor
    · rintro ⟨t, ht, e⟩
      rcases List.mem_append.1 ht with ht | ht
      · obtain ⟨t', ht', e'⟩ := ih.1 ⟨t, ht, e⟩
        exact ⟨t', List.mem_append.2 (.inl ht'), e'⟩
      · split at ht
        · rw [List.mem_singleton.1 ht] at e; exact ⟨_, List.mem_append.2 (.inr (List.mem_singleton.2 rfl)), e⟩
        · cases ht
    · rintro ⟨t, ht, e⟩
      rcases List.mem_append.1 ht with ht | ht
      · obtain ⟨t', ht', e'⟩ := ih.2 ⟨t, ht, e⟩
        exact ⟨t', by simp [ht'], e'⟩
      · rw [List.mem_singleton.1 ht] at e
        by_cases hf : firstB l i l[i].2 = true
        · exact ⟨l[i], by rw [if_pos hf]; simp, e⟩
        · have : ∃ t, t ∈ l.take i ∧ t.2 = l[i].2 := by
            apply Classical.byContradiction
            intro hc
            exact hf (firstB_iff.2 fun t ht e => hc ⟨t, ht, e⟩)
          obtain ⟨t', ht', e'⟩ := this
          obtain ⟨t2, ht2, e2⟩ := ih.2 ⟨t', ht', e'.trans e⟩
          exact ⟨t2, by simp [ht2], e2⟩
theorem metS_nodup {l : List Tou} : ∀ {i : Nat}, i ≤ l.length → ((metS l i).map (·.2)).Nodup
  | 0, _ => by simp [metS]
  | i + 1, h => by
    have hi : i < l.length := h
    have ih := metS_nodup (l := l) (i := i) (by omega)
    rw [metS, List.getElem?_eq_getElem hi]
    simp only
    split
    · rename_i hf
      rw [List.map_append, List.nodup_append]
      refine ⟨ih, by simp, fun a ha b hb => ?_⟩
      simp at hb
      subst hb
      intro e
      subst e
      obtain ⟨t, ht, e⟩ := List.mem_map.1 ha
      obtain ⟨t', ht', e'⟩ := (metS_mem (l := l) (i := i) (by omega) _).1 ⟨t, ht, e⟩
      exact firstB_iff.1 hf t' ht' e'
    · rw [List.append_nil]; exact ih
theorem wrote_snoc (q : List UInt8) (l : List Tou) (t : Tou) : wroteB q (l ++ [t]) = if t.2 = q ∧ t.1 ≠ 1 then decide (t.1 = 2) else wroteB q l := by
  unfold wroteB; rw [List.foldl_append]; rfl
theorem wrote_free {q : List UInt8} : ∀ {l : List Tou}, (∀ t, t ∈ l → t.2 ≠ q) → ∀ r, wroteB q (l ++ r) = wroteB q r
  | [], _, r => rfl
  | t :: l, h, r => by
    have := wrote_free (q := q) (l := l) (fun t ht => h t (by simp [ht])) r
    unfold wroteB at this ⊢
    rw [List.cons_append, List.foldl_cons, if_neg (fun e => h t (by simp) e.1)]
    exact this
theorem see_met (l : List Tou) : ∀ i, i ≤ l.length → (l.take i).foldl seeS [] = (metS l i).map (fun t => (t.2, (⟨decide (t.1 = 1), wroteB t.2 (l.take i)⟩ : Fate)))
  | 0, _ => by simp [metS]
  | i + 1, h => by
    have hi : i < l.length := h
    have ih := see_met l i (by omega)
    rw [List.take_succ_eq_append_getElem hi, List.foldl_append, ih]
    generalize hx : l[i] = x
    have hmem := metS_mem (l := l) (i := i) (by omega) x.2
    have hnd := metS_nodup (l := l) (i := i) (by omega)
    show seeS _ x = _
    unfold seeS
    rw [mget_map]
    rw [metS, List.getElem?_eq_getElem hi, hx]
    simp only
    by_cases hf : firstB l i x.2 = true
    · have hno : ∀ t, t ∈ metS l i → t.2 ≠ x.2 := fun t ht e => by
        obtain ⟨t', ht', e'⟩ := hmem.1 ⟨t, ht, e⟩
        exact firstB_iff.1 hf t' ht' e'
      rw [mput_map_new _ _ _ _ hno, if_pos hf, List.map_append]
      have hfn : (metS l i).find? (fun t => decide (x.2 = t.2)) = none := List.find?_eq_none.2 fun t ht => by simp; exact fun e => hno t ht e.symm
      rw [hfn]
      simp only [Option.map_none, Option.getD_none, List.map_cons, List.map_nil]
      congr 1
      · refine List.map_congr_left fun t ht => ?_
        rw [wrote_snoc, if_neg (fun e => hno t ht e.1.symm)]
      · have hw : wroteB x.2 (l.take i) = false := by
          have := wrote_free (firstB_iff.1 hf) []
          rw [List.append_nil] at this
          rw [this]; rfl
        unfold seeT
        rw [wrote_snoc, hw]
        simp only
        by_cases h1 : x.1 = 1 <;> simp [h1]
    · rw [if_neg hf, List.append_nil]
      have hex : ∃ t, t ∈ metS l i ∧ t.2 = x.2 := by
        apply Classical.byContradiction
        intro hc
        refine hf (firstB_iff.2 fun t ht e => hc (hmem.2 ⟨t, ht, e⟩))
      have huniq : ∀ t, t ∈ metS l i → t.2 = x.2 → ∀ t0, t0 ∈ metS l i → t0.2 = x.2 → t0 = t := fun t ht e t0 ht0 e0 => by
        obtain ⟨a, ha, rfl⟩ := List.getElem_of_mem ht
        obtain ⟨b, hb, rfl⟩ := List.getElem_of_mem ht0
        have ha' : a < ((metS l i).map (·.2)).length := by simpa using ha
        have hb' : b < ((metS l i).map (·.2)).length := by simpa using hb
        have hab : b = a := (List.getElem_inj (h₀ := hb') (h₁ := ha') hnd).1 (by rw [List.getElem_map, List.getElem_map, e, e0])
        subst hab; rfl
      cases hfind : (metS l i).find? (fun t => decide (x.2 = t.2)) with
      | none =>
        obtain ⟨t, ht, e⟩ := hex
        have := List.find?_eq_none.1 hfind t ht
        simp at this
        exact absurd e.symm this
      | some y =>
        have hy := List.find?_some hfind
        have hyin := List.mem_of_find?_eq_some hfind
        have hy' : x.2 = y.2 := of_decide_eq_true hy
        simp only [Option.map_some, Option.getD_some]
        refine mput_map_old _ (fun t => ⟨decide (t.1 = 1), wroteB t.2 (l.take i ++ [x])⟩) x.2 _ hnd hex ?_ huniq _ ?_
        · intro t ht e
          rw [wrote_snoc, if_neg (fun e' => e e'.1.symm)]
        · intro t ht e
          have := huniq y hyin hy'.symm t ht e
          subst this
          unfold seeT
          rw [wrote_snoc]
          simp only
          by_cases h1 : x.1 = 1
          · rw [if_neg (fun e => e.2 h1), if_pos h1]
          · rw [if_pos ⟨hy', h1⟩, if_neg h1]
theorem firstS_map (l : List Tou) : ∀ i, i ≤ l.length → (metS l i).flatMap (fun t => outT (t.2, (⟨decide (t.1 = 1), wroteB t.2 l⟩ : Fate))) = refSeen l i
  | 0, _ => rfl
  | i + 1, h => by
    have hi : i < l.length := h
    rw [metS, refSeen, List.flatMap_append, firstS_map l i (by omega), List.getElem?_eq_getElem hi]
    simp only
    congr 1
    generalize hx : l[i] = x
    unfold refOne
    by_cases hf : firstB l i x.2 = true
    · rw [if_pos hf, if_pos hf]
      have hw := wrote_free (firstB_iff.1 hf) (l.drop i)
      rw [List.take_append_drop] at hw
      simp only [List.flatMap_cons, List.flatMap_nil, List.append_nil, outT]
      rw [hw]
      congr 1
      by_cases h1 : x.1 = 1
      · obtain ⟨a, b⟩ := x; simp at h1; subst h1; simp
      · simp [h1]
    · rw [if_neg hf, if_neg hf]; rfl
/-- Both tell the same. -/
theorem seen_eq (l : List Tou) : seenL l = refSeen l l.length := by
  rw [← firstS_map l l.length (Nat.le_refl _)]
  unfold seenL
  have := see_met l l.length (Nat.le_refl _)
  rw [List.take_length] at this
  rw [this, List.flatMap_map]
theorem seenL_len (l : List Tou) : (seenL l).length ≤ 2 * l.length := by
  rw [seen_eq]
  have key : ∀ i, i ≤ l.length → (refSeen l i).length ≤ 2 * i := by
    intro i
    induction i with
    | zero => intro _; simp [refSeen]
    | succ i ih =>
      intro h
      have := ih (by omega)
      rw [refSeen, List.length_append, List.getElem?_eq_getElem (by omega)]
      simp only
      have : (refOne l i l[i]).length ≤ 2 := by
        unfold refOne
        split
        · rw [List.length_append]
          have h1 : (if l[i].1 = 1 then [l[i]] else []).length ≤ 1 := by split <;> simp
          have h2 : (if wroteB l[i].2 (l.drop i) = true then [((2 : Int), l[i].2)] else []).length ≤ 1 := by split <;> simp
          omega
        · simp
      omega
  exact key _ (Nat.le_refl _)
end Go.Proofs.YtnpehlkdfbmnkaaDoor
