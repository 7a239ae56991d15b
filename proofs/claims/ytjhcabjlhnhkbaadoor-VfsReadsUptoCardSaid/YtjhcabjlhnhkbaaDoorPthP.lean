/-
  Layer 02 (path): plain laws: what is made clean, cut and joined, as lists of bytes.
-/
import Derived.Test.YtjhcabjlhnhkbaaDoorBase
set_option linter.unusedVariables false
set_option linter.unusedSimpArgs false
namespace Go.Proofs.YtjhcabjlhnhkbaaDoor

/-- A text of bytes. -/
def ofL (l : (List UInt8)) : ByteArray := ⟨l.toArray⟩
def toL (s : ByteArray) : (List UInt8) := s.data.toList
theorem toL_of (l : (List UInt8)) : toL (ofL l) = l := by simp [toL, ofL]
theorem of_toL (s : ByteArray) : ofL (toL s) = s := by cases s; simp [toL, ofL]
theorem ofL_inj {a b : (List UInt8)} (h : ofL a = ofL b) : a = b := by have := congrArg toL h; rwa [toL_of, toL_of] at this
theorem ofL_size (l : (List UInt8)) : (ofL l).size = l.length := by simp [ofL, ByteArray.size]

/-- The parts of a text between strokes. -/
def splitL (c : UInt8) : (List UInt8) → List (List UInt8)
  | [] => [[]]
  | x :: r => if x = c then [] :: splitL c r else match splitL c r with
    | [] => [[x]]
    | h :: t => (x :: h) :: t
theorem splitL_ne (c : UInt8) : ∀ s, splitL c s ≠ []
  | [] => by simp [splitL]
  | x :: r => by
    unfold splitL
    split
    · simp
    · split <;> simp
theorem split_free {c : UInt8} : ∀ {s : (List UInt8)}, (∀ b, b ∈ s → b ≠ c) → splitL c s = [s]
  | [], _ => rfl
  | x :: r, h => by
    have hx : x ≠ c := h x (List.mem_cons_self ..)
    unfold splitL
    rw [if_neg hx, split_free (fun b hb => h b (List.mem_cons_of_mem _ hb))]
theorem split_app {c : UInt8} : ∀ {a : (List UInt8)} (b : (List UInt8)), (∀ x, x ∈ a → x ≠ c) → splitL c (a ++ c :: b) = a :: splitL c b
  | [], b, _ => by
    show splitL c (c :: b) = _
    rw [splitL, if_pos rfl]
  | x :: a, b, h => by
    have hx : x ≠ c := h x (List.mem_cons_self ..)
    show splitL c (x :: (a ++ c :: b)) = _
    rw [splitL, if_neg hx, split_app b (fun y hy => h y (List.mem_cons_of_mem _ hy))]
theorem split_mem {c : UInt8} : ∀ {s : (List UInt8)} {x : (List UInt8)}, x ∈ splitL c s → ∀ b, b ∈ x → b ≠ c
  | [], x, hx, b, hb => by
    rw [splitL, List.mem_singleton] at hx
    subst hx; cases hb
  | y :: r, x, hx, b, hb => by
    unfold splitL at hx
    split at hx
    · rcases List.mem_cons.1 hx with rfl | hx
      · cases hb
      · exact split_mem hx b hb
    · rename_i hy
      split at hx
      · rw [List.mem_singleton] at hx
        subst hx
        rw [List.mem_singleton] at hb
        subst hb; exact hy
      · rename_i h t e
        rcases List.mem_cons.1 hx with rfl | hx
        · rcases List.mem_cons.1 hb with rfl | hb
          · exact hy
          · exact split_mem (s := r) (x := h) (by rw [e]; exact List.mem_cons_self ..) b hb
        · exact split_mem (s := r) (x := x) (by rw [e]; exact List.mem_cons_of_mem _ hx) b hb
/-- Texts with a stroke between them. -/
def joinL : List (List UInt8) → (List UInt8)
  | [] => []
  | [x] => x
  | x :: y :: r => x ++ 47 :: joinL (y :: r)
theorem join_cons {x : (List UInt8)} {l : List (List UInt8)} (h : l ≠ []) : joinL (x :: l) = x ++ 47 :: joinL l := by
  cases l with
  | nil => exact absurd rfl h
  | cons y r => rfl
theorem split_join : ∀ {l : List (List UInt8)}, l ≠ [] → (∀ x, x ∈ l → ∀ b, b ∈ x → b ≠ 47) → splitL 47 (joinL l) = l
  | [x], _, h => split_free (h x (List.mem_singleton.2 rfl))
  | x :: y :: r, _, h => by
    show splitL 47 (x ++ 47 :: joinL (y :: r)) = _
    rw [split_app _ (h x (List.mem_cons_self ..)), split_join (by simp) (fun z hz => h z (List.mem_cons_of_mem _ hz))]
theorem split_len (c : UInt8) : ∀ s, (splitL c s).length ≤ s.length + 1
  | [] => by simp [splitL]
  | x :: r => by
    have ih := split_len c r
    unfold splitL
    split
    · simp only [List.length_cons]; omega
    · split
      · simp
      · rename_i h t e
        rw [e] at ih
        simp only [List.length_cons] at ih ⊢; omega

abbrev dotL : (List UInt8) := [46]
abbrev ddL : (List UInt8) := [46, 46]
/-- One part more. -/
def stepL (r : Bool) (out : List (List UInt8)) (x : (List UInt8)) : List (List UInt8) :=
  if x = [] ∨ x = dotL then out
  else if x = ddL then (if out ≠ [] ∧ out.getLast? ≠ some ddL then out.dropLast else if r then out else out ++ [x])
  else out ++ [x]
def rootedL (s : (List UInt8)) : Bool := s.head? == some 47
def partsL (s : (List UInt8)) : List (List UInt8) := (splitL 47 s).foldl (stepL (rootedL s)) []
def cleanL (s : (List UInt8)) : (List UInt8) := if rootedL s then 47 :: joinL (partsL s) else if joinL (partsL s) = [] then dotL else joinL (partsL s)
def JoinL (l : List (List UInt8)) : (List UInt8) := cleanL (joinL (l.filter (fun x => !x.isEmpty)))

theorem step_len (r : Bool) (out : List (List UInt8)) (x : (List UInt8)) : (stepL r out x).length ≤ out.length + 1 := by
  unfold stepL
  split
  · omega
  · split
    · split
      · rw [List.length_dropLast]; omega
      · split
        · omega
        · simp
    · simp
/-- What the parts of any path are like. -/
structure GoodP (r : Bool) (l : List (List UInt8)) : Prop where
  free : ∀ x, x ∈ l → ∀ b, b ∈ x → b ≠ 47
  ne : ∀ x, x ∈ l → x ≠ [] ∧ x ≠ dotL
  dd : ∃ k Q, l = List.replicate k ddL ++ Q ∧ (∀ x, x ∈ Q → x ≠ ddL) ∧ (r = true → k = 0)
theorem GoodP.nil (r : Bool) : GoodP r [] := ⟨fun _ h => (by cases h), fun _ h => (by cases h), 0, [], rfl, fun _ h => (by cases h), fun _ => rfl⟩
theorem getLast_split {k : Nat} {Q : List (List UInt8)} (h : ∀ x, x ∈ Q → x ≠ ddL) : (List.replicate k ddL ++ Q).getLast? ≠ some ddL → List.replicate k ddL ++ Q ≠ [] → Q ≠ [] := by
  intro h1 h2 hq
  subst hq
  rw [List.append_nil] at h1 h2
  cases k with
  | zero => exact h2 rfl
  | succ k =>
    apply h1
    rw [List.getLast?_replicate]; simp
theorem GoodP.step {r : Bool} {l : List (List UInt8)} (h : GoodP r l) {x : (List UInt8)} (hx : ∀ b, b ∈ x → b ≠ 47) : GoodP r (stepL r l x) := by
  unfold stepL
  split
  · exact h
  · rename_i hne
    have hne' : x ≠ [] ∧ x ≠ dotL := ⟨fun e => hne (.inl e), fun e => hne (.inr e)⟩
    obtain ⟨k, Q, e, hQ, hr⟩ := h.dd
    split
    · rename_i hdd
      split
      · rename_i hc
        have hq : Q ≠ [] := getLast_split (k := k) hQ (by rw [← e]; exact hc.2) (by rw [← e]; exact hc.1)
        refine ⟨fun y hy => h.free y ((List.dropLast_sublist _).subset hy), fun y hy => h.ne y ((List.dropLast_sublist _).subset hy), k, Q.dropLast, ?_, fun y hy => hQ y ((List.dropLast_sublist _).subset hy), hr⟩
        rw [e, List.dropLast_append_of_ne_nil hq]
      · rename_i hc
        split
        · exact h
        · rename_i hnr
          have hq : Q = [] := by
            refine Classical.byContradiction fun hq => hc ⟨by rw [e]; intro e2; exact hq (List.append_eq_nil_iff.1 e2).2, ?_⟩
            rw [e, List.getLast?_append, List.getLast?_eq_some_getLast hq]
            intro e2
            exact hQ _ (List.getLast_mem hq) (Option.some.inj e2)
          subst hq
          refine ⟨fun y hy => ?_, fun y hy => ?_, k + 1, [], ?_, fun _ h => (by cases h), fun h => absurd h hnr⟩
          · rcases List.mem_append.1 hy with hy | hy
            · exact h.free y hy
            · rw [List.mem_singleton.1 hy]; exact hx
          · rcases List.mem_append.1 hy with hy | hy
            · exact h.ne y hy
            · rw [List.mem_singleton.1 hy]; exact hne'
          · rw [e, hdd, List.append_nil, List.append_nil, List.replicate_succ']
    · rename_i hdd
      refine ⟨fun y hy => ?_, fun y hy => ?_, k, Q ++ [x], by rw [e, List.append_assoc], fun y hy => ?_, hr⟩
      · rcases List.mem_append.1 hy with hy | hy
        · exact h.free y hy
        · rw [List.mem_singleton.1 hy]; exact hx
      · rcases List.mem_append.1 hy with hy | hy
        · exact h.ne y hy
        · rw [List.mem_singleton.1 hy]; exact hne'
      · rcases List.mem_append.1 hy with hy | hy
        · exact hQ y hy
        · rw [List.mem_singleton.1 hy]; exact hdd
theorem good_fold {r : Bool} : ∀ {xs : List (List UInt8)} {l : List (List UInt8)}, GoodP r l → (∀ x, x ∈ xs → ∀ b, b ∈ x → b ≠ 47) → GoodP r (xs.foldl (stepL r) l)
  | [], l, h, _ => h
  | x :: xs, l, h, hx => good_fold (xs := xs) (l := stepL r l x) (h.step (hx x (List.mem_cons_self ..))) (fun y hy => hx y (List.mem_cons_of_mem _ hy))
theorem good_parts (s : (List UInt8)) : GoodP (rootedL s) (partsL s) := good_fold (GoodP.nil _) (fun _ hx => split_mem hx)
theorem fold_plain {r : Bool} : ∀ {Q l : List (List UInt8)}, (∀ x, x ∈ Q → x ≠ [] ∧ x ≠ dotL ∧ x ≠ ddL) → Q.foldl (stepL r) l = l ++ Q
  | [], l, _ => by simp
  | x :: Q, l, h => by
    obtain ⟨h1, h2, h3⟩ := h x (List.mem_cons_self ..)
    have e : stepL r l x = l ++ [x] := by unfold stepL; rw [if_neg (by rintro (e | e); exact h1 e; exact h2 e), if_neg h3]
    rw [List.foldl_cons, e, fold_plain (fun y hy => h y (List.mem_cons_of_mem _ hy)), List.append_assoc]; rfl
theorem fold_dds : ∀ (k m : Nat), (List.replicate k ddL).foldl (stepL false) (List.replicate m ddL) = List.replicate (m + k) ddL
  | 0, m => by simp
  | k + 1, m => by
    have e : stepL false (List.replicate m ddL) ddL = List.replicate (m + 1) ddL := by
      unfold stepL
      rw [if_neg (by simp), if_pos rfl, if_neg]
      · simp [List.replicate_succ']
      · rintro ⟨h1, h2⟩
        apply h2
        rw [List.getLast?_replicate]
        cases m with
        | zero => exact absurd rfl h1
        | succ m => simp
    rw [List.replicate_succ, List.foldl_cons, e, fold_dds k (m + 1)]
    congr 1; omega
/-- What is clean stays. -/
theorem GoodP.fold {r : Bool} {l : List (List UInt8)} (h : GoodP r l) : l.foldl (stepL r) [] = l := by
  obtain ⟨k, Q, e, hQ, hr⟩ := h.dd
  have hQ' : ∀ x, x ∈ Q → x ≠ [] ∧ x ≠ dotL ∧ x ≠ ddL := fun x hx => ⟨(h.ne x (by rw [e]; exact List.mem_append_right _ hx)).1, (h.ne x (by rw [e]; exact List.mem_append_right _ hx)).2, hQ x hx⟩
  subst e
  rw [List.foldl_append]
  cases r with
  | true =>
    have := hr rfl
    subst this
    rw [List.replicate_zero, List.foldl_nil, fold_plain hQ']
  | false =>
    have := fold_dds k 0
    rw [List.replicate_zero, Nat.zero_add] at this
    rw [this, fold_plain hQ']
theorem join_nil {l : List (List UInt8)} (h : ∀ x, x ∈ l → x ≠ []) : joinL l = [] ↔ l = [] := by
  cases l with
  | nil => simp [joinL]
  | cons x r =>
    constructor
    · intro e
      cases r with
      | nil => exact absurd e (h x (List.mem_cons_self ..))
      | cons y r =>
        rw [joinL] at e
        have := (List.append_eq_nil_iff.1 e).2
        cases this
    · intro e; cases e
theorem join_head {x : (List UInt8)} {r : List (List UInt8)} (h : x ≠ []) : (joinL (x :: r)).head? = x.head? := by
  cases r with
  | nil => rfl
  | cons y r =>
    rw [joinL]
    cases x with
    | nil => exact absurd rfl h
    | cons a x => rfl
theorem step_nil (r : Bool) (l : List (List UInt8)) : stepL r l [] = l := by unfold stepL; rw [if_pos (.inl rfl)]
theorem step_dot (r : Bool) (l : List (List UInt8)) : stepL r l dotL = l := by unfold stepL; rw [if_pos (.inr rfl)]
/-- The parts of what is clean. -/
theorem parts_clean (s : (List UInt8)) : partsL (cleanL s) = partsL s ∧ rootedL (cleanL s) = rootedL s := by
  have hG := good_parts s
  have hne : ∀ x, x ∈ partsL s → x ≠ [] := fun x hx => (hG.ne x hx).1
  have hF := hG.fold
  unfold cleanL
  generalize partsL s = P at *
  cases hr : rootedL s with
  | true =>
    rw [hr] at hF
    rw [if_pos rfl]
    have hr2 : rootedL (47 :: joinL P) = true := rfl
    refine ⟨?_, hr2⟩
    unfold partsL
    rw [hr2]
    have e : splitL 47 (47 :: joinL P) = [] :: splitL 47 (joinL P) := split_app (a := []) _ (fun _ h => (by cases h))
    rw [e, List.foldl_cons, step_nil]
    by_cases hP : P = []
    · subst hP
      show [([] : (List UInt8))].foldl (stepL true) [] = []
      rw [List.foldl_cons, step_nil, List.foldl_nil]
    · rw [split_join hP hG.free, hF]
  | false =>
    rw [hr] at hF
    rw [if_neg (by decide)]
    by_cases hP : P = []
    · subst hP
      have ej : joinL ([] : List (List UInt8)) = [] := rfl
      rw [if_pos ej]
      refine ⟨?_, rfl⟩
      show [dotL].foldl (stepL false) [] = []
      rw [List.foldl_cons, step_dot, List.foldl_nil]
    · rw [if_neg (fun e => hP ((join_nil hne).1 e))]
      have hr2 : rootedL (joinL P) = false := by
        cases P with
        | nil => exact absurd rfl hP
        | cons x r =>
          unfold rootedL
          rw [join_head (hne x (List.mem_cons_self ..))]
          cases hx : x.head? with
          | none => rfl
          | some b =>
            have := hG.free x (List.mem_cons_self ..) b (List.mem_of_mem_head? hx)
            simpa using this
      refine ⟨?_, hr2⟩
      unfold partsL
      rw [hr2, split_join hP hG.free, hF]
theorem clean_clean (s : (List UInt8)) : cleanL (cleanL s) = cleanL s := by
  obtain ⟨h1, h2⟩ := parts_clean s
  rw [cleanL, h1, h2]; rfl
theorem clean_ne (s : (List UInt8)) : cleanL s ≠ [] := by
  unfold cleanL
  split
  · simp
  · split
    · simp
    · assumption
theorem clean_of {a b : (List UInt8)} (h1 : rootedL a = rootedL b) (h2 : partsL a = partsL b) : cleanL a = cleanL b := by unfold cleanL; rw [h1, h2]
end Go.Proofs.YtjhcabjlhnhkbaaDoor
