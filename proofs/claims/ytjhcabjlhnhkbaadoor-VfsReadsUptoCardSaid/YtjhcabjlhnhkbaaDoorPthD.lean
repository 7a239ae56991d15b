/-
  Layer 02 (path): the walks of the reference: Clean, Join.
-/
import Derived.Test.YtjhcabjlhnhkbaaDoorPthC
set_option linter.unusedVariables false
set_option linter.unusedSimpArgs false
namespace Go.Proofs.YtjhcabjlhnhkbaaDoor
open Go.RowKit

/-- How many bytes some texts have, each with one more. -/
def wt (l : List (List UInt8)) : Nat := (l.map (fun x => x.length + 1)).sum
theorem wt_append (a b : List (List UInt8)) : wt (a ++ b) = wt a + wt b := by unfold wt; rw [List.map_append, List.sum_append]
theorem wt_cons (x : List UInt8) (l : List (List UInt8)) : wt (x :: l) = x.length + 1 + wt l := by unfold wt; rw [List.map_cons, List.sum_cons]
theorem wt_dropLast (l : List (List UInt8)) : wt l.dropLast ≤ wt l := by
  cases h : l.getLast? with
  | none => rw [List.getLast?_eq_none_iff.1 h]; exact Nat.le_refl _
  | some z =>
    have hne : l ≠ [] := fun e => by rw [e] at h; cases h
    have := (List.dropLast_concat_getLast hne)
    conv => rhs; rw [← this]
    rw [wt_append]; omega
theorem wt_step (r : Bool) (out : List (List UInt8)) (x : List UInt8) : wt (stepL r out x) ≤ wt out + (x.length + 1) := by
  unfold stepL
  have h1 := wt_dropLast out
  have h2 : wt (out ++ [x]) = wt out + (x.length + 1) := by rw [wt_append, wt_cons]; rfl
  split
  · omega
  · split
    · split
      · omega
      · split
        · omega
        · omega
    · omega
theorem wt_fold (r : Bool) : ∀ (xs out : List (List UInt8)), wt (xs.foldl (stepL r) out) ≤ wt out + wt xs
  | [], out => by simp [wt]
  | x :: xs, out => by
    have h1 := wt_fold r xs (stepL r out x)
    have h2 := wt_step r out x
    rw [List.foldl_cons, wt_cons]; omega
theorem wt_split (c : UInt8) : ∀ s : List UInt8, wt (splitL c s) = s.length + 1
  | [] => rfl
  | y :: s => by
    have ih := wt_split c s
    by_cases hy : y = c
    · rw [split_cons_eq _ hy, wt_cons, ih]; simp; omega
    · obtain ⟨h, t, e⟩ := List.exists_cons_of_ne_nil (splitL_ne c s)
      rw [split_cons_ne hy e, wt_cons]
      rw [e, wt_cons] at ih
      simp; omega
theorem wt_parts (s : List UInt8) : wt (partsL s) ≤ s.length + 1 := by
  have := wt_fold (rootedL s) (splitL 47 s) []
  rw [wt_split] at this
  unfold partsL
  have e : wt [] = 0 := rfl
  omega
theorem join_wt : ∀ l : List (List UInt8), (joinL l).length ≤ wt l
  | [] => by simp [joinL]
  | [x] => by rw [wt_cons]; show x.length ≤ _; omega
  | x :: y :: r => by
    have ih := join_wt (y :: r)
    rw [wt_cons, joinL, List.length_append, List.length_cons]; omega
theorem len_wt (l : List (List UInt8)) : l.length ≤ wt l := by
  induction l with
  | nil => simp
  | cons x l ih => rw [wt_cons, List.length_cons]; omega
theorem filter_wt (p : List UInt8 → Bool) (l : List (List UInt8)) : wt (l.filter p) ≤ wt l := by
  induction l with
  | nil => simp
  | cons x l ih =>
    rw [List.filter_cons]
    split
    · rw [wt_cons, wt_cons]; omega
    · rw [wt_cons]; omega
theorem clean_len (s : List UInt8) : (cleanL s).length ≤ s.length + 2 := by
  have h1 := wt_parts s
  have h2 := join_wt (partsL s)
  unfold cleanL
  split
  · simp; omega
  · split
    · simp
    · omega

set_option maxHeartbeats 2000000 in
theorem rclean_calls (s : List UInt8) (w : World) (hs : s.length ≤ 1200000) :
    Calls Tryd.prog 31 #[.string (ofL s)] w fun e w' => e = .returned (.string (ofL (cleanL s))) ∧ Mem none_ w [] w' := by
  have hp := rparts_calls s w hs
  have h1 := wt_parts s
  have h2 := join_wt (partsL s)
  have h3 := len_wt (partsL s)
  have hrt := fun wx => rrooted_calls s wx (by omega)
  unfold cleanL
  generalize rootedL s = r at *
  obtain ⟨J, hJ⟩ : ∃ J, joinL (partsL s) = J := ⟨_, rfl⟩
  rw [hJ] at h2 ⊢
  have hjn : ∀ V wx, Txts wx V (partsL s) → Calls Tryd.prog 45 #[V, .string ⟨#[47]⟩] wx fun e w' => e = .returned (.string (ofL J)) ∧ wx = w' := fun V wx h => by
    have := join_calls V (partsL s) wx h (by omega) (by rw [hJ]; omega)
    rwa [hJ] at this
  clear hJ
  obtain ⟨C, hC⟩ : ∃ C, (if r = true then 47 :: J else if J = [] then dotL else J) = C := ⟨_, rfl⟩
  rw [hC]
  have HC := Lib.hid hC
  clear hC
  go_enter Tryd.func31, Tryd.ntmps31
  go_wp2_with fail
  refine hp.mono ?_
  rintro e w1 ⟨v, rfl, HM1⟩
  have hj := hjn v w1 (Row.sl (HM1.at_ 0 rfl))
  have HM2 := HM1.sel [] (by decide)
  have hr := hrt w1
  clear hp hjn HM1 hrt
  go_wp2_with fail
  refine hj.mono ?_
  rintro e w2 ⟨rfl, rfl⟩
  clear hj
  cases r with
  | true =>
    have HR : Hid (C = 47 :: J) := by unfold Hid; rw [← HC.out]; rfl
    clear HC
    have hap : ∀ wx, (Op.stringOp .add ⟨#[47]⟩ (ofL J)).run Tryd.prog wx = .ok (.string (ofL (47 :: J))) wx := add_run [47] J (by simp; omega)
    go_wp2_with fail
    refine hr.mono ?_
    rintro e w2 ⟨rfl, rfl⟩
    clear hr
    go_wp2_with fail
    go_ret
    exact ⟨by rw [HR.out]; rfl, HM2⟩
  | false =>
    have e0 := empty_eq J
    by_cases hj : J = []
    · rw [decide_eq_true hj] at e0
      have HR : Hid (C = dotL) := by unfold Hid; rw [← HC.out, if_neg (by decide), if_pos hj]
      clear hj
      go_wp2_with fail
      refine hr.mono ?_
      rintro e w2 ⟨rfl, rfl⟩
      clear hr
      go_wp2_with fail
      go_ret
      exact ⟨by rw [HR.out]; rfl, HM2⟩
    · rw [decide_eq_false hj] at e0
      have HR : Hid (C = J) := by unfold Hid; rw [← HC.out, if_neg (by decide), if_neg hj]
      clear hj
      go_wp2_with fail
      refine hr.mono ?_
      rintro e w2 ⟨rfl, rfl⟩
      clear hr
      go_wp2_with fail
      go_ret
      exact ⟨by rw [HR.out]; rfl, HM2⟩
abbrev keepB (x : List UInt8) : Bool := !x.isEmpty
theorem filter_snoc {l : List (List UInt8)} {k : Nat} (h : k < l.length) : (l.take (k + 1)).filter keepB = (l.take k).filter keepB ++ (if l[k] = [] then [] else [l[k]]) := by
  rw [List.take_succ_eq_append_getElem h, List.filter_append]
  congr 1
  by_cases hx : l[k] = []
  · rw [if_pos hx, hx]; rfl
  · rw [if_neg hx, List.filter_cons_of_pos]
    · rfl
    · cases hl : l[k] with
      | nil => exact absurd hl hx
      | cons a b => rfl
end Go.Proofs.YtjhcabjlhnhkbaaDoor
