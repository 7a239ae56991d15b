/-
  Layer 02 (path): the walks of Clean and of Join.
-/
import Derived.Test.YtjhcabjlhnhkbaaDoorPthG
import Derived.Test.YtjhcabjlhnhkbaaDoorPthD
import Derived.Lib.SliceRun
import Derived.Lib.Join
set_option linter.unusedVariables false
set_option linter.unusedSimpArgs false
namespace Go.Proofs.YtjhcabjlhnhkbaaDoor
open Go.RowKit

theorem lib_join : ∀ l : List (List UInt8), Lib.join l [47] = joinL l
  | [] => rfl
  | [x] => by rw [Lib.join_one]; rfl
  | x :: y :: r => by
    have ih := lib_join (y :: r)
    rw [Lib.join_cons] at ih ⊢
    rw [joinL, ← ih]
    simp [Lib.joinTail]
theorem pj_calls (V : Value) (l : List (List UInt8)) (w : World) (hV : Txts w V l) (hl : l.length ≤ 9000000) (hj : (joinL l).length ≤ 9000000) :
    Calls Tryd.prog 68 #[V, .string ⟨#[47]⟩] w fun e w' => e = .returned (.string (ofL (joinL l))) ∧ Mem none_ w [] w' := by
  obtain ⟨A, c, rfl, h1, h2, h3, h4⟩ := hV
  by_cases h0 : l.length = 0
  · have hn := List.length_eq_zero_iff.1 h0
    subst hn
    refine (Tryd.strings_Join_none A c ⟨#[47]⟩ w).mono ?_
    rintro e w' ⟨rfl, rfl⟩
    exact ⟨rfl, Mem.start _⟩
  · obtain ⟨b, o, rfl, hcells⟩ := h4.resolve_left h0
    have hc : ∀ (j : Nat) x, (l.map ofL)[j]? = some x → w.cell? ⟨b, o + j, none⟩ = some (.string x) := fun j x hx => hcells j _ (by unfold strs; rw [List.getElem?_map, hx]; rfl)
    have hb0 : b < w.heap.size := cell_lt (hcells 0 _ (tx_get (by omega)))
    have em : (l.map ofL).map (fun s => s.data.toList) = l := by
      rw [List.map_map]
      conv => rhs; rw [← List.map_id l]
      exact List.map_congr_left fun x _ => toL_of x
    have hlen : (Lib.join ((l.map ofL).map (·.data.toList)) (⟨#[47]⟩ : ByteArray).data.toList).length ≤ 140737488355328 := by
      rw [em]
      have := lib_join l
      show (Lib.join l [47]).length ≤ _
      rw [this]; omega
    have h := Tryd.strings_Join b o c (l.map ofL) ⟨#[47]⟩ w hc hb0 (by rw [List.length_map]; omega) (by rw [List.length_map]; omega) hlen
    rw [List.length_map] at h
    refine h.mono ?_
    rintro e w' ⟨rfl, hb⟩
    refine ⟨?_, (Mem.start _).keep (Mut.of_below hb)⟩
    rw [em]
    have := lib_join l
    show Ending.returned (.string (ofL (Lib.join l [47]))) = _
    rw [this]
set_option maxHeartbeats 2000000 in
theorem pclean_calls (s : List UInt8) (w : World) (hs : s.length ≤ 1200000) :
    Calls Tryd.prog 54 #[.string (ofL s)] w fun e w' => e = .returned (.string (ofL (cleanL s))) ∧ Mem none_ w [] w' := by
  have hp := pparts_calls s w hs
  have h1 := wt_parts s
  have h2 := join_wt (partsL s)
  have h3 := len_wt (partsL s)
  have hrt := fun wx => prooted_calls s wx
  unfold cleanL
  generalize rootedL s = r at *
  obtain ⟨J, hJ⟩ : ∃ J, joinL (partsL s) = J := ⟨_, rfl⟩
  rw [hJ] at h2 ⊢
  have hjn : ∀ V wx, Txts wx V (partsL s) → Calls Tryd.prog 68 #[V, .string ⟨#[47]⟩] wx fun e w' => e = .returned (.string (ofL J)) ∧ Mem none_ wx [] w' := fun V wx h => by
    have := pj_calls V (partsL s) wx h (by omega) (by rw [hJ]; omega)
    rwa [hJ] at this
  clear hJ
  obtain ⟨C, hC⟩ : ∃ C, (if r = true then 47 :: J else if J = [] then dotL else J) = C := ⟨_, rfl⟩
  rw [hC]
  have HC := Lib.hid hC
  clear hC
  go_enter Tryd.func54, Tryd.ntmps54
  go_wp2_with fail
  refine hp.mono ?_
  rintro e w1 ⟨v, rfl, HM1⟩
  have hj := hjn v w1 (Row.sl (HM1.at_ 0 rfl))
  have HM2 := HM1.sel [] (by decide)
  clear hp hjn HM1
  go_wp2_with fail
  refine hj.mono ?_
  rintro e w2 ⟨rfl, HMj⟩
  have HM3 := HM2.got HMj
  simp only [List.nil_append] at HM3
  have hr := hrt w2
  clear hj HM2 HMj hrt
  cases r with
  | true =>
    have HR : Hid (C = 47 :: J) := by unfold Hid; rw [← HC.out]; rfl
    clear HC
    have hap : ∀ wx, (Op.stringOp .add ⟨#[47]⟩ (ofL J)).run Tryd.prog wx = .ok (.string (ofL (47 :: J))) wx := add_run [47] J (by simp; omega)
    go_wp2_with fail
    refine hr.mono ?_
    rintro e w2 ⟨rfl, rfl⟩
    clear hr
    go_wp2_with fail
    go_ret
    exact ⟨by rw [HR.out]; rfl, HM3⟩
  | false =>
    have e0 := empty_eq J
    by_cases hj : J = []
    · rw [decide_eq_true hj] at e0
      have HR : Hid (C = dotL) := by unfold Hid; rw [← HC.out, if_neg (by decide), if_pos hj]
      clear hj
      go_wp2_with fail
      refine hr.mono ?_
      rintro e w2 ⟨rfl, rfl⟩
      clear hr
      go_wp2_with fail
      go_ret
      exact ⟨by rw [HR.out]; rfl, HM3⟩
    · rw [decide_eq_false hj] at e0
      have HR : Hid (C = J) := by unfold Hid; rw [← HC.out, if_neg (by decide), if_neg hj]
      clear hj
      go_wp2_with fail
      refine hr.mono ?_
      rintro e w2 ⟨rfl, rfl⟩
      clear hr
      go_wp2_with fail
      go_ret
      exact ⟨by rw [HR.out]; rfl, HM3⟩
end Go.Proofs.YtjhcabjlhnhkbaaDoor
