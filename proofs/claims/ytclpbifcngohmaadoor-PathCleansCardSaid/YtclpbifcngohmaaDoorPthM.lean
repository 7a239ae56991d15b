/-
  Layer 02 (path): the walk of PathCleans.
-/
import Derived.Test.YtclpbifcngohmaaDoorPthL
set_option linter.unusedVariables false
set_option linter.unusedSimpArgs false
namespace Go.Proofs.YtclpbifcngohmaaDoor
open Go.RowKit

theorem wt_far : ∀ {l : List (List UInt8)}, farB l = false → wt l ≤ 3001 * l.length
  | [], _ => by simp [wt]
  | x :: l, h => by
    unfold farB at h
    rw [List.any_cons, Bool.or_eq_false_iff, decide_eq_false_iff_not] at h
    have ih := wt_far (l := l) h.2
    rw [wt_cons, List.length_cons]; omega
set_option maxHeartbeats 4000000 in
theorem cleans_calls (p : List UInt8) (V : Value) (l : List (List UInt8)) (w : World) (hp : p.length ≤ 140737488351232) (hV : Txts w V l) (hl : l.length ≤ 140737488351232) :
    Calls Tryd.prog 3 #[.string (ofL p), V] w fun e w' => e = .returned (.bool true) ∧ Mem none_ w [] w' := by
  have HM0 : Mem none_ w [TRow (.slice (some ⟨w.heap.size, 0, none⟩) 1 1) [p]] (w.alloc (.cells #[.string (ofL p)] 9)) := (Mem.start (fp := none_) w).litT [p] (by simp)
  have hF := far_calls (.slice (some ⟨w.heap.size, 0, none⟩) 1 1) [p] _ (Row.sl HM0.head) (by simp)
  have HM := HM0.sel [] (by decide)
  clear HM0
  obtain ⟨A, c, rfl, n1, n2⟩ := Sl.any_ hV
  unfold maxLen at n2
  have hVm := fun wx (h : Mem none_ w [] wx) => hV.pure h.mu
  have hG := fun wx (h : Mem none_ w [] wx) => far_calls (.slice A l.length c) l wx (hVm wx h) hl
  by_cases hall : farB [p] = false ∧ farB l = false ∧ l.length ≤ 50
  · obtain ⟨hf1, hf2, hl50⟩ := hall
    rw [hf1] at hF
    rw [hf2] at hG
    have hb := far_one hf1
    have hwt := wt_far hf2
    have d1 : decide (50 < (l.length : Int)) = false := decide_eq_false (by omega)
    have d1' : decide (50 < l.length) = false := decide_eq_false (by omega)
    have hC1 := fun wx => pclean_calls p wx (by omega)
    have hC2 := fun wx => rclean_calls p wx (by omega)
    have hP1 := fun wx => pparts_calls p wx (by omega)
    have hP2 := fun wx => rparts_calls p wx (by omega)
    have hJ1 := fun wx (h : Mem none_ w [] wx) => pjoin_calls (.slice A l.length c) l wx (hVm wx h) (by omega)
    have hJ2 := fun wx (h : Mem none_ w [] wx) => rjoin_calls (.slice A l.length c) l wx (hVm wx h) (by omega)
    clear hf1 hf2 hwt hVm hV
    generalize cleanL p = cl at *
    generalize partsL p = P at *
    generalize JoinL l = J at *
    have e1 := lit_self cl
    have e2 := lit_self J
    go_enter Tryd.func3, Tryd.ntmps3
    go_wp2_with fail
    refine hF.mono ?_
    rintro e w1 ⟨rfl, rfl⟩
    clear hF
    generalize w.alloc _ = W1 at *
    have hG1 := hG W1 HM
    clear hG
    go_wp2_with fail
    refine hG1.mono ?_
    rintro e w1 ⟨rfl, rfl⟩
    clear hG1
    go_wp2_with fail
    refine (hC1 _).mono ?_
    rintro e w2 ⟨rfl, HM2⟩
    have HM3 := HM.got HM2
    simp only [List.nil_append] at HM3
    clear HM HM2 hC1
    go_wp2_with fail
    refine (hC2 _).mono ?_
    rintro e w3 ⟨rfl, HM4⟩
    have HM5 := HM3.got HM4
    simp only [List.nil_append] at HM5
    clear HM3 HM4 hC2
    go_wp2_with fail
    refine (hP1 _).mono ?_
    rintro e w4 ⟨v1, rfl, HM6⟩
    have HM7 := HM5.got HM6
    clear HM5 HM6 hP1
    go_wp2_with fail
    refine (hP2 _).mono ?_
    rintro e w5 ⟨v2, rfl, HM8⟩
    have HM9 : Mem none_ w [TRow v2 P, TRow v1 P] w5 := HM7.got HM8
    clear HM7 HM8 hP2
    have hS := sameT_calls v1 v2 P P w5 (Row.sl (HM9.at_ 1 rfl)) (Row.sl (HM9.at_ 0 rfl))
    rw [decide_eq_true rfl] at hS
    go_wp2_with fail
    refine hS.mono ?_
    rintro e w6 ⟨rfl, HM10⟩
    have HM11 := (HM9.got HM10).sel [] (by decide)
    have hJ1' := hJ1 _ HM11
    clear HM9 HM10 hS hJ1
    go_wp2_with fail
    refine hJ1'.mono ?_
    rintro e w7 ⟨rfl, HM12⟩
    have HM13 := HM11.got HM12
    simp only [List.nil_append] at HM13
    have hJ2' := hJ2 _ HM13
    clear HM11 HM12 hJ1' hJ2
    go_wp2_with fail
    refine hJ2'.mono ?_
    rintro e w8 ⟨rfl, HM14⟩
    have HM15 := HM13.got HM14
    simp only [List.nil_append] at HM15
    clear HM13 HM14 hJ2'
    go_wp2_with fail
    refine (alive_calls _).mono ?_
    rintro e w9 ⟨rfl, HM16⟩
    have HM17 := HM15.got HM16
    simp only [List.nil_append] at HM17
    clear HM15 HM16
    go_wp2_with fail
    go_ret
    exact ⟨rfl, HM17⟩
  · clear hV
    cases hf1 : farB [p] with
    | true =>
      rw [hf1] at hF
      clear hf1 hG hVm hall
      go_enter Tryd.func3, Tryd.ntmps3
      go_wp2_with fail
      refine hF.mono ?_
      rintro e w1 ⟨rfl, rfl⟩
      clear hF
      generalize w.alloc _ = W1 at *
      go_wp2_with fail
      refine (alive_calls _).mono ?_
      rintro e w2 ⟨rfl, HM2⟩
      have HM3 := HM.got HM2
      simp only [List.nil_append] at HM3
      clear HM HM2
      go_wp2_with fail
      go_ret
      exact ⟨rfl, HM3⟩
    | false =>
      rw [hf1] at hF
      cases hf2 : farB l with
      | true =>
        rw [hf2] at hG
        clear hf1 hf2 hVm hall
        go_enter Tryd.func3, Tryd.ntmps3
        go_wp2_with fail
        refine hF.mono ?_
        rintro e w1 ⟨rfl, rfl⟩
        clear hF
        generalize w.alloc _ = W1 at *
        have hG1 := hG W1 HM
        clear hG
        go_wp2_with fail
        refine hG1.mono ?_
        rintro e w1 ⟨rfl, rfl⟩
        clear hG1
        go_wp2_with fail
        refine (alive_calls _).mono ?_
        rintro e w2 ⟨rfl, HM2⟩
        have HM3 := HM.got HM2
        simp only [List.nil_append] at HM3
        clear HM HM2
        go_wp2_with fail
        go_ret
        exact ⟨rfl, HM3⟩
      | false =>
        rw [hf2] at hG
        have hl50 : 50 < l.length := by
          refine Nat.lt_of_not_le fun h => hall ⟨hf1, hf2, h⟩
        have d1 : decide (50 < (l.length : Int)) = true := decide_eq_true (by omega)
        have d1' : decide (50 < l.length) = true := decide_eq_true hl50
        clear hf1 hf2 hVm hall
        go_enter Tryd.func3, Tryd.ntmps3
        go_wp2_with fail
        refine hF.mono ?_
        rintro e w1 ⟨rfl, rfl⟩
        clear hF
        generalize w.alloc _ = W1 at *
        have hG1 := hG W1 HM
        clear hG
        go_wp2_with fail
        refine hG1.mono ?_
        rintro e w1 ⟨rfl, rfl⟩
        clear hG1
        go_wp2_with fail
        refine (alive_calls _).mono ?_
        rintro e w2 ⟨rfl, HM2⟩
        have HM3 := HM.got HM2
        simp only [List.nil_append] at HM3
        clear HM HM2
        go_wp2_with fail
        go_ret
        exact ⟨rfl, HM3⟩
end Go.Proofs.YtclpbifcngohmaaDoor
