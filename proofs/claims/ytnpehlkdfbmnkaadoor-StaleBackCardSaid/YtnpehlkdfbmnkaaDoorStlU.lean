/-
  Layer 18 (stale): cutting, telling, meaning.
-/
import Derived.Test.YtnpehlkdfbmnkaaDoorStlW
import Derived.Test.YtnpehlkdfbmnkaaDoorStlQ
import Derived.Test.YtnpehlkdfbmnkaaDoorPthC
set_option linter.unusedVariables false
set_option linter.unusedSimpArgs false
set_option maxRecDepth 20000
namespace Go.Proofs.YtnpehlkdfbmnkaaDoor
open Go.RowKit

/-- The library's own variable (how long a text is searched at once) reads as a number. -/
abbrev MaxV (w : World) : Prop := ∃ m, w.cell? ⟨0, 0, none⟩ = some (.int .i64 m)
theorem MaxV.pure {w w' : World} (h : Pure w w') (hm : MaxV w) : MaxV w' := by
  obtain ⟨m, hm⟩ := hm
  exact ⟨m, h.cell hm⟩
theorem toList_ofL (s : List UInt8) : (ofL s).data.toList = s := by simp [ofL]
theorem cut_none (s : List UInt8) (c : UInt8) (w : World) (hm : MaxV w) (hs : s.length ≤ 4000000000) (h : cutB c s = none) :
    Calls Tryd.prog 58 #[.string (ofL s), .string ⟨#[c]⟩] w fun e w' => e = .returned (.tuple #[.string (ofL s), .string ⟨#[]⟩, .bool false]) ∧ ∃ n, w' = w.drewN n := by
  obtain ⟨m, hm⟩ := hm
  refine (Tryd.strings_Cut (ofL s) (ofL [c]) m w (by rw [ofL_size]; omega) hm).mono ?_
  rintro e w' ⟨rfl, n, rfl⟩
  refine ⟨?_, n, rfl⟩
  rw [toList_ofL, toList_ofL, cut_one, h]; rfl
theorem cut_some (s : List UInt8) (c : UInt8) (a b : List UInt8) (w : World) (hm : MaxV w) (hs : s.length ≤ 4000000000) (h : cutB c s = some (a, b)) :
    Calls Tryd.prog 58 #[.string (ofL s), .string ⟨#[c]⟩] w fun e w' => e = .returned (.tuple #[.string (ofL a), .string (ofL b), .bool true]) ∧ ∃ n, w' = w.drewN n := by
  obtain ⟨m, hm⟩ := hm
  refine (Tryd.strings_Cut (ofL s) (ofL [c]) m w (by rw [ofL_size]; omega) hm).mono ?_
  rintro e w' ⟨rfl, n, rfl⟩
  refine ⟨?_, n, rfl⟩
  rw [toList_ofL, toList_ofL, cut_one, h]; rfl
def repB (c : UInt8) (r : List UInt8) (x : UInt8) : List UInt8 := if x = c then r else [x]
theorem rep_len (c : UInt8) (r : List UInt8) (hr : r.length ≤ 2) (hr1 : 1 ≤ r.length) : ∀ s : List UInt8, (s.flatMap (repB c r)).length ≤ 2 * s.length
  | [] => by simp
  | x :: s => by
    have := rep_len c r hr hr1 s
    rw [List.flatMap_cons, List.length_append, List.length_cons]
    have : (repB c r x).length ≤ 2 := by
      unfold repB
      split
      · exact hr
      · simp
    omega
theorem replace_calls (s : List UInt8) (c : UInt8) (r : List UInt8) (w : World) (hm : MaxV w) (hs : s.length ≤ 4000000000) (hr : r.length = 2) :
    Calls Tryd.prog 51 #[.string (ofL s), .string ⟨#[c]⟩, .string (ofL r)] w fun e w' => e = .returned (.string (ofL (s.flatMap (repB c r)))) ∧ Pure w w' := by
  obtain ⟨m, hm⟩ := hm
  have hc := Lib.countB_le (ofL [c]) (by rw [ofL_size]; exact Nat.le_refl _) _ (ofL s) (Nat.le_refl _)
  rw [ofL_size] at hc
  refine (Tryd.strings_ReplaceAll (ofL s) (ofL [c]) (ofL r) m w (by rw [ofL_size]; omega) hm (by rw [ofL_size]; exact Nat.le_refl _) ?_).mono ?_
  · rw [ofL_size, ofL_size, hr]; omega
  · rintro e w' ⟨rfl, hb⟩
    refine ⟨?_, Mut.of_below hb⟩
    rw [toList_ofL, toList_ofL, toList_ofL, replaceAll_one _ _ _ (by intro e; rw [e] at hr; simp at hr)]; rfl
theorem tell_rep (s : List UInt8) : (s.flatMap (repB 92 [92, 92])).flatMap (repB 10 [92, 110]) = tellL s := by
  unfold tellL
  rw [List.flatMap_assoc]
  congr 1
  funext c
  unfold repB escB
  by_cases h : c = 92
  · rw [if_pos h, if_pos h]; rfl
  · rw [if_neg h, if_neg h]; simp
theorem told_calls (s : List UInt8) (w : World) (hm : MaxV w) (hs : s.length ≤ 1000000000) :
    Calls Tryd.prog 53 #[.string (ofL s)] w fun e w' => e = .returned (.string (ofL (tellL s))) ∧ Pure w w' := by
  have h1 := replace_calls s 92 [92, 92] w hm (by omega) rfl
  have hl := rep_len 92 [92, 92] (Nat.le_refl _) (by decide) s
  have h2 := fun wx (hx : Pure w wx) => replace_calls (s.flatMap (repB 92 [92, 92])) 10 [92, 110] wx (MaxV.pure hx hm) (by omega) rfl
  rw [tell_rep] at h2
  generalize s.flatMap (repB 92 [92, 92]) = t at *
  generalize tellL s = u at *
  clear hl hm
  go_enter Tryd.func53, Tryd.ntmps53
  go_wp2_with fail
  refine h1.mono ?_
  rintro e w1 ⟨rfl, hp1⟩
  have h2' := h2 w1 hp1
  clear h1 h2
  go_wp2_with fail
  refine h2'.mono ?_
  rintro e w2 ⟨rfl, hp2⟩
  clear h2'
  go_wp2_with fail
  go_ret
  exact ⟨rfl, hp1.trans hp2⟩
end Go.Proofs.YtnpehlkdfbmnkaaDoor
