/-
  What the arguments of layer 02's statements read as.
-/
import Derived.Test.YtjhcabjlhnhkbaaDoorOpen
import Derived.Test.YtjhcabjlhnhkbaaDoorPthC
set_option linter.unusedVariables false
set_option linter.unusedSimpArgs false
set_option maxRecDepth 20000
namespace Go.Proofs.YtjhcabjlhnhkbaaDoor
open Go.ChangeShapes Go.WideShapes Go.ChangeAt Go.RowKit
theorem own : ownKnob Tryd.prog.godebug = none := by kernel_rfl
theorem laidOut : laidOutB Tryd.prog = true := by kernel_rfl
theorem op_strs : Opens Tryd.prog 37 1 (SlR 1 16 StrR) := opens_slice Tryd.underlying37 (by kernel_rfl) (by omega) (by kernel_rfl) (opens_str Tryd.underlying9)
section
variable {w : World} {H : Type} {enc : TypeId × Value → H} {d : DataW H} {ps : List MemPlace} {base : Nat}
theorem op_text {v : Value} (h : DataW.Trod enc Tryd.prog w 0 (fun _ => true) true 9 v d ps) (hv : Value.okWide Tryd.prog w .any base 9 v) (hl : Light Tryd.prog 9 d) :
    ∃ s : List UInt8, v = .string (ofL s) ∧ s.length ≤ 140737488351232 := by
  obtain ⟨s, rfl, _, _, _⟩ := Go.ChangeMaps.open_string Tryd.underlying9 hv h
  obtain ⟨fuel, hf⟩ := h
  obtain ⟨_, s', e1, hs⟩ := opens_str Tryd.underlying9 _ _ _ _ _ _ _ _ hf hl
  have e : s = s' := by simpa [Value.cells] using e1
  subst e
  refine ⟨toL s, by rw [of_toL], ?_⟩
  have : (toL s).length = s.size := by rw [← ofL_size, of_toL]
  omega
theorem op_texts {v : Value} (h : DataW.Trod enc Tryd.prog w 0 (fun _ => true) true 37 v d ps) (hv : Value.okWide Tryd.prog w .any base 37 v) (hl : Light Tryd.prog 37 d) :
    ∃ l : List (List UInt8), Txts w v l ∧ l.length ≤ 140737488351232 := by
  obtain ⟨ad, ln, cp, rfl⟩ := okWide_slice Tryd.underlying37 hv
  obtain ⟨fuel, hf⟩ := h
  obtain ⟨_, s, hs⟩ := op_strs _ _ _ _ _ _ _ _ hf hl
  obtain ⟨SV, eS, hS, hb, _⟩ := SlR.strs hs
  have e : SV = .slice ad ln cp := by simpa [Value.cells] using eS.symm
  subst e
  refine ⟨s.map toL, ?_, by rw [List.length_map]; omega⟩
  rw [← Txts.eq, List.map_map]
  have em : s.map (ofL ∘ toL) = s := by
    conv => rhs; rw [← List.map_id s]
    exact List.map_congr_left fun x _ => of_toL x
  rw [em]; exact hS
end
end Go.Proofs.YtjhcabjlhnhkbaaDoor
