/-
  Layer 18 (stale): what the arguments of the statements read as.
-/
import Derived.Test.YtnpehlkdfbmnkaaDoorStlR
import Derived.Test.YtnpehlkdfbmnkaaDoorStlBk
set_option linter.unusedVariables false
set_option linter.unusedSimpArgs false
set_option maxRecDepth 20000
namespace Go.Proofs.YtnpehlkdfbmnkaaDoor
open Go.ChangeShapes Go.WideShapes Go.ChangeAt Go.RowKit
def encT (t : Int × ByteArray) : List Value := [.int .i64 t.1, .string t.2]
def TouR (_ : World) (t : Int × ByteArray) (cs : List Value) : Prop := cs = encT t ∧ t.2.size ≤ 140737488351232
theorem op_tou : Opens Tryd.prog 106 2 TouR :=
  (opens_struct2 (P := Tryd.prog) (s0 := 1) (s1 := 1) Tryd.underlying106 rfl rfl (by kernel_rfl) (by kernel_rfl) (by kernel_rfl) (opens_int Tryd.underlying3) (opens_str Tryd.underlying9)).imp id fun w p cs hl h => by
    match cs, hl with
    | [u, v], _ =>
      obtain ⟨⟨h1, _⟩, ⟨h2, h3⟩⟩ := h
      simp at h1 h2
      exact ⟨by simp [encT, h1, h2], h3⟩
theorem op_tous : Opens Tryd.prog 38 1 (SlR 2 24 TouR) := opens_slice Tryd.underlying38 (by kernel_rfl) (by omega) (by kernel_rfl) op_tou
def tou' (t : Int × ByteArray) : Tou := (t.1, toL t.2)
theorem tou_flat (l : List (Int × ByteArray)) : l.flatMap encT = tch (l.map tou') := by
  unfold tch
  rw [List.flatMap_map]
  have e : encT = fun t => [.int .i64 (tou' t).1, .string (ofL (tou' t).2)] := by
    funext t
    unfold encT tou'
    simp only [of_toL]
  rw [e]
section
variable {w : World} {H : Type} {enc : TypeId × Value → H} {d : DataW H} {ps : List MemPlace} {base : Nat}
theorem op_meta {v : Value} (h : DataW.Trod enc Tryd.prog w 0 (fun _ => true) true 52 v d ps) (hv : Value.okWide Tryd.prog w .any base 52 v) (hl : Light Tryd.prog 52 d) :
    ∃ CV TV cs ts, v = .agg #[CV, TV] ∧ MetaO w CV TV cs ts := by
  obtain ⟨fuel, hf⟩ := h
  obtain ⟨cs, rfl, hcs⟩ := okWide_struct Tryd.underlying52 hv
  have o := opens_struct2 (P := Tryd.prog) (s0 := 1) (s1 := 1) Tryd.underlying52 rfl rfl (by kernel_rfl) (by kernel_rfl) (by kernel_rfl) op_strs op_tous
  obtain ⟨hlen, ⟨s, g⟩, hs, hw⟩ := o _ _ _ _ _ _ _ _ hf hl
  obtain ⟨SV, eS, hS, _, hSl⟩ := SlR.strs hs
  obtain ⟨TV, eN, hN, hb, hr⟩ := SlR.flat (Q := fun t => t.2.size ≤ 140737488351232) (enc := encT) (fun _ => rfl) (fun _ _ _ h => h) hw
  refine ⟨SV, TV, s.map toL, g.map tou', ?_, ⟨strs_toL s hS, ?_, fun x hx => ?_, fun x hx => ?_⟩⟩
  · obtain ⟨l⟩ := cs
    match l, hlen with
    | [a, b], _ =>
      simp [Value.cells] at eS eN
      rw [eS, eN]
  · unfold Tous
    rw [List.length_map, ← tou_flat]; exact hN
  · obtain ⟨y, hy, rfl⟩ := List.mem_map.1 hx
    rw [toL_len]; exact hSl y hy
  · obtain ⟨y, hy, rfl⟩ := List.mem_map.1 hx
    show (toL y.2).length ≤ _
    rw [toL_len]; exact hr y hy
end
end Go.Proofs.YtnpehlkdfbmnkaaDoor
