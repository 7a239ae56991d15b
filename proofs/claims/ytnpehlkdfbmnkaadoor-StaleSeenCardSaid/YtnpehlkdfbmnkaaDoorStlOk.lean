/-
  Layer 18 (stale): what the questions read as.
-/
import Derived.Test.YtnpehlkdfbmnkaaDoorStlO
import Derived.Test.YtnpehlkdfbmnkaaDoorStlOn
import Derived.Test.YtnpehlkdfbmnkaaDoorStlSn
set_option linter.unusedVariables false
set_option linter.unusedSimpArgs false
set_option maxRecDepth 20000
namespace Go.Proofs.YtnpehlkdfbmnkaaDoor
open Go.ChangeShapes Go.WideShapes Go.ChangeAt Go.RowKit
def AskR (w : World) (x : Value × List (List UInt8) × Int × List UInt8) (cs : List Value) : Prop := cs = [x.1, .int .i64 x.2.2.1, .string (ofL x.2.2.2)] ∧ AskO w x.1 x.2.1 x.2.2.2
theorem op_ak : Opens Tryd.prog 69 3 AskR := by
  intro H enc w sp held fuel cs x h hx
  have ht := Tryd.underlying69
  have hc : cs.length = 3 := by
    obtain ⟨_, _, _, _, hl, _⟩ := DataW.trod_struct ht h
    rw [hl]; kernel_rfl
  obtain ⟨a0, h0⟩ := opens_field ht h hx 0 rfl (by kernel_rfl) op_strs
  obtain ⟨a1, h1⟩ := opens_field ht h hx 1 rfl (by kernel_rfl) (opens_int Tryd.underlying3)
  obtain ⟨a2, h2⟩ := opens_field ht h hx 2 rfl (by kernel_rfl) (opens_str Tryd.underlying9)
  obtain ⟨v0, e0, s0, b0, l0⟩ := SlR.strs h0
  have e1 := h1.1
  have e2 := h2.1
  have b2 := h2.2
  refine ⟨hc, ⟨v0, a0.map toL, a1, toL a2⟩, ?_, ⟨strs_toL a0 s0, by show (toL a2).length ≤ _; rw [toL_len]; exact b2⟩⟩
  match cs, hc with
  | [c0, c1, c2], _ =>
    simp at e0 e1 e2
    subst e0 e1 e2
    simp [of_toL]
section
variable {w : World} {H : Type} {enc : TypeId × Value → H} {d : DataW H} {ps : List MemPlace} {base : Nat}
theorem op_ask {v : Value} (h : DataW.Trod enc Tryd.prog w 0 (fun _ => true) true 69 v d ps) (hv : Value.okWide Tryd.prog w .any base 69 v) (hl : Light Tryd.prog 69 d) :
    ∃ KV ks at_ nm, v = .agg #[KV, .int .i64 at_, .string (ofL nm)] ∧ AskO w KV ks nm := by
  obtain ⟨fuel, hf⟩ := h
  obtain ⟨cs, rfl, hcs⟩ := okWide_struct Tryd.underlying69 hv
  obtain ⟨hlen, ⟨KV, ks, at_, nm⟩, e, o⟩ := op_ak _ _ _ _ _ _ _ _ hf hl
  refine ⟨KV, ks, at_, nm, ?_, o⟩
  have e' : cs.toList = (#[KV, .int .i64 at_, .string (ofL nm)] : Array Value).toList := e
  rw [Array.toList_inj.1 e']
end
end Go.Proofs.YtnpehlkdfbmnkaaDoor
