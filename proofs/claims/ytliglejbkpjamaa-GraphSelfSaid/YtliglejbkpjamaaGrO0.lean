/-
  Layer 16 (graph): what the arguments of the statements read as.
-/
import Derived.Test.YtliglejbkpjamaaRows
import Derived.Test.YtliglejbkpjamaaOpen
set_option linter.unusedVariables false
set_option linter.unusedSimpArgs false
namespace Go.Proofs.Ytliglejbkpjamaa
open Go.ChangeShapes Go.WideShapes Go.ChangeAt Go.RowKit
theorem own : ownKnob Try.prog.godebug = none := by kernel_rfl
theorem laidOut : laidOutB Try.prog = true := by kernel_rfl
theorem u8_range {n : Int} (h : (Lit.int .u8 n).wf = true) : 0 ≤ n ∧ n < 256 := by
  simp only [Lit.wf, Bool.and_eq_true, decide_eq_true_eq] at h
  have a : IntKind.u8.min = 0 := by rfl
  have b : IntKind.u8.max = 255 := by rfl
  rw [a, b] at h
  omega
end Go.Proofs.Ytliglejbkpjamaa
