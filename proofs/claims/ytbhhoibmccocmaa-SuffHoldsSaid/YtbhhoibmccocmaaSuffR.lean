/-
  What the arguments of the statements of layer 15 read as.
-/
import Derived.Test.YtbhhoibmccocmaaRows
import Derived.Test.YtbhhoibmccocmaaOpen
set_option linter.unusedVariables false
set_option linter.unusedSimpArgs false
namespace Go.Proofs.Ytbhhoibmccocmaa
open Go.ChangeShapes Go.WideShapes Go.ChangeAt Go.RowKit
theorem own : ownKnob Try.prog.godebug = none := by kernel_rfl
theorem laidOut : laidOutB Try.prog = true := by kernel_rfl
theorem op_strs : Opens Try.prog 22 1 (SlR 1 16 StrR) := opens_slice Try.underlying22 (by kernel_rfl) (by omega) (by kernel_rfl) (opens_str Try.underlying9)
theorem op_prs : Opens Try.prog 23 1 (SlR 2 32 PairR) := opens_slice Try.underlying23 (by kernel_rfl) (by omega) (by kernel_rfl) (opens_pair Try.underlying44 Try.underlying9 (by kernel_rfl) (by kernel_rfl))
section
variable {w : World} {H : Type} {enc : TypeId × Value → H} {d : DataW H} {ps : List MemPlace} {base : Nat}
theorem opT {v : Value} (h : DataW.Trod enc Try.prog w 0 (fun _ => true) true 25 v d ps) (hv : Value.okWide Try.prog w .any base 25 v) (hl : Light Try.prog 25 d) :
    ∃ SV WV s ways, v = .agg #[SV, WV] ∧ Strs w SV s ∧ Prs w WV ways := by
  obtain ⟨fuel, hf⟩ := h
  obtain ⟨cs, rfl, hcs⟩ := okWide_struct Try.underlying25 hv
  have o := opens_struct2 (P := Try.prog) (s0 := 1) (s1 := 1) Try.underlying25 rfl rfl (by kernel_rfl) (by kernel_rfl) (by kernel_rfl) op_strs op_prs
  obtain ⟨hlen, ⟨s, ways⟩, hs, hw⟩ := o _ _ _ _ _ _ _ _ hf hl
  obtain ⟨SV, eS, hS, _⟩ := SlR.strs hs
  obtain ⟨WV, eW, hW, _⟩ := SlR.prs hw
  refine ⟨SV, WV, s, ways, ?_, hS, hW⟩
  obtain ⟨l⟩ := cs
  match l, hlen with
  | [a, b], _ =>
    simp [Value.cells] at eS eW
    rw [eS, eW]
theorem opS {ad : Option Addr} {ln cp : Nat} (h : DataW.Trod enc Try.prog w 0 (fun _ => true) true 22 (.slice ad ln cp) d ps) (hl : Light Try.prog 22 d) :
    ∃ l, Strs w (.slice ad ln cp) l ∧ l.length * 16 ≤ 140737488351232 := by
  obtain ⟨fuel, hf⟩ := h
  obtain ⟨_, s, hs⟩ := op_strs _ _ _ _ _ _ _ _ hf hl
  obtain ⟨SV, eS, hS, hb, _⟩ := SlR.strs hs
  have e : SV = .slice ad ln cp := by simpa [Value.cells] using eS.symm
  subst e
  exact ⟨s, hS, hb⟩
theorem okWide_array' {P : Program} {r : Reach} {t e : TypeId} {n : Nat} {v : Value} (ht : P.underlying t = some (.array n e)) (h : Value.okWide P w r base t v) : ∃ cs, v = .agg cs := by
  simp only [Value.okWide, ht] at h
  obtain ⟨cs, h1, _⟩ := h
  exact ⟨cs, h1⟩
theorem opTwo {v : Value} (h : DataW.Trod enc Try.prog w 0 (fun _ => true) true 35 v d ps) (hv : Value.okWide Try.prog w .any base 35 v) (hl : Light Try.prog 35 d) :
    ∃ U0 U1 l0 l1, v = .agg #[U0, U1] ∧ Strs w U0 l0 ∧ Strs w U1 l1 ∧ l0.length * 16 ≤ 140737488351232 ∧ l1.length * 16 ≤ 140737488351232 := by
  obtain ⟨fuel, hf⟩ := h
  obtain ⟨cs, rfl⟩ := okWide_array' Try.underlying35 hv
  have o := opens_array2 (P := Try.prog) (sz := 1) Try.underlying35 (by kernel_rfl) (by kernel_rfl) op_strs
  obtain ⟨hlen, ⟨l0, l1⟩, hs, hw⟩ := o _ _ _ _ _ _ _ _ hf hl
  obtain ⟨U0, eS, hS, b0, _⟩ := SlR.strs hs
  obtain ⟨U1, eW, hW, b1, _⟩ := SlR.strs hw
  refine ⟨U0, U1, l0, l1, ?_, hS, hW, b0, b1⟩
  obtain ⟨l⟩ := cs
  match l, hlen with
  | [a, b], _ =>
    simp [Value.cells] at eS eW
    rw [eS, eW]
end
end Go.Proofs.Ytbhhoibmccocmaa
