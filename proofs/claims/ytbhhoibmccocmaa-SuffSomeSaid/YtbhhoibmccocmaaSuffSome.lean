/-
  SuffSome: there is a chain just if something that can be reached is there; no name is reached twice, or is the name itself: true at every input, with no condition.
-/
import Derived.Test.YtbhhoibmccocmaaRows
import Derived.Test.YtbhhoibmccocmaaSuffI
import Derived.Test.YtbhhoibmccocmaaOpen
set_option linter.unusedVariables false
set_option linter.unusedSimpArgs false
namespace Go.Proofs.Ytbhhoibmccocmaa
open Go.ChangeShapes Go.WideShapes Go.ChangeAt Go.RowKit
open Go.ChangeMaps (open_string shut_string)
namespace SomeRow
theorem own : ownKnob Try.prog.godebug = none := by kernel_rfl
theorem laidOut : laidOutB Try.prog = true := by kernel_rfl
theorem opT {w : World} {H : Type} {enc : TypeId × Value → H} {v : Value} {d : DataW H} {ps : List MemPlace} (h : DataW.Trod enc Try.prog w 0 (fun _ => true) true 25 v d ps) {base : Nat} (hv : Value.okWide Try.prog w .any base 25 v) :
    ∃ SV WV s ways, v = .agg #[SV, WV] ∧ Strs w SV s ∧ Prs w WV ways := by
  obtain ⟨fuel, hf⟩ := h
  obtain ⟨cs, rfl, hcs⟩ := okWide_struct Try.underlying25 hv
  obtain ⟨y0, y1, n, _, hl, k0, k1⟩ := trod_struct2 Try.underlying25 hf
  have o0 := opens_slice (P := Try.prog) (t := 22) Try.underlying22 (by kernel_rfl) (by omega) (opens_str (P := Try.prog) Try.underlying9)
  have o1 := opens_slice (P := Try.prog) (t := 23) Try.underlying23 (by kernel_rfl) (by omega) (opens_pair (P := Try.prog) (t := 44) Try.underlying44 Try.underlying9 (by kernel_rfl) (by kernel_rfl))
  obtain ⟨_, s, hs⟩ := o0 _ _ _ _ _ _ _ _ k0
  obtain ⟨_, ways, hw⟩ := o1 _ _ _ _ _ _ _ _ k1
  obtain ⟨SV, eS, hS, _⟩ := SlR.strs hs
  obtain ⟨WV, eW, hW⟩ := SlR.prs hw
  refine ⟨SV, WV, s, ways, ?_, hS, hW⟩
  have hl2 : cs.size = 2 := by rw [hcs]; kernel_rfl
  have c0 : Try.prog.cellsOf 22 = 1 := by kernel_rfl
  have c1 : Try.prog.cellsOf 23 = 1 := by kernel_rfl
  obtain ⟨l⟩ := cs
  match l, hl2 with
  | [a, b], _ =>
    simp [Value.cells, c0] at eS
    simp [Value.cells, c1] at eW
    rw [eS, eW]
theorem opS {w : World} {H : Type} {enc : TypeId × Value → H} {v : Value} {d : DataW H} {ps : List MemPlace} (h : DataW.Trod enc Try.prog w 0 (fun _ => true) true 22 v d ps) :
    ∃ TV l, v.cells.toList = [TV] ∧ Strs w TV l := by
  obtain ⟨fuel, hf⟩ := h
  have o0 := opens_slice (P := Try.prog) (t := 22) Try.underlying22 (by kernel_rfl) (by omega) (opens_str (P := Try.prog) Try.underlying9)
  obtain ⟨_, s, hs⟩ := o0 _ _ _ _ _ _ _ _ hf
  obtain ⟨SV, eS, hS, _⟩ := SlR.strs hs
  exact ⟨SV, s, eS, hS⟩
set_option maxRecDepth 100000 in
theorem lifted (os : Os) (started : os.Started) (H : Type) (enc : TypeId × Value → H) :
    ReturnsInHanded {} Try.checked os 5 .any (Rows.suffSomeSpec.pre6 enc Try.prog Try.f5 Rows.suffSomeRow.domain false) (Rows.suffSomeSpec.post enc Try.prog Try.f5 false true false false) := by
  refine returnsInHanded_of_change (C := Try.checked) own started (by kernel_rfl) Try.func5
    (ChangeSpec.witness6 (enc := enc) (C := Try.checked) false ⟨#[], #[.agg #[.slice none 0 0, .slice none 0 0], .string ByteArray.empty, .slice none 0 0], []⟩ 8 (by kernel_rfl) (by kernel_rfl) (by kernel_rfl) (by kernel_rfl)) ?_
  intro W base args ds gs before hval0 hW hcnd _
  have hval : ∀ (j : Nat) t v, Try.f5.params[j]? = some t → args[j]? = some v → Value.okWide Try.prog W .any base t v := hval0
  have hW' := hW
  obtain ⟨p, q, hA0, hV, rfl, hfz, hnd⟩ := hW
  have hA : DataW.TrodAll enc Try.prog W 0 (fun _ => true) true Try.f5.params.toList args.toList ds p := hA0
  rw [Try.params5] at hA hval
  obtain ⟨v0, vs0, d0, ds0, p0, q0, hargs, rfl, rfl, h0, r0⟩ := trodAll_cons hA
  obtain ⟨v1, vs1, d1, ds1, p1, q1, rfl, rfl, rfl, h1, r1⟩ := trodAll_cons r0
  obtain ⟨v2, vs2, d2, ds2, p2, q2, rfl, rfl, rfl, h2, r2⟩ := trodAll_cons r1
  obtain ⟨rfl, rfl, rfl⟩ := trodAll_nil r2
  obtain rfl : args = #[v0, v1, v2] := by cases args; simp_all
  obtain ⟨rfl, rfl⟩ := trodVars_none hV
  have lt0 : ∀ x ∈ p0, x.block < W.heap.size := by obtain ⟨m, hm⟩ := h0; exact DataW.trod_lt m _ _ _ hm
  have lt1 : ∀ x ∈ p1, x.block < W.heap.size := by obtain ⟨m, hm⟩ := h1; exact DataW.trod_lt m _ _ _ hm
  have lt2 : ∀ x ∈ p2, x.block < W.heap.size := by obtain ⟨m, hm⟩ := h2; exact DataW.trod_lt m _ _ _ hm
  obtain ⟨SV, WV, s, ways, rfl, hS, hWy⟩ := opT h0 (hval 0 25 v0 rfl rfl)
  obtain ⟨a1, e1, _, _, y1⟩ := open_string Try.underlying9 (hval 1 9 v1 rfl rfl) h1
  subst e1
  obtain ⟨TV, there, e2, hT⟩ := opS h2
  obtain ⟨ad, ln, cp, e3⟩ := okWide_slice Try.underlying22 (hval 2 22 v2 rfl rfl)
  subst e3
  have e4 : TV = .slice ad ln cp := by simpa [Value.cells] using e2.symm
  subst e4
  clear hA0 hval0
  unfold maxLen at y1
  refine (some_calls _ _ _ s ways a1 there W hS hWy hT (by omega)).mono fun e W' ⟨he, hM⟩ => ?_
  have bel := hM.below
  subst he
  exact ⟨_, rfl, _, _, _, [], _, [], hW', trodAll_mk1 (shut_bool Try.underlying4 _), trodAll_cons_mk (Below.trod laidOut (by kernel_rfl) (of_decide_eq_true (by kernel_rfl)) h0 bel lt0) (trodAll_cons_mk (Below.trod laidOut (by kernel_rfl) (of_decide_eq_true (by kernel_rfl)) h1 bel lt1) (trodAll_cons_mk (Below.trod laidOut (by kernel_rfl) (of_decide_eq_true (by kernel_rfl)) h2 bel lt2) trodAll_mk0)), rfl, bel.frame _, fun h => by cases h⟩
theorem some_holds : Rows.SuffSomeSaid :=
  OpenClaim.holds_of_wide 5 Try.f5 rfl rfl rfl rfl rfl rfl rfl ⟨rfl, rfl, rfl, rfl, rfl⟩ rfl rfl rfl rfl rfl (by kernel_rfl) Try.func5 (by kernel_rfl)
    (of_decide_eq_true (by kernel_rfl)) (by unfold Func.isWrapper; first | (rw [if_pos (by decide +kernel)]; kernel_rfl) | (rw [if_neg (by decide +kernel)]; exact ⟨rfl, rfl⟩))
    (fun os started H enc _ => lifted os started H enc)

end SomeRow
end Go.Proofs.Ytbhhoibmccocmaa
