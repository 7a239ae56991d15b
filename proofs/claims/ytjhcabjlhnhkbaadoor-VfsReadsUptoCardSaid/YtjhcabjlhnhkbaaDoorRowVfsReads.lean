/-
  VfsReads: what is written is read, and no other file turns: true where what is read is of bulk at most 1048576.
-/
import Derived.Test.YtjhcabjlhnhkbaaDoorVfsRd
import Derived.Test.YtjhcabjlhnhkbaaDoorVfsO
import Derived.Test.YtjhcabjlhnhkbaaDoorRows
import Derived.Test.YtjhcabjlhnhkbaaDoorCards
import Derived.Test.YtjhcabjlhnhkbaaDoorTie
import Derived.ProofKit
import Derived.OpenShut
import Derived.LaidMore
import Derived.Lay
import Derived.SevenTiedAt
import Derived.Stop.Joined
import Derived.Deep.DeepHandedRow
set_option linter.unusedVariables false
set_option linter.unusedSimpArgs false
namespace Go.Proofs.YtjhcabjlhnhkbaaDoor
open Go.ChangeShapes Go.WideShapes Go.ChangeAt Go.RowKit
open Go.ChangeMaps (open_string shut_string)
namespace VfsReadsRow
theorem part_le {H : Type} {d : DataW H} {l : List (DataW H)} (h : d ∈ l) : Rows.uptoBulk d ≤ Rows.uptoBulkAll l := by
  induction l with
  | nil => cases h
  | cons x r ih =>
    simp only [Rows.uptoBulkAll]
    cases List.mem_cons.1 h with
    | inl e => subst e; omega
    | inr e => have := ih e; omega
theorem act_bulk {H : Type} {enc : TypeId × Value → H} {w : World} {d : DataW H} {ps : List MemPlace} {a : ActS} (h : DataW.Trod enc Tryd.prog w 0 (fun _ => true) true 30 (.agg (actC a)) d ps) : a.p.length + 2 ≤ Rows.uptoBulk d := by
  obtain ⟨fuel, hf⟩ := h
  obtain ⟨xs, n, rfl, e, hlen, hxs, hall⟩ := DataW.trod_struct Tryd.underlying30 hf
  obtain ⟨rfl, rfl⟩ := Prod.mk.inj e
  have h1 := hall 1 _ rfl
  have hi : 1 < xs.length := by rw [hxs]; exact of_decide_eq_true (by kernel_rfl)
  rw [List.getElem?_eq_getElem hi] at h1
  obtain ⟨s, e1, e2, _⟩ := DataW.trod_string Tryd.underlying9 h1
  have e3 : s = ofL a.p := by
    have hc1 : Tryd.prog.cellsOf 9 = 1 := by kernel_rfl
    have e5 := e1
    change List.take (Tryd.prog.cellsOf 9) (List.drop 1 _) = _ at e5
    rw [show (Tryd.prog.cellsOf 9) = 1 from hc1] at e5
    simp [Value.cells, actC] at e5
    exact e5.symm
  have hm : (xs[1]).1 ∈ xs.map (·.1) := List.mem_map_of_mem (List.getElem_mem hi)
  have h2 := part_le hm
  rw [e2] at h2
  have e4 : Rows.uptoBulk (DataW.lit (H := H) (.string s.data.toList)) = a.p.length + 1 := by
    rw [e3]
    simp [Rows.uptoBulk, ofL]
  have h3 : Rows.uptoBulk (DataW.agg (xs.map (·.1))) = Rows.uptoBulkAll (xs.map (·.1)) + 1 := by simp only [Rows.uptoBulk]
  show _ ≤ Rows.uptoBulk (DataW.agg (xs.map (·.1)))
  rw [h3]
  have h4 : a.p.length + 1 ≤ Rows.uptoBulkAll (xs.map (·.1)) := by rw [← e4]; exact h2
  omega
abbrev wit : Array Value := #[.int .i64 0, .slice none 0 0, .agg #[.int .u8 0, .string ⟨#[]⟩, .string ⟨#[]⟩, .string ⟨#[]⟩, .int .i64 0]]
theorem reads (os : Os) {H : Type} (enc : TypeId × Value → H) : ∃ places, DataW.whole enc Tryd.prog ((World.laidAll Tryd.prog os Rows.vfsReadsUptoRow.laid).forCall (fun _ _ => 0) ⟨#[], wit, []⟩).memory Tryd.f4.params.toList Rows.vfsReadsSpec.vars false wit.toList 8 = some ([.lit (.int .i64 0), .nil, .agg [.lit (.int .u8 0), .lit (.string []), .lit (.string []), .lit (.string []), .lit (.int .i64 0)]], [], places) :=
  ⟨[], by kernel_rfl⟩
set_option maxRecDepth 100000 in
theorem liftedUpto (os : Os) (started : os.Started) (H : Type) (enc : TypeId × Value → H) (F : Stop.Interp) :
    ReturnsInHanded {} Tryd.checked os 4 .any ((Rows.OpenSpec.upto Rows.vfsReadsSpec).preRow enc Tryd.prog Tryd.f4 Rows.vfsReadsUptoRow.domain false Rows.vfsReadsUptoRow.laid) (((Rows.OpenSpec.upto Rows.vfsReadsSpec).at F).post enc Tryd.prog Tryd.f4 false true false false) := by
  obtain ⟨places, hx⟩ := reads os enc
  have hlm : laidMetH Tryd.prog Rows.vfsReadsUptoRow.laid ((World.laidAll Tryd.prog os Rows.vfsReadsUptoRow.laid).forCall (fun _ _ => 0) ⟨#[], wit, []⟩).memory := by
    rw [MakeChecks.laidMetH_plain _ _ _ (by kernel_rfl)]; exact laidMet_laidAll _ (by kernel_rfl) (by kernel_rfl)
  refine returnsInHanded_of_row (C := Tryd.checked) (s := Rows.OpenSpec.upto Rows.vfsReadsSpec) own started (by kernel_rfl) Tryd.func4
    ⟨World.laidAll Tryd.prog os Rows.vfsReadsUptoRow.laid, fun _ _ => 0, ⟨#[], wit, []⟩, World.laidAll_os _ _ _, World.shaped_of_ZipB (by kernel_rfl) (by kernel_rfl), rfl, (Input.okWide_of_okWideB (by kernel_rfl)).2,
      OpenSpec.preRow_of_cond 8 hx (by kernel_rfl) (fun k hk => by cases hk; kernel_rfl) (by kernel_rfl) hlm, by
        simp only [Assume.holds]
        exact ⟨by simp, by simp, fun _ => Modest.zero, by simp, by simp⟩⟩ ?_
  intro W base args ds gs before hval0 hW _ hcond hsz0 hL _ _
  have hk : Rows.uptoSmall H (ds ++ gs) = true := hcond _ rfl
  have hsz : (DataW.weightsEach Tryd.prog (Tryd.f4.params.toList ++ Rows.vfsReadsSpec.plain.varTypes Tryd.prog) (ds ++ gs)).all (· ≤ reachBytes) = true := hsz0
  have hval : ∀ (j : Nat) t v, Tryd.f4.params[j]? = some t → args[j]? = some v → Value.okWide Tryd.prog W .any base t v := hval0
  have hW' := hW
  obtain ⟨p, q, hA0, hV, rfl, hfz, hnd⟩ := hW
  have hA : DataW.TrodAll enc Tryd.prog W 0 (fun _ => true) true Tryd.f4.params.toList args.toList ds p := hA0
  rw [Tryd.params4] at hA hval hsz
  obtain ⟨v0, vs0, d0, ds0, p0, q0, hargs, rfl, rfl, h0, r0⟩ := trodAll_cons hA
  obtain ⟨v1, vs1, d1, ds1, p1, q1, rfl, rfl, rfl, h1, r1⟩ := trodAll_cons r0
  obtain ⟨v2, vs2, d2, ds2, p2, q2, rfl, rfl, rfl, h2, r2⟩ := trodAll_cons r1
  obtain ⟨rfl, rfl, rfl⟩ := trodAll_nil r2
  obtain rfl : args = #[v0, v1, v2] := by cases args; simp_all
  obtain ⟨rfl, rfl⟩ := trodVars_none hV
  have lt0 : ∀ x ∈ p0, x.block < W.heap.size := by obtain ⟨m, hm⟩ := h0; exact DataW.trod_lt m _ _ _ hm
  have lt1 : ∀ x ∈ p1, x.block < W.heap.size := by obtain ⟨m, hm⟩ := h1; exact DataW.trod_lt m _ _ _ hm
  have lt2 : ∀ x ∈ p2, x.block < W.heap.size := by obtain ⟨m, hm⟩ := h2; exact DataW.trod_lt m _ _ _ hm
  obtain ⟨n0, e0⟩ := op_num h0 (hval 0 3 v0 rfl rfl)
  subst e0
  obtain ⟨l1, o1⟩ := op_acts h1 (hval 1 22 v1 rfl rfl) (light_of hsz (j := 1) rfl rfl)
  obtain ⟨a2, e2, o2⟩ := op_act h2 (hval 2 30 v2 rfl rfl) (light_of hsz (j := 2) rfl rfl)
  subst e2
  have hbk : a2.p.length ≤ 1048576 := by
    have b1 := act_bulk h2
    have b2 : Rows.uptoBulk d2 ≤ Rows.uptoBulkAll ([d0, d1, d2] ++ []) := part_le (by simp)
    have b3 : Rows.uptoBulkAll ([d0, d1, d2] ++ []) ≤ 1048576 := of_decide_eq_true hk
    omega
  clear hA0 hval0
  refine (reads_calls n0 v1 l1 a2 W o1 ⟨o2.1, hbk⟩).mono fun e W' ⟨he, hM⟩ => ?_
  have bel := hM.below
  subst he
  exact ⟨_, rfl, _, _, _, [], _, [], hW', trodAll_mk1 (shut_bool Tryd.underlying4 _), trodAll_cons_mk (Below.trod laidOut (by kernel_rfl) (of_decide_eq_true (by kernel_rfl)) h0 bel lt0) (trodAll_cons_mk (Below.trod laidOut (by kernel_rfl) (of_decide_eq_true (by kernel_rfl)) h1 bel lt1) (trodAll_cons_mk (Below.trod laidOut (by kernel_rfl) (of_decide_eq_true (by kernel_rfl)) h2 bel lt2) trodAll_mk0)), rfl, bel.frame _, fun h => by cases h⟩
theorem row_holds : Rows.VfsReadsUptoSaid :=
  OpenClaim.holds_of_cond 4 Tryd.f4 rfl rfl rfl rfl rfl rfl rfl ⟨rfl, rfl, rfl, rfl, rfl⟩ rfl rfl rfl rfl rfl (by kernel_rfl) Tryd.func4 (by kernel_rfl)
    (of_decide_eq_true (by kernel_rfl)) (by unfold Func.isWrapper; first | (rw [if_pos (by decide +kernel)]; kernel_rfl) | (rw [if_neg (by decide +kernel)]; exact ⟨rfl, rfl⟩))
    (fun os started H enc _ F => by rw [OpenClaim.pre_eq_preRow]; exact liftedUpto os started H enc F)
theorem card_holds : Rows.VfsReadsUptoCardSaid :=
  Claim7.holds_tied_plain_at .later [] _ _ _ _ row_holds (fun _ h => by cases h) (by kernel_rfl) (fun _ h => by cases h) vfsReadsUpto_row_tie rfl ⟨rfl, rfl⟩ (by kernel_rfl) rfl
    (fun f fn hf hfn => by
      obtain rfl : f = 4 := Option.some.inj ((show Tryd.prog.funcNamed "bobstay/bobstaylaw03.VfsReads" = some 4 by kernel_rfl).symm.trans hf) |>.symm
      obtain rfl : fn = Tryd.f4 := (Option.some.inj (Tryd.func4.symm.trans hfn)).symm
      exact ⟨by kernel_rfl, fun j t ht => by
        rw [Tryd.params4] at ht
        have hm : t ∈ [3, 22, 30] := by simpa using Array.mem_of_getElem? ht
        have hall : ([3, 22, 30].all fun u => !Tryd.prog.wantsStandIn u) = true := by kernel_rfl
        exact (show Tryd.prog.wantsStandIn t = false by simpa using List.all_eq_true.1 hall t hm)⟩)
    (by kernel_rfl)
end VfsReadsRow
end Go.Proofs.YtjhcabjlhnhkbaaDoor
