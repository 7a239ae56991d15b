/-
  The walks of layer 19 (plan): turn.
-/
import Derived.Test.YtcbhdjpigadhmaaPlanQ
import Derived.Test.YtcbhdjpigadhmaaFork
set_option linter.unusedVariables false
set_option linter.unusedSimpArgs false
namespace Go.Proofs.Ytcbhdjpigadhmaa
open Go.RowKit

theorem cells_set (V : PV) (s : PS) (k : Nat) (y : Int) : (V.cells s).setIfInBounds (6 + k) (.int .i64 y) = V.cells { s with counts := s.counts.set k y } := by
  unfold PV.cells
  rw [List.setIfInBounds_toArray, List.set_append_right _ _ (by simp)]
  simp [ints]

set_option maxHeartbeats 4000000 in
theorem turn_calls (b : Nat) (V : PV) (s : PS) (i st : Nat) (w : World) (hC : (PlanC b V s).ok w) (hG : PG s) (hi : i < s.names.length) (hst : st ≤ 4) :
    Calls Try.prog 36 #[.pointer (some ⟨b, 0, none⟩), .int .i64 i, .int .i64 st] w fun e w' => e = .returned (.tuple #[]) ∧ Mem (PlanC b V s).fp w [PlanC b V (turnS s i st)] w' := by
  have hn := hG.ok.n512
  have hl1 := hG.st1
  have hl2 := hG.st2
  have hc5 := hG.c5
  obtain ⟨sb, sc, evS, nS1, nS2⟩ := Row.at_ (PlanC.reads hC).st (by omega)
  have HM := (Mem.from hC).drew
  have hil : i < s.states.length := by omega
  obtain ⟨x, hx⟩ : ∃ x : Nat, stD s i = (x : Int) := ⟨(stD s i).toNat, by have := (hG.range i).1; omega⟩
  have hx4 : x ≤ 4 := by have := (hG.range i).2; omega
  have hxs : s.states[i] = (x : Int) := by rw [← hx]; unfold stD; rw [Int.toNat_natCast, List.getD_eq_getElem?_getD, List.getElem?_eq_getElem hil]; rfl
  go_enter Try.func36, Try.ntmps36
  go_wp2
  have hO := HM.open_
  have hb0 : (Blk b 62 (V.cells s)).ok _ := hO.at_ 0 rfl
  have hb1 : (IRow V.vS s.states).ok _ := hO.at_ 1 rfl
  have hP : PlanR b V s _ := PlanC.reads HM.head
  rw [evS] at hb1
  have hxc : x < s.counts.length := by omega
  have y0 := hP.c5
  rw [evS] at y0
  have y1 := IRow.cell hb1 rfl hil
  rw [hxs] at y1
  have y2 := hP.cn hxc
  have y3 := Blk.frozen hb0 (6 + x)
  have ecx : s.counts[x] = s.counts.getD x 0 := by rw [List.getD_eq_getElem?_getD, List.getElem?_eq_getElem hxc]; rfl
  have hcx := hG.cnt x (by omega)
  have hcl : s.states.count (x : Int) ≤ s.states.length := List.count_le_length
  rw [ecx] at y2
  have hcb : 0 ≤ s.counts.getD x 0 ∧ s.counts.getD x 0 ≤ 1000 := by omega
  have hw1 : IntKind.i64.wrap (s.counts.getD x 0 - 1) = s.counts.getD x 0 - 1 := IntWalk.i64_in _ (by omega)
  have hO1 := Mem.blkSet hO (6 + x) (.int .i64 (s.counts.getD x 0 - 1))
  rw [cells_set] at hO1
  clear hP hb0 hb1 HM hcl hcx ecx hxs hO
  generalize hcv : s.counts.getD x 0 = cv at *
  have Hcv := Lib.hid hcv
  have Hx := Lib.hid hx
  have HevS := Lib.hid evS
  have Hc5 := Lib.hid hc5
  clear hcv hx hc5 evS hC
  have hx5 : x < 5 := by omega
  have hx6 : (x : Int) < 5 := by omega
  refine wp_plan [16] (S := fun w' => w' = World.drew _) [(.pure, 0), (.pure, 1), (.pure, 2), (.pure, 3), (.load, 4), (.pure, 5), (.pure, 6), (.load, 7), (.pure, 8), (.pure, 9), (.pure, 10), (.load, 11), (.pure, 12), (.pure, 13), (.pure, 14), (.pure, 15), (.tail, 16)] (by kernel_rfl) rfl (by kernel_rfl) rfl (fun _ _ _ _ _ h => h) rfl ?_
  generalize World.drew _ = W at *
  repeat (first | (refine plan_pure (v := ?_) (a' := ?_) rfl rfl rfl ?_ ?_ ?_; rotate_left 2; (focus (intro w'; go_simp; with_reducible rfl)); (focus (simp only [Act.put, List.setIfInBounds_toArray, List.set_cons_zero, List.set_cons_succ]; rfl))) | (refine plan_load (v := ?_) (a' := ?_) rfl rfl rfl ?_ ?_ ?_; rotate_left 2; (focus (intro w' hw'; rw [hw']; go_simp; with_reducible rfl)); (focus (simp only [Act.put, List.setIfInBounds_toArray, List.set_cons_zero, List.set_cons_succ]; rfl))) | (refine plan_skip rfl rfl (by decide +kernel) (by simp only [Act.put, List.setIfInBounds_toArray, List.set_cons_zero, List.set_cons_succ]; rfl) ?_))
  refine plan_tail rfl (fun K hK => ?_)
  go_wp2
  refine plan_done ?_
  clear y0 y1 y2 y3 hw1
  generalize World.setCell _ _ _ = W1 at *
  have hb0 : (Blk b 62 (V.cells _)).ok W1 := hO1.at_ 0 rfl
  have hb1 : (IRow V.vS s.states).ok W1 := hO1.at_ 1 rfl
  rw [HevS.out] at hb1
  have y0 : W1.cell? ⟨b, 5, none⟩ = some (.slice (some ⟨sb, 0, none⟩) s.states.length sc) := by rw [Blk.cell_ hb0, ← HevS.out]; rfl
  have y1 := IRow.cell hb1 rfl hil
  have y2 := IRow.frozen hb1 rfl i
  have hO2 : Mem (PlanC b V s).fp w (IRow (.slice (some ⟨sb, 0, none⟩) s.states.length sc) s.states :: ([Blk b 62 (V.cells { s with counts := s.counts.set x (cv - 1) })] ++ PlanF V s)) W1 := by
    have := Mem.front [_] hO1
    rw [HevS.out] at this
    exact this.sel [0, 1, 2, 3, 4, 5, 6] (by decide)
  have hO3 := (hO2.irowSet' rfl hil (st : Int)).front [_]
  clear hb0 hb1 hO1 hO2
  go_wp2
  clear y0 y1 y2
  generalize World.setCell _ _ _ = W2 at *
  have hst2 : st < (s.counts.set x (cv - 1)).length := by rw [List.length_set, Hc5.out]; omega
  have hb0 : (Blk b 62 (V.cells { s with counts := s.counts.set x (cv - 1) })).ok W2.drew := hO3.drew.head
  have hst5 : st < 5 := by omega
  have hst6 : (st : Int) < 5 := by omega
  have y0 : W2.drew.cell? ⟨b, 6 + st, none⟩ = some (.int .i64 ((s.counts.set x (cv - 1)).getD st 0)) := by
    rw [Blk.cell_ hb0]
    have e : (V.cells { s with counts := s.counts.set x (cv - 1) })[6 + st]? = (ints (s.counts.set x (cv - 1)))[st]? := by
      unfold PV.cells
      rw [List.getElem?_toArray, List.getElem?_append_right (by simp)]
      simp
    rw [e, ints_get hst2, List.getD_eq_getElem?_getD, List.getElem?_eq_getElem hst2]; rfl
  have y1 := Blk.frozen hb0 (6 + st)
  have hcs := hG.cnt st (by omega)
  have hcl : s.states.count (st : Int) ≤ s.states.length := List.count_le_length
  have hdb : -1 ≤ (s.counts.set x (cv - 1)).getD st 0 ∧ (s.counts.set x (cv - 1)).getD st 0 ≤ 1000 := by
    rw [getD_set']
    split <;> omega
  have hO4 := (Mem.blkSet hO3.drew (6 + st) (.int .i64 ((s.counts.set x (cv - 1)).getD st 0 + 1)))
  rw [cells_set] at hO4
  have hfin : turnS s i st = { s with states := s.states.set i (st : Int), counts := (s.counts.set x (cv - 1)).set st ((s.counts.set x (cv - 1)).getD st 0 + 1) } := by
    unfold turnS bump
    rw [Hx.out, Int.toNat_natCast, Int.toNat_natCast, Int.toNat_natCast, Hcv.out]
    rfl
  have Hfin := Lib.hid hfin
  clear hfin hcs hcl hb0 hst2 hO3
  generalize (s.counts.set x (cv - 1)).getD st 0 = dv at *
  have hw1 : IntKind.i64.wrap (dv + 1) = dv + 1 := IntWalk.i64_in _ (by omega)
  have hE : Mem (PlanC b V s).fp w [PlanC b V (turnS s i st)] (W2.drew.setCell ⟨b, 6 + st, none⟩ (.int .i64 (dv + 1))) := by
    rw [Hfin.out]
    rw [← HevS.out] at hO4
    exact Mem.shut_ (cs := [Blk b 62 _, IRow V.vS _] ++ PlanF V _) (F := []) (hO4.sel [0, 1, 2, 3, 4, 5, 6] (by decide))
  clear hO4 Hfin Hcv Hx HevS Hc5
  refine wp_plan [10] (S := fun w' => w' = World.drew _) [(.pure, 0), (.pure, 1), (.pure, 2), (.pure, 3), (.pure, 4), (.load, 5), (.pure, 6), (.pure, 7), (.pure, 8), (.pure, 9), (.tail, 10)] (by kernel_rfl) rfl (by kernel_rfl) rfl (fun _ _ _ _ _ h => h) rfl ?_
  generalize World.drew W2 = W3 at *
  repeat (first | (refine plan_pure (v := ?_) (a' := ?_) rfl rfl rfl ?_ ?_ ?_; rotate_left 2; (focus (intro w'; go_simp; with_reducible rfl)); (focus (simp only [Act.put, List.setIfInBounds_toArray, List.set_cons_zero, List.set_cons_succ]; rfl))) | (refine plan_load (v := ?_) (a' := ?_) rfl rfl rfl ?_ ?_ ?_; rotate_left 2; (focus (intro w' hw'; rw [hw']; go_simp; with_reducible rfl)); (focus (simp only [Act.put, List.setIfInBounds_toArray, List.set_cons_zero, List.set_cons_succ]; rfl))) | (refine plan_skip rfl rfl (by decide +kernel) (by simp only [Act.put, List.setIfInBounds_toArray, List.set_cons_zero, List.set_cons_succ]; rfl) ?_))
  refine plan_tail rfl (fun K hK => ?_)
  go_wp2
  refine plan_done ?_
  go_wp2
  go_end0
  exact ⟨rfl, hE⟩
end Go.Proofs.Ytcbhdjpigadhmaa
