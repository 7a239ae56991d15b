/-
  The walks of layer 19 (plan): turn.
-/
/-
  The walks of layer 19 (plan): ok, find, ready, Ready.
-/
/-
  The walks of layer 19 (plan): Ready, Start, State, Count, Over.
-/
/-
  The walks of layer 19 (plan): Start, skip, Finish, Stop.
-/
/-
  The walks of layer 19 (plan): Finish, Stop.
-/
import Derived.Test.YtliglejbkpjamaaVPlanQ
import Derived.Test.YtliglejbkpjamaaVFork
set_option linter.unusedVariables false
set_option linter.unusedSimpArgs false
section
namespace Go.Proofs.Ytliglejbkpjamaa
open Go.RowKit

theorem cells_set (V : PV) (s : PS) (k : Nat) (y : Int) : (V.cells s).setIfInBounds (6 + k) (.int .i64 y) = V.cells { s with counts := s.counts.set k y } := by
  unfold PV.cells
  rw [List.setIfInBounds_toArray, List.set_append_right _ _ (by simp)]
  simp [ints]

set_option maxHeartbeats 4000000 in
theorem turn_calls (b : Nat) (V : PV) (s : PS) (i st : Nat) (w : World) (hC : (PlanC b V s).ok w) (hG : PG s) (hi : i < s.names.length) (hst : st ≤ 4) :
    Calls Try.prog 37 #[.pointer (some ⟨b, 0, none⟩), .int .i64 i, .int .i64 st] w fun e w' => e = .returned (.tuple #[]) ∧ Mem (PlanC b V s).fp w [PlanC b V (turnS s i st)] w' := by
  have hn := hG.ok.n512
  have hl1 := hG.st1
  have hl2 := hG.st2
  have hc5 := hG.c5
  obtain ⟨sb, sc, evS, nS1, nS2⟩ := Row.at_ (PlanC.reads hC).st (by omega)
  have HM := (Mem.from hC).drew
  have hil : i < s.states.length := by omega
  obtain ⟨x, hx⟩ : ∃ x : Nat, stD s i = (x : Int) := ⟨(stD s i).toNat, by have := (hG.range i).1; omega⟩
  have hx4 : x ≤ 4 := by have := (hG.range i).2; omega
  have hxs : s.states[i] = (x : Int) := by rw [← hx]; unfold stD; rw [Int.toNat_natCast, List.getD_eq_getElem?_getD, List.getElem?_eq_getElem hil]; rfl
  go_enter Try.func37, Try.ntmps37
  go_wp2
  have hO := HM.open_
  have hb0 : (Blk b 81 (V.cells s)).ok _ := hO.at_ 0 rfl
  have hb1 : (IRow V.vS s.states).ok _ := hO.at_ 1 rfl
  have hP : PlanR b V s _ := PlanC.reads HM.head
  rw [evS] at hb1
  have hxc : x < s.counts.length := by omega
  have y0 := hP.c5
  rw [evS] at y0
  have y1 := IRow.cell hb1 rfl hil
  rw [hxs] at y1
  have y2 := hP.cn hxc
  have y3 := Blk.frozen hb0 (6 + x)
  have ecx : s.counts[x] = s.counts.getD x 0 := by rw [List.getD_eq_getElem?_getD, List.getElem?_eq_getElem hxc]; rfl
  have hcx := hG.cnt x (by omega)
  have hcl : s.states.count (x : Int) ≤ s.states.length := List.count_le_length
  rw [ecx] at y2
  have hcb : 0 ≤ s.counts.getD x 0 ∧ s.counts.getD x 0 ≤ 50000 := by omega
  have hw1 : IntKind.i64.wrap (s.counts.getD x 0 - 1) = s.counts.getD x 0 - 1 := IntWalk.i64_in _ (by omega)
  have hO1 := Mem.blkSet hO (6 + x) (.int .i64 (s.counts.getD x 0 - 1))
  rw [cells_set] at hO1
  clear hP hb0 hb1 HM hcl hcx ecx hxs hO
  generalize hcv : s.counts.getD x 0 = cv at *
  have Hcv := Lib.hid hcv
  have Hx := Lib.hid hx
  have HevS := Lib.hid evS
  have Hc5 := Lib.hid hc5
  clear hcv hx hc5 evS hC
  have hx5 : x < 5 := by omega
  have hx6 : (x : Int) < 5 := by omega
  refine wp_plan [16] (S := fun w' => w' = World.drew _) [(.pure, 0), (.pure, 1), (.pure, 2), (.pure, 3), (.load, 4), (.pure, 5), (.pure, 6), (.load, 7), (.pure, 8), (.pure, 9), (.pure, 10), (.load, 11), (.pure, 12), (.pure, 13), (.pure, 14), (.pure, 15), (.tail, 16)] (by kernel_rfl) rfl (by kernel_rfl) rfl (fun _ _ _ _ _ h => h) rfl ?_
  generalize World.drew _ = W at *
  repeat (first | (refine plan_pure (v := ?_) (a' := ?_) rfl rfl rfl ?_ ?_ ?_; rotate_left 2; (focus (intro w'; go_simp; with_reducible rfl)); (focus (simp only [Act.put, List.setIfInBounds_toArray, List.set_cons_zero, List.set_cons_succ]; rfl))) | (refine plan_load (v := ?_) (a' := ?_) rfl rfl rfl ?_ ?_ ?_; rotate_left 2; (focus (intro w' hw'; rw [hw']; go_simp; with_reducible rfl)); (focus (simp only [Act.put, List.setIfInBounds_toArray, List.set_cons_zero, List.set_cons_succ]; rfl))) | (refine plan_skip rfl rfl (by decide +kernel) (by simp only [Act.put, List.setIfInBounds_toArray, List.set_cons_zero, List.set_cons_succ]; rfl) ?_))
  refine plan_tail rfl (fun K hK => ?_)
  go_wp2
  refine plan_done ?_
  clear y0 y1 y2 y3 hw1
  generalize World.setCell _ _ _ = W1 at *
  have hb0 : (Blk b 81 (V.cells _)).ok W1 := hO1.at_ 0 rfl
  have hb1 : (IRow V.vS s.states).ok W1 := hO1.at_ 1 rfl
  rw [HevS.out] at hb1
  have y0 : W1.cell? ⟨b, 5, none⟩ = some (.slice (some ⟨sb, 0, none⟩) s.states.length sc) := by rw [Blk.cell_ hb0, ← HevS.out]; rfl
  have y1 := IRow.cell hb1 rfl hil
  have y2 := IRow.frozen hb1 rfl i
  have hO2 : Mem (PlanC b V s).fp w (IRow (.slice (some ⟨sb, 0, none⟩) s.states.length sc) s.states :: ([Blk b 81 (V.cells { s with counts := s.counts.set x (cv - 1) })] ++ PlanF V s)) W1 := by
    have := Mem.front [_] hO1
    rw [HevS.out] at this
    exact this.sel [0, 1, 2, 3, 4, 5, 6] (by decide)
  have hO3 := (hO2.irowSet' rfl hil (st : Int)).front [_]
  clear hb0 hb1 hO1 hO2
  go_wp2
  clear y0 y1 y2
  generalize World.setCell _ _ _ = W2 at *
  have hst2 : st < (s.counts.set x (cv - 1)).length := by rw [List.length_set, Hc5.out]; omega
  have hb0 : (Blk b 81 (V.cells { s with counts := s.counts.set x (cv - 1) })).ok W2.drew := hO3.drew.head
  have hst5 : st < 5 := by omega
  have hst6 : (st : Int) < 5 := by omega
  have y0 : W2.drew.cell? ⟨b, 6 + st, none⟩ = some (.int .i64 ((s.counts.set x (cv - 1)).getD st 0)) := by
    rw [Blk.cell_ hb0]
    have e : (V.cells { s with counts := s.counts.set x (cv - 1) })[6 + st]? = (ints (s.counts.set x (cv - 1)))[st]? := by
      unfold PV.cells
      rw [List.getElem?_toArray, List.getElem?_append_right (by simp)]
      simp
    rw [e, ints_get hst2, List.getD_eq_getElem?_getD, List.getElem?_eq_getElem hst2]; rfl
  have y1 := Blk.frozen hb0 (6 + st)
  have hcs := hG.cnt st (by omega)
  have hcl : s.states.count (st : Int) ≤ s.states.length := List.count_le_length
  have hdb : -1 ≤ (s.counts.set x (cv - 1)).getD st 0 ∧ (s.counts.set x (cv - 1)).getD st 0 ≤ 50000 := by
    rw [getD_set']
    split <;> omega
  have hO4 := (Mem.blkSet hO3.drew (6 + st) (.int .i64 ((s.counts.set x (cv - 1)).getD st 0 + 1)))
  rw [cells_set] at hO4
  have hfin : turnS s i st = { s with states := s.states.set i (st : Int), counts := (s.counts.set x (cv - 1)).set st ((s.counts.set x (cv - 1)).getD st 0 + 1) } := by
    unfold turnS bump
    rw [Hx.out, Int.toNat_natCast, Int.toNat_natCast, Int.toNat_natCast, Hcv.out]
    rfl
  have Hfin := Lib.hid hfin
  clear hfin hcs hcl hb0 hst2 hO3
  generalize (s.counts.set x (cv - 1)).getD st 0 = dv at *
  have hw1 : IntKind.i64.wrap (dv + 1) = dv + 1 := IntWalk.i64_in _ (by omega)
  have hE : Mem (PlanC b V s).fp w [PlanC b V (turnS s i st)] (W2.drew.setCell ⟨b, 6 + st, none⟩ (.int .i64 (dv + 1))) := by
    rw [Hfin.out]
    rw [← HevS.out] at hO4
    exact Mem.shut_ (cs := [Blk b 81 _, IRow V.vS _] ++ PlanF V _) (F := []) (hO4.sel [0, 1, 2, 3, 4, 5, 6] (by decide))
  clear hO4 Hfin Hcv Hx HevS Hc5
  refine wp_plan [10] (S := fun w' => w' = World.drew _) [(.pure, 0), (.pure, 1), (.pure, 2), (.pure, 3), (.pure, 4), (.load, 5), (.pure, 6), (.pure, 7), (.pure, 8), (.pure, 9), (.tail, 10)] (by kernel_rfl) rfl (by kernel_rfl) rfl (fun _ _ _ _ _ h => h) rfl ?_
  generalize World.drew W2 = W3 at *
  repeat (first | (refine plan_pure (v := ?_) (a' := ?_) rfl rfl rfl ?_ ?_ ?_; rotate_left 2; (focus (intro w'; go_simp; with_reducible rfl)); (focus (simp only [Act.put, List.setIfInBounds_toArray, List.set_cons_zero, List.set_cons_succ]; rfl))) | (refine plan_load (v := ?_) (a' := ?_) rfl rfl rfl ?_ ?_ ?_; rotate_left 2; (focus (intro w' hw'; rw [hw']; go_simp; with_reducible rfl)); (focus (simp only [Act.put, List.setIfInBounds_toArray, List.set_cons_zero, List.set_cons_succ]; rfl))) | (refine plan_skip rfl rfl (by decide +kernel) (by simp only [Act.put, List.setIfInBounds_toArray, List.set_cons_zero, List.set_cons_succ]; rfl) ?_))
  refine plan_tail rfl (fun K hK => ?_)
  go_wp2
  refine plan_done ?_
  go_wp2
  go_end0
  exact ⟨rfl, hE⟩
end Go.Proofs.Ytliglejbkpjamaa
end
section
namespace Go.Proofs.Ytliglejbkpjamaa
open Go.RowKit

theorem ok_calls (b : Nat) (V : PV) (s : PS) (w : World) (hC : (PlanC b V s).ok w) :
    Calls Try.prog 34 #[.pointer (some ⟨b, 0, none⟩)] w fun e w' => e = .returned (.bool true) ∧ w = w' := by
  have y0 := (PlanC.reads hC).c1
  have qT : ∀ (w : World) (r : Option Nat), (binOp .neq 65 (.map r) (.map none)).run Try.prog w = .ok (.bool (!r.isNone)) w := fun w r => run_neq_map_nil w _ _ _ r Try.underlying65
  go_enter Try.func34, Try.ntmps34
  go_wp2
  go_ret
  exact ⟨rfl, rfl⟩

theorem find_callsP (b : Nat) (V : PV) (s : PS) (x : ByteArray) (w : World) (hC : (PlanC b V s).ok w) :
    Calls Try.prog 36 #[.pointer (some ⟨b, 0, none⟩), .string x] w fun e w' => e = .returned (match mget s.at_ x with | none => .tuple #[.int .i64 0, .int .i64 6] | some i => .tuple #[.int .i64 i, .int .i64 0]) ∧ w = w' := by
  have y0 := (PlanC.reads hC).c1
  have hM := (PlanC.reads hC).mp
  have hlk := MapC.lookup (c := true) keySP Try.underlying65 (zeroI w) hM x
  cases hg : mget s.at_ x with
  | none =>
    have hlk2 : (Instr.lookup 65 (.map (some V.mb)) (.string x) true).run Try.prog w = .ok (.tuple #[.int .i64 0, .bool false]) w := by
      rw [if_pos rfl] at hlk
      simpa [hg, mhas] using hlk
    clear hlk hg
    go_enter Try.func36, Try.ntmps36
    go_wp2_with (go_at_call 34; refine (ok_calls b V s _ hC).mono ?_; rintro e w' ⟨rfl, rfl⟩)
    go_ret2
    exact ⟨rfl, rfl⟩
  | some i =>
    have hlk2 : (Instr.lookup 65 (.map (some V.mb)) (.string x) true).run Try.prog w = .ok (.tuple #[.int .i64 i, .bool true]) w := by
      rw [if_pos rfl] at hlk
      simpa [hg, mhas] using hlk
    clear hlk hg
    go_enter Try.func36, Try.ntmps36
    go_wp2_with (go_at_call 34; refine (ok_calls b V s _ hC).mono ?_; rintro e w' ⟨rfl, rfl⟩)
    go_ret2
    exact ⟨rfl, rfl⟩

/-- slices.IndexFunc at a predicate that turns nothing. -/
theorem idxF_callsP (g : Nat) (cap : Value) (p : Int → Bool) (v : Value) (l : List Int) (w : World) (hg : g = 57 ∨ g = 58) (hv : Ints w v l) (hl : l.length ≤ 100000)
    (hf : ∀ k, k ∈ l → Calls Try.prog g #[.int .i64 k, cap] w fun e w' => e = .returned (.bool (p k)) ∧ w = w') :
    Calls Try.prog 73 #[v, .func (.func g) #[] #[cap]] w fun e w' => (∃ i : Int, e = .returned (.int .i64 i) ∧ decide (0 ≤ i) = l.any p) ∧ w = w' := by
  obtain ⟨A, c, rfl, h1, h2, h3, h4⟩ := hv
  unfold maxLen at h2
  rcases hg with rfl | rfl
  all_goals
    go_enter Try.func73, Try.ntmps73
    go_wp2
    go_loop [8] (fun i => ∃ k : Nat, k ≤ l.length ∧ i = .int .i64 k ∧ Hid ((l.take k).any p = false)) (fun i => l.length - (intOf i).toNat)
    case atStart => exact ⟨0, Nat.zero_le _, rfl, by unfold Hid; rfl⟩
    case round =>
      obtain ⟨k, hk, rfl, HP⟩ := hrel
      by_cases hlt : k < l.length
      · obtain ⟨b, o, rfl, hcells⟩ := h4.resolve_left (by omega)
        have hx0 : w.cell? ⟨b, o + k, none⟩ = some (.int .i64 l[k]) := hcells k _ (ints_get hlt)
        have hx := hf l[k] (List.getElem_mem hlt)
        have hT := Lib.hid (List.take_succ_eq_append_getElem hlt)
        have hM : p l[k] = true → Hid (l.any p = true) := fun h => Lib.hid (List.any_eq_true.2 ⟨_, List.getElem_mem hlt, h⟩)
        clear hcells h4 h3 hf
        generalize l[k] = x at *
        go_wp2_with fail
        refine hx.mono ?_
        rintro e w' ⟨rfl, rfl⟩
        clear hx
        cases hp : p x with
        | true =>
          have HM := hM hp
          clear hM hp
          go_wp2
          go_ret
          exact ⟨⟨k, rfl, by rw [HM.out]; simp⟩, rfl⟩
        | false =>
          clear hM
          have HP2 : Hid ((l.take (k + 1)).any p = false) := by
            have h1 := HP.out
            have h2 := hT.out
            unfold Hid
            rw [h2, List.any_append, h1]; simp [hp]
          clear hp
          go_wp2
          go_round
          case rel => exact ⟨k + 1, by omega, by go_num, HP2⟩
          case measure => simp [intOf]; omega
      · have e : k = l.length := by omega
        subst e
        have h1 := HP.out
        rw [List.take_length] at h1
        have HP2 := Lib.hid h1
        clear h1 HP
        go_wp2
        go_ret
        exact ⟨⟨-1, rfl, by rw [HP2.out]; rfl⟩, rfl⟩

theorem hasF_calls (g : Nat) (cap : Value) (p : Int → Bool) (v : Value) (l : List Int) (w : World) (hg : g = 57 ∨ g = 58) (hv : Ints w v l) (hl : l.length ≤ 100000)
    (hf : ∀ k, k ∈ l → Calls Try.prog g #[.int .i64 k, cap] w fun e w' => e = .returned (.bool (p k)) ∧ w = w') :
    Calls Try.prog 56 #[v, .func (.func g) #[] #[cap]] w fun e w' => e = .returned (.bool (l.any p)) ∧ w = w' := by
  have hc := idxF_callsP g cap p v l w hg hv hl hf
  clear hf hv
  generalize l.any p = r at *
  go_enter Try.func56, Try.ntmps56
  go_wp2_with fail
  refine hc.mono ?_
  rintro e w' ⟨⟨i, rfl, hi⟩, rfl⟩
  clear hc
  go_wp2
  go_ret
  exact ⟨rfl, rfl⟩

theorem notDone_calls (b bx : Nat) (V : PV) (s : PS) (k : Nat) (w : World) (hP : PlanR b V s w) (hG : PG s) (hk : k < s.names.length) (hbx : w.cell? ⟨bx, 0, none⟩ = some (.pointer (some ⟨b, 0, none⟩))) :
    Calls Try.prog 57 #[.int .i64 k, .pointer (some ⟨bx, 0, none⟩)] w fun e w' => e = .returned (.bool (decide (¬ stD s k = 2))) ∧ w = w' := by
  have hl1 := hG.st1
  have hl2 := hG.st2
  have hn := hG.ok.n512
  obtain ⟨sb, sc, evS, nS1, nS2⟩ := Row.at_ hP.st (by omega)
  have hil : k < s.states.length := by omega
  have hb1 := hP.st
  rw [evS] at hb1
  have y0 := hP.c5
  rw [evS] at y0
  have y1 := IRow.cell hb1 rfl hil
  have hxs : s.states[k] = stD s k := by unfold stD; rw [Int.toNat_natCast, List.getD_eq_getElem?_getD, List.getElem?_eq_getElem hil]; rfl
  rw [hxs] at y1
  clear hb1 hxs evS hP
  generalize stD s k = x at *
  go_enter Try.func57, Try.ntmps57
  go_wp2
  go_ret
  exact ⟨by by_cases h : x = 2 <;> simp [h], rfl⟩
theorem notGone_calls (b bx : Nat) (V : PV) (s : PS) (k : Nat) (w : World) (hP : PlanR b V s w) (hG : PG s) (hk : k < s.names.length) (hbx : w.cell? ⟨bx, 0, none⟩ = some (.pointer (some ⟨b, 0, none⟩))) :
    Calls Try.prog 58 #[.int .i64 k, .pointer (some ⟨bx, 0, none⟩)] w fun e w' => e = .returned (.bool (decide (stD s k < 2))) ∧ w = w' := by
  have hl1 := hG.st1
  have hl2 := hG.st2
  have hn := hG.ok.n512
  obtain ⟨sb, sc, evS, nS1, nS2⟩ := Row.at_ hP.st (by omega)
  have hil : k < s.states.length := by omega
  have hb1 := hP.st
  rw [evS] at hb1
  have y0 := hP.c5
  rw [evS] at y0
  have y1 := IRow.cell hb1 rfl hil
  have hxs : s.states[k] = stD s k := by unfold stD; rw [Int.toNat_natCast, List.getD_eq_getElem?_getD, List.getElem?_eq_getElem hil]; rfl
  rw [hxs] at y1
  clear hb1 hxs evS hP
  generalize stD s k = x at *
  go_enter Try.func58, Try.ntmps58
  go_wp2
  go_ret
  exact ⟨rfl, rfl⟩

set_option maxHeartbeats 4000000 in
theorem ready_calls (b : Nat) (V : PV) (s : PS) (i : Nat) (w : World) (hC : (PlanC b V s).ok w) (hG : PG s) (hi : i < s.names.length) :
    Calls Try.prog 35 #[.pointer (some ⟨b, 0, none⟩), .int .i64 i] w fun e w' => e = .returned (.bool (readyB s i)) ∧ Pure w w' := by
  have hl1 := hG.st1
  have hl2 := hG.st2
  have hn := hG.ok.n512
  have q1 := hG.ok.ne2
  have q2 := hG.ok.be2
  have hPu : Pure w (w.alloc (.cells #[.pointer (some ⟨b, 0, none⟩)] 45)) := (Mut.refl _ _).alloc _
  have hP := (PlanC.reads hC).pure hPu
  have hbx : (w.alloc (.cells #[.pointer (some ⟨b, 0, none⟩)] 45)).cell? ⟨w.heap.size, 0, none⟩ = some (.pointer (some ⟨b, 0, none⟩)) := by
    have h1 : (Blk w.heap.size 45 #[.pointer (some ⟨b, 0, none⟩)]).ok (w.alloc (.cells #[.pointer (some ⟨b, 0, none⟩)] 45)) := heap_alloc_new w _
    rw [Blk.cell_ h1]; rfl
  obtain ⟨sb, sc, evS, nS1, nS2⟩ := Row.at_ hP.st (by omega)
  have hil : i < s.states.length := by omega
  have hb1 := hP.st
  rw [evS] at hb1
  have y0 := hP.c5
  rw [evS] at y0
  have y1 := IRow.cell hb1 rfl hil
  have hxs : s.states[i] = stD s i := by unfold stD; rw [Int.toNat_natCast, List.getD_eq_getElem?_getD, List.getElem?_eq_getElem hil]; rfl
  rw [hxs] at y1
  clear hb1 hxs evS
  have hkE : i < s.needs.length := by omega
  have hkB : i < s.behind.length := by omega
  obtain ⟨gE, cE, evE, nE1, nE2⟩ := Row.at_ hP.ne.head (by omega)
  obtain ⟨gB, cB, evB, nB1, nB2⟩ := Row.at_ hP.be.head (by omega)
  have lE : V.es.length = s.needs.length := hP.ne.nest_len
  have lB : V.bs.length = s.behind.length := hP.be.nest_len
  have hneH := hP.ne.head
  have hbeH := hP.be.head
  rw [evE] at hneH
  rw [evB] at hbeH
  have e0 := hP.c2
  rw [evE] at e0
  have e1 := hP.c3
  rw [evB] at e1
  have e2 := nest_cell hneH (k := i) (by omega)
  have e3 := nest_cell hbeH (k := i) (by omega)
  have iE : Ints _ (V.es[i]'(by omega)) s.needs[i] := Row.sl (hP.ne.nestAt hkE (by omega))
  have iB : Ints _ (V.bs[i]'(by omega)) s.behind[i] := Row.sl (hP.be.nestAt hkB (by omega))
  have hle : s.needs[i].length ≤ 50000 := hG.ok.neL _ (List.getElem_mem hkE)
  have hlb : s.behind[i].length ≤ 50000 := hG.ok.beL _ (List.getElem_mem hkB)
  have hrE : InR s.names.length s.needs[i] := hG.ok.neR _ (List.getElem_mem hkE)
  have hrB : InR s.names.length s.behind[i] := hG.ok.beR _ (List.getElem_mem hkB)
  have hRB : readyB s i = (decide (stD s i = 0) && (!(s.needs[i].any (fun k => decide (¬ stD s k = 2))) && !(s.behind[i].any (fun k => decide (stD s k < 2))))) := by
    unfold readyB notDone notGone
    rw [Int.toNat_natCast, List.getD_eq_getElem?_getD, List.getElem?_eq_getElem hkE, List.getD_eq_getElem?_getD, List.getElem?_eq_getElem hkB]; rfl
  have HRB := Lib.hid hRB
  clear hRB hneH hbeH evE evB nE1 nE2 nB1 nB2 nS1 nS2 q1 q2
  generalize V.es[i]'(by omega) = xE at *
  generalize V.bs[i]'(by omega) = xB at *
  obtain ⟨AE, kE, rfl, pE1, pE2⟩ := Sl.any_ iE
  obtain ⟨AB, kB, rfl, pB1, pB2⟩ := Sl.any_ iB
  have hcE := hasF_calls 57 (.pointer (some ⟨w.heap.size, 0, none⟩)) (fun k => decide (¬ stD s k = 2)) _ s.needs[i] _ (.inl rfl) iE (by omega) (fun k hk => by
    obtain ⟨m, rfl⟩ : ∃ m : Nat, k = (m : Int) := ⟨k.toNat, by have := (hrE k hk).1; omega⟩
    exact notDone_calls b w.heap.size V s m _ hP hG (by have := (hrE _ hk).2; omega) hbx)
  have hcB := hasF_calls 58 (.pointer (some ⟨w.heap.size, 0, none⟩)) (fun k => decide (stD s k < 2)) _ s.behind[i] _ (.inr rfl) iB (by omega) (fun k hk => by
    obtain ⟨m, rfl⟩ : ∃ m : Nat, k = (m : Int) := ⟨k.toNat, by have := (hrB k hk).1; omega⟩
    exact notGone_calls b w.heap.size V s m _ hP hG (by have := (hrB _ hk).2; omega) hbx)
  clear iE iB hrE hrB hP
  generalize s.needs[i].any (fun k => decide (¬ stD s k = 2)) = r1 at *
  generalize s.behind[i].any (fun k => decide (stD s k < 2)) = r2 at *
  have hx0 := hG.range i
  have HG := hG
  clear hG
  have hmf : ∀ (fn : Fn) (first cap : Array Value) (w : World), (Instr.makeFunc fn first cap).run Try.prog w = .ok (.func fn first cap) w := fun _ _ _ _ => rfl
  generalize hxx : stD s i = x at *
  clear hxx
  by_cases hz : x = 0
  · subst hz
    cases r1 with
    | true =>
      go_enter Try.func35, Try.ntmps35
      go_wp2_with (go_at_call 56; refine hcE.mono ?_; rintro e w' ⟨rfl, rfl⟩)
      go_ret
      exact ⟨by rw [HRB.out]; simp, hPu⟩
    | false =>
      go_enter Try.func35, Try.ntmps35
      go_wp2_with fail
      refine hcE.mono ?_
      rintro e w' ⟨rfl, rfl⟩
      go_wp2_with fail
      refine hcB.mono ?_
      rintro e w' ⟨rfl, rfl⟩
      cases r2 with
      | true =>
        go_wp2
        go_ret
        exact ⟨by rw [HRB.out]; simp, hPu⟩
      | false =>
        go_wp2
        go_ret
        exact ⟨by rw [HRB.out]; simp, hPu⟩
  · have hd : decide (x = 0) = false := decide_eq_false hz
    have hd2 : (x == 0) = false := by simpa using hz
    go_enter Try.func35, Try.ntmps35
    go_wp2
    go_ret
    exact ⟨by rw [HRB.out]; simp [hz], hPu⟩
end Go.Proofs.Ytliglejbkpjamaa
end
section
namespace Go.Proofs.Ytliglejbkpjamaa
open Go.RowKit

theorem readyUp_succ (s : PS) {k : Nat} (h : k < s.names.length) : readyUp s (k + 1) = readyUp s k ++ if readyB s (k : Int) then [s.names[k]] else [] := by
  unfold readyUp
  rw [List.take_succ_eq_append_getElem h, List.zipIdx_append, List.filter_append, List.map_append]
  congr 1
  have e : (s.names.take k).length = k := by rw [List.length_take]; omega
  rw [e]
  simp only [List.zipIdx_cons, List.zipIdx_nil, List.filter_cons, List.filter_nil, Nat.zero_add]
  by_cases hr : readyB s (k : Int) = true <;> simp [hr]
theorem readyUp_len (s : PS) (k : Nat) : (readyUp s k).length ≤ k := by
  unfold readyUp
  rw [List.length_map]
  refine Nat.le_trans (List.length_filter_le _ _) ?_
  rw [List.length_zipIdx, List.length_take]; omega

set_option maxHeartbeats 4000000 in
theorem Ready_calls (b : Nat) (V : PV) (s : PS) (w : World) (hC : (PlanC b V s).ok w) (hG : PG s) :
    Calls Try.prog 18 #[.pointer (some ⟨b, 0, none⟩)] w fun e w' => ∃ v, e = .returned v ∧ Mem none_ w [StrRow v (readyS s)] w' := by
  have hn := hG.ok.n512
  obtain ⟨AN, cN, evN, nn1, nn2⟩ := Row.any_ (PlanC.reads hC).nm
  have d0 : w.cell? ⟨b, 0, none⟩ = some (.slice AN s.names.length cN) := by rw [← evN]; exact (PlanC.reads hC).c0
  have HM0 := (Mem.start (fp := none_) w).nilS
  unfold maxLen at nn2
  go_enter Try.func18, Try.ntmps18
  go_wp2_with (go_at_call 34; refine (ok_calls b V s _ hC).mono ?_; rintro e w' ⟨rfl, rfl⟩)
  clear d0
  go_loopw [3, 13] (fun v3 v13 wr => ∃ k : Nat, k ≤ s.names.length ∧ v13 = .int .i64 k ∧ Mem none_ w [StrRow v3 (readyUp s k)] wr) (fun _ i _ => s.names.length - (intOf i).toNat)
  case atStart => exact ⟨0, Nat.zero_le _, rfl, HM0⟩
  case round =>
    clear HM0
    obtain ⟨k, hk, rfl, HM⟩ := hrel
    by_cases hlt : k < s.names.length
    · have hCr : (PlanC b V s).ok wr := Pure.chunk HM.mu hC
      have hnm := (PlanC.reads hCr).nm
      obtain ⟨gN, cN', e7, _, _⟩ := Row.at_ hnm (by omega)
      rw [evN] at e7
      cases e7
      rw [evN] at hnm
      have hx0 : wr.cell? ⟨gN, k, none⟩ = some (.string s.names[k]) := Row.cell hnm (strs_get hlt)
      have hS := readyUp_succ s hlt
      have hL := readyUp_len s k
      have hrc := ready_calls b V s k wr hCr hG hlt
      have HS := Lib.hid hS
      have HevN := Lib.hid evN
      clear hS hnm evN
      generalize s.names[k] = x at *
      cases hr : readyB s (k : Int) with
      | true =>
        have HS2 := HS.out
        rw [hr, if_pos rfl] at HS2
        have HS3 := Lib.hid HS2
        rw [hr] at hrc
        clear HS HS2 hr
        go_wp2_with fail
        refine hrc.mono ?_
        rintro e w1 ⟨rfl, hp⟩
        have HM1 := HM.keep hp
        clear hrc hp
        go_wp2_with (at_builtin; refine wpList_appS strEP rfl _ _ rfl HM1 rfl x _ rfl ?hnb ?hb ?_; (case hnb => simp); (case hb => omega); intro v' w' HM3 HU3)
        rw [← HS3.out] at HM3
        go_roundw
        case rel => exact ⟨k + 1, by omega, by go_num, HM3⟩
        case measure => simp [intOf]; omega
      | false =>
        have HS2 := HS.out
        rw [hr, if_neg (by decide), List.append_nil] at HS2
        rw [hr] at hrc
        have HM2 := HM
        rw [← HS2] at HM2
        clear HS HS2 hr HM
        go_wp2_with fail
        refine hrc.mono ?_
        rintro e w1 ⟨rfl, hp⟩
        have HM1 := HM2.keep hp
        clear hrc hp
        go_wp2
        go_roundw
        case rel => exact ⟨k + 1, by omega, by go_num, HM1⟩
        case measure => simp [intOf]; omega
    · have e : k = s.names.length := by omega
      subst e
      go_wp2
      go_ret
      exact ⟨_, rfl, HM⟩

theorem Over_calls (b : Nat) (V : PV) (s : PS) (w : World) (hC : (PlanC b V s).ok w) (hG : PG s) :
    Calls Try.prog 21 #[.pointer (some ⟨b, 0, none⟩)] w fun e w' => e = .returned (.bool (overS s)) ∧ Pure w w' := by
  have hc5 := hG.c5
  have hdr : Pure w w.drew := (Mut.refl _ _).drew
  have hCd := Pure.chunk hdr hC
  have hok := ok_calls b V s _ hCd
  have y0 := (PlanC.reads hCd).cn (k := 0) (by omega)
  have y1 := (PlanC.reads hCd).cn (k := 1) (by omega)
  have e0 : s.counts[0] = s.counts.getD 0 0 := by rw [List.getD_eq_getElem?_getD, List.getElem?_eq_getElem (by omega)]; rfl
  have e1 : s.counts[1] = s.counts.getD 1 0 := by rw [List.getD_eq_getElem?_getD, List.getElem?_eq_getElem (by omega)]; rfl
  rw [e0] at y0
  rw [e1] at y1
  rw [Nat.add_zero] at y0
  have hq0 := hG.cnt 0 (by omega)
  have hq1 := hG.cnt 1 (by omega)
  have hr0 : s.states.count ((0 : Nat) : Int) ≤ s.states.length := List.count_le_length
  have hr1 : s.states.count ((1 : Nat) : Int) ≤ s.states.length := List.count_le_length
  have hl1 := hG.st1
  have hn := hG.ok.n512
  unfold overS
  have hb0 : 0 ≤ s.counts.getD 0 0 ∧ s.counts.getD 0 0 ≤ 512 := by omega
  have hb1 : 0 ≤ s.counts.getD 1 0 ∧ s.counts.getD 1 0 ≤ 512 := by omega
  clear e0 e1 hq0 hq1 hr0 hr1 hc5
  generalize s.counts.getD 0 0 = c0 at *
  generalize s.counts.getD 1 0 = c1 at *
  have hw1 : IntKind.i64.wrap (c0 + c1) = c0 + c1 := IntWalk.i64_in _ (by omega)
  go_enter Try.func21, Try.ntmps21
  go_wp2
  refine wp_plan [] (S := fun w' => w' = World.drew w) [(.pure, 0), (.eff, 1), (.pure, 2), (.pure, 3), (.pure, 4), (.pure, 5), (.pure, 6), (.pure, 7), (.load, 8), (.pure, 9), (.pure, 10), (.pure, 11), (.pure, 12), (.load, 13), (.pure, 14), (.pure, 15), (.pure, 16), (.pure, 17)] (by kernel_rfl) rfl (by kernel_rfl) rfl (fun _ _ _ _ _ h => h) rfl ?_
  generalize World.drew w = W at *
  repeat (first | (refine plan_pure (v := ?_) (a' := ?_) rfl rfl rfl ?_ ?_ ?_; rotate_left 2; (focus (intro w'; go_simp; with_reducible rfl)); (focus (simp only [Act.put, List.setIfInBounds_toArray, List.set_cons_zero, List.set_cons_succ]; rfl))) | (refine plan_load (v := ?_) (a' := ?_) rfl rfl rfl ?_ ?_ ?_; rotate_left 2; (focus (intro w' hw'; rw [hw']; go_simp; with_reducible rfl)); (focus (simp only [Act.put, List.setIfInBounds_toArray, List.set_cons_zero, List.set_cons_succ]; rfl))) | (refine plan_skip rfl rfl (by decide +kernel) (by simp only [Act.put, List.setIfInBounds_toArray, List.set_cons_zero, List.set_cons_succ]; rfl) ?_))
  refine plan_eff rfl (fun K hK => ?_)
  go_wp2_with (go_at_call 34; refine hok.mono ?_; rintro e w' ⟨rfl, rfl⟩)
  refine hK _ _ rfl ?_
  repeat (first | (refine plan_pure (v := ?_) (a' := ?_) rfl rfl rfl ?_ ?_ ?_; rotate_left 2; (focus (intro w'; go_simp; with_reducible rfl)); (focus (simp only [Act.put, List.setIfInBounds_toArray, List.set_cons_zero, List.set_cons_succ]; rfl))) | (refine plan_load (v := ?_) (a' := ?_) rfl rfl rfl ?_ ?_ ?_; rotate_left 2; (focus (intro w' hw'; rw [hw']; go_simp; with_reducible rfl)); (focus (simp only [Act.put, List.setIfInBounds_toArray, List.set_cons_zero, List.set_cons_succ]; rfl))) | (refine plan_skip rfl rfl (by decide +kernel) (by simp only [Act.put, List.setIfInBounds_toArray, List.set_cons_zero, List.set_cons_succ]; rfl) ?_))
  refine plan_done ?_
  go_wp2
  go_ret
  exact ⟨by by_cases h : c0 + c1 = 0 <;> simp [h], hdr⟩
end Go.Proofs.Ytliglejbkpjamaa
end
section
namespace Go.Proofs.Ytliglejbkpjamaa
open Go.RowKit

theorem place_of {s : PS} (hG : PG s) {x : ByteArray} {i : Int} (h : mget s.at_ x = some i) : ∃ k : Nat, i = (k : Int) ∧ k < s.names.length := by
  obtain ⟨hi0, hin⟩ := hG.at1 x i h
  exact ⟨i.toNat, by omega, (List.getElem?_eq_some_iff.1 hin).1⟩
theorem st_cell {b : Nat} {V : PV} {s : PS} {w : World} (hC : (PlanC b V s).ok w) (hG : PG s) {i : Nat} (hi : i < s.names.length) :
    ∃ sb sc, w.cell? ⟨b, 5, none⟩ = some (.slice (some ⟨sb, 0, none⟩) s.states.length sc) ∧ w.cell? ⟨sb, i, none⟩ = some (.int .i64 (stD s i)) ∧ s.states.length ≤ sc ∧ sc ≤ maxLen := by
  have hl1 := hG.st1
  have hl2 := hG.st2
  have hP := PlanC.reads hC
  obtain ⟨sb, sc, evS, nS1, nS2⟩ := Row.at_ hP.st (by omega)
  have hil : i < s.states.length := by omega
  have hb1 := hP.st
  rw [evS] at hb1
  have y0 := hP.c5
  rw [evS] at y0
  have y1 := IRow.cell hb1 rfl hil
  have hxs : s.states[i] = stD s i := by unfold stD; rw [Int.toNat_natCast, List.getD_eq_getElem?_getD, List.getElem?_eq_getElem hil]; rfl
  rw [hxs] at y1
  exact ⟨sb, sc, y0, y1, nS1, nS2⟩

theorem Start_calls (b : Nat) (V : PV) (s : PS) (x : ByteArray) (w : World) (hC : (PlanC b V s).ok w) (hG : PG s) :
    Calls Try.prog 19 #[.pointer (some ⟨b, 0, none⟩), .string x] w fun e w' => e = .returned (.int .i64 (startS s x).2) ∧ Mem (PlanC b V s).fp w [PlanC b V (startS s x).1] w' := by
  have hf := find_callsP b V s x w hC
  have HM := Mem.from hC
  unfold startS
  cases hg : mget s.at_ x with
  | none =>
    rw [hg] at hf
    clear hg
    dsimp only
    go_enter Try.func19, Try.ntmps19
    go_wp2_with (go_at_call 36; refine hf.mono ?_; rintro e w' ⟨rfl, rfl⟩)
    go_ret
    exact ⟨rfl, HM⟩
  | some i =>
    rw [hg] at hf
    dsimp only
    obtain ⟨i, rfl, hi⟩ := place_of hG hg
    clear hg
    have hr := ready_calls b V s i w hC hG hi
    cases hrb : readyB s (i : Int) with
    | false =>
      rw [hrb] at hr
      rw [if_neg (by decide)]
      clear hrb
      go_enter Try.func19, Try.ntmps19
      go_wp2_with fail
      refine hf.mono ?_
      rintro e w' ⟨rfl, rfl⟩
      go_wp2_with fail
      refine hr.mono ?_
      rintro e w' ⟨rfl, hp⟩
      have HM2 := HM.keep hp
      clear hp
      go_wp2
      go_ret
      exact ⟨rfl, HM2⟩
    | true =>
      rw [hrb] at hr
      rw [if_pos rfl]
      clear hrb
      go_enter Try.func19, Try.ntmps19
      go_wp2_with fail
      refine hf.mono ?_
      rintro e w' ⟨rfl, rfl⟩
      go_wp2_with fail
      refine hr.mono ?_
      rintro e w' ⟨rfl, hp⟩
      have HM2 := HM.keep hp
      clear hp HM
      go_wp2_with fail
      refine (turn_calls b V s i 1 _ HM2.head hG hi (by omega)).mono ?_
      rintro e w3 ⟨rfl, HM3⟩
      have HM4 := HM2.call1 HM3
      clear HM2 HM3
      go_wp2
      go_ret
      exact ⟨rfl, HM4⟩

theorem PG.skip {s : PS} (hG : PG s) {f i : Nat} (hi : i < s.names.length) (hf : s.names.length ≤ i + f) (h3 : 3 ≤ stD s i) : SkipR s i (skipF f s i) := skipF_spec f s i hG (by omega) (by omega) h3 (by omega)

set_option maxHeartbeats 4000000 in
theorem skip_calls (b : Nat) (V : PV) : ∀ (f : Nat) (s : PS) (i : Nat) (w : World), (PlanC b V s).ok w → PG s → i < s.names.length → s.names.length ≤ i + f → 3 ≤ stD s i →
    Calls Try.prog 38 #[.pointer (some ⟨b, 0, none⟩), .int .i64 i] w fun e w' => e = .returned (.tuple #[]) ∧ Mem (PlanC b V s).fp w [PlanC b V (skipF f s i)] w' := by
  intro f
  induction f with
  | zero => intro s i w _ _ hi hf; omega
  | succ f ih =>
    intro s i w hC hG hi hf h3
    have hn := hG.ok.n512
    have hP := PlanC.reads hC
    have hu1 : s.users.length ≤ s.names.length := Nat.le_of_eq hG.usLen
    have hu2 : s.names.length ≤ s.users.length := Nat.le_of_eq hG.usLen.symm
    have hiu : i < s.users.length := by omega
    obtain ⟨gU, cU, evU, nU1, nU2⟩ := Row.at_ hP.us.head (by omega)
    have lU : s.users.length ≤ V.us.length := Nat.le_of_eq hP.us.nest_len.symm
    have huH := hP.us.head
    rw [evU] at huH
    have e0 := hP.c4
    rw [evU] at e0
    have e2 := nest_cell huH (k := i) (by omega)
    have hk0 := hP.us.nestAt hiu (by omega)
    obtain ⟨Ak, ck, ek, n1, n2⟩ := Row.any_ hk0
    have hlk : s.users[i].length ≤ 30000000 := hG.usL _ (List.getElem_mem hiu)
    rw [ek] at e2
    unfold maxLen at n2
    have hus : s.users.getD (i : Int).toNat [] = s.users[i] := by rw [Int.toNat_natCast, List.getD_eq_getElem?_getD, List.getElem?_eq_getElem hiu]; rfl
    have hfin : skipF (f + 1) s i = s.users[i].foldl (fun s k => if stD s k = 0 then skipF f (turnS s k 4) k else s) s := by
      show (s.users.getD (i : Int).toNat []).foldl _ s = _
      rw [hus]
    have hur : ∀ x, x ∈ s.users[i] → (i : Int) < x ∧ x < (s.names.length : Int) := fun x hx => hG.userR (j := i) (by rw [← hus, Int.toNat_natCast] at hx; exact hx)
    have HM0 := Mem.from hC
    have Hfin := Lib.hid hfin
    have Hek := Lib.hid ek
    clear hfin hus huH hk0 evU hP ek
    go_enter Try.func38, Try.ntmps38
    go_wp2
    clear e0 e2
    go_loopw [14] (fun v14 wr => ∃ (j : Nat) (t : PS), j ≤ s.users[i].length ∧ v14 = .int .i64 j ∧ PG t ∧ Hid (Same s t) ∧ Hid ((s.users[i].drop j).foldl (fun s k => if stD s k = 0 then skipF f (turnS s k 4) k else s) t = skipF (f + 1) s i) ∧ Mem (PlanC b V s).fp w [PlanC b V t] wr) (fun v _ => s.users[i].length - (intOf v).toNat)
    case atStart => exact ⟨0, s, Nat.zero_le _, rfl, hG, Lib.hid (Same.refl s), by unfold Hid; rw [Hfin.out]; rfl, HM0⟩
    case round =>
      clear HM0
      obtain ⟨j, t, hj, rfl, hGt, hSt, HF, HM⟩ := hrel
      by_cases hlt : j < s.users[i].length
      · have hCt := HM.head
        have hPt := PlanC.reads hCt
        have htu : t.users = s.users := hSt.out.2.2.2.2
        have htn : t.names = s.names := hSt.out.1
        have hk1 := hPt.us.nestAt (k := i) (by rw [htu]; omega) (by omega)
        rw [Hek.out] at hk1
        have htui : t.users[i]'(by rw [htu]; omega) = s.users[i] := by simp only [htu]
        rw [htui] at hk1
        obtain ⟨gk, ck', e7, _, _⟩ := Row.at_ hk1 (by omega)
        cases e7
        have hx0 : wr.cell? ⟨gk, j, none⟩ = some (.int .i64 s.users[i][j]) := Row.cell hk1 (ints_get hlt)
        have hxr := hur _ (List.getElem_mem hlt)
        have HF1 := HF.out
        rw [List.drop_eq_getElem_cons hlt, List.foldl_cons] at HF1
        have Htn := Lib.hid htn
        clear hPt htu hk1 htui HF htn
        generalize s.users[i][j] = x at *
        obtain ⟨x, rfl⟩ : ∃ m : Nat, x = (m : Int) := ⟨x.toNat, by omega⟩
        have hxn : x < s.names.length := by omega
        have hxt : x < t.names.length := by rw [Htn.out]; exact hxn
        obtain ⟨sb, sc, y0, y1, q1, q2⟩ := st_cell hCt hGt hxt
        have hl1 := hGt.st1
        have hl2 := hGt.st2
        have hxs : x < t.states.length := by omega
        unfold maxLen at q2
        by_cases hz : stD t x = 0
        · rw [if_pos hz] at HF1
          have HF2 := Lib.hid HF1
          have hstu : stD (turnS t x 4) x = 4 := by rw [stD_turn (by omega) (by rw [Int.toNat_natCast]; exact hxs) (by omega), if_pos rfl]
          have hGu : PG (turnS t x 4) := hGt.turn (by omega) (by omega) (by omega) (by omega)
          have hfu : (turnS t x 4).names.length ≤ x + f := by show t.names.length ≤ _; rw [Htn.out]; omega
          have hSk := hGu.skip (f := f) (i := x) hxt hfu (by omega)
          have hSS := Lib.hid (hSt.out.trans ((Same.turn t x 4).trans hSk.sk.sameP))
          have Hstu := Lib.hid (show 3 ≤ stD (turnS t x 4) x by omega)
          have hxt' : x < (turnS t x 4).names.length := hxt
          rw [hz] at y1
          clear hz HF1 hstu hl1 hl2
          go_wp2_with fail
          have hturn := turn_calls b V t x 4 wr hCt hGt hxt (by omega)
          refine hturn.mono ?_
          rintro e w3 ⟨rfl, HM3⟩
          have HM4 := HM.call1 HM3
          clear hturn HM3 y0 y1 HM hx0
          go_wp2_with fail
          refine (ih (turnS t x 4) x w3 HM4.head hGu hxt' hfu Hstu.out).mono ?_
          rintro e w5 ⟨rfl, HM5⟩
          have HM6 := HM4.call1 HM5
          clear HM4 HM5
          go_wp2
          go_roundw
          case rel => exact ⟨j + 1, _, by omega, by go_num, hSk.pg, hSS, HF2, HM6⟩
          case measure => simp [intOf]; omega
        · rw [if_neg hz] at HF1
          have HF2 := Lib.hid HF1
          clear HF1
          generalize stD t x = y at *
          have hd : (y == 0) = false := by simpa using hz
          have hd2 : decide (y = 0) = false := decide_eq_false hz
          go_wp2
          go_roundw
          case rel => exact ⟨j + 1, t, by omega, by go_num, hGt, hSt, HF2, HM⟩
          case measure => simp [intOf]; omega
      · have e : j = s.users[i].length := by omega
        subst e
        have HF1 := HF.out
        rw [List.drop_length] at HF1
        have HF2 : t = skipF (f + 1) s i := HF1
        clear HF HF1
        subst HF2
        go_wp2
        go_end0
        exact ⟨rfl, HM⟩
end Go.Proofs.Ytliglejbkpjamaa
end
section
namespace Go.Proofs.Ytliglejbkpjamaa
open Go.RowKit

set_option maxHeartbeats 2000000 in
theorem Finish_calls (b : Nat) (V : PV) (s : PS) (x : ByteArray) (ok : Bool) (w : World) (hC : (PlanC b V s).ok w) (hG : PG s) :
    Calls Try.prog 20 #[.pointer (some ⟨b, 0, none⟩), .string x, .bool ok] w fun e w' => e = .returned (.int .i64 (finishS s x ok).2) ∧ Mem (PlanC b V s).fp w [PlanC b V (finishS s x ok).1] w' := by
  have hf := find_callsP b V s x w hC
  have HM := Mem.from hC
  unfold finishS
  cases hg : mget s.at_ x with
  | none =>
    rw [hg] at hf
    clear hg
    dsimp only
    go_enter Try.func20, Try.ntmps20
    go_wp2_with (go_at_call 36; refine hf.mono ?_; rintro e w' ⟨rfl, rfl⟩)
    go_ret
    exact ⟨rfl, HM⟩
  | some i =>
    rw [hg] at hf
    dsimp only
    obtain ⟨i, rfl, hi⟩ := place_of hG hg
    clear hg
    obtain ⟨sb, sc, y0, y1, q1, q2⟩ := st_cell hC hG hi
    have hl1 := hG.st1
    have hl2 := hG.st2
    have hn := hG.ok.n512
    have hil : i < s.states.length := by omega
    unfold maxLen at q2
    by_cases h1 : stD s i = 1
    · rw [if_pos h1]
      rw [h1] at y1
      clear h1
      cases ok with
      | true =>
        rw [if_pos rfl]
        go_enter Try.func20, Try.ntmps20
        go_wp2_with fail
        refine hf.mono ?_
        rintro e w' ⟨rfl, rfl⟩
        go_wp2_with fail
        refine (turn_calls b V s i 2 _ hC hG hi (by omega)).mono ?_
        rintro e w3 ⟨rfl, HM3⟩
        clear y0 y1
        go_wp2
        go_ret
        exact ⟨rfl, HM3⟩
      | false =>
        rw [if_neg (by decide)]
        have hGu : PG (turnS s i 3) := hG.turn (by omega) (by omega) (by omega) (by omega)
        have hstu : 3 ≤ stD (turnS s i 3) i := by rw [stD_turn (by omega) (by rw [Int.toNat_natCast]; exact hil) (by omega), if_pos rfl]; omega
        have Hstu := Lib.hid hstu
        clear hstu
        go_enter Try.func20, Try.ntmps20
        go_wp2_with fail
        refine hf.mono ?_
        rintro e w' ⟨rfl, rfl⟩
        go_wp2_with fail
        refine (turn_calls b V s i 3 _ hC hG hi (by omega)).mono ?_
        rintro e w3 ⟨rfl, HM3⟩
        clear y0 y1
        go_wp2_with fail
        refine (skip_calls b V s.names.length (turnS s i 3) i w3 HM3.head hGu hi (by show s.names.length ≤ _; omega) Hstu.out).mono ?_
        rintro e w5 ⟨rfl, HM5⟩
        have HM6 := HM3.call1 HM5
        clear HM5 HM3
        go_wp2
        go_ret
        exact ⟨rfl, HM6⟩
    · rw [if_neg h1]
      generalize stD s i = y at *
      have hd : (y == 1) = false := by simpa using h1
      have hd2 : decide (y = 1) = false := decide_eq_false h1
      go_enter Try.func20, Try.ntmps20
      go_wp2_with fail
      refine hf.mono ?_
      rintro e w' ⟨rfl, rfl⟩
      go_wp2
      go_ret
      exact ⟨rfl, HM⟩

theorem PG.stopUp {s : PS} (hG : PG s) : ∀ k : Nat, k ≤ s.names.length → PG (Go.Proofs.Ytliglejbkpjamaa.stopUp s k) ∧ Skips s (Go.Proofs.Ytliglejbkpjamaa.stopUp s k)
  | 0, _ => ⟨hG, Skips.refl s⟩
  | k + 1, hk => by
    obtain ⟨h1, h2⟩ := PG.stopUp hG k (by omega)
    have hnm : (Go.Proofs.Ytliglejbkpjamaa.stopUp s k).names = s.names := h2.sameP.1
    unfold Go.Proofs.Ytliglejbkpjamaa.stopUp
    by_cases hz : stD (Go.Proofs.Ytliglejbkpjamaa.stopUp s k) (k : Int) = 0
    · rw [if_pos hz]
      exact ⟨h1.turn (by omega) (by rw [hnm]; omega) (by omega) (by omega), h2.trans (Skips.one h1 (by omega) (by rw [hnm]; omega) hz)⟩
    · rw [if_neg hz]
      exact ⟨h1, h2⟩

theorem PG.start {s : PS} (hG : PG s) (x : ByteArray) : PG (startS s x).1 := by
  unfold startS
  cases hg : mget s.at_ x with
  | none => exact hG
  | some i =>
    obtain ⟨i, rfl, hi⟩ := place_of hG hg
    dsimp only
    split
    · exact hG.turn (by omega) (by omega) (by omega) (by omega)
    · exact hG
theorem PG.finish {s : PS} (hG : PG s) (x : ByteArray) (ok : Bool) : PG (finishS s x ok).1 := by
  unfold finishS
  cases hg : mget s.at_ x with
  | none => exact hG
  | some i =>
    obtain ⟨i, rfl, hi⟩ := place_of hG hg
    dsimp only
    split
    · split
      · exact hG.turn (by omega) (by omega) (by omega) (by omega)
      · have hl2 := hG.st2
        have hGu : PG (turnS s i 3) := hG.turn (by omega) (by omega) (by omega) (by omega)
        exact (hGu.skip (i := i) hi (by show s.names.length ≤ _; omega) (by rw [stD_turn (by omega) (by rw [Int.toNat_natCast]; omega) (by omega), if_pos rfl]; omega)).pg
    · exact hG
theorem PG.stop {s : PS} (hG : PG s) : PG (stopS s) := (hG.stopUp s.states.length hG.st1).1
end Go.Proofs.Ytliglejbkpjamaa
end
