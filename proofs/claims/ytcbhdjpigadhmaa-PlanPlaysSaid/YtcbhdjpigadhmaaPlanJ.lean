/-
  The walks of layer 19 (plan): Ready, Start, State, Count, Over.
-/
import Derived.Test.YtcbhdjpigadhmaaPlanI
set_option linter.unusedVariables false
set_option linter.unusedSimpArgs false
namespace Go.Proofs.Ytcbhdjpigadhmaa
open Go.RowKit

theorem readyUp_succ (s : PS) {k : Nat} (h : k < s.names.length) : readyUp s (k + 1) = readyUp s k ++ if readyB s (k : Int) then [s.names[k]] else [] := by
  unfold readyUp
  rw [List.take_succ_eq_append_getElem h, List.zipIdx_append, List.filter_append, List.map_append]
  congr 1
  have e : (s.names.take k).length = k := by rw [List.length_take]; omega
  rw [e]
  simp only [List.zipIdx_cons, List.zipIdx_nil, List.filter_cons, List.filter_nil, Nat.zero_add]
  by_cases hr : readyB s (k : Int) = true <;> simp [hr]
theorem readyUp_len (s : PS) (k : Nat) : (readyUp s k).length ≤ k := by
  unfold readyUp
  rw [List.length_map]
  refine Nat.le_trans (List.length_filter_le _ _) ?_
  rw [List.length_zipIdx, List.length_take]; omega

set_option maxHeartbeats 4000000 in
theorem Ready_calls (b : Nat) (V : PV) (s : PS) (w : World) (hC : (PlanC b V s).ok w) (hG : PG s) :
    Calls Try.prog 14 #[.pointer (some ⟨b, 0, none⟩)] w fun e w' => ∃ v, e = .returned v ∧ Mem none_ w [StrRow v (readyS s)] w' := by
  have hn := hG.ok.n512
  obtain ⟨AN, cN, evN, nn1, nn2⟩ := Row.any_ (PlanC.reads hC).nm
  have d0 : w.cell? ⟨b, 0, none⟩ = some (.slice AN s.names.length cN) := by rw [← evN]; exact (PlanC.reads hC).c0
  have HM0 := (Mem.start (fp := none_) w).nilS
  unfold maxLen at nn2
  go_enter Try.func14, Try.ntmps14
  go_wp2_with (go_at_call 33; refine (ok_calls b V s _ hC).mono ?_; rintro e w' ⟨rfl, rfl⟩)
  clear d0
  go_loopw [3, 13] (fun v3 v13 wr => ∃ k : Nat, k ≤ s.names.length ∧ v13 = .int .i64 k ∧ Mem none_ w [StrRow v3 (readyUp s k)] wr) (fun _ i _ => s.names.length - (intOf i).toNat)
  case atStart => exact ⟨0, Nat.zero_le _, rfl, HM0⟩
  case round =>
    clear HM0
    obtain ⟨k, hk, rfl, HM⟩ := hrel
    by_cases hlt : k < s.names.length
    · have hCr : (PlanC b V s).ok wr := Pure.chunk HM.mu hC
      have hnm := (PlanC.reads hCr).nm
      obtain ⟨gN, cN', e7, _, _⟩ := Row.at_ hnm (by omega)
      rw [evN] at e7
      cases e7
      rw [evN] at hnm
      have hx0 : wr.cell? ⟨gN, k, none⟩ = some (.string s.names[k]) := Row.cell hnm (strs_get hlt)
      have hS := readyUp_succ s hlt
      have hL := readyUp_len s k
      have hrc := ready_calls b V s k wr hCr hG hlt
      have HS := Lib.hid hS
      have HevN := Lib.hid evN
      clear hS hnm evN
      generalize s.names[k] = x at *
      cases hr : readyB s (k : Int) with
      | true =>
        have HS2 := HS.out
        rw [hr, if_pos rfl] at HS2
        have HS3 := Lib.hid HS2
        rw [hr] at hrc
        clear HS HS2 hr
        go_wp2_with fail
        refine hrc.mono ?_
        rintro e w1 ⟨rfl, hp⟩
        have HM1 := HM.keep hp
        clear hrc hp
        go_wp2_with (at_builtin; refine wpList_appS strE rfl _ _ rfl HM1 rfl x _ rfl ?hnb ?hb ?_; (case hnb => simp); (case hb => omega); intro v' w' HM3 HU3)
        rw [← HS3.out] at HM3
        go_roundw
        case rel => exact ⟨k + 1, by omega, by go_num, HM3⟩
        case measure => simp [intOf]; omega
      | false =>
        have HS2 := HS.out
        rw [hr, if_neg (by decide), List.append_nil] at HS2
        rw [hr] at hrc
        have HM2 := HM
        rw [← HS2] at HM2
        clear HS HS2 hr HM
        go_wp2_with fail
        refine hrc.mono ?_
        rintro e w1 ⟨rfl, hp⟩
        have HM1 := HM2.keep hp
        clear hrc hp
        go_wp2
        go_roundw
        case rel => exact ⟨k + 1, by omega, by go_num, HM1⟩
        case measure => simp [intOf]; omega
    · have e : k = s.names.length := by omega
      subst e
      go_wp2
      go_ret
      exact ⟨_, rfl, HM⟩

theorem State_calls (b : Nat) (V : PV) (s : PS) (x : ByteArray) (w : World) (hC : (PlanC b V s).ok w) (hG : PG s) :
    Calls Try.prog 19 #[.pointer (some ⟨b, 0, none⟩), .string x] w fun e w' => e = .returned (.tuple #[.int .i64 (stateS s x).1, .int .i64 (stateS s x).2]) ∧ w = w' := by
  have hf := find_calls b V s x w hC
  unfold stateS
  cases hg : mget s.at_ x with
  | none =>
    rw [hg] at hf
    clear hg
    go_enter Try.func19, Try.ntmps19
    go_wp2_with (go_at_call 35; refine hf.mono ?_; rintro e w' ⟨rfl, rfl⟩)
    go_ret2
    exact ⟨rfl, rfl⟩
  | some i =>
    rw [hg] at hf
    dsimp only
    obtain ⟨hi0, hin⟩ := hG.at1 x i hg
    clear hg
    obtain ⟨i, rfl⟩ : ∃ m : Nat, i = (m : Int) := ⟨i.toNat, by omega⟩
    have hil : i < s.names.length := by
      rw [Int.toNat_natCast] at hin
      exact (List.getElem?_eq_some_iff.1 hin).1
    clear hin hi0
    have hl1 := hG.st1
    have hl2 := hG.st2
    have hn := hG.ok.n512
    have hP := PlanC.reads hC
    obtain ⟨sb, sc, evS, nS1, nS2⟩ := Row.at_ hP.st (by omega)
    have hil : i < s.states.length := by omega
    have hb1 := hP.st
    rw [evS] at hb1
    have y0 := hP.c5
    rw [evS] at y0
    have y1 := IRow.cell hb1 rfl hil
    have hxs : s.states[i] = stD s i := by unfold stD; rw [Int.toNat_natCast, List.getD_eq_getElem?_getD, List.getElem?_eq_getElem hil]; rfl
    rw [hxs] at y1
    clear hb1 hxs evS hP
    generalize stD s i = y at *
    go_enter Try.func19, Try.ntmps19
    go_wp2_with (go_at_call 35; refine hf.mono ?_; rintro e w' ⟨rfl, rfl⟩)
    go_ret2
    exact ⟨rfl, rfl⟩

theorem Count_calls (b : Nat) (V : PV) (s : PS) (st : Int) (w : World) (hC : (PlanC b V s).ok w) (hG : PG s) :
    Calls Try.prog 17 #[.pointer (some ⟨b, 0, none⟩), .int .i64 st] w fun e w' => e = .returned (.int .i64 (countS s st)) ∧ w = w' := by
  unfold countS
  have hok := ok_calls b V s w hC
  by_cases h1 : st < 0
  · rw [if_pos (.inl h1)]
    have d1 : decide (st < 0) = true := decide_eq_true h1
    go_enter Try.func17, Try.ntmps17
    go_wp2_with (go_at_call 33; refine hok.mono ?_; rintro e w' ⟨rfl, rfl⟩)
    go_ret
    exact ⟨rfl, rfl⟩
  · have d1 : decide (st < 0) = false := decide_eq_false h1
    by_cases h2 : 4 < st
    · rw [if_pos (.inr h2)]
      have d2 : decide (4 < st) = true := decide_eq_true h2
      go_enter Try.func17, Try.ntmps17
      go_wp2_with (go_at_call 33; refine hok.mono ?_; rintro e w' ⟨rfl, rfl⟩)
      go_ret
      exact ⟨rfl, rfl⟩
    · rw [if_neg (by omega)]
      have d2 : decide (4 < st) = false := decide_eq_false h2
      obtain ⟨x, rfl⟩ : ∃ m : Nat, st = (m : Int) := ⟨st.toNat, by omega⟩
      have hc5 := hG.c5
      have hxc : x < s.counts.length := by omega
      have y2 := (PlanC.reads hC).cn hxc
      have ecx : s.counts[x] = s.counts.getD x 0 := by rw [List.getD_eq_getElem?_getD, List.getElem?_eq_getElem hxc]; rfl
      rw [ecx] at y2
      rw [Int.toNat_natCast]
      have hx5 : x < 5 := by omega
      have hx6 : (x : Int) < 5 := by omega
      clear ecx hxc hc5
      generalize s.counts.getD x 0 = y at *
      go_enter Try.func17, Try.ntmps17
      go_wp2_with (go_at_call 33; refine hok.mono ?_; rintro e w' ⟨rfl, rfl⟩)
      go_ret
      exact ⟨rfl, rfl⟩

theorem Over_calls (b : Nat) (V : PV) (s : PS) (w : World) (hC : (PlanC b V s).ok w) (hG : PG s) :
    Calls Try.prog 13 #[.pointer (some ⟨b, 0, none⟩)] w fun e w' => e = .returned (.bool (overS s)) ∧ Pure w w' := by
  have hc5 := hG.c5
  have hdr : Pure w w.drew := (Mut.refl _ _).drew
  have hCd := Pure.chunk hdr hC
  have hok := ok_calls b V s _ hCd
  have y0 := (PlanC.reads hCd).cn (k := 0) (by omega)
  have y1 := (PlanC.reads hCd).cn (k := 1) (by omega)
  have e0 : s.counts[0] = s.counts.getD 0 0 := by rw [List.getD_eq_getElem?_getD, List.getElem?_eq_getElem (by omega)]; rfl
  have e1 : s.counts[1] = s.counts.getD 1 0 := by rw [List.getD_eq_getElem?_getD, List.getElem?_eq_getElem (by omega)]; rfl
  rw [e0] at y0
  rw [e1] at y1
  rw [Nat.add_zero] at y0
  have hq0 := hG.cnt 0 (by omega)
  have hq1 := hG.cnt 1 (by omega)
  have hr0 : s.states.count ((0 : Nat) : Int) ≤ s.states.length := List.count_le_length
  have hr1 : s.states.count ((1 : Nat) : Int) ≤ s.states.length := List.count_le_length
  have hl1 := hG.st1
  have hn := hG.ok.n512
  unfold overS
  have hb0 : 0 ≤ s.counts.getD 0 0 ∧ s.counts.getD 0 0 ≤ 512 := by omega
  have hb1 : 0 ≤ s.counts.getD 1 0 ∧ s.counts.getD 1 0 ≤ 512 := by omega
  clear e0 e1 hq0 hq1 hr0 hr1 hc5
  generalize s.counts.getD 0 0 = c0 at *
  generalize s.counts.getD 1 0 = c1 at *
  have hw1 : IntKind.i64.wrap (c0 + c1) = c0 + c1 := IntWalk.i64_in _ (by omega)
  go_enter Try.func13, Try.ntmps13
  go_wp2
  refine wp_plan [] (S := fun w' => w' = World.drew w) [(.pure, 0), (.eff, 1), (.pure, 2), (.pure, 3), (.pure, 4), (.pure, 5), (.pure, 6), (.pure, 7), (.load, 8), (.pure, 9), (.pure, 10), (.pure, 11), (.pure, 12), (.load, 13), (.pure, 14), (.pure, 15), (.pure, 16), (.pure, 17)] (by kernel_rfl) rfl (by kernel_rfl) rfl (fun _ _ _ _ _ h => h) rfl ?_
  generalize World.drew w = W at *
  repeat (first | (refine plan_pure (v := ?_) (a' := ?_) rfl rfl rfl ?_ ?_ ?_; rotate_left 2; (focus (intro w'; go_simp; with_reducible rfl)); (focus (simp only [Act.put, List.setIfInBounds_toArray, List.set_cons_zero, List.set_cons_succ]; rfl))) | (refine plan_load (v := ?_) (a' := ?_) rfl rfl rfl ?_ ?_ ?_; rotate_left 2; (focus (intro w' hw'; rw [hw']; go_simp; with_reducible rfl)); (focus (simp only [Act.put, List.setIfInBounds_toArray, List.set_cons_zero, List.set_cons_succ]; rfl))) | (refine plan_skip rfl rfl (by decide +kernel) (by simp only [Act.put, List.setIfInBounds_toArray, List.set_cons_zero, List.set_cons_succ]; rfl) ?_))
  refine plan_eff rfl (fun K hK => ?_)
  go_wp2_with (go_at_call 33; refine hok.mono ?_; rintro e w' ⟨rfl, rfl⟩)
  refine hK _ _ rfl ?_
  repeat (first | (refine plan_pure (v := ?_) (a' := ?_) rfl rfl rfl ?_ ?_ ?_; rotate_left 2; (focus (intro w'; go_simp; with_reducible rfl)); (focus (simp only [Act.put, List.setIfInBounds_toArray, List.set_cons_zero, List.set_cons_succ]; rfl))) | (refine plan_load (v := ?_) (a' := ?_) rfl rfl rfl ?_ ?_ ?_; rotate_left 2; (focus (intro w' hw'; rw [hw']; go_simp; with_reducible rfl)); (focus (simp only [Act.put, List.setIfInBounds_toArray, List.set_cons_zero, List.set_cons_succ]; rfl))) | (refine plan_skip rfl rfl (by decide +kernel) (by simp only [Act.put, List.setIfInBounds_toArray, List.set_cons_zero, List.set_cons_succ]; rfl) ?_))
  refine plan_done ?_
  go_wp2
  go_ret
  exact ⟨by by_cases h : c0 + c1 = 0 <;> simp [h], hdr⟩
end Go.Proofs.Ytcbhdjpigadhmaa
