/-
  The walk of PlanWell.
-/
import Derived.Test.YtcbhdjpigadhmaaPlanU
import Derived.Test.YtcbhdjpigadhmaaPlanV
import Derived.Test.YtcbhdjpigadhmaaPlanO
set_option linter.unusedVariables false
set_option linter.unusedSimpArgs false
namespace Go.Proofs.Ytcbhdjpigadhmaa
open Go.RowKit

/-- What holds when k nodes are done and all others wait. -/
structure WellK (n k : Nat) (s : PS) : Prop where
  pg : PG s
  inv : Inv s
  len : s.names.length = n
  c1 : cN s 1 = 0
  c2 : cN s 2 = k
  c3 : cN s 3 = 0
  c4 : cN s 4 = 0
theorem WellK.start {g : List Nd} {s : PS} (hb : buildOf g = some s) (ok : PlanOk s) : WellK g.length 0 s := by
  obtain ⟨hG, _, hz, hl⟩ := build_good hb ok
  have no : ∀ y : Int, y ≠ 0 → cN s y = 0 := fun y hy => by
    refine Nat.eq_zero_of_not_pos fun hp => ?_
    obtain ⟨i, _, e⟩ := cN_pos hp
    rw [hz] at e; exact hy e.symm
  exact ⟨hG, Inv.init hz, hl, no 1 (by decide), no 2 (by decide), no 3 (by decide), no 4 (by decide)⟩
/-- One more. -/
theorem WellK.step {n k : Nat} {s : PS} (h : WellK n k s) {x : ByteArray} (hx : x ∈ readyS s) : ∃ s1 s2, startS s x = (s1, 0) ∧ PG s1 ∧ finishS s1 x true = (s2, 0) ∧ WellK n (k + 1) s2 := by
  obtain ⟨j, hj, hm, hr, hs⟩ := start_ready h.pg hx
  have r0 := (ready_iff.1 hr).1
  have hG1 : PG (turnS s j 1) := h.pg.turn (by omega) (by omega) (by omega) (by omega)
  have hj1 : j < (turnS s j 1).names.length := hj
  have e1 : stD (turnS s j 1) j = 1 := by rw [st_turn h.pg hj _ (by omega), if_pos rfl]
  have hf : finishS (turnS s j 1) x true = (turnS (turnS s j 1) j 2, 0) := by
    unfold finishS
    have : mget (turnS s j 1).at_ x = some (j : Int) := hm
    rw [this]
    simp only [e1, if_true]
  have a1 := cN_turn h.pg hj 1 1
  have a2 := cN_turn h.pg hj 1 2
  have a3 := cN_turn h.pg hj 1 3
  have a4 := cN_turn h.pg hj 1 4
  have b1 := cN_turn hG1 hj1 2 1
  have b2 := cN_turn hG1 hj1 2 2
  have b3 := cN_turn hG1 hj1 2 3
  have b4 := cN_turn hG1 hj1 2 4
  rw [r0] at a1 a2 a3 a4
  rw [e1] at b1 b2 b3 b4
  have c1 := h.c1
  have c2 := h.c2
  have c3 := h.c3
  have c4 := h.c4
  simp at a1 a2 a3 a4 b1 b2 b3 b4
  exact ⟨_, _, hs, hG1, hf, hG1.turn (by omega) (by omega) (by omega) (by omega), (h.inv.start_ h.pg hj hr).done_ hG1 hj1 e1, h.len, by omega, by omega, by omega, by omega⟩
theorem WellK.more {n k : Nat} {s : PS} (h : WellK n k s) (hk : k < n) : readyS s ≠ [] := by
  have ha := cN_all h.pg
  have := h.c1
  have := h.c2
  have := h.c3
  have := h.c4
  have := h.len
  obtain ⟨j, hj, hr⟩ := some_ready h.pg h.inv h.c1 (by omega)
  exact ready_ne hj hr
theorem WellK.end_ {n : Nat} {s : PS} (h : WellK n n s) : overS s = true ∧ countS s 2 = (n : Int) := by
  have ha := cN_all h.pg
  have := h.c1
  have h2 := h.c2
  have := h.c3
  have := h.c4
  have := h.len
  refine ⟨(over_iff h.pg).2 ⟨by omega, by omega⟩, ?_⟩
  unfold countS
  rw [if_neg (by omega)]
  have := cnt_cN h.pg (k := 2) (by omega)
  rw [show ((2 : Int).toNat) = 2 from rfl, this]
  show (cN s 2 : Int) = _
  omega

set_option maxHeartbeats 8000000 in
theorem well_calls (GA : Option Addr) (gn gc : Nat) (NV PV_ : Value) (g : List Nd) (picks : List Int) (w : World) (hG : Nodes w NV g) (hbnd : ∀ x, x ∈ g → x.src.length ≤ 10000000000000 ∧ x.aft.length ≤ 10000000000000) (hP : U8s w PV_ picks) (hpb : picks.length ≤ 140737488351232) (hpr : ∀ x, x ∈ picks → 0 ≤ x ∧ x < 256) :
    Calls Try.prog 4 #[.agg #[.slice GA gn gc, NV], PV_] w fun e w' => e = .returned (.bool true) ∧ Mem none_ w [] w' := by
  obtain ⟨A, c, rfl, nn1, nn2⟩ : ∃ A c, NV = .slice A g.length c ∧ g.length ≤ c ∧ c ≤ maxLen := by
    obtain ⟨cells, h, _⟩ := hG
    exact Sl.any_ h
  obtain ⟨PA, pc, rfl, pn1, pn2⟩ := Sl.any_ hP
  unfold maxLen at nn2 pn2
  have HM0 := (Mem.start (fp := none_) w).box #[.slice GA gn gc, .slice A g.length c] 25
  have c0 : (w.alloc (.cells #[.slice GA gn gc, .slice A g.length c] 25)).cell? ⟨w.heap.size, 0, none⟩ = some (.slice GA gn gc) := by rw [Blk.cell_ HM0.head]; rfl
  have c1 : (w.alloc (.cells #[.slice GA gn gc, .slice A g.length c] 25)).cell? ⟨w.heap.size, 1, none⟩ = some (.slice A g.length c) := by rw [Blk.cell_ HM0.head]; rfl
  have hfar := far_calls (.slice GA gn gc) _ g _ (hG.pure HM0.mu) hbnd
  cases hf : farG g with
  | true =>
    rw [hf] at hfar
    clear hf
    go_enter Try.func4, Try.ntmps4
    go_wp2_with fail
    refine hfar.mono ?_
    rintro e w1 ⟨rfl, HM1⟩
    have HM2 := HM0.got HM1
    clear hfar c0 c1
    go_wp2_with fail
    refine (alive_calls w1).mono ?_
    rintro e w2 ⟨rfl, HM3⟩
    have HM4 := (HM2.got HM3).sel [] (by decide)
    clear HM0 HM1 HM2 HM3
    go_wp2
    go_ret
    exact ⟨rfl, HM4⟩
  | false =>
    rw [hf] at hfar
    obtain ⟨hl515, hbd⟩ := farG_bounds hf
    clear hf
    go_enter Try.func4, Try.ntmps4
    go_wp2_with fail
    refine hfar.mono ?_
    rintro e w1 ⟨rfl, HM1⟩
    have HM2 := HM0.got HM1
    clear hfar c0 c1 HM0 HM1
    have c0 : w1.cell? ⟨w.heap.size, 0, none⟩ = some (.slice GA gn gc) := by have h1 : (Blk w.heap.size 25 _).ok w1 := HM2.at_ 0 rfl; rw [Blk.cell_ h1]; rfl
    have c1 : w1.cell? ⟨w.heap.size, 1, none⟩ = some (.slice A g.length c) := by have h1 : (Blk w.heap.size 25 _).ok w1 := HM2.at_ 0 rfl; rw [Blk.cell_ h1]; rfl
    go_wp2_with fail
    refine (theirs_calls GA gn gc _ g w1 (hG.pure HM2.mu) (by omega)).mono ?_
    rintro e w2 ⟨v2, rfl, hG2, HM3⟩
    have HM4 := HM2.got HM3
    clear HM2 HM3 c0 c1
    go_wp2_with fail
    refine (New_calls _ _ g w2 hG2 hbd (by omega)).mono ?_
    rintro e w3 ⟨h1, h2⟩
    cases hB : buildOf g with
    | none =>
      obtain ⟨rfl, HM5⟩ := h1 hB
      have HM6 := HM4.got HM5
      clear h1 h2 hG2 HM4 HM5 hB
      go_wp2_with fail
      refine (alive_calls _).mono ?_
      rintro e w4 ⟨rfl, HM7⟩
      have HM8 := (HM6.got HM7).sel [] (by decide)
      clear HM6 HM7
      go_wp2
      go_ret
      exact ⟨rfl, HM8⟩
    | some s0 =>
      obtain ⟨b, V, rfl, hO, HM5⟩ := h2 s0 hB
      have HM6 : Mem none_ w [PlanC b V s0, Blk w.heap.size 25 #[.slice GA gn gc, .slice A g.length c]] w3 := HM4.got HM5
      have hW0 := WellK.start hB hO
      clear h1 h2 hG2 HM4 HM5 hB hO
      have hgb : (Blk w.heap.size 25 #[.slice GA gn gc, .slice A g.length c]).ok w3 := HM6.at_ 1 rfl
      have c1 : w3.cell? ⟨w.heap.size, 1, none⟩ = some (.slice A g.length c) := by rw [Blk.cell_ hgb]; rfl
      clear hgb
      go_wp2
      clear c1
      go_loopw [29] (fun v29 wr => ∃ (k : Nat) (s : PS), k ≤ g.length ∧ v29 = .int .i64 k ∧ WellK g.length k s ∧ Mem none_ w [PlanC b V s, Blk w.heap.size 25 #[.slice GA gn gc, .slice A g.length c]] wr) (fun v _ => g.length - (intOf v).toNat)
      case atStart => exact ⟨0, s0, Nat.zero_le _, rfl, hW0, HM6⟩
      case round =>
        clear HM6 hW0
        obtain ⟨k, s, hk, rfl, hW, HM⟩ := hrel
        by_cases hlt : k < g.length
        · have hlt' : decide ((k : Int) < (g.length : Int)) = true := decide_eq_true (by omega)
          have hne := hW.more hlt
          have hlen := readyUp_len s s.names.length
          have hn5 := hW.pg.ok.n512
          have hstep := fun x hx => hW.step (x := x) hx
          go_wp2_with fail
          refine (Ready_calls b V s _ (HM.at_ 0 rfl) hW.pg).mono ?_
          rintro e w4 ⟨v4, rfl, HM7⟩
          have HM8 := HM.got HM7
          clear HM HM7
          have hll : (readyS s).length ≤ 512 := Nat.le_trans hlen hn5
          have hGs := hW.pg
          clear hlen hn5 hW
          generalize readyS s = L at *
          have hpos : 0 < L.length := List.length_pos_iff.2 hne
          have hd0 : decide ((L.length : Int) = 0) = false := decide_eq_false (by omega)
          have hd1 : ((L.length : Int) == 0) = false := by simpa using (by omega : ¬ L.length = 0)
          have hd2 : decide (L.length = 0) = false := decide_eq_false (by omega)
          have hd3 : decide (L = []) = false := decide_eq_false hne
          obtain ⟨gL, cL, rfl, nL1, nL2⟩ := Row.at_ (HM8.at_ 0 rfl) hpos
          unfold maxLen at nL2
          by_cases hp0 : picks.length = 0
          · have hp1 : decide (0 < (picks.length : Int)) = false := decide_eq_false (by omega)
            have hp2 : decide (0 < picks.length) = false := decide_eq_false (by omega)
            have hp3 : ¬ 0 < picks.length := by omega
            have hp4 := Lib.hid hp0
            clear hp0
            obtain ⟨x, hx⟩ : ∃ x, L[0] = x := ⟨_, rfl⟩
            have hget : Hid ((strs L)[0]? = some (.string x)) := by unfold Hid; rw [strs_get hpos, hx]
            have hx0 := Row.cell (HM8.at_ 0 rfl) hget.out
            have hxm : x ∈ L := by rw [← hx]; exact List.getElem_mem hpos
            clear hx
            have HS1 := Lib.hid (Start_calls b V s x w4 (HM8.at_ 1 rfl) hGs)
            obtain ⟨s1, s2, e1, hG1, e2, hW2⟩ := hstep x hxm
            have hS := HS1.out
            rw [e1] at hS
            have HW2 := Lib.hid hW2
            have E2 := Lib.hid e2
            clear hstep e1 hW2 e2 hxm HS1
            go_wp2_with fail
            refine hS.mono ?_
            rintro e w5 ⟨rfl, HM9⟩
            have HM10 : Mem none_ w [PlanC b V s1, StrRow (.slice (some ⟨gL, 0, none⟩) L.length cL) L, Blk w.heap.size 25 #[.slice GA gn gc, .slice A g.length c]] w5 := (HM8.front [_]).call1 HM9
            have hx1 := Row.cell (HM10.at_ 1 rfl) hget.out
            clear hS HM8 HM9 hx0
            have hF := Finish_calls b V s1 x true w5 (HM10.at_ 0 rfl) hG1
            rw [E2.out] at hF
            go_wp2_with fail
            refine hF.mono ?_
            rintro e w6 ⟨rfl, HM11⟩
            have HM12 : Mem none_ w [PlanC b V s2, Blk w.heap.size 25 #[.slice GA gn gc, .slice A g.length c]] w6 := (HM10.call1 HM11).sel [0, 2] (by decide)
            clear hF HM10 HM11 hx1
            go_wp2
            go_roundw
            case rel => exact ⟨k + 1, s2, by omega, by go_num, HW2.out, HM12⟩
            case measure => simp [intOf]; omega
          · have hp1 : decide (0 < (picks.length : Int)) = true := decide_eq_true (by omega)
            have hp2 : decide (0 < picks.length) = true := decide_eq_true (by omega)
            have hp3 : 0 < picks.length := by omega
            have hkp : k % picks.length < picks.length := Nat.mod_lt _ hp3
            obtain ⟨pb, po, rfl, hpc⟩ := flat_cells (enc := encU) (sz := 1) (fun _ => rfl) (hP.pure HM8.mu) hkp
            have hpc0 := hpc 0 _ rfl
            have hpq := hpr _ (List.getElem_mem hkp)
            clear hpc
            generalize picks[k % picks.length] = q at *
            obtain ⟨q, rfl⟩ : ∃ m : Nat, q = (m : Int) := ⟨q.toNat, by omega⟩
            have hqm : q % L.length < L.length := Nat.mod_lt _ hpos
            obtain ⟨x, hx⟩ : ∃ x, L[q % L.length] = x := ⟨_, rfl⟩
            have hget : Hid ((strs L)[q % L.length]? = some (.string x)) := by unfold Hid; rw [strs_get hqm, hx]
            have hx0 := Row.cell (HM8.at_ 0 rfl) hget.out
            have hxm : x ∈ L := by rw [← hx]; exact List.getElem_mem hqm
            have m1 : (k : Int) % (picks.length : Int) = ((k % picks.length : Nat) : Int) := by simp
            have m2 : (q : Int) % (L.length : Int) = ((q % L.length : Nat) : Int) := by simp
            clear hx hp0
            rw [Nat.mul_one, Nat.add_zero] at hpc0
            generalize k % picks.length = km at *
            generalize q % L.length = qm at *
            have HS1 := Lib.hid (Start_calls b V s x w4 (HM8.at_ 1 rfl) hGs)
            obtain ⟨s1, s2, e1, hG1, e2, hW2⟩ := hstep x hxm
            have hS := HS1.out
            rw [e1] at hS
            have HW2 := Lib.hid hW2
            have E2 := Lib.hid e2
            clear hstep e1 hW2 e2 hxm HS1
            go_wp2_with fail
            refine hS.mono ?_
            rintro e w5 ⟨rfl, HM9⟩
            have HM10 : Mem none_ w [PlanC b V s1, StrRow (.slice (some ⟨gL, 0, none⟩) L.length cL) L, Blk w.heap.size 25 #[.slice GA gn gc, .slice A g.length c]] w5 := (HM8.front [_]).call1 HM9
            have hx1 := Row.cell (HM10.at_ 1 rfl) hget.out
            clear hS HM8 HM9 hx0
            have hF := Finish_calls b V s1 x true w5 (HM10.at_ 0 rfl) hG1
            rw [E2.out] at hF
            go_wp2_with fail
            refine hF.mono ?_
            rintro e w6 ⟨rfl, HM11⟩
            have HM12 : Mem none_ w [PlanC b V s2, Blk w.heap.size 25 #[.slice GA gn gc, .slice A g.length c]] w6 := (HM10.call1 HM11).sel [0, 2] (by decide)
            clear hF HM10 HM11 hx1
            go_wp2
            go_roundw
            case rel => exact ⟨k + 1, s2, by omega, by go_num, HW2.out, HM12⟩
            case measure => simp [intOf]; omega
        · have e : k = g.length := by omega
          subst e
          obtain ⟨hov, hcn⟩ := hW.end_
          have hOv := Over_calls b V s _ (HM.drew.at_ 0 rfl) hW.pg
          rw [hov] at hOv
          have hGs := hW.pg
          clear hW hov hlt hk
          go_wp2
          refine wp_plan [] (S := fun w' => Hid (w'.cell? ⟨w.heap.size, 1, none⟩ = some (.slice A g.length c))) [(.pure, 0), (.eff, 1), (.pure, 2), (.pure, 3), (.pure, 5), (.load, 6), (.pure, 7), (.eff, 4), (.pure, 8), (.pure, 9), (.pure, 10), (.eff, 11), (.pure, 12), (.pure, 13)] (by kernel_rfl) rfl (by kernel_rfl) rfl (fun _ _ _ _ _ h => h) ?_ ?_
          · have hgb : (Blk w.heap.size 25 #[.slice GA gn gc, .slice A g.length c]).ok _ := HM.drew.at_ 1 rfl
            exact Lib.hid (by rw [Blk.cell_ hgb]; rfl)
          have HM2 := HM.drew
          generalize World.drew wr = W at *
          repeat (first | (refine plan_pure (v := ?_) (a' := ?_) rfl rfl rfl ?_ ?_ ?_; rotate_left 2; (focus (intro w'; go_simp; with_reducible rfl)); (focus (simp only [Act.put, List.setIfInBounds_toArray, List.set_cons_zero, List.set_cons_succ]; rfl))) | (refine plan_load (v := ?_) (a' := ?_) rfl rfl rfl ?_ ?_ ?_; rotate_left 2; (focus (intro w' hw'; have q0 := hw'.out; clear hw'; go_simp; with_reducible rfl)); (focus (simp only [Act.put, List.setIfInBounds_toArray, List.set_cons_zero, List.set_cons_succ]; rfl))) | (refine plan_skip rfl rfl (by decide +kernel) (by simp only [Act.put, List.setIfInBounds_toArray, List.set_cons_zero, List.set_cons_succ]; rfl) ?_))
          refine plan_eff rfl (fun K hK => ?_)
          go_wp2_with fail
          refine hOv.mono ?_
          rintro e w4 ⟨rfl, hp⟩
          have HM3 := HM2.keep hp
          have hgb : (Blk w.heap.size 25 #[.slice GA gn gc, .slice A g.length c]).ok w4 := HM3.at_ 1 rfl
          have hS3 : Hid (w4.cell? ⟨w.heap.size, 1, none⟩ = some (.slice A g.length c)) := Lib.hid (by rw [Blk.cell_ hgb]; rfl)
          clear hOv hp HM2 HM hgb
          go_wp2
          refine hK _ _ hS3 ?_
          clear hK
          repeat (first | (refine plan_pure (v := ?_) (a' := ?_) rfl rfl rfl ?_ ?_ ?_; rotate_left 2; (focus (intro w'; go_simp; with_reducible rfl)); (focus (simp only [Act.put, List.setIfInBounds_toArray, List.set_cons_zero, List.set_cons_succ]; rfl))) | (refine plan_load (v := ?_) (a' := ?_) rfl rfl rfl ?_ ?_ ?_; rotate_left 2; (focus (intro w' hw'; have q0 := hw'.out; clear hw'; go_simp; with_reducible rfl)); (focus (simp only [Act.put, List.setIfInBounds_toArray, List.set_cons_zero, List.set_cons_succ]; rfl))) | (refine plan_skip rfl rfl (by decide +kernel) (by simp only [Act.put, List.setIfInBounds_toArray, List.set_cons_zero, List.set_cons_succ]; rfl) ?_))
          refine plan_eff rfl (fun K hK => ?_)
          have hC := Count_calls b V s 2 w4 (HM3.at_ 0 rfl) hGs
          rw [hcn] at hC
          go_wp2_with fail
          refine hC.mono ?_
          rintro e w5 ⟨rfl, rfl⟩
          clear hC hcn
          go_wp2
          refine hK _ _ hS3 ?_
          clear hK
          repeat (first | (refine plan_pure (v := ?_) (a' := ?_) rfl rfl rfl ?_ ?_ ?_; rotate_left 2; (focus (intro w'; go_simp; with_reducible rfl)); (focus (simp only [Act.put, List.setIfInBounds_toArray, List.set_cons_zero, List.set_cons_succ]; rfl))) | (refine plan_load (v := ?_) (a' := ?_) rfl rfl rfl ?_ ?_ ?_; rotate_left 2; (focus (intro w' hw'; have q0 := hw'.out; clear hw'; go_simp; with_reducible rfl)); (focus (simp only [Act.put, List.setIfInBounds_toArray, List.set_cons_zero, List.set_cons_succ]; rfl))) | (refine plan_skip rfl rfl (by decide +kernel) (by simp only [Act.put, List.setIfInBounds_toArray, List.set_cons_zero, List.set_cons_succ]; rfl) ?_))
          refine plan_eff rfl (fun K hK => ?_)
          go_wp2_with fail
          refine (alive_calls w4).mono ?_
          rintro e w6 ⟨rfl, HM4⟩
          have HM5 := HM3.got HM4
          have hgb : (Blk w.heap.size 25 #[.slice GA gn gc, .slice A g.length c]).ok w6 := HM5.at_ 1 rfl
          have hS6 : Hid (w6.cell? ⟨w.heap.size, 1, none⟩ = some (.slice A g.length c)) := Lib.hid (by rw [Blk.cell_ hgb]; rfl)
          have HM6 := HM5.sel [] (by decide)
          clear HM3 HM4 HM5 hgb
          go_wp2
          refine hK _ _ hS6 ?_
          clear hK
          repeat (first | (refine plan_pure (v := ?_) (a' := ?_) rfl rfl rfl ?_ ?_ ?_; rotate_left 2; (focus (intro w'; go_simp; with_reducible rfl)); (focus (simp only [Act.put, List.setIfInBounds_toArray, List.set_cons_zero, List.set_cons_succ]; rfl))) | (refine plan_load (v := ?_) (a' := ?_) rfl rfl rfl ?_ ?_ ?_; rotate_left 2; (focus (intro w' hw'; have q0 := hw'.out; clear hw'; go_simp; with_reducible rfl)); (focus (simp only [Act.put, List.setIfInBounds_toArray, List.set_cons_zero, List.set_cons_succ]; rfl))) | (refine plan_skip rfl rfl (by decide +kernel) (by simp only [Act.put, List.setIfInBounds_toArray, List.set_cons_zero, List.set_cons_succ]; rfl) ?_))
          refine plan_done ?_
          go_wp2
          go_ret
          exact ⟨rfl, HM6⟩
end Go.Proofs.Ytcbhdjpigadhmaa
