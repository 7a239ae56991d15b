/-
  The walk of PlanPlays.
-/
import Derived.Test.YtcbhdjpigadhmaaRefH
import Derived.Test.YtcbhdjpigadhmaaRefM
import Derived.Test.YtcbhdjpigadhmaaRefE
set_option linter.unusedVariables false
set_option linter.unusedSimpArgs false
namespace Go.Proofs.Ytcbhdjpigadhmaa
open Go.RowKit

theorem built_states {g : List Nd} {s : PS} (hb : buildOf g = some s) : s.states = List.replicate g.length 0 := by
  obtain ⟨m, E, hm, hE, rfl, hl⟩ := built_all hb
  rfl
set_option maxRecDepth 100000 in
set_option maxHeartbeats 32000000 in
theorem plays_calls (GA : Option Addr) (gn gc : Nat) (NV PV_ : Value) (g : List Nd) (acts : List Ac) (w : World) (hG : Nodes w NV g) (hbnd : ∀ x, x ∈ g → x.src.length ≤ 10000000000000 ∧ x.aft.length ≤ 10000000000000) (hP : Acs w PV_ acts) (hpb : acts.length ≤ 140737488351232) (hpr : ∀ x : Ac, x ∈ acts → ActOk x) :
    Calls Try.prog 8 #[.agg #[.slice GA gn gc, NV], PV_] w fun e w' => e = .returned (.bool true) ∧ Mem none_ w [] w' := by
  obtain ⟨A, c, rfl, nn1, nn2⟩ : ∃ A c, NV = .slice A g.length c ∧ g.length ≤ c ∧ c ≤ maxLen := by
    obtain ⟨cells, h, _⟩ := hG
    exact Sl.any_ h
  obtain ⟨PA, pc, rfl, pn1, pn2⟩ := Sl.any_ hP
  unfold maxLen at nn2 pn2
  have HM0 := (Mem.start (fp := none_) w).box #[.slice GA gn gc, .slice A g.length c] 25
  have c0 : (w.alloc (.cells #[.slice GA gn gc, .slice A g.length c] 25)).cell? ⟨w.heap.size, 0, none⟩ = some (.slice GA gn gc) := by rw [Blk.cell_ HM0.head]; rfl
  have c1 : (w.alloc (.cells #[.slice GA gn gc, .slice A g.length c] 25)).cell? ⟨w.heap.size, 1, none⟩ = some (.slice A g.length c) := by rw [Blk.cell_ HM0.head]; rfl
  have hfar := far_calls (.slice GA gn gc) _ g _ (hG.pure HM0.mu) hbnd
  cases hf : farG g with
  | true =>
    rw [hf] at hfar
    clear hf
    go_enter Try.func8, Try.ntmps8
    go_wp2_with fail
    refine hfar.mono ?_
    rintro e w1 ⟨rfl, HM1⟩
    have HM2 := HM0.got HM1
    clear hfar c0 c1
    go_wp2_with fail
    refine (alive_calls w1).mono ?_
    rintro e w2 ⟨rfl, HM3⟩
    have HM4 := (HM2.got HM3).sel [] (by decide)
    clear HM0 HM1 HM2 HM3
    go_wp2
    go_ret
    exact ⟨rfl, HM4⟩
  | false =>
    rw [hf] at hfar
    obtain ⟨hl515, hbd⟩ := farG_bounds hf
    clear hf
    go_enter Try.func8, Try.ntmps8
    go_wp2_with fail
    refine hfar.mono ?_
    rintro e w1 ⟨rfl, HM1⟩
    have HM2 := HM0.got HM1
    clear hfar c0 c1 HM0 HM1
    have c0 : w1.cell? ⟨w.heap.size, 0, none⟩ = some (.slice GA gn gc) := by have h1 : (Blk w.heap.size 25 _).ok w1 := HM2.at_ 0 rfl; rw [Blk.cell_ h1]; rfl
    have c1 : w1.cell? ⟨w.heap.size, 1, none⟩ = some (.slice A g.length c) := by have h1 : (Blk w.heap.size 25 _).ok w1 := HM2.at_ 0 rfl; rw [Blk.cell_ h1]; rfl
    go_wp2_with fail
    refine (theirs_calls GA gn gc _ g w1 (hG.pure HM2.mu) (by omega)).mono ?_
    rintro e w2 ⟨v2, rfl, hG2, HM3⟩
    have HM4 := HM2.got HM3
    clear HM2 HM3 c0 c1
    go_wp2_with fail
    refine (New_calls _ _ g w2 hG2 hbd (by omega)).mono ?_
    rintro e w3 ⟨h1, h2⟩
    have hSM : ∀ cs w', Mem none_ w (cs ++ [Blk w.heap.size 25 #[.slice GA gn gc, .slice A g.length c]]) w' → Hid (w'.cell? ⟨w.heap.size, 0, none⟩ = some (.slice GA gn gc) ∧ w'.cell? ⟨w.heap.size, 1, none⟩ = some (.slice A g.length c)) := by
      intro cs w' h
      have hgb : (Blk w.heap.size 25 #[.slice GA gn gc, .slice A g.length c]).ok w' := h.star.1 _ (by simp)
      exact ⟨by rw [Blk.cell_ hgb]; rfl, by rw [Blk.cell_ hgb]; rfl⟩
    cases hB : buildOf g with
    | none =>
      obtain ⟨rfl, HM5⟩ := h1 hB
      have HM6 : Mem none_ w [Blk w.heap.size 25 #[.slice GA gn gc, .slice A g.length c]] w3 := HM4.got HM5
      have HR : Hid (rightR g = false) := by unfold Hid; rw [right_law, hB]; rfl
      have HB := Lib.hid hB
      clear h1 h2 hG2 HM4 HM5 hB
      obtain ⟨c0, c1⟩ := (hSM [] _ HM6).out
      go_wp2_with fail
      refine (Rnew_calls GA gn gc _ g w3 (hG.pure HM6.mu) hbd (by omega)).mono ?_
      rintro e w4 ⟨h1, h2⟩
      obtain ⟨rfl, HM7⟩ := h1 HR.out
      have HM8 := HM6.got HM7
      simp only [List.nil_append] at HM8
      clear h1 h2 HM6 HM7 c0 c1
      have HMr := HM8.box #[.slice none 0 0, .slice none 0 0, .slice none 0 0, .slice none 0 0] 68
      clear HM8
      go_wp2_with fail
      refine wp_plan [] (S := fun w' => Hid (w'.cell? ⟨w.heap.size, 0, none⟩ = some (.slice GA gn gc) ∧ w'.cell? ⟨w.heap.size, 1, none⟩ = some (.slice A g.length c))) [(.pure, 0), (.pure, 1), (.pure, 2), (.pure, 3), (.pure, 4), (.pure, 5), (.pure, 6), (.pure, 7), (.pure, 8), (.pure, 9), (.pure, 10), (.load, 11), (.load, 14), (.eff, 12), (.eff, 13), (.eff, 15), (.pure, 16), (.pure, 17), (.pure, 18), (.eff, 19), (.pure, 20), (.pure, 21)] (by kernel_rfl) rfl (by kernel_rfl) rfl (fun _ _ _ _ _ h => h) (hSM [_] _ HMr.drew) ?_
      have HMd := HMr.drew
      clear HMr
      generalize World.drew _ = W5 at *
      repeat (first | (refine plan_pure (v := ?_) (a' := ?_) rfl rfl rfl ?_ ?_ ?_; rotate_left 2; (focus (intro w'; go_simp; with_reducible rfl)); (focus (simp only [Act.put, List.setIfInBounds_toArray, List.set_cons_zero, List.set_cons_succ]; rfl))) | (refine plan_load (v := ?_) (a' := ?_) rfl rfl rfl ?_ ?_ ?_; rotate_left 2; (focus (intro w' hw'; obtain ⟨q0, q1⟩ := hw'.out; clear hw'; go_simp; with_reducible rfl)); (focus (simp only [Act.put, List.setIfInBounds_toArray, List.set_cons_zero, List.set_cons_succ]; rfl))) | (refine plan_skip rfl rfl (by decide +kernel) (by simp only [Act.put, List.setIfInBounds_toArray, List.set_cons_zero, List.set_cons_succ]; rfl) ?_))
      refine plan_eff rfl (fun K hK => ?_)
      go_wp2_with fail
      refine (theirs_calls GA gn gc _ g W5 (hG.pure HMd.mu) (by omega)).mono ?_
      rintro e wa ⟨v3, rfl, hGa, HMa⟩
      have HMb := HMd.got HMa
      simp only [List.nil_append] at HMb
      clear HMd HMa
      go_wp2_with fail
      refine hK _ _ (hSM [_] _ HMb) ?_
      clear hK
      refine plan_eff rfl (fun K hK => ?_)
      have hR1 := Right_calls (.slice GA gn gc) v3 g wa hGa hbd (by omega)
      rw [HB.out] at hR1
      have hR1' : Calls Try.prog 23 #[.agg #[.slice GA gn gc, v3]] wa fun e w' => e = .returned (.bool false) ∧ Mem none_ wa [] w' := hR1
      clear hR1
      go_wp2_with fail
      refine hR1'.mono ?_
      rintro e wb ⟨rfl, HMc⟩
      have HMd := HMb.got HMc
      simp only [List.nil_append] at HMd
      clear HMb HMc hR1' hGa
      go_wp2_with fail
      refine hK _ _ (hSM [_] _ HMd) ?_
      clear hK
      refine plan_eff rfl (fun K hK => ?_)
      have hR2 := Rright_calls (.slice GA gn gc) (.slice A g.length c) g wb (hG.pure HMd.mu) hbd (by omega)
      rw [HR.out] at hR2
      go_wp2_with fail
      refine hR2.mono ?_
      rintro e wc ⟨rfl, HMe⟩
      have HMf := HMd.got HMe
      simp only [List.nil_append] at HMf
      clear HMd HMe hR2
      go_wp2_with fail
      refine hK _ _ (hSM [_] _ HMf) ?_
      clear hK
      repeat (first | (refine plan_pure (v := ?_) (a' := ?_) rfl rfl rfl ?_ ?_ ?_; rotate_left 2; (focus (intro w'; go_simp; with_reducible rfl)); (focus (simp only [Act.put, List.setIfInBounds_toArray, List.set_cons_zero, List.set_cons_succ]; rfl))) | (refine plan_load (v := ?_) (a' := ?_) rfl rfl rfl ?_ ?_ ?_; rotate_left 2; (focus (intro w' hw'; obtain ⟨q0, q1⟩ := hw'.out; clear hw'; go_simp; with_reducible rfl)); (focus (simp only [Act.put, List.setIfInBounds_toArray, List.set_cons_zero, List.set_cons_succ]; rfl))) | (refine plan_skip rfl rfl (by decide +kernel) (by simp only [Act.put, List.setIfInBounds_toArray, List.set_cons_zero, List.set_cons_succ]; rfl) ?_))
      refine plan_eff rfl (fun K hK => ?_)
      go_wp2_with fail
      refine (alive_calls wc).mono ?_
      rintro e wd ⟨rfl, HMg⟩
      have HMh := HMf.got HMg
      simp only [List.nil_append] at HMh
      clear HMf HMg
      go_wp2_with fail
      refine hK _ _ (hSM [_] _ HMh) ?_
      clear hK
      repeat (first | (refine plan_pure (v := ?_) (a' := ?_) rfl rfl rfl ?_ ?_ ?_; rotate_left 2; (focus (intro w'; go_simp; with_reducible rfl)); (focus (simp only [Act.put, List.setIfInBounds_toArray, List.set_cons_zero, List.set_cons_succ]; rfl))) | (refine plan_load (v := ?_) (a' := ?_) rfl rfl rfl ?_ ?_ ?_; rotate_left 2; (focus (intro w' hw'; obtain ⟨q0, q1⟩ := hw'.out; clear hw'; go_simp; with_reducible rfl)); (focus (simp only [Act.put, List.setIfInBounds_toArray, List.set_cons_zero, List.set_cons_succ]; rfl))) | (refine plan_skip rfl rfl (by decide +kernel) (by simp only [Act.put, List.setIfInBounds_toArray, List.set_cons_zero, List.set_cons_succ]; rfl) ?_))
      refine plan_done ?_
      go_wp2_with fail
      go_ret
      exact ⟨rfl, HMh.sel [] (by decide)⟩
    | some s0 =>
      obtain ⟨b, V, rfl, hO, HM5⟩ := h2 s0 hB
      have HM6 : Mem none_ w [PlanC b V s0, Blk w.heap.size 25 #[.slice GA gn gc, .slice A g.length c]] w3 := HM4.got HM5
      have HR : Hid (rightR g = true) := by unfold Hid; rw [right_law, hB]; rfl
      have hK0 := OrdK.start hB hO
      obtain ⟨_, hBt, _, hnl⟩ := build_good hB hO
      have hst0 := built_states hB
      have HT : Hid (∀ {s : PS} {st : Bool}, OrdK s0 st s → Twin g s0 s st) := fun {s st} h => ⟨h, hBt.same h.same, by rw [h.same.1]; exact hnl⟩
      have HB := Lib.hid hB
      clear h1 h2 hG2 HM4 HM5 hB hO hBt hnl
      obtain ⟨c0, c1⟩ := (hSM [_] _ HM6).out
      go_wp2_with fail
      refine (Rnew_calls GA gn gc _ g w3 (hG.pure HM6.mu) hbd (by omega)).mono ?_
      rintro e w4 ⟨h1, h2⟩
      obtain ⟨LV, SV, rfl, HM7⟩ := h2 HR.out
      rw [← hst0] at HM7
      have HM8 : Mem none_ w [StrRow LV (namesG g), IRow SV s0.states, PlanC b V s0, Blk w.heap.size 25 #[.slice GA gn gc, .slice A g.length c]] w4 := HM6.got HM7
      clear h1 h2 HM6 HM7 c0 c1 hst0
      obtain ⟨LA, lc, rfl, lv1, lv2⟩ := Row.any_ (HM8.at_ 0 rfl)
      obtain ⟨SA, sc, rfl, sv1, sv2⟩ := Row.any_ (HM8.at_ 1 rfl)
      have HMr := HM8.box #[.slice GA gn gc, .slice A g.length c, .slice LA (namesG g).length lc, .slice SA s0.states.length sc] 68
      clear HM8 lv1 lv2 sv1 sv2
      generalize (namesG g).length = nl at *
      generalize s0.states.length = ns at *
      go_wp2_with fail
      generalize w4.heap.size = rb at *
      refine wp_plan [] (S := fun w' => Hid (w'.cell? ⟨w.heap.size, 0, none⟩ = some (.slice GA gn gc) ∧ w'.cell? ⟨w.heap.size, 1, none⟩ = some (.slice A g.length c))) [(.pure, 0), (.pure, 1), (.pure, 2), (.pure, 3), (.pure, 4), (.pure, 5), (.pure, 6), (.pure, 7), (.pure, 8), (.pure, 9), (.pure, 10), (.load, 11), (.load, 14), (.eff, 12), (.eff, 13), (.eff, 15), (.pure, 16), (.pure, 17), (.pure, 18), (.eff, 19), (.pure, 20), (.pure, 21)] (by kernel_rfl) rfl (by kernel_rfl) rfl (fun _ _ _ _ _ h => h) (hSM [_, _, _, _] _ HMr.drew) ?_
      have HMd := HMr.drew
      clear HMr
      generalize World.drew _ = W5 at *
      repeat (first | (refine plan_pure (v := ?_) (a' := ?_) rfl rfl rfl ?_ ?_ ?_; rotate_left 2; (focus (intro w'; go_simp; with_reducible rfl)); (focus (simp only [Act.put, List.setIfInBounds_toArray, List.set_cons_zero, List.set_cons_succ]; rfl))) | (refine plan_load (v := ?_) (a' := ?_) rfl rfl rfl ?_ ?_ ?_; rotate_left 2; (focus (intro w' hw'; obtain ⟨q0, q1⟩ := hw'.out; clear hw'; go_simp; with_reducible rfl)); (focus (simp only [Act.put, List.setIfInBounds_toArray, List.set_cons_zero, List.set_cons_succ]; rfl))) | (refine plan_skip rfl rfl (by decide +kernel) (by simp only [Act.put, List.setIfInBounds_toArray, List.set_cons_zero, List.set_cons_succ]; rfl) ?_))
      refine plan_eff rfl (fun K hK => ?_)
      go_wp2_with fail
      refine (theirs_calls GA gn gc _ g W5 (hG.pure HMd.mu) (by omega)).mono ?_
      rintro e wa ⟨v3, rfl, hGa, HMa⟩
      have HMb := HMd.got HMa
      simp only [List.nil_append] at HMb
      clear HMd HMa
      go_wp2_with fail
      refine hK _ _ (hSM [_, _, _, _] _ HMb) ?_
      clear hK
      refine plan_eff rfl (fun K hK => ?_)
      have hR1 := Right_calls (.slice GA gn gc) v3 g wa hGa hbd (by omega)
      rw [HB.out] at hR1
      have hR1' : Calls Try.prog 23 #[.agg #[.slice GA gn gc, v3]] wa fun e w' => e = .returned (.bool true) ∧ Mem none_ wa [] w' := hR1
      clear hR1
      go_wp2_with fail
      refine hR1'.mono ?_
      rintro e wb ⟨rfl, HMc⟩
      have HMd := HMb.got HMc
      simp only [List.nil_append] at HMd
      clear HMb HMc hR1' hGa
      go_wp2_with fail
      refine hK _ _ (hSM [_, _, _, _] _ HMd) ?_
      clear hK
      refine plan_eff rfl (fun K hK => ?_)
      have hR2 := Rright_calls (.slice GA gn gc) (.slice A g.length c) g wb (hG.pure HMd.mu) hbd (by omega)
      rw [HR.out] at hR2
      go_wp2_with fail
      refine hR2.mono ?_
      rintro e wc ⟨rfl, HMe⟩
      have HMf := HMd.got HMe
      simp only [List.nil_append] at HMf
      clear HMd HMe hR2
      go_wp2_with fail
      refine hK _ _ (hSM [_, _, _, _] _ HMf) ?_
      clear hK
      repeat (first | (refine plan_pure (v := ?_) (a' := ?_) rfl rfl rfl ?_ ?_ ?_; rotate_left 2; (focus (intro w'; go_simp; with_reducible rfl)); (focus (simp only [Act.put, List.setIfInBounds_toArray, List.set_cons_zero, List.set_cons_succ]; rfl))) | (refine plan_load (v := ?_) (a' := ?_) rfl rfl rfl ?_ ?_ ?_; rotate_left 2; (focus (intro w' hw'; obtain ⟨q0, q1⟩ := hw'.out; clear hw'; go_simp; with_reducible rfl)); (focus (simp only [Act.put, List.setIfInBounds_toArray, List.set_cons_zero, List.set_cons_succ]; rfl))) | (refine plan_skip rfl rfl (by decide +kernel) (by simp only [Act.put, List.setIfInBounds_toArray, List.set_cons_zero, List.set_cons_succ]; rfl) ?_))
      refine plan_eff rfl (fun K hK => ?_)
      go_wp2_with fail
      refine (alive_calls wc).mono ?_
      rintro e wd ⟨rfl, HMg⟩
      have HMh := HMf.got HMg
      simp only [List.nil_append] at HMh
      clear HMf HMg
      go_wp2_with fail
      refine hK _ _ (hSM [_, _, _, _] _ HMh) ?_
      clear hK
      repeat (first | (refine plan_pure (v := ?_) (a' := ?_) rfl rfl rfl ?_ ?_ ?_; rotate_left 2; (focus (intro w'; go_simp; with_reducible rfl)); (focus (simp only [Act.put, List.setIfInBounds_toArray, List.set_cons_zero, List.set_cons_succ]; rfl))) | (refine plan_load (v := ?_) (a' := ?_) rfl rfl rfl ?_ ?_ ?_; rotate_left 2; (focus (intro w' hw'; obtain ⟨q0, q1⟩ := hw'.out; clear hw'; go_simp; with_reducible rfl)); (focus (simp only [Act.put, List.setIfInBounds_toArray, List.set_cons_zero, List.set_cons_succ]; rfl))) | (refine plan_skip rfl rfl (by decide +kernel) (by simp only [Act.put, List.setIfInBounds_toArray, List.set_cons_zero, List.set_cons_succ]; rfl) ?_))
      refine plan_done ?_
      generalize hLV : Value.slice LA nl lc = LV at *
      generalize hSV : Value.slice SA ns sc = SV at *
      have HSL : Hid (∀ w', (StrRow LV (namesG g)).ok w' → Strs w' LV (namesG g)) := fun w' h => Row.sl h
      have HM6 : Mem none_ w [IRow SV s0.states, RefB rb (.slice GA gn gc) (.slice A g.length c) LV SV, StrRow LV (namesG g), PlanC b V s0, Blk w.heap.size 25 #[.slice GA gn gc, .slice A g.length c]] wd := HMh.sel [2, 0, 1, 3, 4] (by decide)
      clear HMh HB HR hLV hSV
      go_upto_region 9 with fail
      go_cut [61, 62, 63] (fun s61 s62 s63 wx => wx = wd ∧ s63 = .int .i64 0 ∧ ∃ m : Nat, m ≤ acts.length ∧ m ≤ 200 ∧ s61 = .slice PA m pc ∧ s62 = .int .i64 m)
      case first =>
        by_cases h200 : acts.length ≤ 200
        · have h2 : (acts.length : Int) ≤ 200 := by omega
          go_wp2_with fail
          go_meet
          exact ⟨rfl, rfl, acts.length, Nat.le_refl _, h200, rfl, rfl⟩
        · have h2 : 200 < (acts.length : Int) := by omega
          go_wp2_with fail
          go_meet
          exact ⟨rfl, rfl, 200, by omega, Nat.le_refl _, rfl, rfl⟩
      case rest =>
        obtain ⟨rfl, rfl, m, hm1, hm2, rfl, rfl⟩ := hcut
        go_wp2_with fail
        go_loopw [63] (fun v63 wr => ∃ (k : Nat) (st : Bool) (s : PS), k ≤ m ∧ v63 = .int .i64 k ∧ Twin g s0 s st ∧ Mem none_ w [IRow SV s.states, RefB rb (.slice GA gn gc) (.slice A g.length c) LV SV, StrRow LV (namesG g), PlanC b V s, Blk w.heap.size 25 #[.slice GA gn gc, .slice A g.length c]] wr) (fun v _ => m - (intOf v).toNat)
        case atStart => exact ⟨0, false, s0, Nat.zero_le _, rfl, HT.out hK0, HM6⟩
        case round =>
          clear HM6 hK0
          obtain ⟨k, st, s, hk, rfl, hT, HM⟩ := hrel
          by_cases hlt : k < m
          · have hlt' : decide ((k : Int) < (m : Int)) = true := decide_eq_true (by omega)
            have hka : k < acts.length := by omega
            obtain ⟨pb, po, rfl, hpc⟩ := flat_cells (enc := encA) (sz := 4) (fun _ => rfl) (hP.pure HM.mu) hka
            have x0 := hpc 0 _ rfl
            rw [Nat.add_zero] at x0
            have x1 := hpc 1 _ rfl
            have x2 := hpc 2 _ rfl
            have x3 := hpc 3 _ rfl
            obtain ⟨a1, a2, a3, a4, a5⟩ := hpr _ (List.getElem_mem hka)
            have HMa := HM.box #[.int .u8 acts[k].kind, .string acts[k].name, .bool acts[k].ok, .int .u8 acts[k].pick] 54
            clear hpc
            generalize acts[k] = a at *
            obtain ⟨kd, nm, okk, pk⟩ := a
            dsimp only at x0 x1 x2 x3 a1 a2 a3 a4 a5 HMa
            obtain ⟨kd, rfl⟩ : ∃ q : Nat, kd = (q : Int) := ⟨kd.toNat, by omega⟩
            obtain ⟨pk, rfl⟩ : ∃ q : Nat, pk = (q : Int) := ⟨pk.toNat, by omega⟩
            have hkd : kd < 256 := by omega
            have hpk : pk < 256 := by omega
            have hGs := hT.k.pg
            have hRG := hT.rg (fun i h => hbd _ (List.getElem_mem h))
            have hrdl := Nat.le_trans (readyUp_len s s.names.length) hGs.ok.n512
            go_wp2_with fail
            clear x0 x1 x2 x3
            generalize hwa : wr.alloc _ = Wa at *
            clear hwa
            generalize wr.heap.size = ab at *
            have hrr := Rready_calls rb (.slice GA gn gc) (.slice A g.length c) LV SV g s.states (readyB s) Wa (HMa.at_ 2 rfl) (hG.pure HMa.mu) (HSL.out _ (HMa.at_ 3 rfl)) (HMa.at_ 1 rfl) hRG (fun i h => hT.ready h)
            rw [hT.readyAll] at hrr
            refine hrr.mono ?_
            rintro e w5 ⟨v5, rfl, HM4⟩
            have HM5 : Mem none_ w (StrRow v5 (readyS s) :: Blk ab 54 #[.int .u8 kd, .string nm, .bool okk, .int .u8 pk] :: [IRow SV s.states, RefB rb (.slice GA gn gc) (.slice A g.length c) LV SV, StrRow LV (namesG g), PlanC b V s, Blk w.heap.size 25 #[.slice GA gn gc, .slice A g.length c]]) w5 := HMa.got HM4
            clear HMa HM4 HM hrr
            have hrd2 : (readyS s).length ≤ 512 := hrdl
            clear hrdl
            generalize hLs : readyS s = L at *
            clear hLs
            obtain ⟨AL, cL, rfl, la1, la2⟩ := Row.any_ (HM5.at_ 0 rfl)
            unfold maxLen at la2
            have hab : (Blk ab 54 #[.int .u8 kd, .string nm, .bool okk, .int .u8 pk]).ok w5 := HM5.at_ 1 rfl
            have y0 : w5.cell? ⟨ab, 0, none⟩ = some (.int .u8 kd) := by rw [Blk.cell_ hab]; rfl
            have y2 : w5.cell? ⟨ab, 2, none⟩ = some (.bool okk) := by rw [Blk.cell_ hab]; rfl
            have y3 : w5.cell? ⟨ab, 3, none⟩ = some (.int .u8 pk) := by rw [Blk.cell_ hab]; rfl
            have hk4 : kd % 4 < 4 := Nat.mod_lt _ (by omega)
            have m1 : (kd : Int) % 4 = ((kd % 4 : Nat) : Int) := by simp
            generalize hkg : kd % 4 = kq at *
            clear hab hkg
            go_upto_region 14 with fail
            go_cut [78] (fun s78 wx => wx = w5 ∧ ∃ q : Bool, s78 = .bool q ∧ (q = true → 0 < L.length))
            case first =>
              by_cases h3 : kq = 3
              · subst h3
                by_cases hl : L = []
                · have hl1 : decide (0 < (L.length : Int)) = false := by rw [hl]; rfl
                  have hl2 : decide (0 < L.length) = false := by rw [hl]; rfl
                  go_wp2_with fail
                  go_meet
                  exact ⟨rfl, false, rfl, fun h => by cases h⟩
                · have hl0 : 0 < L.length := List.length_pos_iff.2 hl
                  have hl1 : decide (0 < (L.length : Int)) = true := decide_eq_true (by omega)
                  have hl2 : decide (0 < L.length) = true := decide_eq_true hl0
                  have Hl := Lib.hid hl
                  clear hl
                  go_wp2_with fail
                  go_meet
                  exact ⟨rfl, true, rfl, fun _ => hl0⟩
              · have h3q : ((kq : Int) == 3) = false := beq_eq_false_iff_ne.2 (by omega)
                have h3d : decide ((kq : Int) = 3) = false := decide_eq_false (by omega)
                have h3e : decide (kq = 3) = false := decide_eq_false h3
                go_wp2_with fail
                go_meet
                exact ⟨rfl, false, rfl, fun h => by cases h⟩
            case rest =>
              obtain ⟨rfl, q, rfl, hq⟩ := hcut
              go_upto_if 78 with fail
              go_cut [11] (fun s11 wx => wx = wc ∧ ∃ x : ByteArray, s11 = .string x)
              case first =>
                cases q with
                | false =>
                  go_wp2_with fail
                  go_meet
                  exact ⟨rfl, _, rfl⟩
                | true =>
                  have hl0 := hq rfl
                  clear hq
                  obtain ⟨gl, cl', el, _, _⟩ := Row.at_ (HM5.at_ 0 rfl) hl0
                  cases el
                  have hpm : pk % L.length < L.length := Nat.mod_lt _ hl0
                  have hx0 := Row.cell (HM5.at_ 0 rfl) (strs_get hpm)
                  have m2 : (pk : Int) % (L.length : Int) = ((pk % L.length : Nat) : Int) := by simp
                  have hl1 : decide (0 < (L.length : Int)) = true := decide_eq_true (by omega)
                  generalize L[pk % L.length] = x at *
                  generalize pk % L.length = pm at *
                  go_wp2_with fail
                  go_meet
                  exact ⟨rfl, _, rfl⟩
              case rest =>
                obtain ⟨rfl, x, rfl⟩ := hcut
                have HM6 : Mem none_ w (Blk ab 54 #[.int .u8 kd, .string nm, .bool okk, .int .u8 pk] :: [IRow SV s.states, RefB rb (.slice GA gn gc) (.slice A g.length c) LV SV, StrRow LV (namesG g), PlanC b V s, Blk w.heap.size 25 #[.slice GA gn gc, .slice A g.length c]]) wc := HM5.sel [1, 2, 3, 4, 5, 6] (by decide)
                clear HM5 hq
                go_upto_block 2 with fail
                go_cut [13, 90] (fun s13 s90 wx => ∃ (s' : PS) (st' : Bool), s13 = .bool true ∧ Twin g s0 s' st' ∧ Mem none_ w [IRow SV s'.states, RefB rb (.slice GA gn gc) (.slice A g.length c) LV SV, StrRow LV (namesG g), PlanC b V s', Blk w.heap.size 25 #[.slice GA gn gc, .slice A g.length c]] wx)
                case first =>
                  by_cases h1 : kq = 1
                  · subst h1
                    have hT2 := Lib.hid (HT.out (hT.k.fin_ x okk))
                    have hfin := hT.finish x okk
                    have hSM2 : ∀ cs w', Mem none_ w (Blk ab 54 #[.int .u8 kd, .string nm, .bool okk, .int .u8 pk] :: cs) w' → Hid (w'.cell? ⟨ab, 2, none⟩ = some (.bool okk)) := by
                      intro cs w' h
                      have hab : (Blk ab 54 #[.int .u8 kd, .string nm, .bool okk, .int .u8 pk]).ok w' := h.head
                      unfold Hid
                      rw [Blk.cell_ hab]; rfl
                    clear y0 y2 y3
                    go_wp2_with fail
                    refine wp_plan [8] (S := fun w' => Hid (w'.cell? ⟨ab, 2, none⟩ = some (.bool okk))) [(.pure, 0), (.pure, 1), (.pure, 2), (.load, 3), (.pure, 5), (.pure, 6), (.load, 7), (.eff, 4), (.tail, 8), (.pure, 9), (.pure, 10)] (by kernel_rfl) rfl (by kernel_rfl) rfl (fun _ _ _ _ _ h => h) (hSM2 _ _ HM6.drew) ?_
                    have HM7 := HM6.drew
                    clear HM6
                    generalize World.drew _ = W7 at *
                    repeat (first | (refine plan_pure (v := ?_) (a' := ?_) rfl rfl rfl ?_ ?_ ?_; rotate_left 2; (focus (intro w'; go_simp; with_reducible rfl)); (focus (simp only [Act.put, List.setIfInBounds_toArray, List.set_cons_zero, List.set_cons_succ]; rfl))) | (refine plan_load (v := ?_) (a' := ?_) rfl rfl rfl ?_ ?_ ?_; rotate_left 2; (focus (intro w' hw'; have q0 := hw'.out; clear hw'; go_simp; with_reducible rfl)); (focus (simp only [Act.put, List.setIfInBounds_toArray, List.set_cons_zero, List.set_cons_succ]; rfl))) | (refine plan_skip rfl rfl (by decide +kernel) (by simp only [Act.put, List.setIfInBounds_toArray, List.set_cons_zero, List.set_cons_succ]; rfl) ?_))
                    refine plan_eff rfl (fun K hK => ?_)
                    have hF := Finish_calls b V s x okk W7 (HM7.at_ 4 rfl) hGs
                    go_wp2_with fail
                    refine hF.mono ?_
                    rintro e w8 ⟨rfl, HM8⟩
                    have HM9 := Mem.back [_] ((HM7.front [_, _, _, _]).call1 HM8)
                    clear hF HM7 HM8
                    go_wp2_with fail
                    refine hK _ _ (hSM2 _ _ HM9) ?_
                    clear hK
                    refine plan_tail rfl (fun K hK => ?_)
                    have hF := Rfinish_calls w _ rb (.slice GA gn gc) (.slice A g.length c) LV SV g s.states x okk w8 hG (HM9.sel [2, 3, 4, 1, 5] (by decide)) hRG
                    rw [hfin] at hF
                    have hF' : Calls Try.prog 26 #[.pointer (some ⟨rb, 0, none⟩), .string x, .bool okk] w8 fun e w' => e = .returned (.int .i64 (finishS s x okk).2) ∧ Mem none_ w (IRow SV (finishS s x okk).1.states :: RefB rb (.slice GA gn gc) (.slice A g.length c) LV SV :: StrRow LV (namesG g) :: [PlanC b V (finishS s x okk).1, Blk w.heap.size 25 #[.slice GA gn gc, .slice A g.length c]]) w' := hF
                    clear hF
                    go_wp2_with fail
                    refine hF'.mono ?_
                    rintro e w9 ⟨rfl, HM10⟩
                    clear hF' HM9 hfin
                    generalize (finishS s x okk).2 = q at *
                    go_wp2_with fail
                    repeat (first | (refine plan_pure (v := ?_) (a' := ?_) rfl rfl rfl ?_ ?_ ?_; rotate_left 2; (focus (intro w'; go_simp; with_reducible rfl)); (focus (simp only [Act.put, List.setIfInBounds_toArray, List.set_cons_zero, List.set_cons_succ]; rfl))) | (refine plan_load (v := ?_) (a' := ?_) rfl rfl rfl ?_ ?_ ?_; rotate_left 2; (focus (intro w' hw'; have q0 := hw'.out; clear hw'; go_simp; with_reducible rfl)); (focus (simp only [Act.put, List.setIfInBounds_toArray, List.set_cons_zero, List.set_cons_succ]; rfl))) | (refine plan_skip rfl rfl (by decide +kernel) (by simp only [Act.put, List.setIfInBounds_toArray, List.set_cons_zero, List.set_cons_succ]; rfl) ?_))
                    refine plan_done ?_
                    go_wp2_with fail
                    go_meet
                    exact ⟨_, st, rfl, hT2.out, HM10⟩
                  · have h1q : ((kq : Int) == 1) = false := beq_eq_false_iff_ne.2 (by omega)
                    have h1d : decide ((kq : Int) = 1) = false := decide_eq_false (by omega)
                    have h1e : decide (kq = 1) = false := decide_eq_false h1
                    have HM6' : Mem none_ w [IRow SV s.states, RefB rb (.slice GA gn gc) (.slice A g.length c) LV SV, StrRow LV (namesG g), PlanC b V s, Blk w.heap.size 25 #[.slice GA gn gc, .slice A g.length c]] wc := HM6.sel [1, 2, 3, 4, 5] (by decide)
                    clear HM6
                    by_cases h2 : kq = 2
                    · subst h2
                      have hF := Stop_calls b V s wc (HM6'.at_ 3 rfl) hGs
                      have hT2 := Lib.hid (HT.out hT.k.stop_)
                      have hst := hT.stop
                      have hl5 := hRG.n512
                      have hle := hRG.len
                      go_wp2_with fail
                      refine hF.mono ?_
                      rintro e w7 ⟨rfl, HM7⟩
                      have HM8 := (HM6'.front [_, _, _]).call1 HM7
                      clear hF HM6' HM7 y0 y2 y3
                      have hF := Rstop_calls w _ rb (.slice GA gn gc) (.slice A g.length c) LV SV s.states w7 (HM8.sel [1, 2, 3, 0, 4] (by decide)) (by omega)
                      rw [hst.1, hst.2] at hF
                      clear hst hle hl5
                      generalize s.counts.getD 0 0 = q at *
                      go_wp2_with fail
                      refine hF.mono ?_
                      rintro e w8 ⟨rfl, HM9⟩
                      clear hF HM8
                      go_wp2_with fail
                      go_meet
                      exact ⟨_, true, rfl, hT2.out, HM9⟩
                    · have h2q : ((kq : Int) == 2) = false := beq_eq_false_iff_ne.2 (by omega)
                      have h2d : decide ((kq : Int) = 2) = false := decide_eq_false (by omega)
                      have h2e : decide (kq = 2) = false := decide_eq_false h2
                      have hF := Start_calls b V s x wc (HM6'.at_ 3 rfl) hGs
                      have hT2 := Lib.hid (HT.out (hT.k.start_ x))
                      have hst := hT.start x
                      go_wp2_with fail
                      refine hF.mono ?_
                      rintro e w7 ⟨rfl, HM7⟩
                      have HM8 := (HM6'.front [_, _, _]).call1 HM7
                      clear hF HM6' HM7 y0 y2 y3
                      have hF := Rstart_calls rb (.slice GA gn gc) (.slice A g.length c) LV SV g s.states x w7 (HM8.at_ 2 rfl) (hG.pure HM8.mu) (HSL.out _ (HM8.at_ 3 rfl)) (HM8.at_ 1 rfl) hRG
                      rw [hst] at hF
                      have hF' : Calls Try.prog 28 #[.pointer (some ⟨rb, 0, none⟩), .string x] w7 fun e w' => e = .returned (.int .i64 (startS s x).2) ∧ Mem (IRow SV s.states).fp w7 [IRow SV (startS s x).1.states] w' := hF
                      clear hF hst
                      generalize (startS s x).2 = q at *
                      go_wp2_with fail
                      refine hF'.mono ?_
                      rintro e w8 ⟨rfl, HM9⟩
                      have HM10 := (HM8.front [_]).call1 HM9
                      clear hF' HM8 HM9
                      go_wp2_with fail
                      go_meet
                      exact ⟨_, st, rfl, hT2.out, HM10.sel [0, 2, 3, 1, 4] (by decide)⟩
                case rest =>
                  clear HM6 hT y0 y2 y3 hrd2 hGs hRG
                  obtain ⟨s', st', rfl, hT, HM7⟩ := hcut
                  have hGs := hT.k.pg
                  have hRG := hT.rg (fun i h => hbd _ (List.getElem_mem h))
                  have h1 := State_calls b V s' x wc (HM7.at_ 3 rfl) hGs
                  have h2 := Rstate_calls rb (.slice GA gn gc) (.slice A g.length c) LV SV g s'.states x wc (HM7.at_ 1 rfl) (HSL.out _ (HM7.at_ 2 rfl)) (HM7.at_ 0 rfl) hRG
                  rw [hT.state x] at h2
                  generalize stateS s' x = T at *
                  obtain ⟨T1, T2⟩ := T
                  dsimp only at h1 h2
                  go_wp2_with fail
                  refine h1.mono ?_
                  rintro e w8 ⟨rfl, rfl⟩
                  clear h1
                  go_wp2_with fail
                  refine h2.mono ?_
                  rintro e w8 ⟨rfl, rfl⟩
                  clear h2
                  go_wp2_with fail
                  refine (Ready_calls b V s' _ (HM7.at_ 3 rfl) hGs).mono ?_
                  rintro e w8 ⟨v8, rfl, HM8⟩
                  have HM9 : Mem none_ w (StrRow v8 (readyS s') :: [IRow SV s'.states, RefB rb (.slice GA gn gc) (.slice A g.length c) LV SV, StrRow LV (namesG g), PlanC b V s', Blk w.heap.size 25 #[.slice GA gn gc, .slice A g.length c]]) w8 := HM7.got HM8
                  clear HM7 HM8
                  have hrr := Rready_calls rb (.slice GA gn gc) (.slice A g.length c) LV SV g s'.states (readyB s') w8 (HM9.at_ 2 rfl) (hG.pure HM9.mu) (HSL.out _ (HM9.at_ 3 rfl)) (HM9.at_ 1 rfl) hRG (fun i h => hT.ready h)
                  rw [hT.readyAll] at hrr
                  go_wp2_with fail
                  refine hrr.mono ?_
                  rintro e w9 ⟨v9, rfl, HM10⟩
                  have HM11 : Mem none_ w (StrRow v9 (readyS s') :: StrRow v8 (readyS s') :: [IRow SV s'.states, RefB rb (.slice GA gn gc) (.slice A g.length c) LV SV, StrRow LV (namesG g), PlanC b V s', Blk w.heap.size 25 #[.slice GA gn gc, .slice A g.length c]]) w9 := HM9.got HM10
                  clear HM9 HM10 hrr
                  have hsm := same_calls v8 v9 (readyS s') (readyS s') w9 (Row.sl (HM11.at_ 1 rfl)) (Row.sl (HM11.at_ 0 rfl))
                  have hse : same (readyS s') (readyS s') = true := decide_eq_true rfl
                  rw [hse] at hsm
                  clear hse
                  go_wp2_with fail
                  refine hsm.mono ?_
                  rintro e w10 ⟨rfl, HM12⟩
                  have HM13 : Mem none_ w [IRow SV s'.states, RefB rb (.slice GA gn gc) (.slice A g.length c) LV SV, StrRow LV (namesG g), PlanC b V s', Blk w.heap.size 25 #[.slice GA gn gc, .slice A g.length c]] w10 := (HM11.got HM12).sel [2, 3, 4, 5, 6] (by decide)
                  clear HM11 HM12 hsm
                  have ho := Over_calls b V s' w10 (HM13.at_ 3 rfl) hGs
                  have hlen := hRG.len
                  have hl5 := hRG.n512
                  generalize hov : overS s' = q at *
                  go_wp2_with fail
                  refine ho.mono ?_
                  rintro e w11 ⟨rfl, hPu⟩
                  have HM14 := HM13.keep hPu
                  clear ho HM13 hPu
                  have hr := Rover_calls rb (.slice GA gn gc) (.slice A g.length c) LV SV s'.states w11 (HM14.at_ 1 rfl) (HM14.at_ 0 rfl) (by omega)
                  rw [hT.over, hov] at hr
                  clear hov hlen hl5
                  go_wp2_with fail
                  refine hr.mono ?_
                  rintro e w12 ⟨rfl, rfl⟩
                  clear hr
                  have hqq : (q != q) = false := by cases q <;> rfl
                  have hT1 : (T1 != T1) = false := by simp
                  have hT2 : (T2 != T2) = false := by simp
                  go_wp2_with fail
                  clear hqq hT1 hT2
                  go_loop [151] (fun v151 => ∃ k : Nat, k ≤ 6 ∧ v151 = .int .i64 k) (fun v => 6 - (intOf v).toNat)
                  case atStart => exact ⟨0, by omega, rfl⟩
                  case round =>
                    obtain ⟨j, hj, rfl⟩ := hrel
                    by_cases hj6 : j < 6
                    · have hj' : decide ((j : Int) < 6) = true := decide_eq_true (by omega)
                      have hc1 := Count_calls b V s' (j : Int) w11 (HM14.at_ 3 rfl) hGs
                      have hl5 := hRG.n512
                      have hlen := hRG.len
                      have hc2 := Rcount_calls rb (.slice GA gn gc) (.slice A g.length c) LV SV s'.states (j : Int) w11 (HM14.at_ 1 rfl) (HM14.at_ 0 rfl) (by omega)
                      rw [← hT.count hj6] at hc2
                      clear hl5 hlen
                      generalize countS s' (j : Int) = q2 at *
                      have hqq : (q2 != q2) = false := by simp
                      go_wp2_with fail
                      refine hc1.mono ?_
                      rintro e w12 ⟨rfl, rfl⟩
                      clear hc1
                      go_wp2_with fail
                      refine hc2.mono ?_
                      rintro e w12 ⟨rfl, rfl⟩
                      clear hc2
                      go_wp2_with fail
                      go_round
                      case rel => exact ⟨j + 1, by omega, by go_num⟩
                      case measure => simp [intOf]; omega
                    · have e : j = 6 := by omega
                      subst e
                      go_wp2_with fail
                      go_roundw
                      case rel => exact ⟨k + 1, st', s', by omega, by go_num, hT, HM14⟩
                      case measure => simp [intOf]; omega
          · have e : k = m := by omega
            subst e
            go_wp2_with fail
            go_ret
            exact ⟨rfl, HM.sel [] (by decide)⟩
end Go.Proofs.Ytcbhdjpigadhmaa
