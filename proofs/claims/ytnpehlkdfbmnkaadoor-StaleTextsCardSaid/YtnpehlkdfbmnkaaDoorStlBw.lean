/-
  Layer 18 (stale): the document's Write.
-/
import Derived.Test.YtnpehlkdfbmnkaaDoorStlBy
import Derived.Test.YtnpehlkdfbmnkaaDoorStlWr
set_option linter.unusedVariables false
set_option linter.unusedSimpArgs false
set_option maxRecDepth 20000
namespace Go.Proofs.YtnpehlkdfbmnkaaDoor
open Go.RowKit

theorem flat_take_le {α : Type} (f : α → List UInt8) (l : List α) (k : Nat) : ((l.take k).flatMap f).length ≤ (l.flatMap f).length := by
  conv => rhs; rw [← List.take_append_drop k l, List.flatMap_append, List.length_append]
  omega
theorem letter_ne {k : Int} (h : ¬ badK k) : letterB k ≠ 0 := by
  unfold badK at h
  have : k = 1 ∨ k = 2 ∨ k = 3 := by omega
  rcases this with rfl | rfl | rfl <;> decide
set_option maxHeartbeats 8000000 in
theorem rswrite_calls (CV TV : Value) (cs : List (List UInt8)) (ts : List Tou) (w : World) (hC : Txts w CV cs) (hT : Tous w TV ts) (hS : Small cs ts) :
    Calls Tryd.prog 27 #[.agg #[CV, TV]] w fun e w' => e = .returned (.tuple #[.string (ofL (writeT cs ts).1), .int .i64 (writeT cs ts).2]) ∧ Mem none_ w [] w' := by
  obtain ⟨A, c, rfl, g1, g2, g3, g4⟩ := hC
  obtain ⟨A2, c2, rfl, k1, k2, k3, k4⟩ := hT
  unfold maxLen at g2 k2
  have hs1 := hS.c
  have hs2 := hS.t
  have HS := Lib.hid hS
  obtain ⟨R, hR⟩ : ∃ R, writeT cs ts = R := ⟨_, rfl⟩
  rw [hR]
  have HR : Hid ((if ts.any (fun t => decide (badK t.1)) = true then ([], 3) else if 65536 < (cs.flatMap (lineL 67) ++ ts.flatMap touL).length then ([], 5) else (cs.flatMap (lineL 67) ++ ts.flatMap touL, 0)) = R) := hR
  clear hS hR g3 k3
  have HM0 := (Mem.start (fp := none_) w).box #[.slice A cs.length c, .slice A2 ts.length c2] 52
  go_enter Tryd.func27, Tryd.ntmps27
  go_wp2_with fail
  generalize World.alloc _ _ = W0 at *
  generalize w.heap.size = nb at *
  go_loopw [4] (fun v4 wr => ∃ k : Nat, k ≤ ts.length ∧ v4 = .int .i64 k ∧ Hid (∀ x, x ∈ ts.take k → ¬ badK x.1) ∧ Mem none_ w [Blk nb 52 #[.slice A cs.length c, .slice A2 ts.length c2]] wr) (fun v _ => ts.length - (intOf v).toNat)
  case atStart => exact ⟨0, Nat.zero_le _, rfl, (fun x hx => by cases hx), HM0⟩
  case round =>
    clear HM0
    obtain ⟨k, hk, rfl, Hg, HM⟩ := hrel
    have z1 := Blk.cell_ (HM.at_ 0 rfl) 1
    simp only [List.getElem?_toArray, List.getElem?_cons_succ, List.getElem?_cons_zero] at z1
    by_cases hlt : k < ts.length
    · have hlt' : decide ((k : Int) < (ts.length : Int)) = true := decide_eq_true (by omega)
      have hltN : decide (k < ts.length) = true := decide_eq_true hlt
      obtain ⟨b, o, rfl, hcells⟩ := k4.resolve_left (by omega)
      have pg := tch_get hlt
      have hx0 : wr.cell? ⟨b, o + k * 2, none⟩ = some (.int .i64 ts[k].1) := HM.mu.cell (hcells _ _ pg.1) (fun h => h)
      have HSn : Hid (ts.take (k + 1) = ts.take k ++ [ts[k]]) := List.take_succ_eq_append_getElem hlt
      have Hin : Hid (ts[k] ∈ ts) := List.getElem_mem hlt
      clear hcells k4 pg
      generalize ts[k] = x at *
      obtain ⟨xk, xp⟩ := x
      simp only at hx0
      have hLt := letter_calls xk wr
      by_cases hb : badK xk
      · rw [if_pos hb] at hLt
        have HE : Hid (R = ([], 3)) := by
          unfold Hid; rw [← HR.out, if_pos (List.any_eq_true.2 ⟨_, Hin.out, by simp only [decide_eq_true_eq]; exact hb⟩)]
        have HMe := HM.sel [] (by decide)
        clear hb HM
        go_wp2_with fail
        refine hLt.mono ?_
        rintro e w2 ⟨rfl, rfl⟩
        clear hLt
        go_wp2_with fail
        refine bodyPost_ret (v := .tuple #[.string ⟨#[]⟩, .int .i64 3]) (by simp [results, Tryd.results27, go_sem]) rfl ⟨by rw [HE.out]; rfl, HMe⟩
      · rw [if_neg hb] at hLt
        have q0 : (((letterB xk).toNat : Int) == 0) = false := (byte_eq (letterB xk) 0).trans (decide_eq_false (letter_ne hb))
        have Hb := Lib.hid hb
        clear hb
        generalize letterB xk = lb at *
        go_wp2_with fail
        refine hLt.mono ?_
        rintro e w2 ⟨rfl, rfl⟩
        clear hLt
        go_wp2_with fail
        go_roundw
        case rel =>
          refine ⟨k + 1, by omega, by go_num, fun y hy => ?_, HM⟩
          rw [HSn.out] at hy
          rcases List.mem_append.1 hy with hy | hy
          · exact Hg.out y hy
          · rw [List.mem_singleton.1 hy]; exact Hb.out
        case measure => simp [intOf]; omega
    · have hlt' : decide ((k : Int) < (ts.length : Int)) = false := decide_eq_false (by omega)
      have hltN : decide (k < ts.length) = false := decide_eq_false hlt
      have e : k = ts.length := by omega
      subst e
      rw [List.take_length] at Hg
      have hno : ¬ (ts.any (fun t => decide (badK t.1)) = true) := fun h => by
        obtain ⟨x, hx, hb⟩ := List.any_eq_true.1 h
        exact Hg.out x hx (by simpa using hb)
      have HR2 : Hid ((if 65536 < (cs.flatMap (lineL 67) ++ ts.flatMap touL).length then ([], 5) else (cs.flatMap (lineL 67) ++ ts.flatMap touL, 0)) = R) := by
        unfold Hid; rw [← HR.out, if_neg hno]
      have HM1 := HM.nilB
      clear hno HR HM
      go_wp2_with fail
      clear z1
      go_loopw [5, 6] (fun v5 v6 wr => ∃ k : Nat, k ≤ cs.length ∧ v6 = .int .i64 k ∧ Hid (((cs.take k).flatMap (lineL 67)).length ≤ 65536) ∧ Mem none_ w [BRow v5 ((cs.take k).flatMap (lineL 67)), Blk nb 52 #[.slice A cs.length c, .slice A2 ts.length c2]] wr) (fun _ v _ => cs.length - (intOf v).toNat)
      case atStart => exact ⟨0, Nat.zero_le _, rfl, by unfold Hid; simp, HM1⟩
      case round =>
        clear HM1
        obtain ⟨k, hk, rfl, Hal, HM⟩ := hrel
        have z0 := Blk.cell_ (HM.at_ 1 rfl) 0
        simp only [List.getElem?_toArray, List.getElem?_cons_succ, List.getElem?_cons_zero] at z0
        by_cases hlt : k < cs.length
        · have hlt' : decide ((k : Int) < (cs.length : Int)) = true := decide_eq_true (by omega)
          have hltN : decide (k < cs.length) = true := decide_eq_true hlt
          obtain ⟨b, o, rfl, hcells⟩ := g4.resolve_left (by omega)
          have hx0 : wr.cell? ⟨b, o + k, none⟩ = some (.string (ofL cs[k])) := HM.mu.cell (hcells k _ (tx_get hlt)) (fun h => h)
          have hxb := HS.out.cl cs[k] (List.getElem_mem hlt)
          have hsn := flat_snoc (lineL 67) cs k hlt
          have hle := flat_take_le (lineL 67) cs (k + 1)
          have hLn := line_calls 67 cs[k] wr (by omega)
          have hLl : (lineL 67 cs[k]).length ≤ 4003 := line_le hxb
          have hal := Hal.out
          have HL1 : Hid (¬ (((cs.take k).flatMap (lineL 67) ++ lineL 67 cs[k]).length ≤ 65536) → R = ([], 5)) := fun h => by
            rw [← hsn] at h
            rw [← HR2.out, if_pos]
            rw [List.length_append]; omega
          have Hsn := Lib.hid hsn
          clear hcells g4 hsn hle
          generalize cs[k] = x at *
          generalize hacc : (cs.take k).flatMap (lineL 67) = acc at *
          generalize lineL 67 x = Lx at *
          clear hacc
          go_wp2_with fail
          refine hLn.mono ?_
          rintro e w2 ⟨v2, rfl, HM2⟩
          have HM3 := (HM.got HM2).sel [1, 0, 2] (by decide)
          simp only [List.cons_append, List.nil_append, List.filterMap_cons, List.filterMap_nil, List.getElem?_cons_succ, List.getElem?_cons_zero] at HM3
          have Hx := Row.sl (HM3.at_ 1 rfl)
          clear hLn HM HM2 z0
          obtain ⟨tl, htl⟩ : ∃ tl, acc.length + Lx.length = tl := ⟨_, rfl⟩
          have HT := Lib.hid htl
          have hb1 : (acc.length + Lx.length) * 1 ≤ 140737488355328 := by omega
          by_cases hbig : 65536 < tl
          · have q1 : decide ((65536 : Int) < (tl : Int)) = true := decide_eq_true (by omega)
            have q1' : decide (65536 < tl) = true := decide_eq_true hbig
            have HE := Lib.hid (HL1.out (by rw [List.length_append]; omega))
            clear hbig htl hal hLl HL1
            go_wp2_with (at_builtin; refine wpList_appBs bytE rfl _ _ rfl HM3 rfl (xv := v2) (m := Lx) rfl Hx ?hb ?_; (case hb => exact hb1); intro v' w' HM4 HU4; have HR := Row.any_ (HM4.at_ 0 rfl); rw [List.length_append, HT.out] at HR; obtain ⟨A5, c5, rfl, x1, x2⟩ := HR; have HMe := HM4.sel [] (by decide); clear HM3 HM4 Hx HU4)
            refine bodyPost_ret (v := .tuple #[.string ⟨#[]⟩, .int .i64 5]) (by simp [results, Tryd.results27, go_sem]) rfl ⟨by rw [HE.out]; rfl, HMe⟩
          · have q1 : decide ((65536 : Int) < (tl : Int)) = false := decide_eq_false (by omega)
            have q1' : decide (65536 < tl) = false := decide_eq_false hbig
            have Hle : Hid ((acc ++ Lx).length ≤ 65536) := by unfold Hid; rw [List.length_append]; omega
            clear hbig htl hal hLl HL1
            go_wp2_with (at_builtin; refine wpList_appBs bytE rfl _ _ rfl HM3 rfl (xv := v2) (m := Lx) rfl Hx ?hb ?_; (case hb => exact hb1); intro v' w' HM4 HU4; have HR := Row.any_ (HM4.at_ 0 rfl); rw [List.length_append, HT.out] at HR; obtain ⟨A5, c5, rfl, x1, x2⟩ := HR; have HMe := HM4.sel [0, 2] (by decide); clear HM3 HM4 Hx HU4)
            go_roundw
            case rel => exact ⟨k + 1, by omega, by go_num, by unfold Hid; rw [Hsn.out]; exact Hle.out, by rw [Hsn.out]; exact HMe⟩
            case measure => simp [intOf]; omega
        · have hlt' : decide ((k : Int) < (cs.length : Int)) = false := decide_eq_false (by omega)
          have hltN : decide (k < cs.length) = false := decide_eq_false hlt
          have e : k = cs.length := by omega
          subst e
          rw [List.take_length] at HM Hal
          generalize cs.flatMap (lineL 67) = pre at *
          go_wp2_with fail
          clear z0
          go_loopw [5, 7] (fun v5 v7 wr => ∃ k : Nat, k ≤ ts.length ∧ v7 = .int .i64 k ∧ Hid ((pre ++ (ts.take k).flatMap touL).length ≤ 65536) ∧ Mem none_ w [BRow v5 (pre ++ (ts.take k).flatMap touL), Blk nb 52 #[.slice A cs.length c, .slice A2 ts.length c2]] wr) (fun _ v _ => ts.length - (intOf v).toNat)
          case atStart => exact ⟨0, Nat.zero_le _, rfl, by unfold Hid; simpa using Hal.out, by simpa using HM⟩
          case round =>
            clear HM Hal
            obtain ⟨k, hk, rfl, Hal, HM⟩ := hrel
            have z1 := Blk.cell_ (HM.at_ 1 rfl) 1
            simp only [List.getElem?_toArray, List.getElem?_cons_succ, List.getElem?_cons_zero] at z1
            by_cases hlt : k < ts.length
            · have hlt' : decide ((k : Int) < (ts.length : Int)) = true := decide_eq_true (by omega)
              have hltN : decide (k < ts.length) = true := decide_eq_true hlt
              obtain ⟨b, o, rfl, hcells⟩ := k4.resolve_left (by omega)
              have pg := tch_get hlt
              have hx0 : wr.drew.cell? ⟨b, o + k * 2, none⟩ = some (.int .i64 ts[k].1) := HM.drew.mu.cell (hcells _ _ pg.1) (fun h => h)
              have hx1 : wr.drew.cell? ⟨b, o + k * 2 + 1, none⟩ = some (.string (ofL ts[k].2)) := HM.drew.mu.cell (hcells _ _ pg.2) (fun h => h)
              have hxb := HS.out.tl ts[k] (List.getElem_mem hlt)
              have hsn := flat_snoc touL ts k hlt
              have hle := flat_take_le touL ts (k + 1)
              have hgb := Hg.out ts[k] (List.getElem_mem hlt)
              have hLn := fun wx => line_calls (letterB ts[k].1) ts[k].2 wx (by omega)
              have hLt := fun wx => letter_calls ts[k].1 wx
              simp only [if_neg hgb] at hLt
              have hLl : (touL ts[k]).length ≤ 4003 := line_le hxb
              have hal := Hal.out
              have HL1 : Hid (65536 < (pre ++ (ts.take k).flatMap touL).length + (touL ts[k]).length → R = ([], 5)) := fun h => by
                rw [hsn, List.length_append] at hle
                rw [List.length_append] at h
                rw [← HR2.out, if_pos]
                rw [List.length_append]; omega
              have Hsn := Lib.hid (by rw [hsn, List.append_assoc] : pre ++ (ts.take (k + 1)).flatMap touL = (pre ++ (ts.take k).flatMap touL) ++ touL ts[k])
              have eT : touL ts[k] = lineL (letterB ts[k].1) ts[k].2 := rfl
              rw [← eT] at hLn
              clear hcells k4 pg hsn hle hgb eT
              generalize hacc : pre ++ (ts.take k).flatMap touL = acc at *
              generalize touL ts[k] = Lx at *
              generalize ts[k] = x at *
              obtain ⟨xk, xp⟩ := x
              simp only at hx0 hx1 hxb hLn hLt
              generalize letterB xk = lb at *
              clear hacc
              have HMd := HM.drew
              have zd := Blk.cell_ (HMd.at_ 1 rfl) 1
              simp only [List.getElem?_toArray, List.getElem?_cons_succ, List.getElem?_cons_zero] at zd
              obtain ⟨tl, htl⟩ : ∃ tl, acc.length + Lx.length = tl := ⟨_, rfl⟩
              have HT := Lib.hid htl
              have hb1 : (acc.length + Lx.length) * 1 ≤ 140737488355328 := by omega
              have HLe : Hid (tl ≤ 65536 → (acc ++ Lx).length ≤ 65536) := fun h => by rw [List.length_append]; omega
              rw [htl] at HL1
              clear HM htl hLl hal hxb
              go_wp2_with fail
              clear z1
              refine wp_plan [15] (S := fun w' => Hid (w'.cell? ⟨nb, 1, none⟩ = some (.slice (some ⟨b, o, none⟩) ts.length c2) ∧ w'.cell? ⟨b, o + k * 2, none⟩ = some (.int .i64 xk) ∧ w'.cell? ⟨b, o + k * 2 + 1, none⟩ = some (.string (ofL xp)))) [(.pure, 0), (.pure, 1), (.load, 2), (.pure, 3), (.pure, 4), (.pure, 5), (.load, 6), (.pure, 8), (.load, 9), (.pure, 10), (.pure, 11), (.pure, 12), (.load, 13), (.eff, 7), (.eff, 14), (.tail, 15), (.pure, 16)] (by kernel_rfl) rfl (by kernel_rfl) rfl (fun _ _ _ _ _ h => h) (Lib.hid ⟨zd, hx0, hx1⟩) ?_
              generalize World.drew _ = W at *
              repeat (first | (refine plan_pure (v := ?_) (a' := ?_) rfl rfl rfl ?_ ?_ ?_; rotate_left 2; (focus (intro w'; go_simp; with_reducible rfl)); (focus (simp only [Act.put, List.setIfInBounds_toArray, List.set_cons_zero, List.set_cons_succ]; rfl))) | (refine plan_load (v := ?_) (a' := ?_) rfl rfl rfl ?_ ?_ ?_; rotate_left 2; (focus (intro w' hw'; obtain ⟨q0, q1, q2⟩ := hw'.out; clear hw'; go_simp; with_reducible rfl)); (focus (simp only [Act.put, List.setIfInBounds_toArray, List.set_cons_zero, List.set_cons_succ]; rfl))) | (refine plan_skip rfl rfl (by decide +kernel) (by simp only [Act.put, List.setIfInBounds_toArray, List.set_cons_zero, List.set_cons_succ]; rfl) ?_))
              have hLt1 := hLt W
              refine plan_eff rfl (fun K hK => ?_)
              go_wp2_with fail
              refine hLt1.mono ?_
              rintro e w2 ⟨rfl, rfl⟩
              have hS2 := Lib.hid (And.intro zd (And.intro hx0 hx1))
              have hLn1 := hLn W
              clear hLt1 hLt hLn
              go_wp2_with fail
              refine hK _ _ hS2 ?_
              clear hK hS2
              refine plan_eff rfl (fun K hK => ?_)
              go_wp2_with fail
              refine hLn1.mono ?_
              rintro e w3 ⟨v2, rfl, HM2⟩
              have hS3 := Lib.hid (And.intro (HM2.mu.cell zd (fun h => h)) (And.intro (HM2.mu.cell hx0 (fun h => h)) (HM2.mu.cell hx1 (fun h => h))))
              have HM3 := (HMd.got HM2).sel [1, 0, 2] (by decide)
              simp only [List.cons_append, List.nil_append, List.filterMap_cons, List.filterMap_nil, List.getElem?_cons_succ, List.getElem?_cons_zero] at HM3
              have Hx := Row.sl (HM3.at_ 1 rfl)
              clear hLn1 HMd HM2
              go_wp2_with fail
              refine hK _ _ hS3 ?_
              clear hK hS3
              refine plan_tail_put rfl rfl (fun K hK => ?_)
              refine wpList_appBs bytE rfl _ _ rfl HM3 rfl (xv := v2) (m := Lx) rfl Hx hb1 ?_
              intro v' w' HM4 HU4
              refine wpList_nil_ (hK _ _ ?_)
              have HR := Row.any_ (HM4.at_ 0 rfl)
              rw [List.length_append, HT.out] at HR
              obtain ⟨A5, c5, rfl, x1, x2⟩ := HR
              have HMe := HM4.sel [0, 2] (by decide)
              clear HM3 HM4 Hx HU4 hK
              simp only [Act.put, List.setIfInBounds_toArray, List.set_cons_zero, List.set_cons_succ]
              repeat (first | (refine plan_pure (v := ?_) (a' := ?_) rfl rfl rfl ?_ ?_ ?_; rotate_left 2; (focus (intro w'; go_simp; with_reducible rfl)); (focus (simp only [Act.put, List.setIfInBounds_toArray, List.set_cons_zero, List.set_cons_succ]; rfl))) | (refine plan_load (v := ?_) (a' := ?_) rfl rfl rfl ?_ ?_ ?_; rotate_left 2; (focus (intro w' hw'; obtain ⟨q0, q1, q2⟩ := hw'.out; clear hw'; go_simp; with_reducible rfl)); (focus (simp only [Act.put, List.setIfInBounds_toArray, List.set_cons_zero, List.set_cons_succ]; rfl))) | (refine plan_skip rfl rfl (by decide +kernel) (by simp only [Act.put, List.setIfInBounds_toArray, List.set_cons_zero, List.set_cons_succ]; rfl) ?_))
              refine plan_done ?_
              clear zd hx0 hx1
              by_cases hbig : 65536 < tl
              · have q1 : decide ((65536 : Int) < (tl : Int)) = true := decide_eq_true (by omega)
                have q1' : decide (65536 < tl) = true := decide_eq_true hbig
                have HE := Lib.hid (HL1.out hbig)
                have HMf := HMe.sel [] (by decide)
                clear hbig HMe
                go_wp2_with fail
                refine bodyPost_ret (v := .tuple #[.string ⟨#[]⟩, .int .i64 5]) (by simp [results, Tryd.results27, go_sem]) rfl ⟨by rw [HE.out]; rfl, HMf⟩
              · have q1 : decide ((65536 : Int) < (tl : Int)) = false := decide_eq_false (by omega)
                have q1' : decide (65536 < tl) = false := decide_eq_false hbig
                have Hle := Lib.hid (HLe.out (by omega))
                clear hbig
                go_wp2_with fail
                go_roundw
                case rel => exact ⟨k + 1, by omega, by go_num, by unfold Hid; rw [Hsn.out]; exact Hle.out, by rw [Hsn.out]; exact HMe⟩
                case measure => simp [intOf]; omega
            · have hlt' : decide ((k : Int) < (ts.length : Int)) = false := decide_eq_false (by omega)
              have hltN : decide (k < ts.length) = false := decide_eq_false hlt
              have e : k = ts.length := by omega
              subst e
              rw [List.take_length] at HM Hal
              have HE : Hid (R = (pre ++ ts.flatMap touL, 0)) := by
                unfold Hid; rw [← HR2.out, if_neg]; have := Hal.out; omega
              clear HR2 Hal
              generalize pre ++ ts.flatMap touL = acc at *
              obtain ⟨A5, c5, rfl, x1, x2⟩ := Row.any_ (HM.at_ 0 rfl)
              have hc1 := conv_run (.slice A5 acc.length c5) acc wr (Row.sl (HM.at_ 0 rfl))
              have HMe := HM.sel [] (by decide)
              clear HM
              go_wp2_with fail
              refine bodyPost_ret (v := .tuple #[.string (ofL acc), .int .i64 0]) (by simp [results, Tryd.results27, go_sem]) rfl ⟨by rw [HE.out], HMe⟩
end Go.Proofs.YtnpehlkdfbmnkaaDoor
