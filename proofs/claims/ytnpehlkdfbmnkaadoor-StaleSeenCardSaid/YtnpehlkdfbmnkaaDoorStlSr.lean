/-
  Layer 18 (stale): the document's Seen.
-/
import Derived.Test.YtnpehlkdfbmnkaaDoorStlMe
set_option linter.unusedVariables false
set_option linter.unusedSimpArgs false
set_option maxRecDepth 20000
namespace Go.Proofs.YtnpehlkdfbmnkaaDoor
open Go.RowKit

theorem ref_len (l : List Tou) : ∀ i, i ≤ l.length → (refSeen l i).length ≤ 2 * i
  | 0, _ => by simp [refSeen]
  | i + 1, h => by
    have ih := ref_len l i (by omega)
    rw [refSeen, List.length_append, List.getElem?_eq_getElem (by omega)]
    simp only
    have : (refOne l i l[i]).length ≤ 2 := by
      unfold refOne
      split
      · rw [List.length_append]
        have h1 : (if l[i].1 = 1 then [l[i]] else []).length ≤ 1 := by split <;> simp
        have h2 : (if wroteB l[i].2 (l.drop i) = true then [((2 : Int), l[i].2)] else []).length ≤ 1 := by split <;> simp
        omega
      · simp
    omega
theorem first_snoc (ts : List Tou) (q : List UInt8) {j : Nat} (h : j < ts.length) : firstB ts (j + 1) q = (firstB ts j q && !decide (ts[j].2 = q)) := by
  unfold firstB
  rw [List.take_succ_eq_append_getElem h, List.all_append]
  congr 1
  by_cases e : ts[j].2 = q <;> simp [e]
theorem wrote_step (ts : List Tou) (q : List UInt8) {i j : Nat} (hi : i ≤ j) (h : j < ts.length) : wroteB q ((ts.drop i).take (j + 1 - i)) = if ts[j].2 = q ∧ ts[j].1 ≠ 1 then decide (ts[j].1 = 2) else wroteB q ((ts.drop i).take (j - i)) := by
  have e : (ts.drop i).take (j + 1 - i) = (ts.drop i).take (j - i) ++ [ts[j]] := by
    rw [show j + 1 - i = (j - i) + 1 from by omega, List.take_succ_eq_append_getElem (by rw [List.length_drop]; omega)]
    congr 1
    simp only [List.getElem_drop]
    congr 2
    omega
  rw [e, wrote_snoc]
set_option maxHeartbeats 16000000 in
theorem rseen_calls (V : Value) (ts : List Tou) (w : World) (hV : Tous w V ts) (hl : ts.length ≤ 1000) :
    Calls Tryd.prog 34 #[V] w fun e w' => ∃ v, e = .returned v ∧ Mem none_ w [NRow v (seenL ts)] w' := by
  rw [seen_eq]
  obtain ⟨A, c, rfl, g1, g2, g3, g4⟩ := hV
  unfold maxLen at g2
  have HM0 := (Mem.start (fp := none_) w).nilN
  clear g3
  go_enter Tryd.func34, Tryd.ntmps34
  go_wp2_with fail
  go_loopw [3, 4, 5, 6, 7, 8] (fun v3 v4 v5 v6 v7 v8 wr => ∃ i : Nat, i ≤ ts.length ∧ v4 = .int .i64 i ∧ Mem none_ w [NRow v3 (refSeen ts i)] wr) (fun _ v _ _ _ _ _ => ts.length - (intOf v).toNat)
  case atStart => exact ⟨0, Nat.zero_le _, rfl, HM0⟩
  case round =>
    clear HM0
    obtain ⟨i, hi, rfl, HM⟩ := hrel
    by_cases hlt : i < ts.length
    · have hlt' : decide ((i : Int) < (ts.length : Int)) = true := decide_eq_true (by omega)
      have hltN : decide (i < ts.length) = true := decide_eq_true hlt
      obtain ⟨b, o, rfl, hcells⟩ := g4.resolve_left (by omega)
      have hrl := ref_len ts i (by omega)
      have hsn : refSeen ts (i + 1) = refSeen ts i ++ refOne ts i ts[i] := by rw [refSeen, List.getElem?_eq_getElem hlt]
      have Hsn := Lib.hid hsn
      clear hsn
      obtain ⟨acc, hacc⟩ : ∃ acc, refSeen ts i = acc := ⟨_, rfl⟩
      rw [hacc] at HM hrl Hsn
      clear hacc
      go_wp2_with fail
      go_loopw [5, 6] (fun v5 v6 wr => ∃ j : Nat, j ≤ i ∧ v6 = .int .i64 j ∧ v5 = .bool (firstB ts j ts[i].2) ∧ Mem none_ w [NRow u3 acc] wr) (fun _ v _ => i - (intOf v).toNat)
      case atStart => exact ⟨0, Nat.zero_le _, rfl, rfl, HM⟩
      case round =>
        clear HM
        obtain ⟨j, hj, rfl, rfl, HM⟩ := hrel
        by_cases hjl : j < i
        · have hjl' : decide ((j : Int) < (i : Int)) = true := decide_eq_true (by omega)
          have hjlN : decide (j < i) = true := decide_eq_true hjl
          have hjt : j < ts.length := by omega
          have HMd := HM.drew
          have x0 : wr.drew.cell? ⟨b, o + j * 2, none⟩ = some (.int .i64 ts[j].1) := Pure.cell HMd.mu (hcells _ _ (tch_get hjt).1)
          have x1 : wr.drew.cell? ⟨b, o + j * 2 + 1, none⟩ = some (.string (ofL ts[j].2)) := Pure.cell HMd.mu (hcells _ _ (tch_get hjt).2)
          have y0 : wr.drew.cell? ⟨b, o + i * 2, none⟩ = some (.int .i64 ts[i].1) := Pure.cell HMd.mu (hcells _ _ (tch_get hlt).1)
          have y1 : wr.drew.cell? ⟨b, o + i * 2 + 1, none⟩ = some (.string (ofL ts[i].2)) := Pure.cell HMd.mu (hcells _ _ (tch_get hlt).2)
          have hjtI : (j : Int) < (ts.length : Int) := by omega
          have hltI : (i : Int) < (ts.length : Int) := by omega
          have hfs := first_snoc ts ts[i].2 hjt
          have hse := str_eq ts[j].2 ts[i].2
          have Hfs := Lib.hid hfs
          clear hfs HM
          obtain ⟨F, hF⟩ : ∃ F, firstB ts j ts[i].2 = F := ⟨_, rfl⟩
          obtain ⟨E, hE⟩ : ∃ E, decide (ts[j].2 = ts[i].2) = E := ⟨_, rfl⟩
          rw [hE] at hse Hfs
          rw [hF] at Hfs ⊢
          clear hF hE
          obtain ⟨X, hX⟩ : ∃ X, ts[j] = X := ⟨_, rfl⟩
          obtain ⟨Y, hY⟩ : ∃ Y, ts[i] = Y := ⟨_, rfl⟩
          rw [hX] at x0 x1 hse
          rw [hY] at y0 y1 hse Hfs
          have HY := Lib.hid hY
          clear hX hY
          cases F with
          | true =>
            go_wp2_with fail
            refine wp_plan [] (S := fun w' => w' = World.drew _) [(.pure, 0), (.pure, 1), (.pure, 2), (.pure, 3), (.pure, 4), (.pure, 5), (.load, 6), (.pure, 7), (.pure, 8), (.pure, 9), (.pure, 10), (.load, 11), (.pure, 12), (.pure, 13), (.pure, 14)] (by kernel_rfl) rfl (by kernel_rfl) rfl (fun _ _ _ _ _ h => h) rfl ?_
            generalize World.drew _ = W at *
            repeat (first | (refine plan_pure (v := ?_) (a' := ?_) rfl rfl rfl ?_ ?_ ?_; rotate_left 2; (focus (intro w'; go_simp; with_reducible rfl)); (focus (simp only [Act.put, List.setIfInBounds_toArray, List.set_cons_zero, List.set_cons_succ]; rfl))) | (refine plan_load (v := ?_) (a' := ?_) rfl rfl rfl ?_ ?_ ?_; rotate_left 2; (focus (intro w' hw'; rw [hw']; go_simp; with_reducible rfl)); (focus (simp only [Act.put, List.setIfInBounds_toArray, List.set_cons_zero, List.set_cons_succ]; rfl))) | (refine plan_skip rfl rfl (by decide +kernel) (by simp only [Act.put, List.setIfInBounds_toArray, List.set_cons_zero, List.set_cons_succ]; rfl) ?_))
            refine plan_done ?_
            go_wp2_with fail
            go_roundw
            case rel => exact ⟨j + 1, by omega, by go_num, by rw [HY.out, Hfs.out]; rfl, HMd⟩
            case measure => simp [intOf]; omega
          | false =>
            go_wp2_with fail
            refine wp_plan [] (S := fun w' => w' = World.drew _) [(.pure, 0), (.pure, 1), (.pure, 2), (.pure, 3), (.pure, 4), (.pure, 5), (.load, 6), (.pure, 7), (.pure, 8), (.pure, 9), (.pure, 10), (.load, 11), (.pure, 12), (.pure, 13), (.pure, 14)] (by kernel_rfl) rfl (by kernel_rfl) rfl (fun _ _ _ _ _ h => h) rfl ?_
            generalize World.drew _ = W at *
            repeat (first | (refine plan_pure (v := ?_) (a' := ?_) rfl rfl rfl ?_ ?_ ?_; rotate_left 2; (focus (intro w'; go_simp; with_reducible rfl)); (focus (simp only [Act.put, List.setIfInBounds_toArray, List.set_cons_zero, List.set_cons_succ]; rfl))) | (refine plan_load (v := ?_) (a' := ?_) rfl rfl rfl ?_ ?_ ?_; rotate_left 2; (focus (intro w' hw'; rw [hw']; go_simp; with_reducible rfl)); (focus (simp only [Act.put, List.setIfInBounds_toArray, List.set_cons_zero, List.set_cons_succ]; rfl))) | (refine plan_skip rfl rfl (by decide +kernel) (by simp only [Act.put, List.setIfInBounds_toArray, List.set_cons_zero, List.set_cons_succ]; rfl) ?_) | (refine plan_skip (a' := ?_) rfl rfl rfl ?_ ?_; rotate_left 1; (focus (simp only [Act.put, List.setIfInBounds_toArray, List.set_cons_zero, List.set_cons_succ]; rfl))) | (refine plan_skipL (a' := ?_) rfl rfl rfl ?_ ?_; rotate_left 1; (focus (simp only [Act.put, List.setIfInBounds_toArray, List.set_cons_zero, List.set_cons_succ]; rfl))))
            refine plan_done ?_
            go_wp2_with fail
            go_roundw
            case rel => exact ⟨j + 1, by omega, by go_num, by rw [HY.out, Hfs.out]; rfl, HMd⟩
            case measure => simp [intOf]; omega
        · have hjl' : decide ((j : Int) < (i : Int)) = false := decide_eq_false (by omega)
          have hjlN : decide (j < i) = false := decide_eq_false hjl
          have e : j = i := by omega
          subst e
          obtain ⟨A6, c6, rfl, y1, y2⟩ := Row.any_ (HM.at_ 0 rfl)
          have x0 : wr.cell? ⟨b, o + j * 2, none⟩ = some (.int .i64 ts[j].1) := Pure.cell HM.mu (hcells _ _ (tch_get hlt).1)
          have x1 : wr.cell? ⟨b, o + j * 2 + 1, none⟩ = some (.string (ofL ts[j].2)) := Pure.cell HM.mu (hcells _ _ (tch_get hlt).2)
          have hltI : (j : Int) < (ts.length : Int) := by omega
          have Hone : Hid (refOne ts j ts[j] = if firstB ts j ts[j].2 = true then (if ts[j].1 = 1 then [ts[j]] else []) ++ (if wroteB ts[j].2 (ts.drop j) = true then [(2, ts[j].2)] else []) else []) := rfl
          obtain ⟨F, hF⟩ : ∃ F, firstB ts j ts[j].2 = F := ⟨_, rfl⟩
          rw [hF] at Hone ⊢
          clear hF
          cases F with
          | false =>
            have HMz : Mem none_ w [NRow (.slice A6 acc.length c6) (refSeen ts (j + 1))] wr := by
              rw [Hsn.out, Hone.out, if_neg (by decide), List.append_nil]; exact HM
            clear hjl x0 x1
            go_wp2_with fail
            go_roundw
            case rel => exact ⟨j + 1, by omega, by go_num, HMz⟩
            case measure => simp [intOf]; omega
          | true =>
            have Hone2 : Hid (refSeen ts (j + 1) = (acc ++ if ts[j].1 = 1 then [ts[j]] else []) ++ (if wroteB ts[j].2 (ts.drop j) = true then [(2, ts[j].2)] else [])) := by
              unfold Hid; rw [Hsn.out, Hone.out, if_pos rfl, List.append_assoc]
            clear hjl Hone Hsn
            by_cases h1 : ts[j].1 = 1
            · have q1 : (ts[j].1 == 1) = true := by rw [beq_iff_eq]; exact h1
              have HO : Hid (refSeen ts (j + 1) = (acc ++ [(ts[j].1, ts[j].2)]) ++ (if wroteB ts[j].2 (ts.drop j) = true then [(2, ts[j].2)] else [])) := by
                unfold Hid; rw [Hone2.out, if_pos h1]
              rw [h1] at x0 HO
              clear Hone2 h1 q1
              go_wp2_with (at_builtin; refine wpList_app1 touE rfl _ _ rfl HM rfl #[.int .i64 1, .string (ofL ts[j].2)] _ rfl ?hnb rfl ?h1 ?hb ?_; (case hnb => simp); (case h1 => simp [Value.oneCell']); (case hb => omega); intro v' wa HMa HUa; obtain ⟨Aa, ca, rfl, xa, xxa⟩ := Row.any_ (HMa.at_ 0 rfl); have HMq : Mem none_ w [NRow (.slice Aa (acc.length + 1) ca) (acc ++ [(1, ts[j].2)])] wa := (by unfold NRow; rw [tch_app, List.length_append]; exact HMa); have HMQ := Lib.hid HMq; clear HMq HMa HUa x0 x1)
              replace HMQ := HMQ.out
              obtain ⟨pre, hpre⟩ : ∃ pre, (acc ++ [(1, ts[j].2)]) = pre := ⟨_, rfl⟩
              obtain ⟨pl, hpl⟩ : ∃ pl, acc.length + 1 = pl := ⟨_, rfl⟩
              have hplp : pre.length = pl := by rw [← hpre, ← hpl]; first | done | simp
              have hplb : pl ≤ 2 * j + 1 := by omega
              rw [hpl] at HMQ ⊢
              rw [hpre] at HMQ HO
              clear hpre hpl hrl
              go_loopw [7, 8] (fun v7 v8 wr => ∃ k : Nat, j ≤ k ∧ k ≤ ts.length ∧ v8 = .int .i64 k ∧ v7 = .bool (wroteB ts[j].2 ((ts.drop j).take (k - j))) ∧ Mem none_ w [NRow (.slice Aa pl ca) pre] wr) (fun _ v _ => ts.length - (intOf v).toNat)
              case atStart => exact ⟨j, Nat.le_refl _, hi, rfl, by rw [Nat.sub_self]; rfl, HMQ⟩
              case round =>
                clear HMQ
                obtain ⟨k, hjk, hk, rfl, rfl, HM⟩ := hrel
                by_cases hkl : k < ts.length
                · have hkl' : decide ((k : Int) < (ts.length : Int)) = true := decide_eq_true (by omega)
                  have hklN : decide (k < ts.length) = true := decide_eq_true hkl
                  have hklI : (k : Int) < (ts.length : Int) := by omega
                  have HMd := HM.drew
                  have x0 : wr.drew.cell? ⟨b, o + k * 2, none⟩ = some (.int .i64 ts[k].1) := Pure.cell HMd.mu (hcells _ _ (tch_get hkl).1)
                  have x1 : wr.drew.cell? ⟨b, o + k * 2 + 1, none⟩ = some (.string (ofL ts[k].2)) := Pure.cell HMd.mu (hcells _ _ (tch_get hkl).2)
                  have y0 : wr.drew.cell? ⟨b, o + j * 2, none⟩ = some (.int .i64 ts[j].1) := Pure.cell HMd.mu (hcells _ _ (tch_get hlt).1)
                  have y1 : wr.drew.cell? ⟨b, o + j * 2 + 1, none⟩ = some (.string (ofL ts[j].2)) := Pure.cell HMd.mu (hcells _ _ (tch_get hlt).2)
                  have hws := Lib.hid (wrote_step ts ts[j].2 hjk hkl)
                  have hse := str_eq ts[k].2 ts[j].2
                  clear HM
                  obtain ⟨Wb, hWb⟩ : ∃ Wb, wroteB ts[j].2 ((ts.drop j).take (k - j)) = Wb := ⟨_, rfl⟩
                  rw [hWb] at hws ⊢
                  clear hWb
                  by_cases hE : ts[k].2 = ts[j].2
                  · rw [decide_eq_true hE] at hse
                    have hE' := Lib.hid hE
                    clear hE
                    by_cases hK : ts[k].1 = 1
                    · have q1n : (ts[k].1 != 1) = false := by rw [bne_eq_false_iff_eq]; exact hK
                      have hK' := Lib.hid hK
                      clear hK
                      go_wp2_with fail
                      refine wp_plan [] (S := fun w' => w' = World.drew _) [(.pure, 0), (.pure, 1), (.pure, 2), (.pure, 3), (.load, 4), (.pure, 5), (.pure, 6), (.pure, 7), (.pure, 8), (.load, 9), (.pure, 10), (.pure, 11), (.pure, 12), (.pure, 13), (.pure, 14), (.pure, 15), (.load, 16), (.pure, 17), (.pure, 18)] (by kernel_rfl) rfl (by kernel_rfl) rfl (fun _ _ _ _ _ h => h) rfl ?_
                      generalize World.drew _ = W at *
                      repeat (first | (refine plan_pure (v := ?_) (a' := ?_) rfl rfl rfl ?_ ?_ ?_; rotate_left 2; (focus (intro w'; go_simp; with_reducible rfl)); (focus (simp only [Act.put, List.setIfInBounds_toArray, List.set_cons_zero, List.set_cons_succ]; rfl))) | (refine plan_load (v := ?_) (a' := ?_) rfl rfl rfl ?_ ?_ ?_; rotate_left 2; (focus (intro w' hw'; rw [hw']; go_simp; with_reducible rfl)); (focus (simp only [Act.put, List.setIfInBounds_toArray, List.set_cons_zero, List.set_cons_succ]; rfl))) | (refine plan_skip rfl rfl (by decide +kernel) (by simp only [Act.put, List.setIfInBounds_toArray, List.set_cons_zero, List.set_cons_succ]; rfl) ?_))
                      refine plan_done ?_
                      go_wp2_with fail
                      go_roundw
                      case rel => exact ⟨k + 1, by omega, by omega, by go_num, by rw [hws.out]; rw [if_neg (fun h => h.2 hK'.out)], HMd⟩
                      case measure => simp [intOf]; omega
                    · have q1n : (ts[k].1 != 1) = true := by rw [bne_iff_ne]; exact hK
                      have hK' := Lib.hid hK
                      clear hK
                      obtain ⟨G, hG⟩ : ∃ G, decide (ts[k].1 = 2) = G := ⟨_, rfl⟩
                      have q2 : (ts[k].1 == 2) = G := by rw [← hG]; by_cases h : ts[k].1 = 2 <;> simp [h]
                      have hG' := Lib.hid hG
                      clear hG
                      go_wp2_with fail
                      refine wp_plan [] (S := fun w' => w' = World.drew _) [(.pure, 0), (.pure, 1), (.pure, 2), (.pure, 3), (.load, 4), (.pure, 5), (.pure, 6), (.pure, 7), (.pure, 8), (.load, 9), (.pure, 10), (.pure, 11), (.pure, 12), (.pure, 13), (.pure, 14), (.pure, 15), (.load, 16), (.pure, 17), (.pure, 18)] (by kernel_rfl) rfl (by kernel_rfl) rfl (fun _ _ _ _ _ h => h) rfl ?_
                      generalize World.drew _ = W at *
                      repeat (first | (refine plan_pure (v := ?_) (a' := ?_) rfl rfl rfl ?_ ?_ ?_; rotate_left 2; (focus (intro w'; go_simp; with_reducible rfl)); (focus (simp only [Act.put, List.setIfInBounds_toArray, List.set_cons_zero, List.set_cons_succ]; rfl))) | (refine plan_load (v := ?_) (a' := ?_) rfl rfl rfl ?_ ?_ ?_; rotate_left 2; (focus (intro w' hw'; rw [hw']; go_simp; with_reducible rfl)); (focus (simp only [Act.put, List.setIfInBounds_toArray, List.set_cons_zero, List.set_cons_succ]; rfl))) | (refine plan_skip rfl rfl (by decide +kernel) (by simp only [Act.put, List.setIfInBounds_toArray, List.set_cons_zero, List.set_cons_succ]; rfl) ?_))
                      refine plan_done ?_
                      go_wp2_with fail
                      go_roundw
                      case rel => exact ⟨k + 1, by omega, by omega, by go_num, by rw [hws.out]; rw [if_pos ⟨hE'.out, hK'.out⟩, hG'.out], HMd⟩
                      case measure => simp [intOf]; omega
                  · rw [decide_eq_false hE] at hse
                    have hE' := Lib.hid hE
                    clear hE
                    go_wp2_with fail
                    refine wp_plan [] (S := fun w' => w' = World.drew _) [(.pure, 0), (.pure, 1), (.pure, 2), (.pure, 3), (.load, 4), (.pure, 5), (.pure, 6), (.pure, 7), (.pure, 8), (.load, 9), (.pure, 10), (.pure, 11), (.pure, 12), (.pure, 13), (.pure, 14), (.pure, 15), (.load, 16), (.pure, 17), (.pure, 18)] (by kernel_rfl) rfl (by kernel_rfl) rfl (fun _ _ _ _ _ h => h) rfl ?_
                    generalize World.drew _ = W at *
                    repeat (first | (refine plan_pure (v := ?_) (a' := ?_) rfl rfl rfl ?_ ?_ ?_; rotate_left 2; (focus (intro w'; go_simp; with_reducible rfl)); (focus (simp only [Act.put, List.setIfInBounds_toArray, List.set_cons_zero, List.set_cons_succ]; rfl))) | (refine plan_load (v := ?_) (a' := ?_) rfl rfl rfl ?_ ?_ ?_; rotate_left 2; (focus (intro w' hw'; rw [hw']; go_simp; with_reducible rfl)); (focus (simp only [Act.put, List.setIfInBounds_toArray, List.set_cons_zero, List.set_cons_succ]; rfl))) | (refine plan_skip rfl rfl (by decide +kernel) (by simp only [Act.put, List.setIfInBounds_toArray, List.set_cons_zero, List.set_cons_succ]; rfl) ?_) | (refine plan_skip (a' := ?_) rfl rfl rfl ?_ ?_; rotate_left 1; (focus (simp only [Act.put, List.setIfInBounds_toArray, List.set_cons_zero, List.set_cons_succ]; rfl))) | (refine plan_skipL (a' := ?_) rfl rfl rfl ?_ ?_; rotate_left 1; (focus (simp only [Act.put, List.setIfInBounds_toArray, List.set_cons_zero, List.set_cons_succ]; rfl))))
                    refine plan_done ?_
                    go_wp2_with fail
                    go_roundw
                    case rel => exact ⟨k + 1, by omega, by omega, by go_num, by rw [hws.out]; rw [if_neg (fun h => hE'.out h.1)], HMd⟩
                    case measure => simp [intOf]; omega
                · have hkl' : decide ((k : Int) < (ts.length : Int)) = false := decide_eq_false (by omega)
                  have hklN : decide (k < ts.length) = false := decide_eq_false hkl
                  have e : k = ts.length := by omega
                  subst e
                  have et : (ts.drop j).take (ts.length - j) = ts.drop j := List.take_of_length_le (by rw [List.length_drop]; exact Nat.le_refl _)
                  rw [et]
                  clear et
                  have x0 : wr.cell? ⟨b, o + j * 2, none⟩ = some (.int .i64 ts[j].1) := Pure.cell HM.mu (hcells _ _ (tch_get hlt).1)
                  have x1 : wr.cell? ⟨b, o + j * 2 + 1, none⟩ = some (.string (ofL ts[j].2)) := Pure.cell HM.mu (hcells _ _ (tch_get hlt).2)
                  obtain ⟨Wb, hWb⟩ : ∃ Wb, wroteB ts[j].2 (ts.drop j) = Wb := ⟨_, rfl⟩
                  rw [hWb] at HO ⊢
                  clear hWb
                  cases Wb with
                  | false =>
                    have HMz : Mem none_ w [NRow (.slice Aa pl ca) (refSeen ts (j + 1))] wr := by rw [HO.out, if_neg (by decide), List.append_nil]; exact HM
                    go_wp2_with fail
                    go_roundw
                    case rel => exact ⟨j + 1, by omega, by go_num, HMz⟩
                    case measure => simp [intOf]; omega
                  | true =>
                    go_wp2_with (at_builtin; refine wpList_app1 touE rfl _ _ rfl HM rfl #[.int .i64 2, .string (ofL ts[j].2)] _ rfl ?hnb rfl ?h1 ?hb ?_; (case hnb => simp); (case h1 => simp [Value.oneCell']); (case hb => omega); intro v' wb HMb HUb; have HMz : Mem none_ w [NRow v' (refSeen ts (j + 1))] wb := (by rw [HO.out, if_pos rfl]; unfold NRow; rw [tch_app, List.length_append]; exact HMb); have HMZ := Lib.hid HMz; clear HMz HMb HUb)
                    go_roundw
                    case rel => exact ⟨j + 1, by omega, by go_num, HMZ.out⟩
                    case measure => simp [intOf]; omega
            · have q1 : (ts[j].1 == 1) = false := by rw [beq_eq_false_iff_ne]; exact h1
              have HO : Hid (refSeen ts (j + 1) = acc ++ (if wroteB ts[j].2 (ts.drop j) = true then [(2, ts[j].2)] else [])) := by
                unfold Hid; rw [Hone2.out, if_neg h1, List.append_nil]
              clear Hone2
              have HMQ := Lib.hid HM
              clear HM
              go_wp2_with fail
              replace HMQ := HMQ.out
              clear x0 x1
              obtain ⟨pre, hpre⟩ : ∃ pre, acc = pre := ⟨_, rfl⟩
              obtain ⟨pl, hpl⟩ : ∃ pl, acc.length = pl := ⟨_, rfl⟩
              have hplp : pre.length = pl := by rw [← hpre, ← hpl]; first | done | simp
              have hplb : pl ≤ 2 * j + 1 := by omega
              rw [hpl] at HMQ ⊢
              rw [hpre] at HMQ HO
              clear hpre hpl hrl
              go_loopw [7, 8] (fun v7 v8 wr => ∃ k : Nat, j ≤ k ∧ k ≤ ts.length ∧ v8 = .int .i64 k ∧ v7 = .bool (wroteB ts[j].2 ((ts.drop j).take (k - j))) ∧ Mem none_ w [NRow (.slice A6 pl c6) pre] wr) (fun _ v _ => ts.length - (intOf v).toNat)
              case atStart => exact ⟨j, Nat.le_refl _, hi, rfl, by rw [Nat.sub_self]; rfl, HMQ⟩
              case round =>
                clear HMQ
                obtain ⟨k, hjk, hk, rfl, rfl, HM⟩ := hrel
                by_cases hkl : k < ts.length
                · have hkl' : decide ((k : Int) < (ts.length : Int)) = true := decide_eq_true (by omega)
                  have hklN : decide (k < ts.length) = true := decide_eq_true hkl
                  have hklI : (k : Int) < (ts.length : Int) := by omega
                  have HMd := HM.drew
                  have x0 : wr.drew.cell? ⟨b, o + k * 2, none⟩ = some (.int .i64 ts[k].1) := Pure.cell HMd.mu (hcells _ _ (tch_get hkl).1)
                  have x1 : wr.drew.cell? ⟨b, o + k * 2 + 1, none⟩ = some (.string (ofL ts[k].2)) := Pure.cell HMd.mu (hcells _ _ (tch_get hkl).2)
                  have y0 : wr.drew.cell? ⟨b, o + j * 2, none⟩ = some (.int .i64 ts[j].1) := Pure.cell HMd.mu (hcells _ _ (tch_get hlt).1)
                  have y1 : wr.drew.cell? ⟨b, o + j * 2 + 1, none⟩ = some (.string (ofL ts[j].2)) := Pure.cell HMd.mu (hcells _ _ (tch_get hlt).2)
                  have hws := Lib.hid (wrote_step ts ts[j].2 hjk hkl)
                  have hse := str_eq ts[k].2 ts[j].2
                  clear HM
                  obtain ⟨Wb, hWb⟩ : ∃ Wb, wroteB ts[j].2 ((ts.drop j).take (k - j)) = Wb := ⟨_, rfl⟩
                  rw [hWb] at hws ⊢
                  clear hWb
                  by_cases hE : ts[k].2 = ts[j].2
                  · rw [decide_eq_true hE] at hse
                    have hE' := Lib.hid hE
                    clear hE
                    by_cases hK : ts[k].1 = 1
                    · have q1n : (ts[k].1 != 1) = false := by rw [bne_eq_false_iff_eq]; exact hK
                      have hK' := Lib.hid hK
                      clear hK
                      go_wp2_with fail
                      refine wp_plan [] (S := fun w' => w' = World.drew _) [(.pure, 0), (.pure, 1), (.pure, 2), (.pure, 3), (.load, 4), (.pure, 5), (.pure, 6), (.pure, 7), (.pure, 8), (.load, 9), (.pure, 10), (.pure, 11), (.pure, 12), (.pure, 13), (.pure, 14), (.pure, 15), (.load, 16), (.pure, 17), (.pure, 18)] (by kernel_rfl) rfl (by kernel_rfl) rfl (fun _ _ _ _ _ h => h) rfl ?_
                      generalize World.drew _ = W at *
                      repeat (first | (refine plan_pure (v := ?_) (a' := ?_) rfl rfl rfl ?_ ?_ ?_; rotate_left 2; (focus (intro w'; go_simp; with_reducible rfl)); (focus (simp only [Act.put, List.setIfInBounds_toArray, List.set_cons_zero, List.set_cons_succ]; rfl))) | (refine plan_load (v := ?_) (a' := ?_) rfl rfl rfl ?_ ?_ ?_; rotate_left 2; (focus (intro w' hw'; rw [hw']; go_simp; with_reducible rfl)); (focus (simp only [Act.put, List.setIfInBounds_toArray, List.set_cons_zero, List.set_cons_succ]; rfl))) | (refine plan_skip rfl rfl (by decide +kernel) (by simp only [Act.put, List.setIfInBounds_toArray, List.set_cons_zero, List.set_cons_succ]; rfl) ?_))
                      refine plan_done ?_
                      go_wp2_with fail
                      go_roundw
                      case rel => exact ⟨k + 1, by omega, by omega, by go_num, by rw [hws.out]; rw [if_neg (fun h => h.2 hK'.out)], HMd⟩
                      case measure => simp [intOf]; omega
                    · have q1n : (ts[k].1 != 1) = true := by rw [bne_iff_ne]; exact hK
                      have hK' := Lib.hid hK
                      clear hK
                      obtain ⟨G, hG⟩ : ∃ G, decide (ts[k].1 = 2) = G := ⟨_, rfl⟩
                      have q2 : (ts[k].1 == 2) = G := by rw [← hG]; by_cases h : ts[k].1 = 2 <;> simp [h]
                      have hG' := Lib.hid hG
                      clear hG
                      go_wp2_with fail
                      refine wp_plan [] (S := fun w' => w' = World.drew _) [(.pure, 0), (.pure, 1), (.pure, 2), (.pure, 3), (.load, 4), (.pure, 5), (.pure, 6), (.pure, 7), (.pure, 8), (.load, 9), (.pure, 10), (.pure, 11), (.pure, 12), (.pure, 13), (.pure, 14), (.pure, 15), (.load, 16), (.pure, 17), (.pure, 18)] (by kernel_rfl) rfl (by kernel_rfl) rfl (fun _ _ _ _ _ h => h) rfl ?_
                      generalize World.drew _ = W at *
                      repeat (first | (refine plan_pure (v := ?_) (a' := ?_) rfl rfl rfl ?_ ?_ ?_; rotate_left 2; (focus (intro w'; go_simp; with_reducible rfl)); (focus (simp only [Act.put, List.setIfInBounds_toArray, List.set_cons_zero, List.set_cons_succ]; rfl))) | (refine plan_load (v := ?_) (a' := ?_) rfl rfl rfl ?_ ?_ ?_; rotate_left 2; (focus (intro w' hw'; rw [hw']; go_simp; with_reducible rfl)); (focus (simp only [Act.put, List.setIfInBounds_toArray, List.set_cons_zero, List.set_cons_succ]; rfl))) | (refine plan_skip rfl rfl (by decide +kernel) (by simp only [Act.put, List.setIfInBounds_toArray, List.set_cons_zero, List.set_cons_succ]; rfl) ?_))
                      refine plan_done ?_
                      go_wp2_with fail
                      go_roundw
                      case rel => exact ⟨k + 1, by omega, by omega, by go_num, by rw [hws.out]; rw [if_pos ⟨hE'.out, hK'.out⟩, hG'.out], HMd⟩
                      case measure => simp [intOf]; omega
                  · rw [decide_eq_false hE] at hse
                    have hE' := Lib.hid hE
                    clear hE
                    go_wp2_with fail
                    refine wp_plan [] (S := fun w' => w' = World.drew _) [(.pure, 0), (.pure, 1), (.pure, 2), (.pure, 3), (.load, 4), (.pure, 5), (.pure, 6), (.pure, 7), (.pure, 8), (.load, 9), (.pure, 10), (.pure, 11), (.pure, 12), (.pure, 13), (.pure, 14), (.pure, 15), (.load, 16), (.pure, 17), (.pure, 18)] (by kernel_rfl) rfl (by kernel_rfl) rfl (fun _ _ _ _ _ h => h) rfl ?_
                    generalize World.drew _ = W at *
                    repeat (first | (refine plan_pure (v := ?_) (a' := ?_) rfl rfl rfl ?_ ?_ ?_; rotate_left 2; (focus (intro w'; go_simp; with_reducible rfl)); (focus (simp only [Act.put, List.setIfInBounds_toArray, List.set_cons_zero, List.set_cons_succ]; rfl))) | (refine plan_load (v := ?_) (a' := ?_) rfl rfl rfl ?_ ?_ ?_; rotate_left 2; (focus (intro w' hw'; rw [hw']; go_simp; with_reducible rfl)); (focus (simp only [Act.put, List.setIfInBounds_toArray, List.set_cons_zero, List.set_cons_succ]; rfl))) | (refine plan_skip rfl rfl (by decide +kernel) (by simp only [Act.put, List.setIfInBounds_toArray, List.set_cons_zero, List.set_cons_succ]; rfl) ?_) | (refine plan_skip (a' := ?_) rfl rfl rfl ?_ ?_; rotate_left 1; (focus (simp only [Act.put, List.setIfInBounds_toArray, List.set_cons_zero, List.set_cons_succ]; rfl))) | (refine plan_skipL (a' := ?_) rfl rfl rfl ?_ ?_; rotate_left 1; (focus (simp only [Act.put, List.setIfInBounds_toArray, List.set_cons_zero, List.set_cons_succ]; rfl))))
                    refine plan_done ?_
                    go_wp2_with fail
                    go_roundw
                    case rel => exact ⟨k + 1, by omega, by omega, by go_num, by rw [hws.out]; rw [if_neg (fun h => hE'.out h.1)], HMd⟩
                    case measure => simp [intOf]; omega
                · have hkl' : decide ((k : Int) < (ts.length : Int)) = false := decide_eq_false (by omega)
                  have hklN : decide (k < ts.length) = false := decide_eq_false hkl
                  have e : k = ts.length := by omega
                  subst e
                  have et : (ts.drop j).take (ts.length - j) = ts.drop j := List.take_of_length_le (by rw [List.length_drop]; exact Nat.le_refl _)
                  rw [et]
                  clear et
                  have x0 : wr.cell? ⟨b, o + j * 2, none⟩ = some (.int .i64 ts[j].1) := Pure.cell HM.mu (hcells _ _ (tch_get hlt).1)
                  have x1 : wr.cell? ⟨b, o + j * 2 + 1, none⟩ = some (.string (ofL ts[j].2)) := Pure.cell HM.mu (hcells _ _ (tch_get hlt).2)
                  obtain ⟨Wb, hWb⟩ : ∃ Wb, wroteB ts[j].2 (ts.drop j) = Wb := ⟨_, rfl⟩
                  rw [hWb] at HO ⊢
                  clear hWb
                  cases Wb with
                  | false =>
                    have HMz : Mem none_ w [NRow (.slice A6 pl c6) (refSeen ts (j + 1))] wr := by rw [HO.out, if_neg (by decide), List.append_nil]; exact HM
                    go_wp2_with fail
                    go_roundw
                    case rel => exact ⟨j + 1, by omega, by go_num, HMz⟩
                    case measure => simp [intOf]; omega
                  | true =>
                    go_wp2_with (at_builtin; refine wpList_app1 touE rfl _ _ rfl HM rfl #[.int .i64 2, .string (ofL ts[j].2)] _ rfl ?hnb rfl ?h1 ?hb ?_; (case hnb => simp); (case h1 => simp [Value.oneCell']); (case hb => omega); intro v' wb HMb HUb; have HMz : Mem none_ w [NRow v' (refSeen ts (j + 1))] wb := (by rw [HO.out, if_pos rfl]; unfold NRow; rw [tch_app, List.length_append]; exact HMb); have HMZ := Lib.hid HMz; clear HMz HMb HUb)
                    go_roundw
                    case rel => exact ⟨j + 1, by omega, by go_num, HMZ.out⟩
                    case measure => simp [intOf]; omega
    · have hlt' : decide ((i : Int) < (ts.length : Int)) = false := decide_eq_false (by omega)
      have hltN : decide (i < ts.length) = false := decide_eq_false hlt
      have e : i = ts.length := by omega
      subst e
      go_wp2_with fail
      go_ret
      exact ⟨_, rfl, HM⟩
end Go.Proofs.YtnpehlkdfbmnkaaDoor
