/-
  The walk of the reference's Right.
-/
import Derived.Test.YtcbhdjpigadhmaaRefL
import Derived.Test.YtcbhdjpigadhmaaRefC
import Derived.Test.YtcbhdjpigadhmaaRefN
set_option linter.unusedVariables false
set_option linter.unusedSimpArgs false
namespace Go.Proofs.Ytcbhdjpigadhmaa
open Go.RowKit

theorem nodN : Elem Try.prog 23 47 10 120 := Elem.of (z := .agg #[.string ⟨#[]⟩, .int .i64 0, .slice none 0 0, .slice none 0 0, .slice none 0 0, .string ⟨#[]⟩, .bool false, .bool false, .bool false, .bool false]) Try.underlying23 (by kernel_rfl) rfl (by decide) (by decide)
theorem NR.one {w : World} {cells : List Value} {g : List Nd} (h : NR w cells g) : ∀ u, u ∈ cells → u.oneCell' = true := by
  obtain ⟨h1, h2⟩ := h
  intro u hu
  obtain ⟨j, hj, rfl⟩ := List.getElem_of_mem hu
  have hi : j / 10 < g.length := by omega
  obtain ⟨k, sv, cA, cn, cc, av, im, p, q, r, t, e, s1, s2⟩ := h2 _ hi
  obtain ⟨sA, sc, rfl, _, _⟩ := Sl.any_ s1
  obtain ⟨aA, ac, rfl, _, _⟩ := Sl.any_ s2
  have hm : cells[j] ∈ (cells.drop (j / 10 * 10)).take 10 := by
    rw [List.mem_take_iff_getElem]
    refine ⟨j % 10, by rw [List.length_drop]; omega, ?_⟩
    rw [List.getElem_drop]
    congr 1; omega
  rw [e] at hm
  simp only [List.mem_cons, List.not_mem_nil, or_false] at hm
  rcases hm with h | h | h | h | h | h | h | h | h | h <;> rw [h] <;> rfl
theorem right_false {g : List Nd} {i : Nat} (hi : i < g.length) (h : okAt g i g[i] = false) : rightR g = false := by
  unfold rightR
  have h1 : okUp g g.length = false := by
    rw [Bool.eq_false_iff]
    intro h2
    have := okUp_iff.1 h2 i hi hi
    rw [h] at this; cases this
  rw [h1]; simp

set_option maxRecDepth 100000 in
set_option maxHeartbeats 16000000 in
theorem Rright_calls (GV NV : Value) (g : List Nd) (w : World) (hG : Nodes w NV g) (hfew : ∀ x, x ∈ g → x.src.length ≤ 1000 ∧ x.aft.length ≤ 1000) (hgl : g.length ≤ 1000000) :
    Calls Try.prog 24 #[.agg #[GV, NV]] w fun e w' => e = .returned (.bool (rightR g)) ∧ Mem none_ w [] w' := by
  obtain ⟨A, c, rfl, nn1, nn2⟩ : ∃ A c, NV = .slice A g.length c ∧ g.length ≤ c ∧ c ≤ maxLen := by
    obtain ⟨cells, h, _⟩ := hG
    exact Sl.any_ h
  unfold maxLen at nn2
  have HM0 := (Mem.start (fp := none_) w).box #[GV, .slice A g.length c] 25
  by_cases h512 : 512 < g.length
  · have HR : Hid (rightR g = false) := by
      unfold Hid rightR
      rw [decide_eq_false (by omega)]; rfl
    have h5 : decide (512 < (g.length : Int)) = true := decide_eq_true (by omega)
    go_enter Try.func24, Try.ntmps24
    go_wp2_with fail
    go_ret
    exact ⟨by rw [HR.out]; rfl, HM0.sel [] (by decide)⟩
  · have h5 : decide (512 < (g.length : Int)) = false := decide_eq_false (by omega)
    have hl512 : g.length ≤ 512 := by omega
    clear h512 hgl
    have hnc := names_calls GV (.slice A g.length c) g _ (hG.pure HM0.mu) (by omega)
    have hn := namesG_len g
    have Hn := Lib.hid hn
    clear hn
    go_enter Try.func24, Try.ntmps24
    go_wp2_with fail
    refine hnc.mono ?_
    rintro e w1 ⟨lv, rfl, HM1⟩
    have HM2 : Mem none_ w [StrRow lv (namesG g), Blk w.heap.size 25 #[GV, .slice A g.length c]] w1 := HM0.got HM1
    clear hnc HM1 HM0
    obtain ⟨LA, lc, rfl, l1, l2⟩ := Row.any_ (HM2.at_ 0 rfl)
    rw [Hn.out] at l1 HM2 ⊢
    unfold maxLen at l2
    go_wp2_with fail
    go_loopw [4] (fun v4 wr => ∃ i : Nat, i ≤ g.length ∧ v4 = .int .i64 i ∧ Hid (okUp g i = true) ∧ Mem none_ w [StrRow (.slice LA g.length lc) (namesG g), Blk w.heap.size 25 #[GV, .slice A g.length c]] wr) (fun v _ => g.length - (intOf v).toNat)
    case atStart => exact ⟨0, Nat.zero_le _, rfl, rfl, HM2⟩
    case round =>
      clear HM2
      obtain ⟨i, hi, rfl, hup, HM⟩ := hrel
      by_cases hlt : i < g.length
      · have hlt' : decide ((i : Int) < (g.length : Int)) = true := decide_eq_true (by omega)
        have hin : i < (namesG g).length := by rw [Hn.out]; exact hlt
        obtain ⟨A', c', e7, _, _, _, h4⟩ := Row.sl (HM.drew.at_ 0 rfl)
        have eA : A' = LA := by injection e7 with e1 _ _; exact e1.symm
        subst eA
        obtain ⟨lb, lo, rfl, hcells⟩ := h4.resolve_left (by have := Hn.out; omega)
        have hx0 : wr.drew.cell? ⟨lb, lo + i, none⟩ = some (.string (namesG g)[i]) := hcells i _ (strs_get hin)
        clear hcells h4 e7
        have hgn : (namesG g)[i] = g[i].name := by exact List.getElem_map ..
        have q1 : i ≤ lc := by omega
        have q2 : (i : Int) ≤ (lc : Int) := by omega
        have q3 : (i : Int) ≤ (g.length : Int) := by omega
        have q4 : (i : Int) < (g.length : Int) := by omega
        rw [hgn] at hx0
        have hAt := at_calls (.slice (some ⟨lb, lo, none⟩) i lc) ((namesG g).take i) g[i].name wr.drew (Strs.take (by rw [Hn.out]; exact Row.sl (HM.drew.at_ 0 rfl)) (k := i) (by rw [Hn.out]; omega)) (by rw [List.length_take]; omega)
        go_wp2_with fail
        refine wp_plan [7] (S := fun w' => w' = World.drew wr) [(.pure, 0), (.pure, 1), (.pure, 2), (.pure, 3), (.pure, 4), (.pure, 5), (.load, 6), (.tail, 7), (.pure, 8)] (by kernel_rfl) rfl (by kernel_rfl) rfl (fun _ _ _ _ _ h => h) rfl ?_
        have HMd := HM.drew
        clear HM
        generalize World.drew wr = W at *
        repeat (first | (refine plan_pure (v := ?_) (a' := ?_) rfl rfl rfl ?_ ?_ ?_; rotate_left 2; (focus (intro w'; go_simp; with_reducible rfl)); (focus (simp only [Act.put, List.setIfInBounds_toArray, List.set_cons_zero, List.set_cons_succ]; rfl))) | (refine plan_load (v := ?_) (a' := ?_) rfl rfl rfl ?_ ?_ ?_; rotate_left 2; (focus (intro w' hw'; rw [hw']; go_simp; with_reducible rfl)); (focus (simp only [Act.put, List.setIfInBounds_toArray, List.set_cons_zero, List.set_cons_succ]; rfl))) | (refine plan_skip rfl rfl (by decide +kernel) (by simp only [Act.put, List.setIfInBounds_toArray, List.set_cons_zero, List.set_cons_succ]; rfl) ?_))
        refine plan_tail rfl (fun K hK => ?_)
        go_wp2_with fail
        refine hAt.mono ?_
        rintro e w6 ⟨rfl, rfl⟩
        clear hAt hx0
        by_cases hU : 0 ≤ atR ((namesG g).take i) g[i].name
        · have HR : Hid (rightR g = false) := Lib.hid (right_false hlt (by
            unfold okAt
            rw [decide_eq_false (by omega)]; rfl))
          have d1 : decide (0 ≤ atR ((namesG g).take i) g[i].name) = true := decide_eq_true hU
          clear hU
          generalize atR ((namesG g).take i) g[i].name = T at *
          generalize g[i].name = y at *
          go_wp2_with fail
          repeat (first | (refine plan_pure (v := ?_) (a' := ?_) rfl rfl rfl ?_ ?_ ?_; rotate_left 2; (focus (intro w'; go_simp; with_reducible rfl)); (focus (simp only [Act.put, List.setIfInBounds_toArray, List.set_cons_zero, List.set_cons_succ]; rfl))) | (refine plan_load (v := ?_) (a' := ?_) rfl rfl rfl ?_ ?_ ?_; rotate_left 2; (focus (intro w' hw'; rw [hw']; go_simp; with_reducible rfl)); (focus (simp only [Act.put, List.setIfInBounds_toArray, List.set_cons_zero, List.set_cons_succ]; rfl))) | (refine plan_skip rfl rfl (by decide +kernel) (by simp only [Act.put, List.setIfInBounds_toArray, List.set_cons_zero, List.set_cons_succ]; rfl) ?_))
          refine plan_done ?_
          go_wp2_with fail
          go_ret
          exact ⟨by rw [HR.out]; rfl, HMd.sel [] (by decide)⟩
        · have HUP : Hid ((g[i].src.all (fun y => decide (0 ≤ atR ((namesG g).take i) y)) = true) → (g[i].aft.all (fun y => decide (0 ≤ atR (namesG g) y)) = true) → okUp g (i + 1) = true) := by
            intro a1 a2
            unfold okUp
            rw [hup.out, List.getElem?_eq_getElem hlt]
            show (true && okAt g i g[i]) = true
            unfold okAt
            rw [a1, a2, decide_eq_true (by omega)]; rfl
          have d1 : decide (0 ≤ atR ((namesG g).take i) g[i].name) = false := decide_eq_false hU
          have HU := Lib.hid hU
          clear hU
          generalize hTg : atR ((namesG g).take i) g[i].name = T at *
          generalize g[i].name = y at *
          go_wp2_with fail
          repeat (first | (refine plan_pure (v := ?_) (a' := ?_) rfl rfl rfl ?_ ?_ ?_; rotate_left 2; (focus (intro w'; go_simp; with_reducible rfl)); (focus (simp only [Act.put, List.setIfInBounds_toArray, List.set_cons_zero, List.set_cons_succ]; rfl))) | (refine plan_load (v := ?_) (a' := ?_) rfl rfl rfl ?_ ?_ ?_; rotate_left 2; (focus (intro w' hw'; rw [hw']; go_simp; with_reducible rfl)); (focus (simp only [Act.put, List.setIfInBounds_toArray, List.set_cons_zero, List.set_cons_succ]; rfl))) | (refine plan_skip rfl rfl (by decide +kernel) (by simp only [Act.put, List.setIfInBounds_toArray, List.set_cons_zero, List.set_cons_succ]; rfl) ?_))
          refine plan_done ?_
          have HM := HMd
          clear HMd d1
          go_wp2_with fail
          go_loopw [5] (fun v5 wr => ∃ j : Nat, j ≤ g[i].src.length ∧ v5 = .int .i64 j ∧ Hid ((g[i].src.take j).all (fun y => decide (0 ≤ atR ((namesG g).take i) y)) = true) ∧ Mem none_ w [StrRow (.slice (some ⟨lb, lo, none⟩) g.length lc) (namesG g), Blk w.heap.size 25 #[GV, .slice A g.length c]] wr) (fun v _ => g[i].src.length - (intOf v).toNat)
          case atStart => exact ⟨0, Nat.zero_le _, rfl, rfl, HM⟩
          case round =>
            clear HM
            obtain ⟨j, hj, rfl, hallsrc, HM⟩ := hrel
            obtain ⟨gb, go, kd, sv, cA, cn, cc, av, im, ph, pr, si, ig, e0, hsv, hav, hcell⟩ := (hG.pure HM.mu).cells hlt
            cases e0
            obtain ⟨sA, scp, rfl, sl1, sl2⟩ := Sl.any_ hsv
            unfold maxLen at sl2
            have hgb : (Blk w.heap.size 25 #[GV, .slice (some ⟨gb, go, none⟩) g.length c]).ok wr := HM.at_ 1 rfl
            have c1 : wr.cell? ⟨w.heap.size, 1, none⟩ = some (.slice (some ⟨gb, go, none⟩) g.length c) := by rw [Blk.cell_ hgb]; rfl
            have xs := hcell 2 _ rfl
            clear hcell hgb
            by_cases hjl : j < g[i].src.length
            · have hjl' : decide ((j : Int) < (g[i].src.length : Int)) = true := decide_eq_true (by omega)
              obtain ⟨A', c', e7, _, _, _, h4⟩ := id hsv
              cases e7
              obtain ⟨sb', so, rfl, hcells⟩ := h4.resolve_left (by omega)
              have hx0 : wr.cell? ⟨sb', so + j, none⟩ = some (.string g[i].src[j]) := hcells j _ (strs_get hjl)
              have hjfew : g[i].src.length ≤ 1000 := (hfew _ (List.getElem_mem hlt)).1
              have hsu : (g[i].src.take (j + 1)).all (fun y => decide (0 ≤ atR ((namesG g).take i) y)) = ((g[i].src.take j).all (fun y => decide (0 ≤ atR ((namesG g).take i) y)) && decide (0 ≤ atR ((namesG g).take i) g[i].src[j])) := by
                rw [List.take_succ_eq_append_getElem hjl, List.all_append]; simp
              rw [hallsrc.out, Bool.true_and] at hsu
              have hAt := at_calls (.slice (some ⟨lb, lo, none⟩) i lc) ((namesG g).take i) g[i].src[j] wr.drew (Strs.take (by rw [Hn.out]; exact Row.sl (HM.drew.at_ 0 rfl)) (k := i) (by rw [Hn.out]; omega)) (by rw [List.length_take]; omega)
              by_cases hT : 0 ≤ atR ((namesG g).take i) g[i].src[j]
              · rw [decide_eq_true hT] at hsu
                have Hsu := Lib.hid hsu
                have d1 : decide (atR ((namesG g).take i) g[i].src[j] < 0) = false := decide_eq_false (by omega)
                clear hsu hcells h4 hsv hav
                generalize atR ((namesG g).take i) g[i].src[j] = T at *
                generalize g[i].src[j] = y at *
                go_wp2_with fail
                refine wp_plan [12] (S := fun w' => w' = World.drew wr) [(.pure, 0), (.pure, 1), (.pure, 2), (.pure, 3), (.load, 4), (.pure, 5), (.pure, 6), (.pure, 7), (.load, 8), (.pure, 9), (.pure, 10), (.load, 11), (.tail, 12), (.pure, 13)] (by kernel_rfl) rfl (by kernel_rfl) rfl (fun _ _ _ _ _ h => h) rfl ?_
                have HMd := HM.drew
                have c1d : wr.drew.cell? ⟨w.heap.size, 1, none⟩ = some (.slice (some ⟨gb, go, none⟩) g.length c) := c1
                have xsd : wr.drew.cell? ⟨gb, go + i * 10 + 2, none⟩ = some (.slice (some ⟨sb', so, none⟩) g[i].src.length scp) := xs
                have hx0d : wr.drew.cell? ⟨sb', so + j, none⟩ = some (.string y) := hx0
                clear HM c1 xs hx0
                generalize World.drew wr = W at *
                repeat (first | (refine plan_pure (v := ?_) (a' := ?_) rfl rfl rfl ?_ ?_ ?_; rotate_left 2; (focus (intro w'; go_simp; with_reducible rfl)); (focus (simp only [Act.put, List.setIfInBounds_toArray, List.set_cons_zero, List.set_cons_succ]; rfl))) | (refine plan_load (v := ?_) (a' := ?_) rfl rfl rfl ?_ ?_ ?_; rotate_left 2; (focus (intro w' hw'; rw [hw']; go_simp; with_reducible rfl)); (focus (simp only [Act.put, List.setIfInBounds_toArray, List.set_cons_zero, List.set_cons_succ]; rfl))) | (refine plan_skip rfl rfl (by decide +kernel) (by simp only [Act.put, List.setIfInBounds_toArray, List.set_cons_zero, List.set_cons_succ]; rfl) ?_))
                refine plan_tail rfl (fun K hK => ?_)
                go_wp2_with fail
                refine hAt.mono ?_
                rintro e w6 ⟨rfl, rfl⟩
                go_wp2_with fail
                repeat (first | (refine plan_pure (v := ?_) (a' := ?_) rfl rfl rfl ?_ ?_ ?_; rotate_left 2; (focus (intro w'; go_simp; with_reducible rfl)); (focus (simp only [Act.put, List.setIfInBounds_toArray, List.set_cons_zero, List.set_cons_succ]; rfl))) | (refine plan_load (v := ?_) (a' := ?_) rfl rfl rfl ?_ ?_ ?_; rotate_left 2; (focus (intro w' hw'; rw [hw']; go_simp; with_reducible rfl)); (focus (simp only [Act.put, List.setIfInBounds_toArray, List.set_cons_zero, List.set_cons_succ]; rfl))) | (refine plan_skip rfl rfl (by decide +kernel) (by simp only [Act.put, List.setIfInBounds_toArray, List.set_cons_zero, List.set_cons_succ]; rfl) ?_))
                refine plan_done ?_
                clear c1d xsd hx0d hAt
                go_wp2_with fail
                go_roundw
                case rel => exact ⟨j + 1, by omega, by go_num, Hsu, HMd⟩
                case measure => simp [intOf]; omega
              · have HR : Hid (rightR g = false) := Lib.hid (right_false hlt (by
                  unfold okAt
                  have h1 : g[i].src.all (fun y => decide (0 ≤ atR ((namesG g).take i) y)) = false := by
                    rw [List.all_eq_false]
                    exact ⟨g[i].src[j], List.getElem_mem hjl, by simpa using hT⟩
                  rw [h1]; simp))
                have d1 : decide (atR ((namesG g).take i) g[i].src[j] < 0) = true := decide_eq_true (by omega)
                clear hsu hcells h4 hsv hav
                generalize atR ((namesG g).take i) g[i].src[j] = T at *
                generalize g[i].src[j] = y at *
                go_wp2_with fail
                refine wp_plan [12] (S := fun w' => w' = World.drew wr) [(.pure, 0), (.pure, 1), (.pure, 2), (.pure, 3), (.load, 4), (.pure, 5), (.pure, 6), (.pure, 7), (.load, 8), (.pure, 9), (.pure, 10), (.load, 11), (.tail, 12), (.pure, 13)] (by kernel_rfl) rfl (by kernel_rfl) rfl (fun _ _ _ _ _ h => h) rfl ?_
                have HMd := HM.drew
                have c1d : wr.drew.cell? ⟨w.heap.size, 1, none⟩ = some (.slice (some ⟨gb, go, none⟩) g.length c) := c1
                have xsd : wr.drew.cell? ⟨gb, go + i * 10 + 2, none⟩ = some (.slice (some ⟨sb', so, none⟩) g[i].src.length scp) := xs
                have hx0d : wr.drew.cell? ⟨sb', so + j, none⟩ = some (.string y) := hx0
                clear HM c1 xs hx0
                generalize World.drew wr = W at *
                repeat (first | (refine plan_pure (v := ?_) (a' := ?_) rfl rfl rfl ?_ ?_ ?_; rotate_left 2; (focus (intro w'; go_simp; with_reducible rfl)); (focus (simp only [Act.put, List.setIfInBounds_toArray, List.set_cons_zero, List.set_cons_succ]; rfl))) | (refine plan_load (v := ?_) (a' := ?_) rfl rfl rfl ?_ ?_ ?_; rotate_left 2; (focus (intro w' hw'; rw [hw']; go_simp; with_reducible rfl)); (focus (simp only [Act.put, List.setIfInBounds_toArray, List.set_cons_zero, List.set_cons_succ]; rfl))) | (refine plan_skip rfl rfl (by decide +kernel) (by simp only [Act.put, List.setIfInBounds_toArray, List.set_cons_zero, List.set_cons_succ]; rfl) ?_))
                refine plan_tail rfl (fun K hK => ?_)
                go_wp2_with fail
                refine hAt.mono ?_
                rintro e w6 ⟨rfl, rfl⟩
                go_wp2_with fail
                repeat (first | (refine plan_pure (v := ?_) (a' := ?_) rfl rfl rfl ?_ ?_ ?_; rotate_left 2; (focus (intro w'; go_simp; with_reducible rfl)); (focus (simp only [Act.put, List.setIfInBounds_toArray, List.set_cons_zero, List.set_cons_succ]; rfl))) | (refine plan_load (v := ?_) (a' := ?_) rfl rfl rfl ?_ ?_ ?_; rotate_left 2; (focus (intro w' hw'; rw [hw']; go_simp; with_reducible rfl)); (focus (simp only [Act.put, List.setIfInBounds_toArray, List.set_cons_zero, List.set_cons_succ]; rfl))) | (refine plan_skip rfl rfl (by decide +kernel) (by simp only [Act.put, List.setIfInBounds_toArray, List.set_cons_zero, List.set_cons_succ]; rfl) ?_))
                refine plan_done ?_
                clear c1d xsd hx0d hAt
                go_wp2_with fail
                go_ret
                exact ⟨by rw [HR.out]; rfl, HMd.sel [] (by decide)⟩
            · have e : j = g[i].src.length := by omega
              subst e
              rw [List.take_length] at hallsrc
              clear hsv hav
              go_wp2_with fail
              clear c1 xs
              go_loopw [6] (fun v6 wr => ∃ j : Nat, j ≤ g[i].aft.length ∧ v6 = .int .i64 j ∧ Hid ((g[i].aft.take j).all (fun y => decide (0 ≤ atR (namesG g) y)) = true) ∧ Mem none_ w [StrRow (.slice (some ⟨lb, lo, none⟩) g.length lc) (namesG g), Blk w.heap.size 25 #[GV, .slice (some ⟨gb, go, none⟩) g.length c]] wr) (fun v _ => g[i].aft.length - (intOf v).toNat)
              case atStart => exact ⟨0, Nat.zero_le _, rfl, rfl, HM⟩
              case round =>
                clear HM
                obtain ⟨j, hj, rfl, hallaft, HM⟩ := hrel
                obtain ⟨gb2, go2, kd, sv, cA, cn, cc, av, im, ph, pr, si, ig, e0, hsv, hav, hcell⟩ := (hG.pure HM.mu).cells hlt
                obtain ⟨rfl, rfl⟩ : gb = gb2 ∧ go = go2 := by simpa using e0
                obtain ⟨sA, scp, rfl, sl1, sl2⟩ := Sl.any_ hav
                unfold maxLen at sl2
                have hgb : (Blk w.heap.size 25 #[GV, .slice (some ⟨gb, go, none⟩) g.length c]).ok wr := HM.at_ 1 rfl
                have c1 : wr.cell? ⟨w.heap.size, 1, none⟩ = some (.slice (some ⟨gb, go, none⟩) g.length c) := by rw [Blk.cell_ hgb]; rfl
                have xs := hcell 4 _ rfl
                clear hcell hgb
                by_cases hjl : j < g[i].aft.length
                · have hjl' : decide ((j : Int) < (g[i].aft.length : Int)) = true := decide_eq_true (by omega)
                  obtain ⟨A', c', e7, _, _, _, h4⟩ := id hav
                  cases e7
                  obtain ⟨sb', so, rfl, hcells⟩ := h4.resolve_left (by omega)
                  have hx0 : wr.cell? ⟨sb', so + j, none⟩ = some (.string g[i].aft[j]) := hcells j _ (strs_get hjl)
                  have hjfew : g[i].aft.length ≤ 1000 := (hfew _ (List.getElem_mem hlt)).2
                  have hsu : (g[i].aft.take (j + 1)).all (fun y => decide (0 ≤ atR (namesG g) y)) = ((g[i].aft.take j).all (fun y => decide (0 ≤ atR (namesG g) y)) && decide (0 ≤ atR (namesG g) g[i].aft[j])) := by
                    rw [List.take_succ_eq_append_getElem hjl, List.all_append]; simp
                  rw [hallaft.out, Bool.true_and] at hsu
                  have hAt := at_calls (.slice (some ⟨lb, lo, none⟩) g.length lc) (namesG g) g[i].aft[j] wr (Row.sl (HM.at_ 0 rfl)) (by rw [Hn.out]; omega)
                  by_cases hT : 0 ≤ atR (namesG g) g[i].aft[j]
                  · rw [decide_eq_true hT] at hsu
                    have Hsu := Lib.hid hsu
                    have d1 : decide (atR (namesG g) g[i].aft[j] < 0) = false := decide_eq_false (by omega)
                    clear hsu hcells h4 hsv hav
                    generalize atR (namesG g) g[i].aft[j] = T at *
                    generalize g[i].aft[j] = y at *
                    go_wp2_with fail
                    refine hAt.mono ?_
                    rintro e w6 ⟨rfl, rfl⟩
                    clear hAt hx0 c1 xs
                    go_wp2_with fail
                    go_roundw
                    case rel => exact ⟨j + 1, by omega, by go_num, Hsu, HM⟩
                    case measure => simp [intOf]; omega
                  · have HR : Hid (rightR g = false) := Lib.hid (right_false hlt (by
                      unfold okAt
                      have h1 : g[i].aft.all (fun y => decide (0 ≤ atR (namesG g) y)) = false := by
                        rw [List.all_eq_false]
                        exact ⟨g[i].aft[j], List.getElem_mem hjl, by simpa using hT⟩
                      rw [h1]; simp))
                    have d1 : decide (atR (namesG g) g[i].aft[j] < 0) = true := decide_eq_true (by omega)
                    clear hsu hcells h4 hsv hav
                    generalize atR (namesG g) g[i].aft[j] = T at *
                    generalize g[i].aft[j] = y at *
                    go_wp2_with fail
                    refine hAt.mono ?_
                    rintro e w6 ⟨rfl, rfl⟩
                    clear hAt hx0 c1 xs
                    go_wp2_with fail
                    go_ret
                    exact ⟨by rw [HR.out]; rfl, HM.sel [] (by decide)⟩
                · have e : j = g[i].aft.length := by omega
                  subst e
                  rw [List.take_length] at hallaft
                  clear hsv hav
                  go_wp2_with fail
                  clear c1 xs
                  go_roundw
                  case rel => exact ⟨i + 1, by omega, by go_num, Lib.hid (HUP.out hallsrc.out hallaft.out), HM⟩
                  case measure => simp [intOf]; omega
      · have e : i = g.length := by omega
        subst e
        obtain ⟨cells, hsl0, hNR⟩ := NR.of hG
        have hsl := hsl0.pure HM.mu
        have hgb : (Blk w.heap.size 25 #[GV, .slice A g.length c]).ok wr := HM.at_ 1 rfl
        have c1 : wr.cell? ⟨w.heap.size, 1, none⟩ = some (.slice A g.length c) := by rw [Blk.cell_ hgb]; rfl
        clear hgb
        have HMn : Mem none_ w [Row 47 10 (.slice none 0 0) 0 [], StrRow (.slice LA g.length lc) (namesG g), Blk w.heap.size 25 #[GV, .slice A g.length c]] wr := Mem.new HM (Mut.refl _ _) (by exact World.ownsRow_nil _ _ _ _) (by intro b hb; cases hb)
        have hone := NR.one hNR
        have Hres : Hid (∀ n : Nat, (keepN g g.length).length = n → rightR g = decide (n = 0)) := by
          intro n hn
          unfold rightR
          rw [hup.out, decide_eq_true hl512, hn]; rfl
        go_wp2_with (at_builtin; refine wpList_appSl nodN rfl _ _ rfl HMn rfl (xv := .slice A g.length c) rfl hsl hone ?hb ?_; (case hb => simp; omega); intro v' w' HM3 HU3)
        clear HMn HM hsl hsl0 hone c1 HU3 hup
        rw [Nat.zero_add, List.nil_append] at HM3
        have HMs : Mem none_ w [Row 47 10 v' g.length cells, Blk w.heap.size 25 #[GV, .slice A g.length c]] w' := HM3.sel [0, 2] (by decide)
        clear HM3
        go_loopw [7, 8] (fun v7 v8 wr => ∃ (r : Nat) (cs : List Value) (n : Nat), r ≤ g.length ∧ v8 = .int .i64 r ∧ Hid ((keepN g r).length = n ∧ NR w cs (keepN g r)) ∧ Mem none_ w [Row 47 10 v7 n cs, Blk w.heap.size 25 #[GV, .slice A g.length c]] wr) (fun _ v _ => g.length - (intOf v).toNat)
        case atStart => exact ⟨0, cells, g.length, Nat.zero_le _, rfl, Lib.hid ⟨rfl, hNR⟩, HMs⟩
        case round =>
          clear HMs
          obtain ⟨r, cs, n, hr, rfl, HL, HM⟩ := hrel
          have hgb : (Blk w.heap.size 25 #[GV, .slice A g.length c]).ok wr := HM.at_ 1 rfl
          have c1 : wr.cell? ⟨w.heap.size, 1, none⟩ = some (.slice A g.length c) := by rw [Blk.cell_ hgb]; rfl
          clear hgb
          have hn512 : n ≤ 512 := by have := keepN_len g r; have := HL.out.1; omega
          obtain ⟨A7, c7, rfl, n71, n72⟩ := Row.any_ (HM.at_ 0 rfl)
          unfold maxLen at n72
          by_cases hrl : r < g.length
          · have hrl' : decide ((r : Int) < (g.length : Int)) = true := decide_eq_true (by omega)
            have HLn : Hid (keepN g (r + 1) = (keepN g r).filter (keepP (keepN g r))) := rfl
            obtain ⟨hLl, hNR7⟩ := HL.out
            have hsub := keepN_sub g r
            clear HL
            generalize keepN g r = L at *
            subst hLl
            go_wp2_with fail
            go_loopw [9, 10] (fun v9 v10 wr => ∃ k : Nat, k ≤ L.length ∧ v10 = .int .i64 k ∧ Mem none_ w [StrRow v9 ((namesG L).take k), Row 47 10 (.slice A7 L.length c7) L.length cs, Blk w.heap.size 25 #[GV, .slice A g.length c]] wr) (fun _ v _ => L.length - (intOf v).toNat)
            case atStart => exact ⟨0, Nat.zero_le _, rfl, HM.nilS⟩
            case round =>
              clear HM c1
              obtain ⟨k, hk, rfl, HM⟩ := hrel
              by_cases hkl : k < L.length
              · have hkl' : decide ((k : Int) < (L.length : Int)) = true := decide_eq_true (by omega)
                obtain ⟨gb, go, kd, sv, cA, cn, cc, av, im, ph, pr, si, ig, e0, hsv, hav, hcell⟩ := NR.at_ HM.mu hNR7 (Row.sl (HM.at_ 1 rfl)) hkl
                subst e0
                have x0 := hcell 0 _ rfl
                rw [Nat.add_zero] at x0
                have hS : (namesG L).take (k + 1) = (namesG L).take k ++ [L[k].name] := by
                  rw [List.take_succ_eq_append_getElem (by unfold namesG; rw [List.length_map]; exact hkl)]
                  unfold namesG; rw [List.getElem_map]
                have hln : ((namesG L).take k).length ≤ 1000000 := by rw [List.length_take]; omega
                have HS := Lib.hid hS
                clear hcell hS hsv hav
                generalize L[k].name = x at *
                generalize (namesG L).take k = M at *
                go_wp2_with (at_builtin; refine wpList_appS strE rfl _ _ rfl HM rfl x _ rfl ?hnb ?hb ?_; (case hnb => simp); (case hb => omega); intro v' w' HM3 HU3)
                rw [← HS.out] at HM3
                go_roundw
                case rel => exact ⟨k + 1, by omega, by go_num, HM3⟩
                case measure => simp [intOf]; omega
              · have e : k = L.length := by omega
                subst e
                have hnl := namesG_len L
                rw [List.take_of_length_le (by omega)] at HM
                have Hnl := Lib.hid hnl
                clear hnl
                go_wp2_with fail
                have HM0 : Mem none_ w [Row 47 10 (.slice none 0 0) 0 [], StrRow u9 (namesG L), Row 47 10 (.slice A7 L.length c7) L.length cs, Blk w.heap.size 25 #[GV, .slice A g.length c]] wr := Mem.new HM (Mut.refl _ _) (by exact World.ownsRow_nil _ _ _ _) (by intro b hb; cases hb)
                clear HM
                go_loopw [11, 12] (fun v11 v12 wr => ∃ (k : Nat) (cs' : List Value) (n : Nat), k ≤ L.length ∧ n ≤ k ∧ v12 = .int .i64 k ∧ Hid (((L.take k).filter (keepP L)).length = n ∧ NR w cs' ((L.take k).filter (keepP L))) ∧ Mem none_ w [Row 47 10 v11 n cs', StrRow u9 (namesG L), Row 47 10 (.slice A7 L.length c7) L.length cs, Blk w.heap.size 25 #[GV, .slice A g.length c]] wr) (fun _ v _ => L.length - (intOf v).toNat)
                case atStart => exact ⟨0, [], 0, Nat.zero_le _, Nat.le_refl _, rfl, Lib.hid ⟨rfl, NR.nil w⟩, HM0⟩
                case round =>
                  clear HM0
                  obtain ⟨k, cs', n', hk, hn', rfl, HC, HM⟩ := hrel
                  by_cases hkl : k < L.length
                  · have hkl' : decide ((k : Int) < (L.length : Int)) = true := decide_eq_true (by omega)
                    obtain ⟨gb, go, kd, sv, cA, cn, cc, av, im, ph, pr, si, ig, e0, hsv, hav, hcell⟩ := NR.at_ HM.mu hNR7 (Row.sl (HM.at_ 2 rfl)) hkl
                    subst e0
                    obtain ⟨sA, sc, rfl, sl1, sl2⟩ := Sl.any_ hsv
                    obtain ⟨aA, ac, rfl, al1, al2⟩ := Sl.any_ hav
                    have x0 := hcell 0 _ rfl
                    rw [Nat.add_zero] at x0
                    have x1 := hcell 1 _ rfl
                    have x2 := hcell 2 _ rfl
                    have x3 := hcell 3 _ rfl
                    have x4 := hcell 4 _ rfl
                    have x5 := hcell 5 _ rfl
                    have x6 := hcell 6 _ rfl
                    have x7 := hcell 7 _ rfl
                    have x8 := hcell 8 _ rfl
                    have x9 := hcell 9 _ rfl
                    clear hcell
                    have hfk := hfew L[k] (hsub _ (List.getElem_mem hkl))
                    have hnl := Hnl.out
                    have hs1 := some_calls (.slice sA L[k].src.length sc) u9 L[k].src (namesG L) wr (hsv.pure HM.mu) (Row.sl (HM.at_ 1 rfl)) (by omega) (by omega)
                    have hs2 := some_calls (.slice aA L[k].aft.length ac) u9 L[k].aft (namesG L) wr (hav.pure HM.mu) (Row.sl (HM.at_ 1 rfl)) (by omega) (by omega)
                    have HC0 := HC.out
                    obtain ⟨b1, hb1⟩ : ∃ q, someR L[k].src (namesG L) = q := ⟨_, rfl⟩
                    obtain ⟨b2, hb2⟩ : ∃ q, someR L[k].aft (namesG L) = q := ⟨_, rfl⟩
                    have hkp : keepP L L[k] = (b1 || b2) := by unfold keepP; rw [hb1, hb2]
                    have HCno : Hid ((b1 || b2) = false → ((L.take (k + 1)).filter (keepP L)).length = n' ∧ NR w cs' ((L.take (k + 1)).filter (keepP L))) := by
                      intro hq
                      rw [← hkp] at hq
                      rw [List.take_succ_eq_append_getElem hkl, List.filter_append, List.filter_cons_of_neg (by rw [hq]; simp), List.filter_nil, List.append_nil]
                      exact HC0
                    have HCyes : Hid ((b1 || b2) = true → ((L.take (k + 1)).filter (keepP L)).length = n' + 1 ∧ NR w (cs' ++ [Value.string L[k].name, .int .i64 kd, .slice sA L[k].src.length sc, .slice cA cn cc, .slice aA L[k].aft.length ac, .string im, .bool ph, .bool pr, .bool si, .bool ig]) ((L.take (k + 1)).filter (keepP L))) := by
                      intro hq
                      rw [← hkp] at hq
                      rw [List.take_succ_eq_append_getElem hkl, List.filter_append, List.filter_cons_of_pos hq, List.filter_nil]
                      exact ⟨by rw [List.length_append, HC0.1]; rfl, HC0.2.snoc rfl ⟨kd, _, cA, cn, cc, _, im, ph, pr, si, ig, rfl, hsv, hav⟩⟩
                    rw [hb1] at hs1
                    rw [hb2] at hs2
                    clear HC HC0 hsv hav hnl hb1 hb2 hkp
                    generalize L[k] = x at *
                    cases b1 with
                    | true =>
                      go_wp2_with fail
                      refine hs1.mono ?_
                      rintro e w6 ⟨rfl, rfl⟩
                      clear hs1 hs2
                      go_wp2_with (at_builtin; refine wpList_app1 nodN rfl _ _ rfl HM rfl #[.string x.name, .int .i64 kd, .slice sA x.src.length sc, .slice cA cn cc, .slice aA x.aft.length ac, .string im, .bool ph, .bool pr, .bool si, .bool ig] _ rfl ?hnb rfl ?h1 ?hb ?_; (case hnb => simp); (case h1 => simp [Value.oneCell']); (case hb => omega); intro v' w' HM3 HU3)
                      have HCy := Lib.hid (HCyes.out rfl)
                      clear HCyes HCno
                      go_roundw
                      case rel => exact ⟨k + 1, _, n' + 1, by omega, by omega, by go_num, HCy, HM3⟩
                      case measure => simp [intOf]; omega
                    | false =>
                      go_wp2_with fail
                      refine hs1.mono ?_
                      rintro e w6 ⟨rfl, rfl⟩
                      go_wp2_with fail
                      refine hs2.mono ?_
                      rintro e w6 ⟨rfl, rfl⟩
                      clear hs1 hs2
                      cases b2 with
                      | true =>
                        go_wp2_with (at_builtin; refine wpList_app1 nodN rfl _ _ rfl HM rfl #[.string x.name, .int .i64 kd, .slice sA x.src.length sc, .slice cA cn cc, .slice aA x.aft.length ac, .string im, .bool ph, .bool pr, .bool si, .bool ig] _ rfl ?hnb rfl ?h1 ?hb ?_; (case hnb => simp); (case h1 => simp [Value.oneCell']); (case hb => omega); intro v' w' HM3 HU3)
                        have HCy := Lib.hid (HCyes.out rfl)
                        clear HCyes HCno
                        go_roundw
                        case rel => exact ⟨k + 1, _, n' + 1, by omega, by omega, by go_num, HCy, HM3⟩
                        case measure => simp [intOf]; omega
                      | false =>
                        have HCn := Lib.hid (HCno.out rfl)
                        clear HCyes HCno
                        go_wp2_with fail
                        go_roundw
                        case rel => exact ⟨k + 1, _, n', by omega, by omega, by go_num, HCn, HM⟩
                        case measure => simp [intOf]; omega
                  · have e : k = L.length := by omega
                    subst e
                    rw [List.take_length] at HC
                    rw [← HLn.out] at HC
                    go_wp2_with fail
                    go_roundw
                    case rel => exact ⟨r + 1, cs', n', by omega, by go_num, HC, HM.sel [0, 3] (by decide)⟩
                    case measure => simp [intOf]; omega
          · have e : r = g.length := by omega
            subst e
            have hR := Hres.out n HL.out.1
            clear Hres
            by_cases h0 : n = 0
            · subst h0
              have HR : Hid (rightR g = true) := by rw [hR]; exact rfl
              clear hR
              go_wp2_with fail
              go_ret
              exact ⟨by rw [HR.out]; rfl, HM.sel [] (by decide)⟩
            · have HR : Hid (rightR g = false) := by rw [hR]; exact decide_eq_false h0
              have d1 : decide ((n : Int) = 0) = false := decide_eq_false (by omega)
              have d2 : decide (n = 0) = false := decide_eq_false h0
              have d3 : ((n : Int) == 0) = false := beq_eq_false_iff_ne.2 (by omega)
              clear hR
              go_wp2_with fail
              go_ret
              exact ⟨by rw [HR.out]; rfl, HM.sel [] (by decide)⟩
end Go.Proofs.Ytcbhdjpigadhmaa
