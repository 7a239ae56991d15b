/-
  The walk of the reference's New.
-/
import Derived.Test.YtcbhdjpigadhmaaRefG
import Derived.Test.YtcbhdjpigadhmaaPlanF
set_option linter.unusedVariables false
set_option linter.unusedSimpArgs false
namespace Go.Proofs.Ytcbhdjpigadhmaa
open Go.RowKit

theorem len13 {a : Act} {n : Nat} (hn : n ≤ 1000000) (h1 : a.eval (.tmp 13) = .int .i64 n) (o : Oper) (ho : o.op = .makeSlice 59 (.tmp 13) (.tmp 13)) (w : World) :
    (execOp a.eval o).run Try.prog w = .ok (.value (.slice (some ⟨w.heap.size, 0, none⟩) n n)) (w.alloc (.cells (ints (List.replicate n 0)).toArray 3)) := by
  have hmI := madeI n hn
  simp only [execOp, ho, h1, hmI, Sem.run_bind, Result.andThen_ok, Sem.run_pure]
set_option maxRecDepth 100000 in
set_option maxHeartbeats 8000000 in
theorem Rnew_calls (GA : Option Addr) (gn gc : Nat) (NV : Value) (g : List Nd) (w : World) (hG : Nodes w NV g) (hfew : ∀ x, x ∈ g → x.src.length ≤ 1000 ∧ x.aft.length ≤ 1000) (hgl : g.length ≤ 1000000) :
    Calls Try.prog 22 #[.agg #[.slice GA gn gc, NV]] w fun e w' =>
      (rightR g = false → e = .returned (.tuple #[.agg #[.slice none 0 0, .slice none 0 0, .slice none 0 0, .slice none 0 0], .int .i64 3]) ∧ Mem none_ w [] w') ∧
      (rightR g = true → ∃ LV SV, e = .returned (.tuple #[.agg #[.slice GA gn gc, NV, LV, SV], .int .i64 0]) ∧ Mem none_ w [StrRow LV (namesG g), IRow SV (List.replicate g.length 0)] w') := by
  obtain ⟨A, c, rfl, nn1, nn2⟩ : ∃ A c, NV = .slice A g.length c ∧ g.length ≤ c ∧ c ≤ maxLen := by
    obtain ⟨cells, h, _⟩ := hG
    exact Sl.any_ h
  unfold maxLen at nn2
  have HM0 := ((Mem.start (fp := none_) w).box #[.slice GA gn gc, .slice A g.length c] 25).box #[.slice none 0 0, .slice none 0 0, .slice none 0 0, .slice none 0 0] 68
  simp only [World.size_alloc] at HM0
  have hR := Rright_calls (.slice GA gn gc) (.slice A g.length c) g _ (hG.pure HM0.mu) hfew hgl
  have c0 : ((w.alloc (.cells #[.slice GA gn gc, .slice A g.length c] 25)).alloc (.cells #[.slice none 0 0, .slice none 0 0, .slice none 0 0, .slice none 0 0] 68)).cell? ⟨w.heap.size, 0, none⟩ = some (.slice GA gn gc) := by have h1 : (Blk w.heap.size 25 _).ok _ := HM0.at_ 1 rfl; rw [Blk.cell_ h1]; rfl
  have c1 : ((w.alloc (.cells #[.slice GA gn gc, .slice A g.length c] 25)).alloc (.cells #[.slice none 0 0, .slice none 0 0, .slice none 0 0, .slice none 0 0] 68)).cell? ⟨w.heap.size, 1, none⟩ = some (.slice A g.length c) := by have h1 : (Blk w.heap.size 25 _).ok _ := HM0.at_ 1 rfl; rw [Blk.cell_ h1]; rfl
  obtain ⟨q, hq⟩ : ∃ q, rightR g = q := ⟨_, rfl⟩
  rw [hq] at hR ⊢
  have Hq := Lib.hid hq
  clear hq
  go_enter Try.func22, Try.ntmps22
  go_wp2_with fail
  refine hR.mono ?_
  rintro e w1 ⟨rfl, HM1⟩
  have HM2 := HM0.got HM1
  clear hR HM0 HM1 c0 c1
  cases q with
  | false =>
    have hpb : (Blk (w.heap.size + 1) 68 #[.slice none 0 0, .slice none 0 0, .slice none 0 0, .slice none 0 0]).ok w1 := HM2.at_ 0 rfl
    have y0 : w1.cell? ⟨w.heap.size + 1, 0, none⟩ = some (.slice none 0 0) := by rw [Blk.cell_ hpb]; rfl
    have y1 : w1.cell? ⟨w.heap.size + 1, 1, none⟩ = some (.slice none 0 0) := by rw [Blk.cell_ hpb]; rfl
    have y2 : w1.cell? ⟨w.heap.size + 1, 2, none⟩ = some (.slice none 0 0) := by rw [Blk.cell_ hpb]; rfl
    have y3 : w1.cell? ⟨w.heap.size + 1, 3, none⟩ = some (.slice none 0 0) := by rw [Blk.cell_ hpb]; rfl
    have z0 := Blk.frozen hpb 0
    have z1 := Blk.frozen hpb 1
    have z2 := Blk.frozen hpb 2
    have z3 := Blk.frozen hpb 3
    have HMf := (((HM2.blkSet 0 (.slice none 0 0)).blkSet 1 (.slice none 0 0)).blkSet 2 (.slice none 0 0)).blkSet 3 (.slice none 0 0)
    have f0 := Blk.cell_ HMf.head 0
    have f1 := Blk.cell_ HMf.head 1
    have f2 := Blk.cell_ HMf.head 2
    have f3 := Blk.cell_ HMf.head 3
    simp only [List.setIfInBounds_toArray, List.set_cons_zero, List.set_cons_succ, List.getElem?_toArray, List.getElem?_cons_succ, List.getElem?_cons_zero] at f0 f1 f2 f3
    have Hf := Lib.hid (And.intro f0 (And.intro f1 (And.intro f2 f3)))
    have HMe := Lib.hid (HMf.sel [] (by decide))
    clear hpb HMf HM2 f0 f1 f2 f3
    go_wp2_with fail
    clear y0 y1 y2 y3 z0 z1 z2 z3
    generalize World.setCell _ _ _ = W at *
    obtain ⟨f0, f1, f2, f3⟩ := Hf.out
    refine bodyPost_ret (v := .tuple #[.agg #[.slice none 0 0, .slice none 0 0, .slice none 0 0, .slice none 0 0], .int .i64 3]) (by simp [results, Try.results22, go_sem, f0, f1, f2, f3]) rfl ⟨rfl, HMe.out⟩
  | true =>
    have hgb : (Blk w.heap.size 25 #[.slice GA gn gc, .slice A g.length c]).ok w1 := HM2.at_ 1 rfl
    have c0 : w1.cell? ⟨w.heap.size, 0, none⟩ = some (.slice GA gn gc) := by rw [Blk.cell_ hgb]; rfl
    have c1 : w1.cell? ⟨w.heap.size, 1, none⟩ = some (.slice A g.length c) := by rw [Blk.cell_ hgb]; rfl
    clear hgb
    go_wp2_with fail
    have HM3 := HM2.drew
    have c0d : w1.drew.cell? ⟨w.heap.size, 0, none⟩ = some (.slice GA gn gc) := c0
    have c1d : w1.drew.cell? ⟨w.heap.size, 1, none⟩ = some (.slice A g.length c) := c1
    have hSM : ∀ cs w', Mem none_ w (cs ++ [Blk w.heap.size 25 #[.slice GA gn gc, .slice A g.length c]]) w' → Hid (w'.cell? ⟨w.heap.size, 0, none⟩ = some (.slice GA gn gc) ∧ w'.cell? ⟨w.heap.size, 1, none⟩ = some (.slice A g.length c)) := by
      intro cs w' h
      have hgb : (Blk w.heap.size 25 #[.slice GA gn gc, .slice A g.length c]).ok w' := h.star.1 _ (by simp)
      exact ⟨by rw [Blk.cell_ hgb]; rfl, by rw [Blk.cell_ hgb]; rfl⟩
    refine lf_start (fun w' => Hid (w'.cell? ⟨w.heap.size, 0, none⟩ = some (.slice GA gn gc) ∧ w'.cell? ⟨w.heap.size, 1, none⟩ = some (.slice A g.length c))) [8] 10 (by kernel_rfl) rfl (by kernel_rfl) ⟨c0d, c1d⟩ ?_
    clear HM2 c0 c1 c0d c1d
    generalize World.drew w1 = W at *
    have hSM3 := hSM [_] _ HM3
    refine lf_pre [(.load, 0), (.load, 1), (.pure, 3), (.load, 4), (.pure, 5)] [5, 4, 3, 1, 0] 5 rfl (by kernel_rfl) (fun _ _ _ _ _ h => h) hSM3 ?_
    repeat (first | (refine pre_pure (v := ?_) (a' := ?_) rfl rfl rfl ?_ ?_ ?_; rotate_left 2; (focus (intro w'; go_simp; with_reducible rfl)); (focus (simp only [Act.put, List.setIfInBounds_toArray, List.set_cons_zero, List.set_cons_succ]; rfl))) | (refine pre_load (v := ?_) (a' := ?_) rfl rfl rfl ?_ ?_ ?_; rotate_left 2; (focus (intro w' hw'; obtain ⟨q0, q1⟩ := hw'.out; clear hw'; go_simp; with_reducible rfl)); (focus (simp only [Act.put, List.setIfInBounds_toArray, List.set_cons_zero, List.set_cons_succ]; rfl))) | (refine pre_skip rfl rfl (by decide +kernel) (by simp only [Act.put, List.setIfInBounds_toArray, List.set_cons_zero, List.set_cons_succ]; rfl) ?_))
    refine pre_done ?_
    refine lf_name (fun A0 hA0 => ?_)
    have hmI := madeI g.length hgl
    refine lf_via (α := Value × Nat) (k' := 3) (done' := [6, 2, 5, 4, 3, 1, 0]) (fun x W' => Mem none_ w [StrRow x.1 (namesG g), IRow (.slice (some ⟨x.2, 0, none⟩) g.length g.length) (List.replicate g.length 0), Blk (w.heap.size + 1) 68 #[.slice none 0 0, .slice none 0 0, .slice none 0 0, .slice none 0 0], Blk w.heap.size 25 #[.slice GA gn gc, .slice A g.length c]] W') (fun x => (A0.put (some 10) x.1).put (some 14) (.slice (some ⟨x.2, 0, none⟩) g.length g.length)) (fun H => ?_) (fun x W' HM5 => ?_)
    · have hA2 := hA0.out
      subst hA2
      simp only [Act.put, List.setIfInBounds_toArray, List.set_cons_zero, List.set_cons_succ] at H
      refine lf_two 2 6 (by kernel_rfl) rfl rfl (fun K hK => ?_) (fun K hK => ?_)
      · have hnc := names_calls (.slice GA gn gc) (.slice A g.length c) g W (hG.pure HM3.mu) hgl
        have H' := Lib.hid H
        clear H
        go_wp2_with fail
        refine hnc.mono ?_
        rintro e w2 ⟨v, rfl, HM4⟩
        have HM5 := HM3.got HM4
        go_wp2_with fail
        refine hK _ _ (fun _ _ => hSM [_, _] _ HM5) ?_
        refine lf_one 6 (by kernel_rfl) rfl (fun K hK => ?_)
        have HM6 := HM5.zerosI g.length hgl
        go_wp2_with fail
        refine hK _ _ (fun _ _ => hSM [_, _, _] _ HM6) ?_
        exact H'.out (v, w2.heap.size) _ (HM6.sel [1, 0, 2, 3] (by decide))
      · have H' := Lib.hid H
        clear H
        have HM4 := HM3.zerosI g.length hgl
        go_wp2_with fail
        refine hK _ _ (fun _ _ => hSM [_, _] _ HM4) ?_
        refine lf_one 2 (by kernel_rfl) rfl (fun K hK => ?_)
        have hnc := names_calls (.slice GA gn gc) (.slice A g.length c) g _ (hG.pure HM4.mu) hgl
        go_wp2_with fail
        refine hnc.mono ?_
        rintro e w2 ⟨v, rfl, HM5⟩
        have HM6 := HM4.got HM5
        go_wp2_with fail
        refine hK _ _ (fun _ _ => hSM [_, _, _] _ HM6) ?_
        refine lf_same (done' := [6, 2, 5, 4, 3, 1, 0]) (by kernel_rfl) ?_
        exact H'.out (v, W.heap.size) _ HM6
    · obtain ⟨v, b⟩ := x
      have hA2 := hA0.out
      subst hA2
      simp only [Act.put, List.setIfInBounds_toArray, List.set_cons_zero, List.set_cons_succ]
      obtain ⟨LA, lc, rfl, ll1, ll2⟩ := Row.any_ HM5.head
      have HM6 := HM5.front [_, _]
      have hpb : (Blk (w.heap.size + 1) 68 #[.slice none 0 0, .slice none 0 0, .slice none 0 0, .slice none 0 0]).ok W' := HM6.at_ 0 rfl
      have y0 : W'.cell? ⟨w.heap.size + 1, 0, none⟩ = some (.slice none 0 0) := by rw [Blk.cell_ hpb]; rfl
      have y1 : W'.cell? ⟨w.heap.size + 1, 1, none⟩ = some (.slice none 0 0) := by rw [Blk.cell_ hpb]; rfl
      have y2 : W'.cell? ⟨w.heap.size + 1, 2, none⟩ = some (.slice none 0 0) := by rw [Blk.cell_ hpb]; rfl
      have y3 : W'.cell? ⟨w.heap.size + 1, 3, none⟩ = some (.slice none 0 0) := by rw [Blk.cell_ hpb]; rfl
      have z0 := Blk.frozen hpb 0
      have z1 := Blk.frozen hpb 1
      have z2 := Blk.frozen hpb 2
      have z3 := Blk.frozen hpb 3
      have HMf := (((HM6.blkSet 0 (.slice GA gn gc)).blkSet 1 (.slice A g.length c)).blkSet 2 (.slice LA (namesG g).length lc)).blkSet 3 (.slice (some ⟨b, 0, none⟩) g.length g.length)
      have f0 := Blk.cell_ HMf.head 0
      have f1 := Blk.cell_ HMf.head 1
      have f2 := Blk.cell_ HMf.head 2
      have f3 := Blk.cell_ HMf.head 3
      simp only [List.setIfInBounds_toArray, List.set_cons_zero, List.set_cons_succ, List.getElem?_toArray, List.getElem?_cons_succ, List.getElem?_cons_zero] at f0 f1 f2 f3
      have Hf := Lib.hid (And.intro f0 (And.intro f1 (And.intro f2 f3)))
      have HMe := Lib.hid (HMf.sel [1, 2] (by decide))
      clear hpb HMf HM6 HM5 f0 f1 f2 f3
      generalize hnl : (namesG g).length = nl at *
      refine lf_one 7 (by kernel_rfl) rfl (fun K hK => ?_)
      go_wp2_with fail
      refine hK _ _ (fun _ h => h) ?_
      clear hK
      refine lf_one 8 (by kernel_rfl) rfl (fun K hK => ?_)
      go_wp2_with fail
      refine hK _ _ (fun h => by cases h) ?_
      clear hK y0 y1 y2 y3 z0 z1 z2 z3
      generalize World.setCell _ _ _ = W2 at *
      refine lf_one 9 (by kernel_rfl) rfl (fun K hK => ?_)
      go_wp2_with fail
      refine hK _ _ (fun _ h => h) ?_
      clear hK
      refine lf_end (by kernel_rfl) ?_
      obtain ⟨f0, f1, f2, f3⟩ := Hf.out
      go_wp2_with fail
      refine bodyPost_ret (v := .tuple #[.agg #[.slice GA gn gc, .slice A g.length c, .slice LA nl lc, .slice (some ⟨b, 0, none⟩) g.length g.length], .int .i64 0]) (by simp [results, Try.results22, go_sem, f0, f1, f2, f3]) rfl ⟨.slice LA nl lc, .slice (some ⟨b, 0, none⟩) g.length g.length, rfl, HMe.out⟩
end Go.Proofs.Ytcbhdjpigadhmaa
