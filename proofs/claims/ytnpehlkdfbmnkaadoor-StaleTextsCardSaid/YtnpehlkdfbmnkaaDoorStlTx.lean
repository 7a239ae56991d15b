/-
  Layer 18 (stale): StaleTexts.
-/
import Derived.Test.YtnpehlkdfbmnkaaDoorStlBw
import Derived.Test.YtnpehlkdfbmnkaaDoorStlBp
import Derived.Test.YtnpehlkdfbmnkaaDoorStlBk
set_option linter.unusedVariables false
set_option linter.unusedSimpArgs false
set_option maxRecDepth 20000
namespace Go.Proofs.YtnpehlkdfbmnkaaDoor
open Go.RowKit

set_option maxHeartbeats 8000000 in
theorem texts_calls (CV TV : Value) (cs : List (List UInt8)) (ts : List Tou) (s : List UInt8) (w : World) (hm : MaxV w) (o : MetaO w CV TV cs ts) (hs : s.length ≤ 140737488351232) :
    Calls Tryd.prog 7 #[.agg #[CV, TV], .string (ofL s)] w fun e w' => e = .returned (.bool true) ∧ Mem none_ w [] w' := by
  have hz := ofL_size s
  have hA := fun wx (hx : Pure w wx) => alive_calls wx (MaxV.pure hx hm)
  obtain ⟨hC, hT, hcl, htl⟩ := o
  have HM0 := (Mem.start (fp := none_) w).box #[CV, TV] 52
  have hMu := much_calls CV TV cs ts _ (hC.pure HM0.mu) (hT.pure HM0.mu) hcl htl
  have hWr := fun wx (hx : Pure w wx) (hs : Small cs ts) => swrite_calls CV TV cs ts wx (MaxV.pure hx hm) (hC.pure hx) (hT.pure hx) hs
  have hWq := fun wx (hx : Pure w wx) (hs : Small cs ts) => rswrite_calls CV TV cs ts wx (hC.pure hx) (hT.pure hx) hs
  obtain ⟨A, c, rfl, _⟩ := hC
  obtain ⟨A2, c2, rfl, _⟩ := hT
  have a0 := Blk.cell_ (HM0.at_ 0 rfl) 0
  have a1 := Blk.cell_ (HM0.at_ 0 rfl) 1
  simp only [List.getElem?_toArray, List.getElem?_cons_succ, List.getElem?_cons_zero] at a0 a1
  clear hcl htl
  go_enter Tryd.func7, Tryd.ntmps7
  go_wp2_with fail
  generalize World.alloc _ _ = W0 at *
  generalize w.heap.size = nb at *
  refine hMu.mono ?_
  rintro e w1 ⟨b, rfl, hb, HM1⟩
  have HM2 := HM0.got HM1
  simp only [List.nil_append] at HM2
  clear hMu HM0 HM1 a0 a1
  cases b with
  | true =>
    have hA1 := hA w1 HM2.mu
    go_wp2_with fail
    refine hA1.mono ?_
    rintro e wz ⟨rfl, HMz⟩
    have HMy := (HM2.got HMz).sel [] (by decide)
    clear hA1 HM2 HMz
    go_wp2_with fail
    go_ret
    exact ⟨rfl, HMy⟩
  | false =>
    by_cases hbig : 131072 < s.length
    · have q1 : decide ((131072 : Int) < (s.length : Int)) = true := decide_eq_true (by omega)
      have q1' : decide (131072 < s.length) = true := decide_eq_true hbig
      have hA1 := hA w1 HM2.mu
      go_wp2_with fail
      refine hA1.mono ?_
      rintro e wz ⟨rfl, HMz⟩
      have HMy := (HM2.got HMz).sel [] (by decide)
      clear hA1 HM2 HMz
      go_wp2_with fail
      go_ret
      exact ⟨rfl, HMy⟩
    · have q1 : decide ((131072 : Int) < (s.length : Int)) = false := decide_eq_false (by omega)
      have q1' : decide (131072 < s.length) = false := decide_eq_false hbig
      have a0 := Blk.cell_ (HM2.at_ 0 rfl) 0
      have a1 := Blk.cell_ (HM2.at_ 0 rfl) 1
      simp only [List.getElem?_toArray, List.getElem?_cons_succ, List.getElem?_cons_zero] at a0 a1
      have hW1 := hWr w1 HM2.mu (hb rfl)
      have hW2 := fun wx hx => hWq wx hx (hb rfl)
      have hP1 := fun wx (hx : Pure w wx) => parse_calls s wx (MaxV.pure hx hm) (by omega)
      have hP2 := fun wx => rparse_calls s wx (by omega)
      clear hWr hWq hb hbig
      generalize (writeT cs ts).1 = T at *
      generalize (writeT cs ts).2 = E at *
      generalize parseT s = R at *
      obtain ⟨pc, pt, pw, pa⟩ := R
      simp only at hP1 hP2
      have qT : ((ofL T).toList == (ofL T).toList) = true := by rw [str_eq]; exact decide_eq_true rfl
      have qE : (E == E) = true := beq_self_eq_true E
      have qF : ∀ wx, (binOp .eql 60 (.agg #[.int .i64 pw, .int .i64 pa]) (.agg #[.int .i64 pw, .int .i64 pa])).run Tryd.prog wx = .ok (.bool true) wx := fun wx => by rw [flt_eql]; simp
      go_wp2_with fail
      refine hW1.mono ?_
      rintro e w2 ⟨rfl, HM3⟩
      have HM4 := HM2.got HM3
      simp only [List.nil_append] at HM4
      have n0 := Blk.cell_ (HM4.at_ 0 rfl) 0
      have n1 := Blk.cell_ (HM4.at_ 0 rfl) 1
      simp only [List.getElem?_toArray, List.getElem?_cons_succ, List.getElem?_cons_zero] at n0 n1
      have hW3 := hW2 w2 HM4.mu
      clear hW1 hW2 HM2 HM3 a0 a1
      go_wp2_with fail
      refine hW3.mono ?_
      rintro e w3 ⟨rfl, HM5⟩
      have HM6 := (HM4.got HM5).sel [] (by decide)
      simp only [List.filterMap_nil] at HM6
      have hP3 := hP1 w3 HM6.mu
      clear hW3 HM4 HM5 hP1 n0 n1
      go_wp2_with fail
      refine hP3.mono ?_
      rintro e w4 ⟨cv, tv, rfl, HM7⟩
      have HM8 := HM6.got HM7
      simp only [List.append_nil] at HM8
      clear hP3 HM6 HM7
      obtain ⟨A5, c5, rfl, _, _⟩ := Row.any_ (HM8.at_ 0 rfl)
      obtain ⟨A6, c6, rfl, _, _⟩ := Row.any_ (HM8.at_ 1 rfl)
      have HMb := (HM8.box #[.slice none 0 0, .slice none 0 0] 56).box #[.int .i64 0, .int .i64 0] 60
      have HMc := (HM8.box #[.slice A5 pc.length c5, .slice A6 pt.length c6] 56).box #[.int .i64 pw, .int .i64 pa] 60
      have e1 : (w4.alloc (.cells #[.slice none 0 0, .slice none 0 0] 56)).heap.size = w4.heap.size + 1 := by simp
      have e2 : (w4.alloc (.cells #[.slice A5 pc.length c5, .slice A6 pt.length c6] 56)).heap.size = w4.heap.size + 1 := by simp
      rw [e1] at HMb
      rw [e2] at HMc
      have a0 := Blk.cell_ (HMb.at_ 0 rfl) 0
      have a1 := Blk.cell_ (HMb.at_ 0 rfl) 1
      simp only [List.getElem?_toArray, List.getElem?_cons_succ, List.getElem?_cons_zero] at a0 a1
      have fa0 := Blk.frozen (HMb.at_ 0 rfl) 0
      have fa1 := Blk.frozen (HMb.at_ 0 rfl) 1
      have b0 := Blk.cell_ (HMb.at_ 1 rfl) 0
      have b1 := Blk.cell_ (HMb.at_ 1 rfl) 1
      simp only [List.getElem?_toArray, List.getElem?_cons_succ, List.getElem?_cons_zero] at b0 b1
      have fb0 := Blk.frozen (HMb.at_ 1 rfl) 0
      have fb1 := Blk.frozen (HMb.at_ 1 rfl) 1
      clear HMb HM8 e1 e2
      have HMc' := Lib.hid HMc
      clear HMc
      go_wp2_with fail
      clear a0 a1 b0 b1 fa0 fa1 fb0 fb1
      have HMc := HMc'.out
      clear HMc'
      generalize World.alloc _ _ = W5 at *
      generalize w4.heap.size + 1 = bp1 at *
      generalize w4.heap.size = bp at *
      have hP4 := hP2 W5
      clear hP2
      refine hP4.mono ?_
      rintro e w6 ⟨cq, tq, rfl, HM9⟩
      have HMd := HMc.got HM9
      simp only [List.cons_append, List.nil_append] at HMd
      clear hP4 HMc HM9
      obtain ⟨A7, c7, rfl, _, _⟩ := Row.any_ (HMd.at_ 0 rfl)
      obtain ⟨A8, c8, rfl, _, _⟩ := Row.any_ (HMd.at_ 1 rfl)
      have HMb := (HMd.box #[.slice none 0 0, .slice none 0 0] 52).box #[.int .i64 0, .int .i64 0] 60
      have HMe := (HMd.box #[.slice A7 pc.length c7, .slice A8 pt.length c8] 52).box #[.int .i64 pw, .int .i64 pa] 60
      have e1 : (w6.alloc (.cells #[.slice none 0 0, .slice none 0 0] 52)).heap.size = w6.heap.size + 1 := by simp
      have e2 : (w6.alloc (.cells #[.slice A7 pc.length c7, .slice A8 pt.length c8] 52)).heap.size = w6.heap.size + 1 := by simp
      rw [e1] at HMb
      rw [e2] at HMe
      have a0 := Blk.cell_ (HMb.at_ 0 rfl) 0
      have a1 := Blk.cell_ (HMb.at_ 0 rfl) 1
      simp only [List.getElem?_toArray, List.getElem?_cons_succ, List.getElem?_cons_zero] at a0 a1
      have fa0 := Blk.frozen (HMb.at_ 0 rfl) 0
      have fa1 := Blk.frozen (HMb.at_ 0 rfl) 1
      have b0 := Blk.cell_ (HMb.at_ 1 rfl) 0
      have b1 := Blk.cell_ (HMb.at_ 1 rfl) 1
      simp only [List.getElem?_toArray, List.getElem?_cons_succ, List.getElem?_cons_zero] at b0 b1
      have fb0 := Blk.frozen (HMb.at_ 1 rfl) 0
      have fb1 := Blk.frozen (HMb.at_ 1 rfl) 1
      clear HMb HMd e1 e2
      have HMe' := Lib.hid HMe
      clear HMe
      go_wp2_with fail
      clear a0 a1 b0 b1 fa0 fa1 fb0 fb1
      have HMf := HMe'.out.drew
      clear HMe'
      generalize World.alloc _ _ = W7 at *
      generalize w6.heap.size + 1 = bq1 at *
      generalize w6.heap.size = bq at *
      have f0 := Blk.cell_ (HMf.at_ 0 rfl) 0
      have f1 := Blk.cell_ (HMf.at_ 0 rfl) 1
      simp only [List.getElem?_toArray, List.getElem?_cons_succ, List.getElem?_cons_zero] at f0 f1
      have d0 := Blk.cell_ (HMf.at_ 1 rfl) 0
      have d1 := Blk.cell_ (HMf.at_ 1 rfl) 1
      simp only [List.getElem?_toArray, List.getElem?_cons_succ, List.getElem?_cons_zero] at d0 d1
      have b0 := Blk.cell_ (HMf.at_ 4 rfl) 0
      have b1 := Blk.cell_ (HMf.at_ 4 rfl) 1
      simp only [List.getElem?_toArray, List.getElem?_cons_succ, List.getElem?_cons_zero] at b0 b1
      have a0 := Blk.cell_ (HMf.at_ 5 rfl) 0
      have a1 := Blk.cell_ (HMf.at_ 5 rfl) 1
      simp only [List.getElem?_toArray, List.getElem?_cons_succ, List.getElem?_cons_zero] at a0 a1
      have hO := fun wx => ours_calls (.slice A5 pc.length c5) (.slice A6 pt.length c6) wx ⟨_, _, _, rfl⟩ ⟨_, _, _, rfl⟩
      refine wp_plan [] (S := fun w' => Hid (w'.cell? ⟨bp, 0, none⟩ = some (.slice A5 pc.length c5) ∧ w'.cell? ⟨bp, 1, none⟩ = some (.slice A6 pt.length c6) ∧ w'.cell? ⟨bp1, 0, none⟩ = some (.int .i64 pw) ∧ w'.cell? ⟨bp1, 1, none⟩ = some (.int .i64 pa) ∧ w'.cell? ⟨bq, 0, none⟩ = some (.slice A7 pc.length c7) ∧ w'.cell? ⟨bq, 1, none⟩ = some (.slice A8 pt.length c8) ∧ w'.cell? ⟨bq1, 0, none⟩ = some (.int .i64 pw) ∧ w'.cell? ⟨bq1, 1, none⟩ = some (.int .i64 pa))) [(.pure, 0), (.pure, 1), (.pure, 2), (.pure, 3), (.pure, 4), (.pure, 5), (.pure, 6), (.pure, 7), (.pure, 8), (.load, 9), (.load, 11), (.eff, 10), (.eff, 12), (.pure, 13), (.pure, 14), (.load, 15), (.load, 16), (.pure, 17), (.pure, 18), (.pure, 19), (.eff, 20), (.pure, 21), (.pure, 22)] (by kernel_rfl) rfl (by kernel_rfl) rfl (fun _ _ _ _ _ h => h) (Lib.hid (And.intro (a0) (And.intro (a1) (And.intro (b0) (And.intro (b1) (And.intro (d0) (And.intro (d1) (And.intro (f0) (f1))))))))) ?_
      generalize World.drew _ = W at *
      repeat (first | (refine plan_pure (v := ?_) (a' := ?_) rfl rfl rfl ?_ ?_ ?_; rotate_left 2; (focus (intro w'; go_simp; with_reducible rfl)); (focus (simp only [Act.put, List.setIfInBounds_toArray, List.set_cons_zero, List.set_cons_succ]; rfl))) | (refine plan_load (v := ?_) (a' := ?_) rfl rfl rfl ?_ ?_ ?_; rotate_left 2; (focus (intro w' hw'; obtain ⟨q0, q1, q2, q3, q4, q5, q6, q7⟩ := hw'.out; clear hw'; go_simp; with_reducible rfl)); (focus (simp only [Act.put, List.setIfInBounds_toArray, List.set_cons_zero, List.set_cons_succ]; rfl))) | (refine plan_skip rfl rfl (by decide +kernel) (by simp only [Act.put, List.setIfInBounds_toArray, List.set_cons_zero, List.set_cons_succ]; rfl) ?_))
      have hO1 := hO W
      clear hO
      refine plan_eff rfl (fun K hK => ?_)
      go_wp2_with fail
      refine hO1.mono ?_
      rintro e w8 ⟨rfl, HMg⟩
      have HMh := HMf.got HMg
      simp only [List.nil_append] at HMh
      have hS6 := Lib.hid (And.intro (HMg.mu.cell a0 (fun h => h)) (And.intro (HMg.mu.cell a1 (fun h => h)) (And.intro (HMg.mu.cell b0 (fun h => h)) (And.intro (HMg.mu.cell b1 (fun h => h)) (And.intro (HMg.mu.cell d0 (fun h => h)) (And.intro (HMg.mu.cell d1 (fun h => h)) (And.intro (HMg.mu.cell f0 (fun h => h)) (HMg.mu.cell f1 (fun h => h)))))))))
      have hSm := rsame_calls (.slice A5 pc.length c5) (.slice A6 pt.length c6) (.slice A7 pc.length c7) (.slice A8 pt.length c8) pc pc pt pt w8 (Row.sl (HMh.at_ 6 rfl)) (Row.sl (HMh.at_ 7 rfl)) (Row.sl (HMh.at_ 2 rfl)) (Row.sl (HMh.at_ 3 rfl))
      have et : (decide (pc = pc) && decide (pt = pt)) = true := by simp
      rw [et] at hSm
      have HS6 := hS6
      clear hO1 HMf HMg et a0 a1 b0 b1 d0 d1 f0 f1
      go_wp2_with fail
      refine hK _ _ hS6 ?_
      clear hK hS6
      repeat (first | (refine plan_pure (v := ?_) (a' := ?_) rfl rfl rfl ?_ ?_ ?_; rotate_left 2; (focus (intro w'; go_simp; with_reducible rfl)); (focus (simp only [Act.put, List.setIfInBounds_toArray, List.set_cons_zero, List.set_cons_succ]; rfl))) | (refine plan_load (v := ?_) (a' := ?_) rfl rfl rfl ?_ ?_ ?_; rotate_left 2; (focus (intro w' hw'; obtain ⟨q0, q1, q2, q3, q4, q5, q6, q7⟩ := hw'.out; clear hw'; go_simp; with_reducible rfl)); (focus (simp only [Act.put, List.setIfInBounds_toArray, List.set_cons_zero, List.set_cons_succ]; rfl))) | (refine plan_skip rfl rfl (by decide +kernel) (by simp only [Act.put, List.setIfInBounds_toArray, List.set_cons_zero, List.set_cons_succ]; rfl) ?_))
      refine plan_eff rfl (fun K hK => ?_)
      go_wp2_with fail
      refine hSm.mono ?_
      rintro e w9 ⟨rfl, HMi⟩
      have HMj := HMh.got HMi
      simp only [List.nil_append] at HMj
      obtain ⟨a0, a1, b0, b1, d0, d1, f0, f1⟩ := HS6.out
      have hS7 := Lib.hid (And.intro (HMi.mu.cell a0 (fun h => h)) (And.intro (HMi.mu.cell a1 (fun h => h)) (And.intro (HMi.mu.cell b0 (fun h => h)) (And.intro (HMi.mu.cell b1 (fun h => h)) (And.intro (HMi.mu.cell d0 (fun h => h)) (And.intro (HMi.mu.cell d1 (fun h => h)) (And.intro (HMi.mu.cell f0 (fun h => h)) (HMi.mu.cell f1 (fun h => h)))))))))
      have hA1 := hA w9 HMj.mu
      have HS7 := hS7
      clear hSm HMh HMi HS6 a0 a1 b0 b1 d0 d1 f0 f1
      go_wp2_with fail
      refine hK _ _ hS7 ?_
      clear hK hS7
      repeat (first | (refine plan_pure (v := ?_) (a' := ?_) rfl rfl rfl ?_ ?_ ?_; rotate_left 2; (focus (intro w'; go_simp; with_reducible rfl)); (focus (simp only [Act.put, List.setIfInBounds_toArray, List.set_cons_zero, List.set_cons_succ]; rfl))) | (refine plan_load (v := ?_) (a' := ?_) rfl rfl rfl ?_ ?_ ?_; rotate_left 2; (focus (intro w' hw'; obtain ⟨q0, q1, q2, q3, q4, q5, q6, q7⟩ := hw'.out; clear hw'; go_simp; with_reducible rfl)); (focus (simp only [Act.put, List.setIfInBounds_toArray, List.set_cons_zero, List.set_cons_succ]; rfl))) | (refine plan_skip rfl rfl (by decide +kernel) (by simp only [Act.put, List.setIfInBounds_toArray, List.set_cons_zero, List.set_cons_succ]; rfl) ?_))
      refine plan_eff rfl (fun K hK => ?_)
      go_wp2_with fail
      refine hA1.mono ?_
      rintro e wa ⟨rfl, HMk⟩
      have HMl := (HMj.got HMk).sel [] (by decide)
      obtain ⟨a0, a1, b0, b1, d0, d1, f0, f1⟩ := HS7.out
      have hS8 := Lib.hid (And.intro (HMk.mu.cell a0 (fun h => h)) (And.intro (HMk.mu.cell a1 (fun h => h)) (And.intro (HMk.mu.cell b0 (fun h => h)) (And.intro (HMk.mu.cell b1 (fun h => h)) (And.intro (HMk.mu.cell d0 (fun h => h)) (And.intro (HMk.mu.cell d1 (fun h => h)) (And.intro (HMk.mu.cell f0 (fun h => h)) (HMk.mu.cell f1 (fun h => h)))))))))
      clear hA1 HMj HMk HS7 a0 a1 b0 b1 d0 d1 f0 f1
      go_wp2_with fail
      refine hK _ _ hS8 ?_
      clear hK hS8
      repeat (first | (refine plan_pure (v := ?_) (a' := ?_) rfl rfl rfl ?_ ?_ ?_; rotate_left 2; (focus (intro w'; go_simp; with_reducible rfl)); (focus (simp only [Act.put, List.setIfInBounds_toArray, List.set_cons_zero, List.set_cons_succ]; rfl))) | (refine plan_load (v := ?_) (a' := ?_) rfl rfl rfl ?_ ?_ ?_; rotate_left 2; (focus (intro w' hw'; obtain ⟨q0, q1, q2, q3, q4, q5, q6, q7⟩ := hw'.out; clear hw'; go_simp; with_reducible rfl)); (focus (simp only [Act.put, List.setIfInBounds_toArray, List.set_cons_zero, List.set_cons_succ]; rfl))) | (refine plan_skip rfl rfl (by decide +kernel) (by simp only [Act.put, List.setIfInBounds_toArray, List.set_cons_zero, List.set_cons_succ]; rfl) ?_))
      refine plan_done ?_
      go_wp2_with fail
      go_ret
      exact ⟨rfl, HMl⟩
end Go.Proofs.YtnpehlkdfbmnkaaDoor
