/-
  Layer 18 (stale): StaleBack.
-/
import Derived.Test.YtnpehlkdfbmnkaaDoorStlWr
set_option linter.unusedVariables false
set_option linter.unusedSimpArgs false
set_option maxRecDepth 20000
namespace Go.Proofs.YtnpehlkdfbmnkaaDoor
open Go.RowKit

/-- What an argument of the type Meta reads as. -/
structure MetaO (w : World) (CV TV : Value) (cs : List (List UInt8)) (ts : List Tou) : Prop where
  c : Txts w CV cs
  t : Tous w TV ts
  cl : ∀ x, x ∈ cs → x.length ≤ 140737488351232
  tl : ∀ x, x ∈ ts → x.2.length ≤ 140737488351232
theorem writeT_bad (cs : List (List UInt8)) (ts : List Tou) : ((writeT cs ts).2 = 0) ∨ ((writeT cs ts).1 = [] ∧ (writeT cs ts).2 ≠ 0) := by
  unfold writeT
  split
  · exact .inr ⟨rfl, by decide⟩
  · split
    · exact .inr ⟨rfl, by decide⟩
    · exact .inl rfl
theorem writeT_len {cs : List (List UInt8)} {ts : List Tou} : (writeT cs ts).1.length ≤ 65536 := by
  unfold writeT
  split
  · simp
  · split
    · simp
    · show (bodyT cs ts).length ≤ _
      omega
set_option maxHeartbeats 8000000 in
theorem back_calls (CV TV : Value) (cs : List (List UInt8)) (ts : List Tou) (w : World) (hm : MaxV w) (o : MetaO w CV TV cs ts) :
    Calls Tryd.prog 8 #[.agg #[CV, TV]] w fun e w' => e = .returned (.bool true) ∧ Mem none_ w [] w' := by
  have hA := fun wx (hx : Pure w wx) => alive_calls wx (MaxV.pure hx hm)
  obtain ⟨hC, hT, hcl, htl⟩ := o
  have HC := Lib.hid hC
  have HT := Lib.hid hT
  have HM0 := (Mem.start (fp := none_) w).box #[CV, TV] 52
  have hMu := much_calls CV TV cs ts _ (hC.pure HM0.mu) (hT.pure HM0.mu) hcl htl
  have hWr := fun wx (hx : Pure w wx) (hs : Small cs ts) => swrite_calls CV TV cs ts wx (MaxV.pure hx hm) (hC.pure hx) (hT.pure hx) hs
  obtain ⟨A, c, rfl, _⟩ := hC
  obtain ⟨A2, c2, rfl, _⟩ := hT
  have a0 := Blk.cell_ (HM0.at_ 0 rfl) 0
  have a1 := Blk.cell_ (HM0.at_ 0 rfl) 1
  simp only [List.getElem?_toArray, List.getElem?_cons_succ, List.getElem?_cons_zero] at a0 a1
  clear hcl htl
  go_enter Tryd.func8, Tryd.ntmps8
  go_wp2_with fail
  generalize World.alloc _ _ = W0 at *
  generalize w.heap.size = nb at *
  refine hMu.mono ?_
  rintro e w1 ⟨b, rfl, hb, HM1⟩
  have HM2 := HM0.got HM1
  simp only [List.nil_append] at HM2
  clear hMu HM0 HM1 a0 a1
  have a0 := Blk.cell_ (HM2.at_ 0 rfl) 0
  have a1 := Blk.cell_ (HM2.at_ 0 rfl) 1
  simp only [List.getElem?_toArray, List.getElem?_cons_succ, List.getElem?_cons_zero] at a0 a1
  cases b with
  | true =>
    have hA1 := hA w1 HM2.mu
    go_wp2_with fail
    refine hA1.mono ?_
    rintro e w2 ⟨rfl, HM3⟩
    have HM4 := (HM2.got HM3).sel [] (by decide)
    clear hA1 HM2 HM3 a0 a1
    go_wp2_with fail
    go_ret
    exact ⟨rfl, HM4⟩
  | false =>
    have hW1 := hWr w1 HM2.mu (hb rfl)
    clear hb hWr
    rcases writeT_bad cs ts with h0 | ⟨h0, h1⟩
    · have hpw : writeT cs ts = ((writeT cs ts).1, 0) := by rw [← h0]
      have hPl := parse_write hpw
      have hlen := writeT_len (cs := cs) (ts := ts)
      rw [h0] at hW1
      generalize (writeT cs ts).1 = T at *
      have hPc := fun wx (hx : Pure w wx) => parse_calls T wx (MaxV.pure hx hm) (by omega)
      rw [hPl] at hPc
      clear hPl hpw h0 hlen
      go_wp2_with fail
      refine hW1.mono ?_
      rintro e w2 ⟨rfl, HM3⟩
      have HM4 := HM2.got HM3
      simp only [List.nil_append] at HM4
      have hP1 := hPc w2 HM4.mu
      clear hW1 hPc HM2 HM3 a0 a1
      go_wp2_with fail
      refine hP1.mono ?_
      rintro e w3 ⟨cv, tv, rfl, HM5⟩
      have HM6 := HM4.got HM5
      simp only [List.cons_append, List.nil_append] at HM6
      clear hP1 HM4 HM5
      obtain ⟨A5, c5, rfl, _, _⟩ := Row.any_ (HM6.at_ 0 rfl)
      obtain ⟨A6, c6, rfl, _, _⟩ := Row.any_ (HM6.at_ 1 rfl)
      have HMb := (HM6.box #[.slice none 0 0, .slice none 0 0] 56).box #[.int .i64 0, .int .i64 0] 60
      have HMc := (HM6.box #[.slice A5 cs.length c5, .slice A6 ts.length c6] 56).box #[.int .i64 0, .int .i64 0] 60
      have e1 : (w3.alloc (.cells #[.slice none 0 0, .slice none 0 0] 56)).heap.size = w3.heap.size + 1 := by simp
      have e2 : (w3.alloc (.cells #[.slice A5 cs.length c5, .slice A6 ts.length c6] 56)).heap.size = w3.heap.size + 1 := by simp
      rw [e1] at HMb
      rw [e2] at HMc
      have a0 := Blk.cell_ (HMb.at_ 0 rfl) 0
      have a1 := Blk.cell_ (HMb.at_ 0 rfl) 1
      simp only [List.getElem?_toArray, List.getElem?_cons_succ, List.getElem?_cons_zero] at a0 a1
      have fa0 := Blk.frozen (HMb.at_ 0 rfl) 0
      have fa1 := Blk.frozen (HMb.at_ 0 rfl) 1
      have b0 := Blk.cell_ (HMb.at_ 1 rfl) 0
      have b1 := Blk.cell_ (HMb.at_ 1 rfl) 1
      simp only [List.getElem?_toArray, List.getElem?_cons_succ, List.getElem?_cons_zero] at b0 b1
      have fb0 := Blk.frozen (HMb.at_ 1 rfl) 0
      have fb1 := Blk.frozen (HMb.at_ 1 rfl) 1
      clear HMb HM6 e1 e2
      go_wp2_with fail
      clear a0 a1 b0 b1 fa0 fa1 fb0 fb1
      generalize World.alloc _ _ = W5 at *
      generalize w3.heap.size + 1 = bf at *
      generalize w3.heap.size = bm at *
      have HMd := HMc.drew
      clear HMc
      have a0 := Blk.cell_ (HMd.at_ 0 rfl) 0
      have a1 := Blk.cell_ (HMd.at_ 0 rfl) 1
      simp only [List.getElem?_toArray, List.getElem?_cons_succ, List.getElem?_cons_zero] at a0 a1
      have b0 := Blk.cell_ (HMd.at_ 1 rfl) 0
      have b1 := Blk.cell_ (HMd.at_ 1 rfl) 1
      simp only [List.getElem?_toArray, List.getElem?_cons_succ, List.getElem?_cons_zero] at b0 b1
      have n0 := Blk.cell_ (HMd.at_ 4 rfl) 0
      have n1 := Blk.cell_ (HMd.at_ 4 rfl) 1
      simp only [List.getElem?_toArray, List.getElem?_cons_succ, List.getElem?_cons_zero] at n0 n1
      have hO := fun wx => ours_calls (.slice A5 cs.length c5) (.slice A6 ts.length c6) wx ⟨_, _, _, rfl⟩ ⟨_, _, _, rfl⟩
      refine wp_plan [] (S := fun w' => Hid (w'.cell? ⟨bf, 0, none⟩ = some (.int .i64 0) ∧ w'.cell? ⟨bf, 1, none⟩ = some (.int .i64 0) ∧ w'.cell? ⟨bm, 0, none⟩ = some (.slice A5 cs.length c5) ∧ w'.cell? ⟨bm, 1, none⟩ = some (.slice A6 ts.length c6) ∧ w'.cell? ⟨nb, 0, none⟩ = some (.slice A cs.length c) ∧ w'.cell? ⟨nb, 1, none⟩ = some (.slice A2 ts.length c2))) [(.load, 0), (.pure, 1), (.pure, 2), (.pure, 3), (.load, 4), (.load, 6), (.eff, 5), (.eff, 7), (.pure, 8), (.pure, 9), (.eff, 10), (.pure, 11), (.pure, 12)] (by kernel_rfl) rfl (by kernel_rfl) rfl (fun _ _ _ _ _ h => h) (Lib.hid ⟨a0, a1, b0, b1, n0, n1⟩) ?_
      generalize World.drew _ = W at *
      repeat (first | (refine plan_pure (v := ?_) (a' := ?_) rfl rfl rfl ?_ ?_ ?_; rotate_left 2; (focus (intro w'; go_simp; with_reducible rfl)); (focus (simp only [Act.put, List.setIfInBounds_toArray, List.set_cons_zero, List.set_cons_succ]; rfl))) | (refine plan_load (v := ?_) (a' := ?_) rfl rfl rfl ?_ ?_ ?_; rotate_left 2; (focus (intro w' hw'; obtain ⟨q0, q1, q2, q3, q4, q5⟩ := hw'.out; clear hw'; go_simp; with_reducible rfl)); (focus (simp only [Act.put, List.setIfInBounds_toArray, List.set_cons_zero, List.set_cons_succ]; rfl))) | (refine plan_skip rfl rfl (by decide +kernel) (by simp only [Act.put, List.setIfInBounds_toArray, List.set_cons_zero, List.set_cons_succ]; rfl) ?_))
      have hO1 := hO W
      clear hO
      refine plan_eff rfl (fun K hK => ?_)
      go_wp2_with fail
      refine hO1.mono ?_
      rintro e w6 ⟨rfl, HM7⟩
      have HMe := HMd.got HM7
      simp only [List.nil_append] at HMe
      have hS6 := Lib.hid (And.intro (HM7.mu.cell a0 (fun h => h)) (And.intro (HM7.mu.cell a1 (fun h => h)) (And.intro (HM7.mu.cell b0 (fun h => h)) (And.intro (HM7.mu.cell b1 (fun h => h)) (And.intro (HM7.mu.cell n0 (fun h => h)) (HM7.mu.cell n1 (fun h => h)))))))
      have hSm := rsame_calls (.slice A5 cs.length c5) (.slice A6 ts.length c6) (.slice A cs.length c) (.slice A2 ts.length c2) cs cs ts ts w6 (Row.sl (HMe.at_ 2 rfl)) (Row.sl (HMe.at_ 3 rfl)) (HC.out.pure HMe.mu) (HT.out.pure HMe.mu)
      have et : (decide (cs = cs) && decide (ts = ts)) = true := by simp
      rw [et] at hSm
      have HS6 := hS6
      clear hO1 HMd HM7 a0 a1 b0 b1 n0 n1 et
      go_wp2_with fail
      refine hK _ _ hS6 ?_
      clear hK hS6
      repeat (first | (refine plan_pure (v := ?_) (a' := ?_) rfl rfl rfl ?_ ?_ ?_; rotate_left 2; (focus (intro w'; go_simp; with_reducible rfl)); (focus (simp only [Act.put, List.setIfInBounds_toArray, List.set_cons_zero, List.set_cons_succ]; rfl))) | (refine plan_load (v := ?_) (a' := ?_) rfl rfl rfl ?_ ?_ ?_; rotate_left 2; (focus (intro w' hw'; obtain ⟨q0, q1, q2, q3, q4, q5⟩ := hw'.out; clear hw'; go_simp; with_reducible rfl)); (focus (simp only [Act.put, List.setIfInBounds_toArray, List.set_cons_zero, List.set_cons_succ]; rfl))) | (refine plan_skip rfl rfl (by decide +kernel) (by simp only [Act.put, List.setIfInBounds_toArray, List.set_cons_zero, List.set_cons_succ]; rfl) ?_))
      refine plan_eff rfl (fun K hK => ?_)
      go_wp2_with fail
      refine hSm.mono ?_
      rintro e w7 ⟨rfl, HM8⟩
      have HMf := HMe.got HM8
      simp only [List.nil_append] at HMf
      obtain ⟨a0, a1, b0, b1, n0, n1⟩ := HS6.out
      have hS7 := Lib.hid (And.intro (HM8.mu.cell a0 (fun h => h)) (And.intro (HM8.mu.cell a1 (fun h => h)) (And.intro (HM8.mu.cell b0 (fun h => h)) (And.intro (HM8.mu.cell b1 (fun h => h)) (And.intro (HM8.mu.cell n0 (fun h => h)) (HM8.mu.cell n1 (fun h => h)))))))
      have hA1 := hA w7 HMf.mu
      have HS7 := hS7
      clear hSm HMe HM8 a0 a1 b0 b1 n0 n1 HS6
      go_wp2_with fail
      refine hK _ _ hS7 ?_
      clear hK hS7
      repeat (first | (refine plan_pure (v := ?_) (a' := ?_) rfl rfl rfl ?_ ?_ ?_; rotate_left 2; (focus (intro w'; go_simp; with_reducible rfl)); (focus (simp only [Act.put, List.setIfInBounds_toArray, List.set_cons_zero, List.set_cons_succ]; rfl))) | (refine plan_load (v := ?_) (a' := ?_) rfl rfl rfl ?_ ?_ ?_; rotate_left 2; (focus (intro w' hw'; obtain ⟨q0, q1, q2, q3, q4, q5⟩ := hw'.out; clear hw'; go_simp; with_reducible rfl)); (focus (simp only [Act.put, List.setIfInBounds_toArray, List.set_cons_zero, List.set_cons_succ]; rfl))) | (refine plan_skip rfl rfl (by decide +kernel) (by simp only [Act.put, List.setIfInBounds_toArray, List.set_cons_zero, List.set_cons_succ]; rfl) ?_))
      refine plan_eff rfl (fun K hK => ?_)
      go_wp2_with fail
      refine hA1.mono ?_
      rintro e w8 ⟨rfl, HM9⟩
      have HMg := (HMf.got HM9).sel [] (by decide)
      obtain ⟨a0, a1, b0, b1, n0, n1⟩ := HS7.out
      have hS8 := Lib.hid (And.intro (HM9.mu.cell a0 (fun h => h)) (And.intro (HM9.mu.cell a1 (fun h => h)) (And.intro (HM9.mu.cell b0 (fun h => h)) (And.intro (HM9.mu.cell b1 (fun h => h)) (And.intro (HM9.mu.cell n0 (fun h => h)) (HM9.mu.cell n1 (fun h => h)))))))
      clear hA1 HMf HM9 a0 a1 b0 b1 n0 n1 HS7
      go_wp2_with fail
      refine hK _ _ hS8 ?_
      clear hK hS8
      repeat (first | (refine plan_pure (v := ?_) (a' := ?_) rfl rfl rfl ?_ ?_ ?_; rotate_left 2; (focus (intro w'; go_simp; with_reducible rfl)); (focus (simp only [Act.put, List.setIfInBounds_toArray, List.set_cons_zero, List.set_cons_succ]; rfl))) | (refine plan_load (v := ?_) (a' := ?_) rfl rfl rfl ?_ ?_ ?_; rotate_left 2; (focus (intro w' hw'; obtain ⟨q0, q1, q2, q3, q4, q5⟩ := hw'.out; clear hw'; go_simp; with_reducible rfl)); (focus (simp only [Act.put, List.setIfInBounds_toArray, List.set_cons_zero, List.set_cons_succ]; rfl))) | (refine plan_skip rfl rfl (by decide +kernel) (by simp only [Act.put, List.setIfInBounds_toArray, List.set_cons_zero, List.set_cons_succ]; rfl) ?_))
      refine plan_done ?_
      go_wp2_with fail
      go_ret
      exact ⟨rfl, HMg⟩
    · have hz : ((ofL (writeT cs ts).1).toList == []) = true := by rw [h0, lit_eq]; exact decide_eq_true rfl
      have hz2 : ((writeT cs ts).2 != 0) = true := by rw [bne_iff_ne]; exact h1
      generalize (writeT cs ts).1 = T at *
      generalize (writeT cs ts).2 = E at *
      clear h0 h1
      go_wp2_with fail
      refine hW1.mono ?_
      rintro e w2 ⟨rfl, HM3⟩
      have HM4 := HM2.got HM3
      simp only [List.nil_append] at HM4
      have hA1 := hA w2 HM4.mu
      clear hW1 HM2 HM3 a0 a1
      go_wp2_with fail
      refine hA1.mono ?_
      rintro e w3 ⟨rfl, HM5⟩
      have HM6 := (HM4.got HM5).sel [] (by decide)
      clear hA1 HM4 HM5
      go_wp2_with fail
      go_ret
      exact ⟨rfl, HM6⟩
end Go.Proofs.YtnpehlkdfbmnkaaDoor
