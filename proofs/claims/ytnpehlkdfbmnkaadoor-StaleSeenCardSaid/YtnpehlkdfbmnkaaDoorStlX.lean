/-
  Layer 18 (stale): the code's Parse.
-/
import Derived.Test.YtnpehlkdfbmnkaaDoorStlU
import Derived.Test.YtnpehlkdfbmnkaaDoorVfsE
set_option linter.unusedVariables false
set_option linter.unusedSimpArgs false
set_option maxRecDepth 20000
namespace Go.Proofs.YtnpehlkdfbmnkaaDoor
open Go.RowKit

theorem parseF_nil (n : Nat) (a : Int) (cs : List (List UInt8)) (ts : List Tou) : parseF n [] a cs ts = (cs, ts, 0, 0) := by cases n <;> simp [parseF]
theorem parseF_none {n : Nat} {s : List UInt8} (h : s ≠ []) (hn : s.length ≤ n) (hc : cutB 10 s = none) (a : Int) (cs : List (List UInt8)) (ts : List Tou) : parseF n s a cs ts = ([], [], 3, a) := by
  cases n with
  | zero => exact absurd (List.length_eq_zero_iff.1 (by omega)) h
  | succ n => rw [parseF, if_neg h, hc]
/-- One line, and what is behind it. -/
def parseG (n : Nat) (l rest : List UInt8) (a : Int) (cs : List (List UInt8)) (ts : List Tou) : List (List UInt8) × List Tou × Int × Int :=
  match lineR l ts.isEmpty with
  | .bad => ([], [], 3, a)
  | .cmd t => parseF n rest (a + 1) (cs ++ [t]) ts
  | .tou k t => parseF n rest (a + 1) cs (ts ++ [(k, t)])
theorem parseF_some {n : Nat} {s l rest : List UInt8} (hn : s.length ≤ n + 1) (hc : cutB 10 s = some (l, rest)) (a : Int) (cs : List (List UInt8)) (ts : List Tou) : parseF (n + 1) s a cs ts = parseG n l rest a cs ts := by
  have h : s ≠ [] := by rintro rfl; cases hc
  rw [parseF, if_neg h, hc]; rfl
theorem idx_kind (a : UInt8) : (0 < Lib.indexByte [63, 82, 87, 68] a → kindB a = Lib.indexByte [63, 82, 87, 68] a) ∧ (¬ 0 < Lib.indexByte [63, 82, 87, 68] a → kindB a = 0) := by
  by_cases h1 : (63 : UInt8) = a
  · subst h1; decide
  by_cases h2 : (82 : UInt8) = a
  · subst h2; decide
  by_cases h3 : (87 : UInt8) = a
  · subst h3; decide
  by_cases h4 : (68 : UInt8) = a
  · subst h4; decide
  have e : Lib.indexByte [63, 82, 87, 68] a = -1 := by simp [Lib.indexByte, h1, h2, h3, h4]
  have e2 : kindB a = 0 := by unfold kindB; rw [if_neg (fun e => h2 e.symm), if_neg (fun e => h3 e.symm), if_neg (fun e => h4 e.symm)]
  rw [e, e2]
  exact ⟨fun h => absurd h (by decide), fun _ => rfl⟩
theorem idx_calls (a : UInt8) (w : World) : Calls Tryd.prog 60 #[.string ⟨#[63, 82, 87, 68]⟩, .int .u8 a.toNat] w fun e w' => e = .returned (.int .i64 (Lib.indexByte [63, 82, 87, 68] a)) ∧ w = w' := by
  refine (Tryd.strings_IndexByte ⟨#[63, 82, 87, 68]⟩ (a.toNat : Int) w).mono ?_
  rintro e w' ⟨rfl, rfl⟩
  refine ⟨?_, rfl⟩
  have : ((a.toNat : Int)).toNat.toUInt8 = a := by simp
  rw [this]
theorem mtE (w : World) : (zeroValue 56).run Tryd.prog w = .ok (.agg #[.slice none 0 0, .slice none 0 0]) w := Tryd.zeroValue56 w

set_option maxHeartbeats 8000000 in
theorem parse_calls (s : List UInt8) (w : World) (hm : MaxV w) (hs : s.length ≤ 1000000000) :
    Calls Tryd.prog 28 #[.string (ofL s)] w fun e w' => ∃ cv tv, e = .returned (.tuple #[.agg #[cv, tv], .agg #[.int .i64 (parseT s).2.2.1, .int .i64 (parseT s).2.2.2]]) ∧ Mem none_ w [TRow cv (parseT s).1, NRow tv (parseT s).2.1] w' := by
  have hz := ofL_size s
  obtain ⟨R, hR⟩ : ∃ R, parseT s = R := ⟨_, rfl⟩
  rw [hR]
  have HR := Lib.hid hR
  clear hR
  have HM0 := ((Mem.start (fp := none_) w).box #[.slice none 0 0, .slice none 0 0] 56).box #[.int .i64 0, .int .i64 0] 60
  go_enter Tryd.func28, Tryd.ntmps28
  by_cases hbig : 65536 < s.length
  · have dbig : decide ((65536 : Int) < (s.length : Int)) = true := decide_eq_true (by omega)
    have dbig' : decide (65536 < s.length) = true := decide_eq_true hbig
    have HE : Hid (R = ([], [], 5, 0)) := by unfold Hid; rw [← HR.out]; unfold parseT; rw [if_pos hbig]
    clear hbig HR
    have c0 := Blk.cell_ (HM0.at_ 0 rfl) 0
    have c1 := Blk.cell_ (HM0.at_ 0 rfl) 1
    simp only [List.getElem?_toArray, List.getElem?_cons_succ, List.getElem?_cons_zero] at c0 c1
    have fc0 := Blk.frozen (HM0.at_ 0 rfl) 0
    have fc1 := Blk.frozen (HM0.at_ 0 rfl) 1
    have b0 := Blk.cell_ (HM0.at_ 1 rfl) 0
    have b1 := Blk.cell_ (HM0.at_ 1 rfl) 1
    simp only [List.getElem?_toArray, List.getElem?_cons_succ, List.getElem?_cons_zero] at b0 b1
    have fb0 := Blk.frozen (HM0.at_ 1 rfl) 0
    have fb1 := Blk.frozen (HM0.at_ 1 rfl) 1
    have HMk := Lib.hid (Mem.nilN (Mem.nilT (((Mem.start (fp := none_) w).box #[.slice none 0 0, .slice none 0 0] 56).box #[.int .i64 5, .int .i64 0] 60)))
    clear HM0
    go_wp2_with fail
    clear c0 c1 fc0 fc1 b0 b1 fb0 fb1
    have HMj := HMk.out
    clear HMk
    have e1 : (w.alloc (.cells #[.slice none 0 0, .slice none 0 0] 56)).heap.size = w.heap.size + 1 := by simp
    rw [e1] at HMj
    have c0 := Blk.cell_ (HMj.at_ 2 rfl) 0
    have c1 := Blk.cell_ (HMj.at_ 2 rfl) 1
    simp only [List.getElem?_toArray, List.getElem?_cons_succ, List.getElem?_cons_zero] at c0 c1
    have b0 := Blk.cell_ (HMj.at_ 3 rfl) 0
    have b1 := Blk.cell_ (HMj.at_ 3 rfl) 1
    simp only [List.getElem?_toArray, List.getElem?_cons_succ, List.getElem?_cons_zero] at b0 b1
    generalize World.alloc _ _ = W at *
    refine bodyPost_ret (v := .tuple #[.agg #[.slice none 0 0, .slice none 0 0], .agg #[.int .i64 5, .int .i64 0]]) (by simp [results, Tryd.results28, go_sem, c0, c1, b0, b1]) rfl ⟨.slice none 0 0, .slice none 0 0, ?_, ?_⟩
    · rw [HE.out]
    · rw [HE.out]; exact HMj.sel [1, 0] (by decide)
  · have dbig : decide ((65536 : Int) < (s.length : Int)) = false := decide_eq_false (by omega)
    have dbig' : decide (65536 < s.length) = false := decide_eq_false hbig
    have HE : Hid (parseF s.length s 1 [] [] = R) := by unfold Hid; rw [← HR.out]; unfold parseT; rw [if_neg hbig]
    have HM1 := (Mem.nilN (Mem.nilT (HM0.box #[.slice none 0 0, .slice none 0 0] 56)))
    have HM2 := HM1.sel [2, 1, 0, 4, 3] (by decide)
    simp only [List.filterMap_cons, List.filterMap_nil, List.getElem?_cons_succ, List.getElem?_cons_zero] at HM2
    have e1 : (w.alloc (.cells #[.slice none 0 0, .slice none 0 0] 56)).heap.size = w.heap.size + 1 := by simp
    have e2 : ((w.alloc (.cells #[.slice none 0 0, .slice none 0 0] 56)).alloc (.cells #[.int .i64 0, .int .i64 0] 60)).heap.size = w.heap.size + 1 + 1 := by simp
    rw [e2, e1] at HM2
    have HM3 := Lib.hid HM2
    clear hbig HR HM0 HM1 HM2 e1 e2
    go_wp2_with fail
    have HM2 := HM3.out
    clear HM3 hz dbig dbig'
    generalize World.alloc _ _ = W0 at *
    generalize w.heap.size + 1 + 1 = b4 at *
    generalize w.heap.size + 1 = b3 at *
    generalize w.heap.size = b2 at *
    go_loopw [0, 5, 6, 7, 8, 9, 10, 11, 12] (fun v0 v5 v6 v7 v8 v9 v10 v11 v12 wr => ∃ (n k : Nat) (r : List UInt8) (cs : List (List UInt8)) (ts : List Tou) (cv tv : Value), v0 = .string (ofL r) ∧ v5 = .int .i64 ((k : Int) + 1) ∧ r.length ≤ n ∧ cs.length ≤ k ∧ ts.length ≤ k ∧ k + r.length ≤ s.length ∧ Hid (parseF n r ((k : Int) + 1) cs ts = R) ∧
      Mem none_ w [Blk b4 56 #[cv, tv], TRow cv cs, NRow tv ts, Blk b2 56 #[.slice none 0 0, .slice none 0 0], Blk b3 60 #[.int .i64 0, .int .i64 0]] wr) (fun v0 _ _ _ _ _ _ _ _ _ => strLen v0)
    case atStart => exact ⟨s.length, 0, s, [], [], _, _, rfl, rfl, Nat.le_refl _, Nat.le_refl _, Nat.le_refl _, by omega, HE, HM2⟩
    case round =>
      clear HM2 HE
      obtain ⟨n, k, r, cs, ts, cv, tv, rfl, rfl, hn, hcs, hts, hk, HF, HM⟩ := hrel
      have hmr := MaxV.pure HM.mu hm
      by_cases hr : r = []
      · have hre : ((ofL r).toList == []) = true := by rw [lit_eq]; exact decide_eq_true hr
        have HE : Hid ((cs, ts, 0, 0) = R) := by unfold Hid; rw [← HF.out, hr, parseF_nil]
        clear hr HF hmr
        obtain ⟨A1, d1, rfl, q1, q2⟩ := Row.any_ (HM.at_ 1 rfl)
        obtain ⟨A2, d2, rfl, q3, q4⟩ := Row.any_ (HM.at_ 2 rfl)
        have a0 := Blk.cell_ (HM.at_ 0 rfl) 0
        have a1 := Blk.cell_ (HM.at_ 0 rfl) 1
        simp only [List.getElem?_toArray, List.getElem?_cons_succ, List.getElem?_cons_zero] at a0 a1
        have b0 := Blk.cell_ (HM.at_ 3 rfl) 0
        have b1 := Blk.cell_ (HM.at_ 3 rfl) 1
        simp only [List.getElem?_toArray, List.getElem?_cons_succ, List.getElem?_cons_zero] at b0 b1
        have fb0 := Blk.frozen (HM.at_ 3 rfl) 0
        have fb1 := Blk.frozen (HM.at_ 3 rfl) 1
        have c0 := Blk.cell_ (HM.at_ 4 rfl) 0
        have c1 := Blk.cell_ (HM.at_ 4 rfl) 1
        simp only [List.getElem?_toArray, List.getElem?_cons_succ, List.getElem?_cons_zero] at c0 c1
        have fc0 := Blk.frozen (HM.at_ 4 rfl) 0
        have fc1 := Blk.frozen (HM.at_ 4 rfl) 1
        have HMx := (((HM.sel [3, 4, 1, 2] (by decide)).blkSet 0 (.slice A1 cs.length d1)).blkSet 1 (.slice A2 ts.length d2)).sel [1, 0, 2, 3] (by decide)
        simp only [List.setIfInBounds_toArray, List.set_cons_zero, List.set_cons_succ, List.filterMap_cons, List.filterMap_nil, List.getElem?_cons_succ, List.getElem?_cons_zero] at HMx
        have e0 := Blk.cell_ (HMx.at_ 0 rfl) 0
        have e1 := Blk.cell_ (HMx.at_ 0 rfl) 1
        simp only [List.getElem?_toArray, List.getElem?_cons_succ, List.getElem?_cons_zero] at e0 e1
        have fe0 := Blk.frozen (HMx.at_ 0 rfl) 0
        have fe1 := Blk.frozen (HMx.at_ 0 rfl) 1
        have HMy := ((HMx.blkSet 0 (.int .i64 0)).blkSet 1 (.int .i64 0))
        simp only [List.setIfInBounds_toArray, List.set_cons_zero, List.set_cons_succ, List.filterMap_cons, List.filterMap_nil, List.getElem?_cons_succ, List.getElem?_cons_zero] at HMy
        have HMz := Lib.hid HMy
        clear HM HMx HMy
        go_wp2_with fail
        clear a0 a1 b0 b1 fb0 fb1 c0 c1 fc0 fc1 e0 e1 fe0 fe1
        have HM := HMz.out
        clear HMz
        generalize (((wr.setCell ⟨b2, 0, none⟩ (.slice A1 cs.length d1)).setCell ⟨b2, 1, none⟩ (.slice A2 ts.length d2)).setCell ⟨b3, 0, none⟩ (.int .i64 0)).setCell ⟨b3, 1, none⟩ (.int .i64 0) = W at *
        have c0 := Blk.cell_ (HM.at_ 0 rfl) 0
        have c1 := Blk.cell_ (HM.at_ 0 rfl) 1
        simp only [List.getElem?_toArray, List.getElem?_cons_succ, List.getElem?_cons_zero] at c0 c1
        have b0 := Blk.cell_ (HM.at_ 1 rfl) 0
        have b1 := Blk.cell_ (HM.at_ 1 rfl) 1
        simp only [List.getElem?_toArray, List.getElem?_cons_succ, List.getElem?_cons_zero] at b0 b1
        refine bodyPost_ret (v := .tuple #[.agg #[.slice A1 cs.length d1, .slice A2 ts.length d2], .agg #[.int .i64 0, .int .i64 0]]) (by simp [results, Tryd.results28, go_sem, c0, c1, b0, b1]) rfl ⟨.slice A1 cs.length d1, .slice A2 ts.length d2, ?_, ?_⟩
        · rw [← HE.out]
        · rw [← HE.out]; exact HM.sel [2, 3] (by decide)
      · have hre : ((ofL r).toList == []) = false := by rw [lit_eq]; exact decide_eq_false hr
        obtain ⟨A1, d1, rfl, q1, q2⟩ := Row.any_ (HM.at_ 1 rfl)
        obtain ⟨A2, d2, rfl, q3, q4⟩ := Row.any_ (HM.at_ 2 rfl)
        cases hc : cutB 10 r with
        | none =>
          have hC := cut_none r 10 wr hmr (by omega) hc
          have HE : Hid (([], [], 3, (k : Int) + 1) = R) := by unfold Hid; rw [← HF.out, parseF_none hr hn hc]
          clear hr hc HF hmr
          go_wp2_with fail
          refine hC.mono ?_
          rintro e w1 ⟨rfl, nd, rfl⟩
          have HM1 := HM.drewN nd
          clear hC HM
          generalize wr.drewN nd = w1 at *
          have HM2 := HM1.box #[.int .i64 0, .int .i64 0] 60
          have a0 := Blk.cell_ (HM2.at_ 0 rfl) 0
          have a1 := Blk.cell_ (HM2.at_ 0 rfl) 1
          simp only [List.getElem?_toArray, List.getElem?_cons_succ, List.getElem?_cons_zero] at a0 a1
          have fa0 := Blk.frozen (HM2.at_ 0 rfl) 0
          have fa1 := Blk.frozen (HM2.at_ 0 rfl) 1
          have HM8 := Lib.hid (HM1.box #[.int .i64 3, .int .i64 ((k : Int) + 1)] 60)
          clear HM1 HM2
          go_wp2_with fail
          clear a0 a1 fa0 fa1
          have HM9 := HM8.out
          clear HM8
          generalize World.alloc _ _ = w5 at *
          generalize w1.heap.size = b5 at *
          have HMd := HM9.drew
          have b0 := Blk.cell_ (HMd.at_ 4 rfl) 0
          have b1 := Blk.cell_ (HMd.at_ 4 rfl) 1
          simp only [List.getElem?_toArray, List.getElem?_cons_succ, List.getElem?_cons_zero] at b0 b1
          have c0 := Blk.cell_ (HMd.at_ 5 rfl) 0
          have c1 := Blk.cell_ (HMd.at_ 5 rfl) 1
          simp only [List.getElem?_toArray, List.getElem?_cons_succ, List.getElem?_cons_zero] at c0 c1
          have fb0 := Blk.frozen (HMd.at_ 4 rfl) 0
          have fb1 := Blk.frozen (HMd.at_ 4 rfl) 1
          have fc0 := Blk.frozen (HMd.at_ 5 rfl) 0
          have fc1 := Blk.frozen (HMd.at_ 5 rfl) 1
          clear HM9
          refine wp_plan [3] (S := fun w' => Hid (w'.cell? ⟨b5, 0, none⟩ = some (.int .i64 3) ∧ w'.cell? ⟨b5, 1, none⟩ = some (.int .i64 ((k : Int) + 1)))) [(.pure, 0), (.load, 1), (.eff, 2), (.tail, 3)] (by kernel_rfl) rfl (by kernel_rfl) rfl (fun _ _ _ _ _ h => h) ?_ ?_
          · exact Lib.hid ⟨by rw [Blk.cell_ (HMd.at_ 0 rfl)]; rfl, by rw [Blk.cell_ (HMd.at_ 0 rfl)]; rfl⟩
          generalize World.drew _ = W at *
          repeat (first | (refine plan_pure (v := ?_) (a' := ?_) rfl rfl rfl ?_ ?_ ?_; rotate_left 2; (focus (intro w'; go_simp; with_reducible rfl)); (focus (simp only [Act.put, List.setIfInBounds_toArray, List.set_cons_zero, List.set_cons_succ]; rfl))) | (refine plan_load (v := ?_) (a' := ?_) rfl rfl rfl ?_ ?_ ?_; rotate_left 2; (focus (intro w' hw'; obtain ⟨q0, q1⟩ := hw'.out; clear hw'; go_simp; with_reducible rfl)); (focus (simp only [Act.put, List.setIfInBounds_toArray, List.set_cons_zero, List.set_cons_succ]; rfl))) | (refine plan_skip rfl rfl (by decide +kernel) (by simp only [Act.put, List.setIfInBounds_toArray, List.set_cons_zero, List.set_cons_succ]; rfl) ?_))
          have HMe := (((HMd.sel [4, 0, 1, 2, 3, 5] (by decide)).blkSet 0 (.slice none 0 0)).blkSet 1 (.slice none 0 0))
          simp only [List.setIfInBounds_toArray, List.set_cons_zero, List.set_cons_succ] at HMe
          have HMe2 := Lib.hid HMe
          clear HMd HMe
          refine plan_eff rfl (fun K hK => ?_)
          go_wp2
          clear b0 b1 c0 c1 fb0 fb1 fc0 fc1
          have HMf := HMe2.out
          clear HMe2
          generalize (W.setCell ⟨b2, 0, none⟩ (.slice none 0 0)).setCell ⟨b2, 1, none⟩ (.slice none 0 0) = W2 at *
          refine hK _ _ ?_ ?_
          · exact Lib.hid ⟨by rw [Blk.cell_ (HMf.at_ 1 rfl)]; rfl, by rw [Blk.cell_ (HMf.at_ 1 rfl)]; rfl⟩
          clear hK
          have b0 := Blk.cell_ (HMf.at_ 0 rfl) 0
          have b1 := Blk.cell_ (HMf.at_ 0 rfl) 1
          simp only [List.getElem?_toArray, List.getElem?_cons_succ, List.getElem?_cons_zero] at b0 b1
          have c0 := Blk.cell_ (HMf.at_ 5 rfl) 0
          have c1 := Blk.cell_ (HMf.at_ 5 rfl) 1
          simp only [List.getElem?_toArray, List.getElem?_cons_succ, List.getElem?_cons_zero] at c0 c1
          have fc0 := Blk.frozen (HMf.at_ 5 rfl) 0
          have fc1 := Blk.frozen (HMf.at_ 5 rfl) 1
          have HMg := (((HMf.sel [5, 0, 1, 2, 3, 4] (by decide)).blkSet 0 (.int .i64 3)).blkSet 1 (.int .i64 ((k : Int) + 1)))
          simp only [List.setIfInBounds_toArray, List.set_cons_zero, List.set_cons_succ] at HMg
          have HMg2 := Lib.hid HMg
          clear HMf HMg
          refine plan_tail rfl (fun K hK => ?_)
          go_wp2
          clear b0 b1 c0 c1 fc0 fc1
          have HMh := HMg2.out
          clear HMg2
          generalize (W2.setCell ⟨b3, 0, none⟩ (.int .i64 3)).setCell ⟨b3, 1, none⟩ (.int .i64 ((k : Int) + 1)) = W3 at *
          have c0 := Blk.cell_ (HMh.at_ 0 rfl) 0
          have c1 := Blk.cell_ (HMh.at_ 0 rfl) 1
          simp only [List.getElem?_toArray, List.getElem?_cons_succ, List.getElem?_cons_zero] at c0 c1
          have b0 := Blk.cell_ (HMh.at_ 1 rfl) 0
          have b1 := Blk.cell_ (HMh.at_ 1 rfl) 1
          simp only [List.getElem?_toArray, List.getElem?_cons_succ, List.getElem?_cons_zero] at b0 b1
          refine plan_done ?_
          go_wp2_with fail
          refine bodyPost_ret (v := .tuple #[.agg #[.slice none 0 0, .slice none 0 0], .agg #[.int .i64 3, .int .i64 ((k : Int) + 1)]]) (by simp [results, Tryd.results28, go_sem, c0, c1, b0, b1]) rfl ⟨.slice none 0 0, .slice none 0 0, ?_, ?_⟩
          · rw [← HE.out]
          · rw [← HE.out]; exact (Mem.nilN (Mem.nilT HMh)).sel [1, 0] (by decide)
        | some p =>
          obtain ⟨l, rest⟩ := p
          have hC := cut_some r 10 l rest wr hmr (by omega) hc
          obtain ⟨ec, _⟩ := cutB_len hc
          have hl2 := congrArg List.length ec
          rw [List.length_append, List.length_cons] at hl2
          cases n with
          | zero => omega
          | succ n' =>
          have HE0 : Hid (parseG n' l rest ((k : Int) + 1) cs ts = R) := by unfold Hid; rw [← HF.out, parseF_some (by omega) hc]
          have hmx : strLen (.string (ofL rest)) < strLen (.string (ofL r)) := by
            simp only [strLen, ofL_size]
            omega
          clear hr hc HF hmr ec
          cases l with
          | nil =>
            have HE : Hid (([], [], 3, (k : Int) + 1) = R) := by unfold Hid; rw [← HE0.out]; rfl
            go_wp2_with fail
            refine hC.mono ?_
            rintro e w1 ⟨rfl, nd, rfl⟩
            have HM1 := HM.drewN nd
            clear hC HM
            generalize wr.drewN nd = w1 at *
            have HM2 := HM1.box #[.int .i64 0, .int .i64 0] 60
            have a0 := Blk.cell_ (HM2.at_ 0 rfl) 0
            have a1 := Blk.cell_ (HM2.at_ 0 rfl) 1
            simp only [List.getElem?_toArray, List.getElem?_cons_succ, List.getElem?_cons_zero] at a0 a1
            have fa0 := Blk.frozen (HM2.at_ 0 rfl) 0
            have fa1 := Blk.frozen (HM2.at_ 0 rfl) 1
            have HM8 := Lib.hid (HM1.box #[.int .i64 3, .int .i64 ((k : Int) + 1)] 60)
            clear HM1 HM2
            go_wp2_with fail
            clear a0 a1 fa0 fa1
            have HM9 := HM8.out
            clear HM8
            generalize World.alloc _ _ = w5 at *
            generalize w1.heap.size = b5 at *
            have HMd := HM9.drew
            have b0 := Blk.cell_ (HMd.at_ 4 rfl) 0
            have b1 := Blk.cell_ (HMd.at_ 4 rfl) 1
            simp only [List.getElem?_toArray, List.getElem?_cons_succ, List.getElem?_cons_zero] at b0 b1
            have c0 := Blk.cell_ (HMd.at_ 5 rfl) 0
            have c1 := Blk.cell_ (HMd.at_ 5 rfl) 1
            simp only [List.getElem?_toArray, List.getElem?_cons_succ, List.getElem?_cons_zero] at c0 c1
            have fb0 := Blk.frozen (HMd.at_ 4 rfl) 0
            have fb1 := Blk.frozen (HMd.at_ 4 rfl) 1
            have fc0 := Blk.frozen (HMd.at_ 5 rfl) 0
            have fc1 := Blk.frozen (HMd.at_ 5 rfl) 1
            clear HM9
            refine wp_plan [3] (S := fun w' => Hid (w'.cell? ⟨b5, 0, none⟩ = some (.int .i64 3) ∧ w'.cell? ⟨b5, 1, none⟩ = some (.int .i64 ((k : Int) + 1)))) [(.pure, 0), (.load, 1), (.eff, 2), (.tail, 3)] (by kernel_rfl) rfl (by kernel_rfl) rfl (fun _ _ _ _ _ h => h) ?_ ?_
            · exact Lib.hid ⟨by rw [Blk.cell_ (HMd.at_ 0 rfl)]; rfl, by rw [Blk.cell_ (HMd.at_ 0 rfl)]; rfl⟩
            generalize World.drew _ = W at *
            repeat (first | (refine plan_pure (v := ?_) (a' := ?_) rfl rfl rfl ?_ ?_ ?_; rotate_left 2; (focus (intro w'; go_simp; with_reducible rfl)); (focus (simp only [Act.put, List.setIfInBounds_toArray, List.set_cons_zero, List.set_cons_succ]; rfl))) | (refine plan_load (v := ?_) (a' := ?_) rfl rfl rfl ?_ ?_ ?_; rotate_left 2; (focus (intro w' hw'; obtain ⟨q0, q1⟩ := hw'.out; clear hw'; go_simp; with_reducible rfl)); (focus (simp only [Act.put, List.setIfInBounds_toArray, List.set_cons_zero, List.set_cons_succ]; rfl))) | (refine plan_skip rfl rfl (by decide +kernel) (by simp only [Act.put, List.setIfInBounds_toArray, List.set_cons_zero, List.set_cons_succ]; rfl) ?_))
            have HMe := (((HMd.sel [4, 0, 1, 2, 3, 5] (by decide)).blkSet 0 (.slice none 0 0)).blkSet 1 (.slice none 0 0))
            simp only [List.setIfInBounds_toArray, List.set_cons_zero, List.set_cons_succ] at HMe
            have HMe2 := Lib.hid HMe
            clear HMd HMe
            refine plan_eff rfl (fun K hK => ?_)
            go_wp2
            clear b0 b1 c0 c1 fb0 fb1 fc0 fc1
            have HMf := HMe2.out
            clear HMe2
            generalize (W.setCell ⟨b2, 0, none⟩ (.slice none 0 0)).setCell ⟨b2, 1, none⟩ (.slice none 0 0) = W2 at *
            refine hK _ _ ?_ ?_
            · exact Lib.hid ⟨by rw [Blk.cell_ (HMf.at_ 1 rfl)]; rfl, by rw [Blk.cell_ (HMf.at_ 1 rfl)]; rfl⟩
            clear hK
            have b0 := Blk.cell_ (HMf.at_ 0 rfl) 0
            have b1 := Blk.cell_ (HMf.at_ 0 rfl) 1
            simp only [List.getElem?_toArray, List.getElem?_cons_succ, List.getElem?_cons_zero] at b0 b1
            have c0 := Blk.cell_ (HMf.at_ 5 rfl) 0
            have c1 := Blk.cell_ (HMf.at_ 5 rfl) 1
            simp only [List.getElem?_toArray, List.getElem?_cons_succ, List.getElem?_cons_zero] at c0 c1
            have fc0 := Blk.frozen (HMf.at_ 5 rfl) 0
            have fc1 := Blk.frozen (HMf.at_ 5 rfl) 1
            have HMg := (((HMf.sel [5, 0, 1, 2, 3, 4] (by decide)).blkSet 0 (.int .i64 3)).blkSet 1 (.int .i64 ((k : Int) + 1)))
            simp only [List.setIfInBounds_toArray, List.set_cons_zero, List.set_cons_succ] at HMg
            have HMg2 := Lib.hid HMg
            clear HMf HMg
            refine plan_tail rfl (fun K hK => ?_)
            go_wp2
            clear b0 b1 c0 c1 fc0 fc1
            have HMh := HMg2.out
            clear HMg2
            generalize (W2.setCell ⟨b3, 0, none⟩ (.int .i64 3)).setCell ⟨b3, 1, none⟩ (.int .i64 ((k : Int) + 1)) = W3 at *
            have c0 := Blk.cell_ (HMh.at_ 0 rfl) 0
            have c1 := Blk.cell_ (HMh.at_ 0 rfl) 1
            simp only [List.getElem?_toArray, List.getElem?_cons_succ, List.getElem?_cons_zero] at c0 c1
            have b0 := Blk.cell_ (HMh.at_ 1 rfl) 0
            have b1 := Blk.cell_ (HMh.at_ 1 rfl) 1
            simp only [List.getElem?_toArray, List.getElem?_cons_succ, List.getElem?_cons_zero] at b0 b1
            refine plan_done ?_
            go_wp2_with fail
            refine bodyPost_ret (v := .tuple #[.agg #[.slice none 0 0, .slice none 0 0], .agg #[.int .i64 3, .int .i64 ((k : Int) + 1)]]) (by simp [results, Tryd.results28, go_sem, c0, c1, b0, b1]) rfl ⟨.slice none 0 0, .slice none 0 0, ?_, ?_⟩
            · rw [← HE.out]
            · rw [← HE.out]; exact (Mem.nilN (Mem.nilT HMh)).sel [1, 0] (by decide)
          | cons a l1 =>
          cases l1 with
          | nil =>
            have HE : Hid (([], [], 3, (k : Int) + 1) = R) := by unfold Hid; rw [← HE0.out]; rfl
            have hz1 : (ofL [a]).size = 1 := rfl
            generalize ofL [a] = LB at *
            go_wp2_with fail
            refine hC.mono ?_
            rintro e w1 ⟨rfl, nd, rfl⟩
            have HM1 := HM.drewN nd
            clear hC HM
            generalize wr.drewN nd = w1 at *
            have HM2 := HM1.box #[.int .i64 0, .int .i64 0] 60
            have a0 := Blk.cell_ (HM2.at_ 0 rfl) 0
            have a1 := Blk.cell_ (HM2.at_ 0 rfl) 1
            simp only [List.getElem?_toArray, List.getElem?_cons_succ, List.getElem?_cons_zero] at a0 a1
            have fa0 := Blk.frozen (HM2.at_ 0 rfl) 0
            have fa1 := Blk.frozen (HM2.at_ 0 rfl) 1
            have HM8 := Lib.hid (HM1.box #[.int .i64 3, .int .i64 ((k : Int) + 1)] 60)
            clear HM1 HM2
            go_wp2_with fail
            clear a0 a1 fa0 fa1
            have HM9 := HM8.out
            clear HM8
            generalize World.alloc _ _ = w5 at *
            generalize w1.heap.size = b5 at *
            have HMd := HM9.drew
            have b0 := Blk.cell_ (HMd.at_ 4 rfl) 0
            have b1 := Blk.cell_ (HMd.at_ 4 rfl) 1
            simp only [List.getElem?_toArray, List.getElem?_cons_succ, List.getElem?_cons_zero] at b0 b1
            have c0 := Blk.cell_ (HMd.at_ 5 rfl) 0
            have c1 := Blk.cell_ (HMd.at_ 5 rfl) 1
            simp only [List.getElem?_toArray, List.getElem?_cons_succ, List.getElem?_cons_zero] at c0 c1
            have fb0 := Blk.frozen (HMd.at_ 4 rfl) 0
            have fb1 := Blk.frozen (HMd.at_ 4 rfl) 1
            have fc0 := Blk.frozen (HMd.at_ 5 rfl) 0
            have fc1 := Blk.frozen (HMd.at_ 5 rfl) 1
            clear HM9
            refine wp_plan [3] (S := fun w' => Hid (w'.cell? ⟨b5, 0, none⟩ = some (.int .i64 3) ∧ w'.cell? ⟨b5, 1, none⟩ = some (.int .i64 ((k : Int) + 1)))) [(.pure, 0), (.load, 1), (.eff, 2), (.tail, 3)] (by kernel_rfl) rfl (by kernel_rfl) rfl (fun _ _ _ _ _ h => h) ?_ ?_
            · exact Lib.hid ⟨by rw [Blk.cell_ (HMd.at_ 0 rfl)]; rfl, by rw [Blk.cell_ (HMd.at_ 0 rfl)]; rfl⟩
            generalize World.drew _ = W at *
            repeat (first | (refine plan_pure (v := ?_) (a' := ?_) rfl rfl rfl ?_ ?_ ?_; rotate_left 2; (focus (intro w'; go_simp; with_reducible rfl)); (focus (simp only [Act.put, List.setIfInBounds_toArray, List.set_cons_zero, List.set_cons_succ]; rfl))) | (refine plan_load (v := ?_) (a' := ?_) rfl rfl rfl ?_ ?_ ?_; rotate_left 2; (focus (intro w' hw'; obtain ⟨q0, q1⟩ := hw'.out; clear hw'; go_simp; with_reducible rfl)); (focus (simp only [Act.put, List.setIfInBounds_toArray, List.set_cons_zero, List.set_cons_succ]; rfl))) | (refine plan_skip rfl rfl (by decide +kernel) (by simp only [Act.put, List.setIfInBounds_toArray, List.set_cons_zero, List.set_cons_succ]; rfl) ?_))
            have HMe := (((HMd.sel [4, 0, 1, 2, 3, 5] (by decide)).blkSet 0 (.slice none 0 0)).blkSet 1 (.slice none 0 0))
            simp only [List.setIfInBounds_toArray, List.set_cons_zero, List.set_cons_succ] at HMe
            have HMe2 := Lib.hid HMe
            clear HMd HMe
            refine plan_eff rfl (fun K hK => ?_)
            go_wp2
            clear b0 b1 c0 c1 fb0 fb1 fc0 fc1
            have HMf := HMe2.out
            clear HMe2
            generalize (W.setCell ⟨b2, 0, none⟩ (.slice none 0 0)).setCell ⟨b2, 1, none⟩ (.slice none 0 0) = W2 at *
            refine hK _ _ ?_ ?_
            · exact Lib.hid ⟨by rw [Blk.cell_ (HMf.at_ 1 rfl)]; rfl, by rw [Blk.cell_ (HMf.at_ 1 rfl)]; rfl⟩
            clear hK
            have b0 := Blk.cell_ (HMf.at_ 0 rfl) 0
            have b1 := Blk.cell_ (HMf.at_ 0 rfl) 1
            simp only [List.getElem?_toArray, List.getElem?_cons_succ, List.getElem?_cons_zero] at b0 b1
            have c0 := Blk.cell_ (HMf.at_ 5 rfl) 0
            have c1 := Blk.cell_ (HMf.at_ 5 rfl) 1
            simp only [List.getElem?_toArray, List.getElem?_cons_succ, List.getElem?_cons_zero] at c0 c1
            have fc0 := Blk.frozen (HMf.at_ 5 rfl) 0
            have fc1 := Blk.frozen (HMf.at_ 5 rfl) 1
            have HMg := (((HMf.sel [5, 0, 1, 2, 3, 4] (by decide)).blkSet 0 (.int .i64 3)).blkSet 1 (.int .i64 ((k : Int) + 1)))
            simp only [List.setIfInBounds_toArray, List.set_cons_zero, List.set_cons_succ] at HMg
            have HMg2 := Lib.hid HMg
            clear HMf HMg
            refine plan_tail rfl (fun K hK => ?_)
            go_wp2
            clear b0 b1 c0 c1 fc0 fc1
            have HMh := HMg2.out
            clear HMg2
            generalize (W2.setCell ⟨b3, 0, none⟩ (.int .i64 3)).setCell ⟨b3, 1, none⟩ (.int .i64 ((k : Int) + 1)) = W3 at *
            have c0 := Blk.cell_ (HMh.at_ 0 rfl) 0
            have c1 := Blk.cell_ (HMh.at_ 0 rfl) 1
            simp only [List.getElem?_toArray, List.getElem?_cons_succ, List.getElem?_cons_zero] at c0 c1
            have b0 := Blk.cell_ (HMh.at_ 1 rfl) 0
            have b1 := Blk.cell_ (HMh.at_ 1 rfl) 1
            simp only [List.getElem?_toArray, List.getElem?_cons_succ, List.getElem?_cons_zero] at b0 b1
            refine plan_done ?_
            go_wp2_with fail
            refine bodyPost_ret (v := .tuple #[.agg #[.slice none 0 0, .slice none 0 0], .agg #[.int .i64 3, .int .i64 ((k : Int) + 1)]]) (by simp [results, Tryd.results28, go_sem, c0, c1, b0, b1]) rfl ⟨.slice none 0 0, .slice none 0 0, ?_, ?_⟩
            · rw [← HE.out]
            · rw [← HE.out]; exact (Mem.nilN (Mem.nilT HMh)).sel [1, 0] (by decide)
          | cons b tl =>
            obtain ⟨LB, hLB⟩ : ∃ LB, ofL (a :: b :: tl) = LB := ⟨_, rfl⟩
            have hz1 : LB.size = tl.length + 2 := by rw [← hLB, ofL_size]; rfl
            have h0 : 0 < LB.size := by omega
            have h1 : 1 < LB.size := by omega
            have g0 : LB[0]'h0 = a := by subst hLB; rfl
            have g1 : LB[1]'h1 = b := by subst hLB; rfl
            have hsl : Hid (LB.extract 2 (tl.length + 2) = ofL tl) := by
              unfold Hid
              rw [← hLB, extract_ofL, List.take_of_length_le (by simp)]; rfl
            have dlen : decide (((tl.length : Int) + 2) < 2) = false := decide_eq_false (by omega)
            have dlen2 : decide (((tl.length + 2 : Nat) : Int) < 2) = false := decide_eq_false (by omega)
            rw [hLB] at hC
            clear hLB
            by_cases hb : b = 32
            · have q1 : ((b.toNat : Int) == 32) = true := (byte_eq b 32).trans (decide_eq_true hb)
              have q2 : ((b.toNat : Int) != 32) = false := by simp only [bne, q1]; rfl
              have HE1 : Hid ((match meantL tl with | none => ([], [], 3, (k : Int) + 1) | some t => if a = 67 ∧ ts.isEmpty = true then parseF n' rest ((k : Int) + 1 + 1) (cs ++ [t]) ts else if 0 < kindB a then parseF n' rest ((k : Int) + 1 + 1) cs (ts ++ [(kindB a, t)]) else ([], [], 3, (k : Int) + 1)) = R) := by
                unfold Hid
                rw [← HE0.out]
                unfold parseG
                simp only [lineR, if_pos hb]
                cases meantL tl with
                | none => rfl
                | some t =>
                  simp only
                  split
                  · rfl
                  · split <;> rfl
              have hMn := fun wx (hx : Pure w wx) => meant_calls tl wx (MaxV.pure hx hm) (by simp only [List.length_cons] at hl2; omega)
              have hIx := fun wx => idx_calls a wx
              obtain ⟨ik1, ik2⟩ := idx_kind a
              clear hb HE0
              generalize hMo : meantL tl = Mo at *
              generalize Lib.indexByte [63, 82, 87, 68] a = K at *
              go_wp2_with fail
              refine hC.mono ?_
              rintro e w1 ⟨rfl, nd, rfl⟩
              have HM1 := HM.drewN nd
              clear hC HM
              generalize wr.drewN nd = w1 at *
              have HM2 := HM1.box #[.int .i64 0, .int .i64 0] 60
              have a0 := Blk.cell_ (HM2.at_ 0 rfl) 0
              have a1 := Blk.cell_ (HM2.at_ 0 rfl) 1
              simp only [List.getElem?_toArray, List.getElem?_cons_succ, List.getElem?_cons_zero] at a0 a1
              have fa0 := Blk.frozen (HM2.at_ 0 rfl) 0
              have fa1 := Blk.frozen (HM2.at_ 0 rfl) 1
              have HM8 := Lib.hid (HM1.box #[.int .i64 3, .int .i64 ((k : Int) + 1)] 60)
              clear HM1 HM2
              go_wp2_with fail
              clear a0 a1 fa0 fa1
              have HM9 := HM8.out
              clear HM8
              generalize World.alloc _ _ = w5 at *
              generalize w1.heap.size = b5 at *
              have hMn1 := hMn w5 HM9.mu
              rw [← hsl.out] at hMn1
              clear hMn
              cases Mo with
              | none =>
                have HE : Hid (([], [], 3, (k : Int) + 1) = R) := HE1
                simp only [Option.getD_none, Option.isSome_none] at hMn1
                clear HE1
                refine hMn1.mono ?_
                rintro e w6 ⟨rfl, hp6⟩
                have HM10 := HM9.keep hp6
                have hIx1 := hIx w6
                clear hMn1 hIx HM9 hp6
                go_wp2_with fail
                refine hIx1.mono ?_
                rintro e w7 ⟨rfl, rfl⟩
                clear hIx1
                have HM9 := HM10
                clear HM10
                have m0 := Blk.cell_ (HM9.at_ 1 rfl) 0
                have m1 := Blk.cell_ (HM9.at_ 1 rfl) 1
                simp only [List.getElem?_toArray, List.getElem?_cons_succ, List.getElem?_cons_zero] at m0 m1
                go_wp2_with fail
                clear m0 m1
                have HMd := HM9.drew
                have b0 := Blk.cell_ (HMd.at_ 4 rfl) 0
                have b1 := Blk.cell_ (HMd.at_ 4 rfl) 1
                simp only [List.getElem?_toArray, List.getElem?_cons_succ, List.getElem?_cons_zero] at b0 b1
                have c0 := Blk.cell_ (HMd.at_ 5 rfl) 0
                have c1 := Blk.cell_ (HMd.at_ 5 rfl) 1
                simp only [List.getElem?_toArray, List.getElem?_cons_succ, List.getElem?_cons_zero] at c0 c1
                have fb0 := Blk.frozen (HMd.at_ 4 rfl) 0
                have fb1 := Blk.frozen (HMd.at_ 4 rfl) 1
                have fc0 := Blk.frozen (HMd.at_ 5 rfl) 0
                have fc1 := Blk.frozen (HMd.at_ 5 rfl) 1
                clear HM9
                refine wp_plan [3] (S := fun w' => Hid (w'.cell? ⟨b5, 0, none⟩ = some (.int .i64 3) ∧ w'.cell? ⟨b5, 1, none⟩ = some (.int .i64 ((k : Int) + 1)))) [(.pure, 0), (.load, 1), (.eff, 2), (.tail, 3)] (by kernel_rfl) rfl (by kernel_rfl) rfl (fun _ _ _ _ _ h => h) ?_ ?_
                · exact Lib.hid ⟨by rw [Blk.cell_ (HMd.at_ 0 rfl)]; rfl, by rw [Blk.cell_ (HMd.at_ 0 rfl)]; rfl⟩
                generalize World.drew _ = W at *
                repeat (first | (refine plan_pure (v := ?_) (a' := ?_) rfl rfl rfl ?_ ?_ ?_; rotate_left 2; (focus (intro w'; go_simp; with_reducible rfl)); (focus (simp only [Act.put, List.setIfInBounds_toArray, List.set_cons_zero, List.set_cons_succ]; rfl))) | (refine plan_load (v := ?_) (a' := ?_) rfl rfl rfl ?_ ?_ ?_; rotate_left 2; (focus (intro w' hw'; obtain ⟨q0, q1⟩ := hw'.out; clear hw'; go_simp; with_reducible rfl)); (focus (simp only [Act.put, List.setIfInBounds_toArray, List.set_cons_zero, List.set_cons_succ]; rfl))) | (refine plan_skip rfl rfl (by decide +kernel) (by simp only [Act.put, List.setIfInBounds_toArray, List.set_cons_zero, List.set_cons_succ]; rfl) ?_))
                have HMe := (((HMd.sel [4, 0, 1, 2, 3, 5] (by decide)).blkSet 0 (.slice none 0 0)).blkSet 1 (.slice none 0 0))
                simp only [List.setIfInBounds_toArray, List.set_cons_zero, List.set_cons_succ] at HMe
                have HMe2 := Lib.hid HMe
                clear HMd HMe
                refine plan_eff rfl (fun K hK => ?_)
                go_wp2
                clear b0 b1 c0 c1 fb0 fb1 fc0 fc1
                have HMf := HMe2.out
                clear HMe2
                generalize (W.setCell ⟨b2, 0, none⟩ (.slice none 0 0)).setCell ⟨b2, 1, none⟩ (.slice none 0 0) = W2 at *
                refine hK _ _ ?_ ?_
                · exact Lib.hid ⟨by rw [Blk.cell_ (HMf.at_ 1 rfl)]; rfl, by rw [Blk.cell_ (HMf.at_ 1 rfl)]; rfl⟩
                clear hK
                have b0 := Blk.cell_ (HMf.at_ 0 rfl) 0
                have b1 := Blk.cell_ (HMf.at_ 0 rfl) 1
                simp only [List.getElem?_toArray, List.getElem?_cons_succ, List.getElem?_cons_zero] at b0 b1
                have c0 := Blk.cell_ (HMf.at_ 5 rfl) 0
                have c1 := Blk.cell_ (HMf.at_ 5 rfl) 1
                simp only [List.getElem?_toArray, List.getElem?_cons_succ, List.getElem?_cons_zero] at c0 c1
                have fc0 := Blk.frozen (HMf.at_ 5 rfl) 0
                have fc1 := Blk.frozen (HMf.at_ 5 rfl) 1
                have HMg := (((HMf.sel [5, 0, 1, 2, 3, 4] (by decide)).blkSet 0 (.int .i64 3)).blkSet 1 (.int .i64 ((k : Int) + 1)))
                simp only [List.setIfInBounds_toArray, List.set_cons_zero, List.set_cons_succ] at HMg
                have HMg2 := Lib.hid HMg
                clear HMf HMg
                refine plan_tail rfl (fun K hK => ?_)
                go_wp2
                clear b0 b1 c0 c1 fc0 fc1
                have HMh := HMg2.out
                clear HMg2
                generalize (W2.setCell ⟨b3, 0, none⟩ (.int .i64 3)).setCell ⟨b3, 1, none⟩ (.int .i64 ((k : Int) + 1)) = W3 at *
                have c0 := Blk.cell_ (HMh.at_ 0 rfl) 0
                have c1 := Blk.cell_ (HMh.at_ 0 rfl) 1
                simp only [List.getElem?_toArray, List.getElem?_cons_succ, List.getElem?_cons_zero] at c0 c1
                have b0 := Blk.cell_ (HMh.at_ 1 rfl) 0
                have b1 := Blk.cell_ (HMh.at_ 1 rfl) 1
                simp only [List.getElem?_toArray, List.getElem?_cons_succ, List.getElem?_cons_zero] at b0 b1
                refine plan_done ?_
                go_wp2_with fail
                refine bodyPost_ret (v := .tuple #[.agg #[.slice none 0 0, .slice none 0 0], .agg #[.int .i64 3, .int .i64 ((k : Int) + 1)]]) (by simp [results, Tryd.results28, go_sem, c0, c1, b0, b1]) rfl ⟨.slice none 0 0, .slice none 0 0, ?_, ?_⟩
                · rw [← HE.out]
                · rw [← HE.out]; exact (Mem.nilN (Mem.nilT HMh)).sel [1, 0] (by decide)
              | some t =>
                simp only [Option.getD_some, Option.isSome_some] at hMn1 HE1
                refine hMn1.mono ?_
                rintro e w6 ⟨rfl, hp6⟩
                have HM10 := HM9.keep hp6
                have hIx1 := hIx w6
                clear hMn1 hIx HM9 hp6
                go_wp2_with fail
                refine hIx1.mono ?_
                rintro e w7 ⟨rfl, rfl⟩
                clear hIx1
                have HM9 := HM10
                clear HM10
                have m0 := Blk.cell_ (HM9.at_ 1 rfl) 0
                have m1 := Blk.cell_ (HM9.at_ 1 rfl) 1
                simp only [List.getElem?_toArray, List.getElem?_cons_succ, List.getElem?_cons_zero] at m0 m1
                by_cases hC67 : a = 67 ∧ ts = []
                · have q3 : ((a.toNat : Int) == 67) = true := (byte_eq a 67).trans (decide_eq_true hC67.1)
                  have q4 : ((ts.length : Int) == 0) = true := by rw [hC67.2]; rfl
                  have HF : Hid (parseF n' rest ((k : Int) + 1 + 1) (cs ++ [t]) ts = R) := by
                    unfold Hid; rw [← HE1.out, if_pos ⟨hC67.1, by rw [hC67.2]; rfl⟩]
                  clear HE1 hC67 ik1 ik2
                  have HM2 := HM9.sel [2, 1, 3, 4, 5] (by decide)
                  simp only [List.filterMap_cons, List.filterMap_nil, List.getElem?_cons_succ, List.getElem?_cons_zero] at HM2
                  clear HM9
                  go_wp2_with (at_builtin; refine wpList_appT strE rfl _ _ rfl HM2 rfl t _ rfl ?hnb ?hb ?_; (case hnb => simp); (case hb => omega); intro v' w' HM3 HU3; obtain ⟨A', c', rfl, x1, x2⟩ := Row.any_ (HM3.at_ 0 rfl); have m0' := Blk.cell_ (HM3.at_ 1 rfl) 0; have fm0' := Blk.frozen (HM3.at_ 1 rfl) 0; simp only [List.getElem?_toArray, List.getElem?_cons_succ, List.getElem?_cons_zero] at m0'; clear m0 m1)
                  have HM4 := (HM3.sel [1, 0, 2, 3, 4] (by decide)).blkSet 0 (.slice A' (cs ++ [t]).length c')
                  simp only [List.setIfInBounds_toArray, List.set_cons_zero, List.set_cons_succ, List.filterMap_cons, List.filterMap_nil, List.getElem?_cons_succ, List.getElem?_cons_zero] at HM4
                  have el : (cs ++ [t]).length = cs.length + 1 := List.length_append ..
                  have HM5 : Mem none_ w [Blk b4 56 #[.slice A' (cs.length + 1) c', .slice A2 ts.length d2], TRow (.slice A' (cs.length + 1) c') (cs ++ [t]), NRow (.slice A2 ts.length d2) ts, Blk b2 56 #[.slice none 0 0, .slice none 0 0], Blk b3 60 #[.int .i64 0, .int .i64 0]] (w'.setCell ⟨b4, 0, none⟩ (.slice A' (cs.length + 1) c')) := by
                    rw [← el]; exact HM4
                  clear el HM4
                  go_roundw
                  case rel =>
                    refine ⟨n', k + 1, rest, cs ++ [t], ts, _, _, rfl, by go_num, by omega, by rw [List.length_append, List.length_singleton]; omega, by omega, by omega, ?_, HM5⟩
                    have e : (((k + 1 : Nat) : Int) + 1) = (k : Int) + 1 + 1 := by omega
                    rw [e]; exact HF
                  case measure => exact hmx
                · by_cases hK : 0 < K
                  · have hKk := ik1 (by omega)
                    have HF : Hid (parseF n' rest ((k : Int) + 1 + 1) cs (ts ++ [(K, t)]) = R) := by
                      unfold Hid; rw [← HE1.out, if_neg (fun e => hC67 ⟨e.1, List.isEmpty_iff.1 e.2⟩), hKk, if_pos hK]
                    have dK : decide ((0 : Int) < K) = true := decide_eq_true hK
                    have HM2 := HM9.sel [3, 1, 2, 4, 5] (by decide)
                    simp only [List.filterMap_cons, List.filterMap_nil, List.getElem?_cons_succ, List.getElem?_cons_zero] at HM2
                    clear HM9 HE1 ik1 ik2 hKk
                    by_cases ha : a = 67
                    · have q3 : ((a.toNat : Int) == 67) = true := (byte_eq a 67).trans (decide_eq_true ha)
                      have q4 : ((ts.length : Int) == 0) = false := by rw [beq_eq_false_iff_ne]; intro e; exact hC67 ⟨ha, List.length_eq_zero_iff.1 (by omega)⟩
                      clear ha hC67 hK
                      go_wp2_with (at_builtin; refine wpList_app1 touE rfl _ _ rfl HM2 rfl #[.int .i64 K, .string (ofL t)] _ rfl ?hnb rfl ?h1 ?hb ?_; (case hnb => simp); (case h1 => simp [Value.oneCell']); (case hb => omega); intro v' w' HM3 HU3; obtain ⟨A', c', rfl, x1, x2⟩ := Row.any_ (HM3.at_ 0 rfl); have m0' := Blk.cell_ (HM3.at_ 1 rfl) 1; have fm0' := Blk.frozen (HM3.at_ 1 rfl) 1; simp only [List.getElem?_toArray, List.getElem?_cons_succ, List.getElem?_cons_zero] at m0'; clear m0 m1)
                      have HM4 := (HM3.sel [1, 2, 0, 3, 4] (by decide)).blkSet 1 (.slice A' (ts.length + 1) c')
                      simp only [List.setIfInBounds_toArray, List.set_cons_zero, List.set_cons_succ, List.filterMap_cons, List.filterMap_nil, List.getElem?_cons_succ, List.getElem?_cons_zero] at HM4
                      go_roundw
                      case rel =>
                        refine ⟨n', k + 1, rest, cs, ts ++ [(K, t)], .slice A1 cs.length d1, .slice A' (ts.length + 1) c', rfl, by go_num, by omega, by omega, by rw [List.length_append, List.length_singleton]; omega, by omega, ?_, ?_⟩
                        · have e : (((k + 1 : Nat) : Int) + 1) = (k : Int) + 1 + 1 := by omega
                          rw [e]; exact HF
                        · unfold NRow
                          rw [tch_app, List.length_append]
                          exact HM4
                      case measure => exact hmx
                    · have q3 : ((a.toNat : Int) == 67) = false := (byte_eq a 67).trans (decide_eq_false ha)
                      clear ha hC67 hK
                      go_wp2_with (at_builtin; refine wpList_app1 touE rfl _ _ rfl HM2 rfl #[.int .i64 K, .string (ofL t)] _ rfl ?hnb rfl ?h1 ?hb ?_; (case hnb => simp); (case h1 => simp [Value.oneCell']); (case hb => omega); intro v' w' HM3 HU3; obtain ⟨A', c', rfl, x1, x2⟩ := Row.any_ (HM3.at_ 0 rfl); have m0' := Blk.cell_ (HM3.at_ 1 rfl) 1; have fm0' := Blk.frozen (HM3.at_ 1 rfl) 1; simp only [List.getElem?_toArray, List.getElem?_cons_succ, List.getElem?_cons_zero] at m0'; clear m0 m1)
                      have HM4 := (HM3.sel [1, 2, 0, 3, 4] (by decide)).blkSet 1 (.slice A' (ts.length + 1) c')
                      simp only [List.setIfInBounds_toArray, List.set_cons_zero, List.set_cons_succ, List.filterMap_cons, List.filterMap_nil, List.getElem?_cons_succ, List.getElem?_cons_zero] at HM4
                      go_roundw
                      case rel =>
                        refine ⟨n', k + 1, rest, cs, ts ++ [(K, t)], .slice A1 cs.length d1, .slice A' (ts.length + 1) c', rfl, by go_num, by omega, by omega, by rw [List.length_append, List.length_singleton]; omega, by omega, ?_, ?_⟩
                        · have e : (((k + 1 : Nat) : Int) + 1) = (k : Int) + 1 + 1 := by omega
                          rw [e]; exact HF
                        · unfold NRow
                          rw [tch_app, List.length_append]
                          exact HM4
                      case measure => exact hmx
                  · have dK : decide ((0 : Int) < K) = false := decide_eq_false hK
                    have HE : Hid (([], [], 3, (k : Int) + 1) = R) := by
                      unfold Hid; rw [← HE1.out, if_neg (fun e => hC67 ⟨e.1, List.isEmpty_iff.1 e.2⟩), ik2 (by omega), if_neg (by decide)]
                    clear HE1 ik1 ik2 hK
                    by_cases ha : a = 67
                    · have q3 : ((a.toNat : Int) == 67) = true := (byte_eq a 67).trans (decide_eq_true ha)
                      have q4 : ((ts.length : Int) == 0) = false := by rw [beq_eq_false_iff_ne]; intro e; exact hC67 ⟨ha, List.length_eq_zero_iff.1 (by omega)⟩
                      clear ha hC67
                      go_wp2_with fail
                      clear m0 m1
                      have HMd := HM9.drew
                      have b0 := Blk.cell_ (HMd.at_ 4 rfl) 0
                      have b1 := Blk.cell_ (HMd.at_ 4 rfl) 1
                      simp only [List.getElem?_toArray, List.getElem?_cons_succ, List.getElem?_cons_zero] at b0 b1
                      have c0 := Blk.cell_ (HMd.at_ 5 rfl) 0
                      have c1 := Blk.cell_ (HMd.at_ 5 rfl) 1
                      simp only [List.getElem?_toArray, List.getElem?_cons_succ, List.getElem?_cons_zero] at c0 c1
                      have fb0 := Blk.frozen (HMd.at_ 4 rfl) 0
                      have fb1 := Blk.frozen (HMd.at_ 4 rfl) 1
                      have fc0 := Blk.frozen (HMd.at_ 5 rfl) 0
                      have fc1 := Blk.frozen (HMd.at_ 5 rfl) 1
                      clear HM9
                      refine wp_plan [3] (S := fun w' => Hid (w'.cell? ⟨b5, 0, none⟩ = some (.int .i64 3) ∧ w'.cell? ⟨b5, 1, none⟩ = some (.int .i64 ((k : Int) + 1)))) [(.pure, 0), (.load, 1), (.eff, 2), (.tail, 3)] (by kernel_rfl) rfl (by kernel_rfl) rfl (fun _ _ _ _ _ h => h) ?_ ?_
                      · exact Lib.hid ⟨by rw [Blk.cell_ (HMd.at_ 0 rfl)]; rfl, by rw [Blk.cell_ (HMd.at_ 0 rfl)]; rfl⟩
                      generalize World.drew _ = W at *
                      repeat (first | (refine plan_pure (v := ?_) (a' := ?_) rfl rfl rfl ?_ ?_ ?_; rotate_left 2; (focus (intro w'; go_simp; with_reducible rfl)); (focus (simp only [Act.put, List.setIfInBounds_toArray, List.set_cons_zero, List.set_cons_succ]; rfl))) | (refine plan_load (v := ?_) (a' := ?_) rfl rfl rfl ?_ ?_ ?_; rotate_left 2; (focus (intro w' hw'; obtain ⟨q0, q1⟩ := hw'.out; clear hw'; go_simp; with_reducible rfl)); (focus (simp only [Act.put, List.setIfInBounds_toArray, List.set_cons_zero, List.set_cons_succ]; rfl))) | (refine plan_skip rfl rfl (by decide +kernel) (by simp only [Act.put, List.setIfInBounds_toArray, List.set_cons_zero, List.set_cons_succ]; rfl) ?_))
                      have HMe := (((HMd.sel [4, 0, 1, 2, 3, 5] (by decide)).blkSet 0 (.slice none 0 0)).blkSet 1 (.slice none 0 0))
                      simp only [List.setIfInBounds_toArray, List.set_cons_zero, List.set_cons_succ] at HMe
                      have HMe2 := Lib.hid HMe
                      clear HMd HMe
                      refine plan_eff rfl (fun K hK => ?_)
                      go_wp2
                      clear b0 b1 c0 c1 fb0 fb1 fc0 fc1
                      have HMf := HMe2.out
                      clear HMe2
                      generalize (W.setCell ⟨b2, 0, none⟩ (.slice none 0 0)).setCell ⟨b2, 1, none⟩ (.slice none 0 0) = W2 at *
                      refine hK _ _ ?_ ?_
                      · exact Lib.hid ⟨by rw [Blk.cell_ (HMf.at_ 1 rfl)]; rfl, by rw [Blk.cell_ (HMf.at_ 1 rfl)]; rfl⟩
                      clear hK
                      have b0 := Blk.cell_ (HMf.at_ 0 rfl) 0
                      have b1 := Blk.cell_ (HMf.at_ 0 rfl) 1
                      simp only [List.getElem?_toArray, List.getElem?_cons_succ, List.getElem?_cons_zero] at b0 b1
                      have c0 := Blk.cell_ (HMf.at_ 5 rfl) 0
                      have c1 := Blk.cell_ (HMf.at_ 5 rfl) 1
                      simp only [List.getElem?_toArray, List.getElem?_cons_succ, List.getElem?_cons_zero] at c0 c1
                      have fc0 := Blk.frozen (HMf.at_ 5 rfl) 0
                      have fc1 := Blk.frozen (HMf.at_ 5 rfl) 1
                      have HMg := (((HMf.sel [5, 0, 1, 2, 3, 4] (by decide)).blkSet 0 (.int .i64 3)).blkSet 1 (.int .i64 ((k : Int) + 1)))
                      simp only [List.setIfInBounds_toArray, List.set_cons_zero, List.set_cons_succ] at HMg
                      have HMg2 := Lib.hid HMg
                      clear HMf HMg
                      refine plan_tail rfl (fun K hK => ?_)
                      go_wp2
                      clear b0 b1 c0 c1 fc0 fc1
                      have HMh := HMg2.out
                      clear HMg2
                      generalize (W2.setCell ⟨b3, 0, none⟩ (.int .i64 3)).setCell ⟨b3, 1, none⟩ (.int .i64 ((k : Int) + 1)) = W3 at *
                      have c0 := Blk.cell_ (HMh.at_ 0 rfl) 0
                      have c1 := Blk.cell_ (HMh.at_ 0 rfl) 1
                      simp only [List.getElem?_toArray, List.getElem?_cons_succ, List.getElem?_cons_zero] at c0 c1
                      have b0 := Blk.cell_ (HMh.at_ 1 rfl) 0
                      have b1 := Blk.cell_ (HMh.at_ 1 rfl) 1
                      simp only [List.getElem?_toArray, List.getElem?_cons_succ, List.getElem?_cons_zero] at b0 b1
                      refine plan_done ?_
                      go_wp2_with fail
                      refine bodyPost_ret (v := .tuple #[.agg #[.slice none 0 0, .slice none 0 0], .agg #[.int .i64 3, .int .i64 ((k : Int) + 1)]]) (by simp [results, Tryd.results28, go_sem, c0, c1, b0, b1]) rfl ⟨.slice none 0 0, .slice none 0 0, ?_, ?_⟩
                      · rw [← HE.out]
                      · rw [← HE.out]; exact (Mem.nilN (Mem.nilT HMh)).sel [1, 0] (by decide)
                    · have q3 : ((a.toNat : Int) == 67) = false := (byte_eq a 67).trans (decide_eq_false ha)
                      clear ha hC67
                      go_wp2_with fail
                      clear m0 m1
                      have HMd := HM9.drew
                      have b0 := Blk.cell_ (HMd.at_ 4 rfl) 0
                      have b1 := Blk.cell_ (HMd.at_ 4 rfl) 1
                      simp only [List.getElem?_toArray, List.getElem?_cons_succ, List.getElem?_cons_zero] at b0 b1
                      have c0 := Blk.cell_ (HMd.at_ 5 rfl) 0
                      have c1 := Blk.cell_ (HMd.at_ 5 rfl) 1
                      simp only [List.getElem?_toArray, List.getElem?_cons_succ, List.getElem?_cons_zero] at c0 c1
                      have fb0 := Blk.frozen (HMd.at_ 4 rfl) 0
                      have fb1 := Blk.frozen (HMd.at_ 4 rfl) 1
                      have fc0 := Blk.frozen (HMd.at_ 5 rfl) 0
                      have fc1 := Blk.frozen (HMd.at_ 5 rfl) 1
                      clear HM9
                      refine wp_plan [3] (S := fun w' => Hid (w'.cell? ⟨b5, 0, none⟩ = some (.int .i64 3) ∧ w'.cell? ⟨b5, 1, none⟩ = some (.int .i64 ((k : Int) + 1)))) [(.pure, 0), (.load, 1), (.eff, 2), (.tail, 3)] (by kernel_rfl) rfl (by kernel_rfl) rfl (fun _ _ _ _ _ h => h) ?_ ?_
                      · exact Lib.hid ⟨by rw [Blk.cell_ (HMd.at_ 0 rfl)]; rfl, by rw [Blk.cell_ (HMd.at_ 0 rfl)]; rfl⟩
                      generalize World.drew _ = W at *
                      repeat (first | (refine plan_pure (v := ?_) (a' := ?_) rfl rfl rfl ?_ ?_ ?_; rotate_left 2; (focus (intro w'; go_simp; with_reducible rfl)); (focus (simp only [Act.put, List.setIfInBounds_toArray, List.set_cons_zero, List.set_cons_succ]; rfl))) | (refine plan_load (v := ?_) (a' := ?_) rfl rfl rfl ?_ ?_ ?_; rotate_left 2; (focus (intro w' hw'; obtain ⟨q0, q1⟩ := hw'.out; clear hw'; go_simp; with_reducible rfl)); (focus (simp only [Act.put, List.setIfInBounds_toArray, List.set_cons_zero, List.set_cons_succ]; rfl))) | (refine plan_skip rfl rfl (by decide +kernel) (by simp only [Act.put, List.setIfInBounds_toArray, List.set_cons_zero, List.set_cons_succ]; rfl) ?_))
                      have HMe := (((HMd.sel [4, 0, 1, 2, 3, 5] (by decide)).blkSet 0 (.slice none 0 0)).blkSet 1 (.slice none 0 0))
                      simp only [List.setIfInBounds_toArray, List.set_cons_zero, List.set_cons_succ] at HMe
                      have HMe2 := Lib.hid HMe
                      clear HMd HMe
                      refine plan_eff rfl (fun K hK => ?_)
                      go_wp2
                      clear b0 b1 c0 c1 fb0 fb1 fc0 fc1
                      have HMf := HMe2.out
                      clear HMe2
                      generalize (W.setCell ⟨b2, 0, none⟩ (.slice none 0 0)).setCell ⟨b2, 1, none⟩ (.slice none 0 0) = W2 at *
                      refine hK _ _ ?_ ?_
                      · exact Lib.hid ⟨by rw [Blk.cell_ (HMf.at_ 1 rfl)]; rfl, by rw [Blk.cell_ (HMf.at_ 1 rfl)]; rfl⟩
                      clear hK
                      have b0 := Blk.cell_ (HMf.at_ 0 rfl) 0
                      have b1 := Blk.cell_ (HMf.at_ 0 rfl) 1
                      simp only [List.getElem?_toArray, List.getElem?_cons_succ, List.getElem?_cons_zero] at b0 b1
                      have c0 := Blk.cell_ (HMf.at_ 5 rfl) 0
                      have c1 := Blk.cell_ (HMf.at_ 5 rfl) 1
                      simp only [List.getElem?_toArray, List.getElem?_cons_succ, List.getElem?_cons_zero] at c0 c1
                      have fc0 := Blk.frozen (HMf.at_ 5 rfl) 0
                      have fc1 := Blk.frozen (HMf.at_ 5 rfl) 1
                      have HMg := (((HMf.sel [5, 0, 1, 2, 3, 4] (by decide)).blkSet 0 (.int .i64 3)).blkSet 1 (.int .i64 ((k : Int) + 1)))
                      simp only [List.setIfInBounds_toArray, List.set_cons_zero, List.set_cons_succ] at HMg
                      have HMg2 := Lib.hid HMg
                      clear HMf HMg
                      refine plan_tail rfl (fun K hK => ?_)
                      go_wp2
                      clear b0 b1 c0 c1 fc0 fc1
                      have HMh := HMg2.out
                      clear HMg2
                      generalize (W2.setCell ⟨b3, 0, none⟩ (.int .i64 3)).setCell ⟨b3, 1, none⟩ (.int .i64 ((k : Int) + 1)) = W3 at *
                      have c0 := Blk.cell_ (HMh.at_ 0 rfl) 0
                      have c1 := Blk.cell_ (HMh.at_ 0 rfl) 1
                      simp only [List.getElem?_toArray, List.getElem?_cons_succ, List.getElem?_cons_zero] at c0 c1
                      have b0 := Blk.cell_ (HMh.at_ 1 rfl) 0
                      have b1 := Blk.cell_ (HMh.at_ 1 rfl) 1
                      simp only [List.getElem?_toArray, List.getElem?_cons_succ, List.getElem?_cons_zero] at b0 b1
                      refine plan_done ?_
                      go_wp2_with fail
                      refine bodyPost_ret (v := .tuple #[.agg #[.slice none 0 0, .slice none 0 0], .agg #[.int .i64 3, .int .i64 ((k : Int) + 1)]]) (by simp [results, Tryd.results28, go_sem, c0, c1, b0, b1]) rfl ⟨.slice none 0 0, .slice none 0 0, ?_, ?_⟩
                      · rw [← HE.out]
                      · rw [← HE.out]; exact (Mem.nilN (Mem.nilT HMh)).sel [1, 0] (by decide)

            · have q1 : ((b.toNat : Int) == 32) = false := (byte_eq b 32).trans (decide_eq_false hb)
              have q2 : ((b.toNat : Int) != 32) = true := by simp only [bne, q1]; rfl
              have HE : Hid (([], [], 3, (k : Int) + 1) = R) := by unfold Hid; rw [← HE0.out]; unfold parseG; simp only [lineR, if_neg hb]
              clear hb HE0
              go_wp2_with fail
              refine hC.mono ?_
              rintro e w1 ⟨rfl, nd, rfl⟩
              have HM1 := HM.drewN nd
              clear hC HM
              generalize wr.drewN nd = w1 at *
              have HM2 := HM1.box #[.int .i64 0, .int .i64 0] 60
              have a0 := Blk.cell_ (HM2.at_ 0 rfl) 0
              have a1 := Blk.cell_ (HM2.at_ 0 rfl) 1
              simp only [List.getElem?_toArray, List.getElem?_cons_succ, List.getElem?_cons_zero] at a0 a1
              have fa0 := Blk.frozen (HM2.at_ 0 rfl) 0
              have fa1 := Blk.frozen (HM2.at_ 0 rfl) 1
              have HM8 := Lib.hid (HM1.box #[.int .i64 3, .int .i64 ((k : Int) + 1)] 60)
              clear HM1 HM2
              go_wp2_with fail
              clear a0 a1 fa0 fa1
              have HM9 := HM8.out
              clear HM8
              generalize World.alloc _ _ = w5 at *
              generalize w1.heap.size = b5 at *
              have HMd := HM9.drew
              have b0 := Blk.cell_ (HMd.at_ 4 rfl) 0
              have b1 := Blk.cell_ (HMd.at_ 4 rfl) 1
              simp only [List.getElem?_toArray, List.getElem?_cons_succ, List.getElem?_cons_zero] at b0 b1
              have c0 := Blk.cell_ (HMd.at_ 5 rfl) 0
              have c1 := Blk.cell_ (HMd.at_ 5 rfl) 1
              simp only [List.getElem?_toArray, List.getElem?_cons_succ, List.getElem?_cons_zero] at c0 c1
              have fb0 := Blk.frozen (HMd.at_ 4 rfl) 0
              have fb1 := Blk.frozen (HMd.at_ 4 rfl) 1
              have fc0 := Blk.frozen (HMd.at_ 5 rfl) 0
              have fc1 := Blk.frozen (HMd.at_ 5 rfl) 1
              clear HM9
              refine wp_plan [3] (S := fun w' => Hid (w'.cell? ⟨b5, 0, none⟩ = some (.int .i64 3) ∧ w'.cell? ⟨b5, 1, none⟩ = some (.int .i64 ((k : Int) + 1)))) [(.pure, 0), (.load, 1), (.eff, 2), (.tail, 3)] (by kernel_rfl) rfl (by kernel_rfl) rfl (fun _ _ _ _ _ h => h) ?_ ?_
              · exact Lib.hid ⟨by rw [Blk.cell_ (HMd.at_ 0 rfl)]; rfl, by rw [Blk.cell_ (HMd.at_ 0 rfl)]; rfl⟩
              generalize World.drew _ = W at *
              repeat (first | (refine plan_pure (v := ?_) (a' := ?_) rfl rfl rfl ?_ ?_ ?_; rotate_left 2; (focus (intro w'; go_simp; with_reducible rfl)); (focus (simp only [Act.put, List.setIfInBounds_toArray, List.set_cons_zero, List.set_cons_succ]; rfl))) | (refine plan_load (v := ?_) (a' := ?_) rfl rfl rfl ?_ ?_ ?_; rotate_left 2; (focus (intro w' hw'; obtain ⟨q0, q1⟩ := hw'.out; clear hw'; go_simp; with_reducible rfl)); (focus (simp only [Act.put, List.setIfInBounds_toArray, List.set_cons_zero, List.set_cons_succ]; rfl))) | (refine plan_skip rfl rfl (by decide +kernel) (by simp only [Act.put, List.setIfInBounds_toArray, List.set_cons_zero, List.set_cons_succ]; rfl) ?_))
              have HMe := (((HMd.sel [4, 0, 1, 2, 3, 5] (by decide)).blkSet 0 (.slice none 0 0)).blkSet 1 (.slice none 0 0))
              simp only [List.setIfInBounds_toArray, List.set_cons_zero, List.set_cons_succ] at HMe
              have HMe2 := Lib.hid HMe
              clear HMd HMe
              refine plan_eff rfl (fun K hK => ?_)
              go_wp2
              clear b0 b1 c0 c1 fb0 fb1 fc0 fc1
              have HMf := HMe2.out
              clear HMe2
              generalize (W.setCell ⟨b2, 0, none⟩ (.slice none 0 0)).setCell ⟨b2, 1, none⟩ (.slice none 0 0) = W2 at *
              refine hK _ _ ?_ ?_
              · exact Lib.hid ⟨by rw [Blk.cell_ (HMf.at_ 1 rfl)]; rfl, by rw [Blk.cell_ (HMf.at_ 1 rfl)]; rfl⟩
              clear hK
              have b0 := Blk.cell_ (HMf.at_ 0 rfl) 0
              have b1 := Blk.cell_ (HMf.at_ 0 rfl) 1
              simp only [List.getElem?_toArray, List.getElem?_cons_succ, List.getElem?_cons_zero] at b0 b1
              have c0 := Blk.cell_ (HMf.at_ 5 rfl) 0
              have c1 := Blk.cell_ (HMf.at_ 5 rfl) 1
              simp only [List.getElem?_toArray, List.getElem?_cons_succ, List.getElem?_cons_zero] at c0 c1
              have fc0 := Blk.frozen (HMf.at_ 5 rfl) 0
              have fc1 := Blk.frozen (HMf.at_ 5 rfl) 1
              have HMg := (((HMf.sel [5, 0, 1, 2, 3, 4] (by decide)).blkSet 0 (.int .i64 3)).blkSet 1 (.int .i64 ((k : Int) + 1)))
              simp only [List.setIfInBounds_toArray, List.set_cons_zero, List.set_cons_succ] at HMg
              have HMg2 := Lib.hid HMg
              clear HMf HMg
              refine plan_tail rfl (fun K hK => ?_)
              go_wp2
              clear b0 b1 c0 c1 fc0 fc1
              have HMh := HMg2.out
              clear HMg2
              generalize (W2.setCell ⟨b3, 0, none⟩ (.int .i64 3)).setCell ⟨b3, 1, none⟩ (.int .i64 ((k : Int) + 1)) = W3 at *
              have c0 := Blk.cell_ (HMh.at_ 0 rfl) 0
              have c1 := Blk.cell_ (HMh.at_ 0 rfl) 1
              simp only [List.getElem?_toArray, List.getElem?_cons_succ, List.getElem?_cons_zero] at c0 c1
              have b0 := Blk.cell_ (HMh.at_ 1 rfl) 0
              have b1 := Blk.cell_ (HMh.at_ 1 rfl) 1
              simp only [List.getElem?_toArray, List.getElem?_cons_succ, List.getElem?_cons_zero] at b0 b1
              refine plan_done ?_
              go_wp2_with fail
              refine bodyPost_ret (v := .tuple #[.agg #[.slice none 0 0, .slice none 0 0], .agg #[.int .i64 3, .int .i64 ((k : Int) + 1)]]) (by simp [results, Tryd.results28, go_sem, c0, c1, b0, b1]) rfl ⟨.slice none 0 0, .slice none 0 0, ?_, ?_⟩
              · rw [← HE.out]
              · rw [← HE.out]; exact (Mem.nilN (Mem.nilT HMh)).sel [1, 0] (by decide)
end Go.Proofs.YtnpehlkdfbmnkaaDoor
