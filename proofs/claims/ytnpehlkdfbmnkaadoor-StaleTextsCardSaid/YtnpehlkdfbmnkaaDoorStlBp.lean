/-
  Layer 18 (stale): the document's Parse.
-/
import Derived.Test.YtnpehlkdfbmnkaaDoorStlBz
import Derived.Test.YtnpehlkdfbmnkaaDoorStlX
set_option linter.unusedVariables false
set_option linter.unusedSimpArgs false
set_option maxRecDepth 20000
namespace Go.Proofs.YtnpehlkdfbmnkaaDoor
open Go.RowKit

theorem cutB_free {c : UInt8} : ∀ {s : List UInt8}, c ∉ s → cutB c s = none
  | [], _ => rfl
  | x :: s, h => by
    simp only [List.mem_cons, not_or] at h
    rw [cutB, if_neg (fun e => h.1 e.symm), cutB_free h.2]; rfl
set_option maxHeartbeats 16000000 in
theorem rparse_calls (s : List UInt8) (w : World) (hs : s.length ≤ 1000000000) :
    Calls Tryd.prog 29 #[.string (ofL s)] w fun e w' => ∃ cv tv, e = .returned (.tuple #[.agg #[cv, tv], .agg #[.int .i64 (parseT s).2.2.1, .int .i64 (parseT s).2.2.2]]) ∧ Mem none_ w [TRow cv (parseT s).1, NRow tv (parseT s).2.1] w' := by
  have hz := ofL_size s
  obtain ⟨R, hR⟩ : ∃ R, parseT s = R := ⟨_, rfl⟩
  rw [hR]
  have HR := Lib.hid hR
  clear hR
  have HM0 := ((Mem.start (fp := none_) w).box #[.slice none 0 0, .slice none 0 0] 52).box #[.int .i64 0, .int .i64 0] 60
  go_enter Tryd.func29, Tryd.ntmps29
  by_cases hbig : 65536 < s.length
  · have dbig : decide ((65536 : Int) < (s.length : Int)) = true := decide_eq_true (by omega)
    have dbig' : decide (65536 < s.length) = true := decide_eq_true hbig
    have HE : Hid (R = ([], [], 5, 0)) := by unfold Hid; rw [← HR.out]; unfold parseT; rw [if_pos hbig]
    clear hbig HR
    have c0 := Blk.cell_ (HM0.at_ 0 rfl) 0
    have c1 := Blk.cell_ (HM0.at_ 0 rfl) 1
    simp only [List.getElem?_toArray, List.getElem?_cons_succ, List.getElem?_cons_zero] at c0 c1
    have fc0 := Blk.frozen (HM0.at_ 0 rfl) 0
    have fc1 := Blk.frozen (HM0.at_ 0 rfl) 1
    have b0 := Blk.cell_ (HM0.at_ 1 rfl) 0
    have b1 := Blk.cell_ (HM0.at_ 1 rfl) 1
    simp only [List.getElem?_toArray, List.getElem?_cons_succ, List.getElem?_cons_zero] at b0 b1
    have fb0 := Blk.frozen (HM0.at_ 1 rfl) 0
    have fb1 := Blk.frozen (HM0.at_ 1 rfl) 1
    have HMk := Lib.hid (Mem.nilN (Mem.nilT (((Mem.start (fp := none_) w).box #[.slice none 0 0, .slice none 0 0] 52).box #[.int .i64 5, .int .i64 0] 60)))
    clear HM0
    go_wp2_with fail
    clear c0 c1 fc0 fc1 b0 b1 fb0 fb1
    have HMj := HMk.out
    clear HMk
    have e1 : (w.alloc (.cells #[.slice none 0 0, .slice none 0 0] 52)).heap.size = w.heap.size + 1 := by simp
    rw [e1] at HMj
    have c0 := Blk.cell_ (HMj.at_ 2 rfl) 0
    have c1 := Blk.cell_ (HMj.at_ 2 rfl) 1
    simp only [List.getElem?_toArray, List.getElem?_cons_succ, List.getElem?_cons_zero] at c0 c1
    have b0 := Blk.cell_ (HMj.at_ 3 rfl) 0
    have b1 := Blk.cell_ (HMj.at_ 3 rfl) 1
    simp only [List.getElem?_toArray, List.getElem?_cons_succ, List.getElem?_cons_zero] at b0 b1
    generalize World.alloc _ _ = W at *
    refine bodyPost_ret (v := .tuple #[.agg #[.slice none 0 0, .slice none 0 0], .agg #[.int .i64 5, .int .i64 0]]) (by simp [results, Tryd.results29, go_sem, c0, c1, b0, b1]) rfl ⟨.slice none 0 0, .slice none 0 0, ?_, ?_⟩
    · rw [HE.out]
    · rw [HE.out]; exact HMj.sel [1, 0] (by decide)
  · have dbig : decide ((65536 : Int) < (s.length : Int)) = false := decide_eq_false (by omega)
    have dbig' : decide (65536 < s.length) = false := decide_eq_false hbig
    have HE : Hid (parseF s.length s 1 [] [] = R) := by unfold Hid; rw [← HR.out]; unfold parseT; rw [if_neg hbig]
    have HMa := (HM0.box #[.slice none 0 0, .slice none 0 0] 52)
    have HM1 := (Mem.nilN (Mem.nilT HMa))
    have HM2 := HM1.sel [2, 1, 0, 4, 3] (by decide)
    simp only [List.filterMap_cons, List.filterMap_nil, List.getElem?_cons_succ, List.getElem?_cons_zero] at HM2
    have e1 : (w.alloc (.cells #[.slice none 0 0, .slice none 0 0] 52)).heap.size = w.heap.size + 1 := by simp
    have e2 : ((w.alloc (.cells #[.slice none 0 0, .slice none 0 0] 52)).alloc (.cells #[.int .i64 0, .int .i64 0] 60)).heap.size = w.heap.size + 1 + 1 := by simp
    rw [e2, e1] at HM2
    rw [e2] at HMa
    have a0 := Blk.cell_ (HMa.at_ 0 rfl) 0
    have a1 := Blk.cell_ (HMa.at_ 0 rfl) 1
    simp only [List.getElem?_toArray, List.getElem?_cons_succ, List.getElem?_cons_zero] at a0 a1
    have fa0 := Blk.frozen (HMa.at_ 0 rfl) 0
    have fa1 := Blk.frozen (HMa.at_ 0 rfl) 1
    have HM3 := Lib.hid HM2
    clear hbig HR HM0 HM1 HM2 HMa e1 e2
    go_wp2_with fail
    clear a0 a1 fa0 fa1
    have HM2 := HM3.out
    clear HM3 dbig dbig'
    generalize World.alloc _ _ = W0 at *
    generalize w.heap.size + 1 + 1 = b4 at *
    generalize w.heap.size + 1 = b3 at *
    generalize w.heap.size = b2 at *
    go_loopw [5, 6, 7, 8, 9, 10] (fun v5 v6 v7 v8 v9 v10 wr => ∃ (n k f : Nat) (cs : List (List UInt8)) (ts : List Tou) (cv tv : Value), v5 = .int .i64 (k : Int) ∧ v6 = .int .i64 (f : Int) ∧ f ≤ s.length ∧ (s.drop f).length ≤ n ∧ cs.length ≤ k ∧ ts.length ≤ k ∧ k ≤ f ∧ Hid (parseF n (s.drop f) ((k : Int) + 1) cs ts = R) ∧
      Mem none_ w [Blk b4 52 #[cv, tv], TRow cv cs, NRow tv ts, Blk b2 52 #[.slice none 0 0, .slice none 0 0], Blk b3 60 #[.int .i64 0, .int .i64 0]] wr) (fun _ v6 _ _ _ _ _ => s.length - (intOf v6).toNat)
    case atStart => exact ⟨s.length, 0, 0, [], [], _, _, rfl, rfl, Nat.zero_le _, by simp, Nat.le_refl _, Nat.le_refl _, Nat.le_refl _, HE, HM2⟩
    case round =>
      clear HM2 HE
      obtain ⟨n, k, f, cs, ts, cv, tv, rfl, rfl, hf, hn, hcs, hts, hkf, HF, HM⟩ := hrel
      obtain ⟨A1, d1, rfl, y1, y2⟩ := Row.any_ (HM.at_ 1 rfl)
      obtain ⟨A2, d2, rfl, y3, y4⟩ := Row.any_ (HM.at_ 2 rfl)
      by_cases hlt : f < s.length
      · have hlt' : decide ((f : Int) < (s.length : Int)) = true := decide_eq_true (by omega)
        have hltN : decide (f < s.length) = true := decide_eq_true hlt
        have hwk : IntKind.i64.wrap ((k : Int) + 1) = (k : Int) + 1 := IntWalk.i64_in _ (by omega)
        go_wp2_with fail
        go_loop [7] (fun v7 => ∃ j : Nat, f ≤ j ∧ j ≤ s.length ∧ v7 = .int .i64 (j : Int) ∧ Hid ((10 : UInt8) ∉ (s.drop f).take (j - f))) (fun v => s.length - (intOf v).toNat)
        case atStart => exact ⟨f, Nat.le_refl _, hf, rfl, by unfold Hid; simp⟩
        case round =>
          obtain ⟨j, hj0, hj, rfl, Hno⟩ := hrel
          by_cases hjl : j < s.length
          · have hjl' : decide ((j : Int) < (s.length : Int)) = true := decide_eq_true (by omega)
            have hjlN : decide (j < s.length) = true := decide_eq_true hjl
            have hj' : j < (ofL s).size := by omega
            have g0 : (ofL s)[j]'hj' = s[j] := rfl
            have hdj : s.drop f = (s.drop f).take (j - f) ++ s[j] :: s.drop (j + 1) := by
              conv => lhs; rw [← List.take_append_drop (j - f) (s.drop f)]
              rw [List.drop_drop, show f + (j - f) = j from by omega, List.drop_eq_getElem_cons hjl]
              rfl
            by_cases h10 : s[j] = 10
            · have q0 : (((s[j] : UInt8).toNat : Int) == 10) = true := (byte_eq s[j] 10).trans (decide_eq_true h10)
              have q1 : (((s[j] : UInt8).toNat : Int) != 10) = false := by simp only [bne, q0]; rfl
              rw [h10] at hdj
              obtain ⟨l, hl⟩ : ∃ l, (s.drop f).take (j - f) = l := ⟨_, rfl⟩
              have hll : l.length = j - f := by rw [← hl, List.length_take, List.length_drop]; omega
              rw [hl] at hdj Hno
              have hc : cutB 10 (s.drop f) = some (l, s.drop (j + 1)) := by rw [hdj]; exact cutB_app _ Hno.out
              cases n with
              | zero => rw [List.length_drop] at hn; omega
              | succ n' =>
              have HE0 : Hid (parseG n' l (s.drop (j + 1)) ((k : Int) + 1) cs ts = R) := by unfold Hid; rw [← HF.out, parseF_some hn hc]
              obtain ⟨rest, hrest⟩ : ∃ rest, s.drop (j + 1) = rest := ⟨_, rfl⟩
              rw [hrest] at HE0
              have Hrest : Hid (rest = s.drop (j + 1)) := hrest.symm
              have hwj : IntKind.i64.wrap ((j : Int) - (f : Int)) = ((j - f : Nat) : Int) := by
                rw [show ((j : Int) - (f : Int)) = ((j - f : Nat) : Int) from by omega]; exact IntWalk.i64_in _ (by omega)
              clear hl hc HF Hno h10 hrest
              generalize s[j] = sj at *
              cases l with
              | nil =>
                have HE : Hid (([], [], 3, (k : Int) + 1) = R) := by unfold Hid; rw [← HE0.out]; rfl
                have hge : decide ((2 : Int) ≤ ((j - f : Nat) : Int)) = false := decide_eq_false (by simp at hll; omega)
                clear hdj HE0
                have a0 := Blk.cell_ (HM.at_ 0 rfl) 0
                have a1 := Blk.cell_ (HM.at_ 0 rfl) 1
                simp only [List.getElem?_toArray, List.getElem?_cons_succ, List.getElem?_cons_zero] at a0 a1
                have b0 := Blk.cell_ (HM.at_ 3 rfl) 0
                have b1 := Blk.cell_ (HM.at_ 3 rfl) 1
                simp only [List.getElem?_toArray, List.getElem?_cons_succ, List.getElem?_cons_zero] at b0 b1
                have fb0 := Blk.frozen (HM.at_ 3 rfl) 0
                have fb1 := Blk.frozen (HM.at_ 3 rfl) 1
                have c0 := Blk.cell_ (HM.at_ 4 rfl) 0
                have c1 := Blk.cell_ (HM.at_ 4 rfl) 1
                simp only [List.getElem?_toArray, List.getElem?_cons_succ, List.getElem?_cons_zero] at c0 c1
                have fc0 := Blk.frozen (HM.at_ 4 rfl) 0
                have fc1 := Blk.frozen (HM.at_ 4 rfl) 1
                have HMx := (((HM.sel [3, 4, 1, 2] (by decide)).blkSet 0 (.slice none 0 0)).blkSet 1 (.slice none 0 0)).sel [1, 0, 2, 3] (by decide)
                simp only [List.setIfInBounds_toArray, List.set_cons_zero, List.set_cons_succ, List.filterMap_cons, List.filterMap_nil, List.getElem?_cons_succ, List.getElem?_cons_zero] at HMx
                have e0 := Blk.cell_ (HMx.at_ 0 rfl) 0
                have e1 := Blk.cell_ (HMx.at_ 0 rfl) 1
                simp only [List.getElem?_toArray, List.getElem?_cons_succ, List.getElem?_cons_zero] at e0 e1
                have fe0 := Blk.frozen (HMx.at_ 0 rfl) 0
                have fe1 := Blk.frozen (HMx.at_ 0 rfl) 1
                have HMy := ((HMx.blkSet 0 (.int .i64 3)).blkSet 1 (.int .i64 ((k : Int) + 1)))
                simp only [List.setIfInBounds_toArray, List.set_cons_zero, List.set_cons_succ, List.filterMap_cons, List.filterMap_nil, List.getElem?_cons_succ, List.getElem?_cons_zero] at HMy
                have HMz := Lib.hid HMy
                clear HM HMx HMy
                go_wp2_with fail
                clear a0 a1 b0 b1 fb0 fb1 c0 c1 fc0 fc1 e0 e1 fe0 fe1
                have HM := HMz.out
                clear HMz
                generalize (((wr.setCell ⟨b2, 0, none⟩ (.slice none 0 0)).setCell ⟨b2, 1, none⟩ (.slice none 0 0)).setCell ⟨b3, 0, none⟩ (.int .i64 3)).setCell ⟨b3, 1, none⟩ (.int .i64 ((k : Int) + 1)) = W at *
                have c0 := Blk.cell_ (HM.at_ 0 rfl) 0
                have c1 := Blk.cell_ (HM.at_ 0 rfl) 1
                simp only [List.getElem?_toArray, List.getElem?_cons_succ, List.getElem?_cons_zero] at c0 c1
                have b0 := Blk.cell_ (HM.at_ 1 rfl) 0
                have b1 := Blk.cell_ (HM.at_ 1 rfl) 1
                simp only [List.getElem?_toArray, List.getElem?_cons_succ, List.getElem?_cons_zero] at b0 b1
                refine bodyPost_ret (v := .tuple #[.agg #[.slice none 0 0, .slice none 0 0], .agg #[.int .i64 3, .int .i64 ((k : Int) + 1)]]) (by simp [results, Tryd.results29, go_sem, c0, c1, b0, b1]) rfl ⟨.slice none 0 0, .slice none 0 0, ?_, ?_⟩
                · rw [← HE.out]
                · rw [← HE.out]; exact (Mem.nilN (Mem.nilT HM)).sel [1, 0] (by decide)
              | cons a l1 =>
              cases l1 with
              | nil =>
                have HE : Hid (([], [], 3, (k : Int) + 1) = R) := by unfold Hid; rw [← HE0.out]; rfl
                have hge : decide ((2 : Int) ≤ ((j - f : Nat) : Int)) = false := decide_eq_false (by simp at hll; omega)
                clear hdj HE0
                have a0 := Blk.cell_ (HM.at_ 0 rfl) 0
                have a1 := Blk.cell_ (HM.at_ 0 rfl) 1
                simp only [List.getElem?_toArray, List.getElem?_cons_succ, List.getElem?_cons_zero] at a0 a1
                have b0 := Blk.cell_ (HM.at_ 3 rfl) 0
                have b1 := Blk.cell_ (HM.at_ 3 rfl) 1
                simp only [List.getElem?_toArray, List.getElem?_cons_succ, List.getElem?_cons_zero] at b0 b1
                have fb0 := Blk.frozen (HM.at_ 3 rfl) 0
                have fb1 := Blk.frozen (HM.at_ 3 rfl) 1
                have c0 := Blk.cell_ (HM.at_ 4 rfl) 0
                have c1 := Blk.cell_ (HM.at_ 4 rfl) 1
                simp only [List.getElem?_toArray, List.getElem?_cons_succ, List.getElem?_cons_zero] at c0 c1
                have fc0 := Blk.frozen (HM.at_ 4 rfl) 0
                have fc1 := Blk.frozen (HM.at_ 4 rfl) 1
                have HMx := (((HM.sel [3, 4, 1, 2] (by decide)).blkSet 0 (.slice none 0 0)).blkSet 1 (.slice none 0 0)).sel [1, 0, 2, 3] (by decide)
                simp only [List.setIfInBounds_toArray, List.set_cons_zero, List.set_cons_succ, List.filterMap_cons, List.filterMap_nil, List.getElem?_cons_succ, List.getElem?_cons_zero] at HMx
                have e0 := Blk.cell_ (HMx.at_ 0 rfl) 0
                have e1 := Blk.cell_ (HMx.at_ 0 rfl) 1
                simp only [List.getElem?_toArray, List.getElem?_cons_succ, List.getElem?_cons_zero] at e0 e1
                have fe0 := Blk.frozen (HMx.at_ 0 rfl) 0
                have fe1 := Blk.frozen (HMx.at_ 0 rfl) 1
                have HMy := ((HMx.blkSet 0 (.int .i64 3)).blkSet 1 (.int .i64 ((k : Int) + 1)))
                simp only [List.setIfInBounds_toArray, List.set_cons_zero, List.set_cons_succ, List.filterMap_cons, List.filterMap_nil, List.getElem?_cons_succ, List.getElem?_cons_zero] at HMy
                have HMz := Lib.hid HMy
                clear HM HMx HMy
                go_wp2_with fail
                clear a0 a1 b0 b1 fb0 fb1 c0 c1 fc0 fc1 e0 e1 fe0 fe1
                have HM := HMz.out
                clear HMz
                generalize (((wr.setCell ⟨b2, 0, none⟩ (.slice none 0 0)).setCell ⟨b2, 1, none⟩ (.slice none 0 0)).setCell ⟨b3, 0, none⟩ (.int .i64 3)).setCell ⟨b3, 1, none⟩ (.int .i64 ((k : Int) + 1)) = W at *
                have c0 := Blk.cell_ (HM.at_ 0 rfl) 0
                have c1 := Blk.cell_ (HM.at_ 0 rfl) 1
                simp only [List.getElem?_toArray, List.getElem?_cons_succ, List.getElem?_cons_zero] at c0 c1
                have b0 := Blk.cell_ (HM.at_ 1 rfl) 0
                have b1 := Blk.cell_ (HM.at_ 1 rfl) 1
                simp only [List.getElem?_toArray, List.getElem?_cons_succ, List.getElem?_cons_zero] at b0 b1
                refine bodyPost_ret (v := .tuple #[.agg #[.slice none 0 0, .slice none 0 0], .agg #[.int .i64 3, .int .i64 ((k : Int) + 1)]]) (by simp [results, Tryd.results29, go_sem, c0, c1, b0, b1]) rfl ⟨.slice none 0 0, .slice none 0 0, ?_, ?_⟩
                · rw [← HE.out]
                · rw [← HE.out]; exact (Mem.nilN (Mem.nilT HM)).sel [1, 0] (by decide)
              | cons b tl =>
              have hl2 : tl.length + 2 = j - f := hll
              have hge : decide ((2 : Int) ≤ ((j - f : Nat) : Int)) = true := decide_eq_true (by omega)
              have hf1 : f + 1 < (ofL s).size := by omega
              have hf0 : f < (ofL s).size := by omega
              have gg : ∀ i (h : i < (s.drop f).length), (s.drop f)[i] = s[f + i]'(by rw [List.length_drop] at h; omega) := fun i h => List.getElem_drop
              have ga : (ofL s)[f]'hf0 = a := by
                have h0 : (s.drop f)[0]'(by rw [List.length_drop]; omega) = a := by simp only [hdj]; rfl
                rw [gg] at h0
                exact h0
              have gb : (ofL s)[f + 1]'hf1 = b := by
                have h0 : (s.drop f)[1]'(by rw [List.length_drop]; omega) = b := by simp only [hdj]; rfl
                rw [gg] at h0
                exact h0
              have hw1 : IntKind.i64.wrap ((f : Int) + 1) = ((f + 1 : Nat) : Int) := IntWalk.i64_in _ (by omega)
              have hw2 : IntKind.i64.wrap ((f : Int) + 2) = ((f + 2 : Nat) : Int) := IntWalk.i64_in _ (by omega)
              have hsl : Hid ((ofL s).extract (f + 2) j = ofL tl) := by
                unfold Hid
                rw [extract_ofL]
                congr 1
                have e1 : (s.take j).drop (f + 2) = ((s.drop f).take (j - f)).drop 2 := by
                  rw [← List.drop_take, List.drop_drop]
                rw [e1, hdj, List.take_append_of_le_length (by simp; omega), List.take_of_length_le (by simp; omega)]; rfl
              have hPl := rplain_calls tl wr (by omega)
              rw [← hsl.out] at hPl
              have hfj : f + 2 ≤ j := by omega
              have hfjI : (f : Int) + 2 ≤ (j : Int) := by omega
              clear hdj gg hll hl2
              by_cases hb : b = 32
              · have r1 : ((b.toNat : Int) == 32) = true := (byte_eq b 32).trans (decide_eq_true hb)
                have HE1 : Hid ((match meantL tl with | none => ([], [], 3, (k : Int) + 1) | some t => if a = 67 ∧ ts.isEmpty = true then parseF n' rest ((k : Int) + 1 + 1) (cs ++ [t]) ts else if 0 < kindB a then parseF n' rest ((k : Int) + 1 + 1) cs (ts ++ [(kindB a, t)]) else ([], [], 3, (k : Int) + 1)) = R) := by
                  unfold Hid
                  rw [← HE0.out]
                  unfold parseG
                  simp only [lineR, if_pos hb]
                  cases meantL tl with
                  | none => rfl
                  | some t =>
                    simp only
                    split
                    · rfl
                    · split <;> rfl
                clear hb HE0
                generalize meantL tl = Mo at *
                cases Mo with
                | none =>
                  have HE : Hid (([], [], 3, (k : Int) + 1) = R) := HE1
                  simp only [Option.getD_none, Option.isSome_none] at hPl
                  clear HE1
                  go_wp2_with fail
                  refine hPl.mono ?_
                  rintro e w2 ⟨rfl, HMp⟩
                  have HM' := HM.got HMp
                  simp only [List.nil_append] at HM'
                  clear hPl HM HMp
                  have HM := HM'
                  clear HM'
                  have a0 := Blk.cell_ (HM.at_ 0 rfl) 0
                  have a1 := Blk.cell_ (HM.at_ 0 rfl) 1
                  simp only [List.getElem?_toArray, List.getElem?_cons_succ, List.getElem?_cons_zero] at a0 a1
                  have b0 := Blk.cell_ (HM.at_ 3 rfl) 0
                  have b1 := Blk.cell_ (HM.at_ 3 rfl) 1
                  simp only [List.getElem?_toArray, List.getElem?_cons_succ, List.getElem?_cons_zero] at b0 b1
                  have fb0 := Blk.frozen (HM.at_ 3 rfl) 0
                  have fb1 := Blk.frozen (HM.at_ 3 rfl) 1
                  have c0 := Blk.cell_ (HM.at_ 4 rfl) 0
                  have c1 := Blk.cell_ (HM.at_ 4 rfl) 1
                  simp only [List.getElem?_toArray, List.getElem?_cons_succ, List.getElem?_cons_zero] at c0 c1
                  have fc0 := Blk.frozen (HM.at_ 4 rfl) 0
                  have fc1 := Blk.frozen (HM.at_ 4 rfl) 1
                  have HMx := (((HM.sel [3, 4, 1, 2] (by decide)).blkSet 0 (.slice none 0 0)).blkSet 1 (.slice none 0 0)).sel [1, 0, 2, 3] (by decide)
                  simp only [List.setIfInBounds_toArray, List.set_cons_zero, List.set_cons_succ, List.filterMap_cons, List.filterMap_nil, List.getElem?_cons_succ, List.getElem?_cons_zero] at HMx
                  have e0 := Blk.cell_ (HMx.at_ 0 rfl) 0
                  have e1 := Blk.cell_ (HMx.at_ 0 rfl) 1
                  simp only [List.getElem?_toArray, List.getElem?_cons_succ, List.getElem?_cons_zero] at e0 e1
                  have fe0 := Blk.frozen (HMx.at_ 0 rfl) 0
                  have fe1 := Blk.frozen (HMx.at_ 0 rfl) 1
                  have HMy := ((HMx.blkSet 0 (.int .i64 3)).blkSet 1 (.int .i64 ((k : Int) + 1)))
                  simp only [List.setIfInBounds_toArray, List.set_cons_zero, List.set_cons_succ, List.filterMap_cons, List.filterMap_nil, List.getElem?_cons_succ, List.getElem?_cons_zero] at HMy
                  have HMz := Lib.hid HMy
                  clear HM HMx HMy
                  go_wp2_with fail
                  clear a0 a1 b0 b1 fb0 fb1 c0 c1 fc0 fc1 e0 e1 fe0 fe1
                  have HM := HMz.out
                  clear HMz
                  generalize (((w2.setCell ⟨b2, 0, none⟩ (.slice none 0 0)).setCell ⟨b2, 1, none⟩ (.slice none 0 0)).setCell ⟨b3, 0, none⟩ (.int .i64 3)).setCell ⟨b3, 1, none⟩ (.int .i64 ((k : Int) + 1)) = W at *
                  have c0 := Blk.cell_ (HM.at_ 0 rfl) 0
                  have c1 := Blk.cell_ (HM.at_ 0 rfl) 1
                  simp only [List.getElem?_toArray, List.getElem?_cons_succ, List.getElem?_cons_zero] at c0 c1
                  have b0 := Blk.cell_ (HM.at_ 1 rfl) 0
                  have b1 := Blk.cell_ (HM.at_ 1 rfl) 1
                  simp only [List.getElem?_toArray, List.getElem?_cons_succ, List.getElem?_cons_zero] at b0 b1
                  refine bodyPost_ret (v := .tuple #[.agg #[.slice none 0 0, .slice none 0 0], .agg #[.int .i64 3, .int .i64 ((k : Int) + 1)]]) (by simp [results, Tryd.results29, go_sem, c0, c1, b0, b1]) rfl ⟨.slice none 0 0, .slice none 0 0, ?_, ?_⟩
                  · rw [← HE.out]
                  · rw [← HE.out]; exact (Mem.nilN (Mem.nilT HM)).sel [1, 0] (by decide)
                | some t =>
                  simp only [Option.getD_some, Option.isSome_some] at hPl HE1
                  go_wp2_with fail
                  refine hPl.mono ?_
                  rintro e w2 ⟨rfl, HMp⟩
                  have HM' := HM.got HMp
                  simp only [List.nil_append] at HM'
                  clear hPl HM HMp
                  have HM := HM'
                  clear HM'
                  by_cases h82 : a = 82
                  · have HF : Hid (parseF n' rest ((k : Int) + 1 + 1) cs (ts ++ [(1, t)]) = R) := by
                      unfold Hid; rw [← HE1.out, h82, if_neg (fun e => absurd e.1 (by decide)), if_pos (by decide)]; rfl
                    have r82 : ((a.toNat : Int) == 82) = true := (byte_eq a 82).trans (decide_eq_true h82)
                    clear h82 HE1
                    have HM2 := HM.sel [2, 0, 1, 3, 4] (by decide)
                    simp only [List.setIfInBounds_toArray, List.set_cons_zero, List.set_cons_succ, List.filterMap_cons, List.filterMap_nil, List.getElem?_cons_succ, List.getElem?_cons_zero] at HM2
                    have m0 := Blk.cell_ (HM.at_ 0 rfl) 0
                    have m1 := Blk.cell_ (HM.at_ 0 rfl) 1
                    simp only [List.getElem?_toArray, List.getElem?_cons_succ, List.getElem?_cons_zero] at m0 m1
                    clear HM
                    go_wp2_with (at_builtin; refine wpList_app1 touE rfl _ _ rfl HM2 rfl #[.int .i64 1, .string (ofL t)] _ rfl ?hnb rfl ?h1 ?hb ?_; (case hnb => simp); (case h1 => simp [Value.oneCell']); (case hb => omega); intro v' w' HM3 HU3; obtain ⟨A', c', rfl, x1, x2⟩ := Row.any_ (HM3.at_ 0 rfl); have m0' := Blk.cell_ (HM3.at_ 1 rfl) 1; have fm0' := Blk.frozen (HM3.at_ 1 rfl) 1; simp only [List.getElem?_toArray, List.getElem?_cons_succ, List.getElem?_cons_zero] at m0'; clear m0 m1)
                    have HM4 := (HM3.sel [1, 2, 0, 3, 4] (by decide)).blkSet 1 (.slice A' (ts.length + 1) c')
                    simp only [List.setIfInBounds_toArray, List.set_cons_zero, List.set_cons_succ, List.filterMap_cons, List.filterMap_nil, List.getElem?_cons_succ, List.getElem?_cons_zero] at HM4
                    go_roundw
                    case rel =>
                      refine ⟨n', k + 1, j + 1, cs, ts ++ [(1, t)], .slice A1 cs.length d1, .slice A' (ts.length + 1) c', by go_num, by go_num, by omega, by rw [List.length_drop]; rw [List.length_drop] at hn; omega, by omega, by rw [List.length_append, List.length_singleton]; omega, by omega, ?_, ?_⟩
                      · have e : (((k + 1 : Nat) : Int) + 1) = (k : Int) + 1 + 1 := by omega
                        rw [e, ← Hrest.out]; exact HF
                      · unfold NRow
                        rw [tch_app, List.length_append]
                        exact HM4
                    case measure => simp [intOf]; omega
                  · have r82 : ((a.toNat : Int) == 82) = false := (byte_eq a 82).trans (decide_eq_false h82)
                    by_cases h87 : a = 87
                    · have HF : Hid (parseF n' rest ((k : Int) + 1 + 1) cs (ts ++ [(2, t)]) = R) := by
                        unfold Hid; rw [← HE1.out, h87, if_neg (fun e => absurd e.1 (by decide)), if_pos (by decide)]; rfl
                      have r87 : ((a.toNat : Int) == 87) = true := (byte_eq a 87).trans (decide_eq_true h87)
                      clear h82 h87 HE1
                      have HM2 := HM.sel [2, 0, 1, 3, 4] (by decide)
                      simp only [List.setIfInBounds_toArray, List.set_cons_zero, List.set_cons_succ, List.filterMap_cons, List.filterMap_nil, List.getElem?_cons_succ, List.getElem?_cons_zero] at HM2
                      have m0 := Blk.cell_ (HM.at_ 0 rfl) 0
                      have m1 := Blk.cell_ (HM.at_ 0 rfl) 1
                      simp only [List.getElem?_toArray, List.getElem?_cons_succ, List.getElem?_cons_zero] at m0 m1
                      clear HM
                      go_wp2_with (at_builtin; refine wpList_app1 touE rfl _ _ rfl HM2 rfl #[.int .i64 2, .string (ofL t)] _ rfl ?hnb rfl ?h1 ?hb ?_; (case hnb => simp); (case h1 => simp [Value.oneCell']); (case hb => omega); intro v' w' HM3 HU3; obtain ⟨A', c', rfl, x1, x2⟩ := Row.any_ (HM3.at_ 0 rfl); have m0' := Blk.cell_ (HM3.at_ 1 rfl) 1; have fm0' := Blk.frozen (HM3.at_ 1 rfl) 1; simp only [List.getElem?_toArray, List.getElem?_cons_succ, List.getElem?_cons_zero] at m0'; clear m0 m1)
                      have HM4 := (HM3.sel [1, 2, 0, 3, 4] (by decide)).blkSet 1 (.slice A' (ts.length + 1) c')
                      simp only [List.setIfInBounds_toArray, List.set_cons_zero, List.set_cons_succ, List.filterMap_cons, List.filterMap_nil, List.getElem?_cons_succ, List.getElem?_cons_zero] at HM4
                      go_roundw
                      case rel =>
                        refine ⟨n', k + 1, j + 1, cs, ts ++ [(2, t)], .slice A1 cs.length d1, .slice A' (ts.length + 1) c', by go_num, by go_num, by omega, by rw [List.length_drop]; rw [List.length_drop] at hn; omega, by omega, by rw [List.length_append, List.length_singleton]; omega, by omega, ?_, ?_⟩
                        · have e : (((k + 1 : Nat) : Int) + 1) = (k : Int) + 1 + 1 := by omega
                          rw [e, ← Hrest.out]; exact HF
                        · unfold NRow
                          rw [tch_app, List.length_append]
                          exact HM4
                      case measure => simp [intOf]; omega
                    · have r87 : ((a.toNat : Int) == 87) = false := (byte_eq a 87).trans (decide_eq_false h87)
                      by_cases h68 : a = 68
                      · have HF : Hid (parseF n' rest ((k : Int) + 1 + 1) cs (ts ++ [(3, t)]) = R) := by
                          unfold Hid; rw [← HE1.out, h68, if_neg (fun e => absurd e.1 (by decide)), if_pos (by decide)]; rfl
                        have r68 : ((a.toNat : Int) == 68) = true := (byte_eq a 68).trans (decide_eq_true h68)
                        clear h82 h87 h68 HE1
                        have HM2 := HM.sel [2, 0, 1, 3, 4] (by decide)
                        simp only [List.setIfInBounds_toArray, List.set_cons_zero, List.set_cons_succ, List.filterMap_cons, List.filterMap_nil, List.getElem?_cons_succ, List.getElem?_cons_zero] at HM2
                        have m0 := Blk.cell_ (HM.at_ 0 rfl) 0
                        have m1 := Blk.cell_ (HM.at_ 0 rfl) 1
                        simp only [List.getElem?_toArray, List.getElem?_cons_succ, List.getElem?_cons_zero] at m0 m1
                        clear HM
                        go_wp2_with (at_builtin; refine wpList_app1 touE rfl _ _ rfl HM2 rfl #[.int .i64 3, .string (ofL t)] _ rfl ?hnb rfl ?h1 ?hb ?_; (case hnb => simp); (case h1 => simp [Value.oneCell']); (case hb => omega); intro v' w' HM3 HU3; obtain ⟨A', c', rfl, x1, x2⟩ := Row.any_ (HM3.at_ 0 rfl); have m0' := Blk.cell_ (HM3.at_ 1 rfl) 1; have fm0' := Blk.frozen (HM3.at_ 1 rfl) 1; simp only [List.getElem?_toArray, List.getElem?_cons_succ, List.getElem?_cons_zero] at m0'; clear m0 m1)
                        have HM4 := (HM3.sel [1, 2, 0, 3, 4] (by decide)).blkSet 1 (.slice A' (ts.length + 1) c')
                        simp only [List.setIfInBounds_toArray, List.set_cons_zero, List.set_cons_succ, List.filterMap_cons, List.filterMap_nil, List.getElem?_cons_succ, List.getElem?_cons_zero] at HM4
                        go_roundw
                        case rel =>
                          refine ⟨n', k + 1, j + 1, cs, ts ++ [(3, t)], .slice A1 cs.length d1, .slice A' (ts.length + 1) c', by go_num, by go_num, by omega, by rw [List.length_drop]; rw [List.length_drop] at hn; omega, by omega, by rw [List.length_append, List.length_singleton]; omega, by omega, ?_, ?_⟩
                          · have e : (((k + 1 : Nat) : Int) + 1) = (k : Int) + 1 + 1 := by omega
                            rw [e, ← Hrest.out]; exact HF
                          · unfold NRow
                            rw [tch_app, List.length_append]
                            exact HM4
                        case measure => simp [intOf]; omega
                      · have r68 : ((a.toNat : Int) == 68) = false := (byte_eq a 68).trans (decide_eq_false h68)
                        have hk0 : kindB a = 0 := by unfold kindB; rw [if_neg h82, if_neg h87, if_neg h68]
                        by_cases h67 : a = 67
                        · have r67 : ((a.toNat : Int) == 67) = true := (byte_eq a 67).trans (decide_eq_true h67)
                          by_cases ht0 : ts = []
                          · have r5 : ((ts.length : Int) == 0) = true := by rw [ht0]; rfl
                            have HF : Hid (parseF n' rest ((k : Int) + 1 + 1) (cs ++ [t]) ts = R) := by
                              unfold Hid; rw [← HE1.out, if_pos ⟨h67, by rw [ht0]; rfl⟩]
                            clear h82 h87 h68 h67 HE1 ht0 hk0
                            have n0 := Blk.cell_ (HM.at_ 0 rfl) 0
                            have n1 := Blk.cell_ (HM.at_ 0 rfl) 1
                            simp only [List.getElem?_toArray, List.getElem?_cons_succ, List.getElem?_cons_zero] at n0 n1
                            have HM2 := HM.sel [1, 0, 2, 3, 4] (by decide)
                            simp only [List.setIfInBounds_toArray, List.set_cons_zero, List.set_cons_succ, List.filterMap_cons, List.filterMap_nil, List.getElem?_cons_succ, List.getElem?_cons_zero] at HM2
                            have m0 := Blk.cell_ (HM.at_ 0 rfl) 0
                            have m1 := Blk.cell_ (HM.at_ 0 rfl) 1
                            simp only [List.getElem?_toArray, List.getElem?_cons_succ, List.getElem?_cons_zero] at m0 m1
                            clear HM
                            go_wp2_with (at_builtin; refine wpList_appT strE rfl _ _ rfl HM2 rfl t _ rfl ?hnb ?hb ?_; (case hnb => simp); (case hb => omega); intro v' w' HM3 HU3; obtain ⟨A', c', rfl, x1, x2⟩ := Row.any_ (HM3.at_ 0 rfl); have m0' := Blk.cell_ (HM3.at_ 1 rfl) 0; have fm0' := Blk.frozen (HM3.at_ 1 rfl) 0; simp only [List.getElem?_toArray, List.getElem?_cons_succ, List.getElem?_cons_zero] at m0'; clear m0 m1)
                            have HM4 := (HM3.sel [1, 0, 2, 3, 4] (by decide)).blkSet 0 (.slice A' (cs ++ [t]).length c')
                            simp only [List.setIfInBounds_toArray, List.set_cons_zero, List.set_cons_succ, List.filterMap_cons, List.filterMap_nil, List.getElem?_cons_succ, List.getElem?_cons_zero] at HM4
                            have el : (cs ++ [t]).length = cs.length + 1 := List.length_append ..
                            have HM5 : Mem none_ w [Blk b4 52 #[.slice A' (cs.length + 1) c', .slice A2 ts.length d2], TRow (.slice A' (cs.length + 1) c') (cs ++ [t]), NRow (.slice A2 ts.length d2) ts, Blk b2 52 #[.slice none 0 0, .slice none 0 0], Blk b3 60 #[.int .i64 0, .int .i64 0]] (w'.setCell ⟨b4, 0, none⟩ (.slice A' (cs.length + 1) c')) := by
                              rw [← el]; exact HM4
                            clear el HM4
                            go_roundw
                            case rel =>
                              refine ⟨n', k + 1, j + 1, cs ++ [t], ts, _, _, by go_num, by go_num, by omega, by rw [List.length_drop]; rw [List.length_drop] at hn; omega, by rw [List.length_append, List.length_singleton]; omega, by omega, by omega, ?_, HM5⟩
                              have e : (((k + 1 : Nat) : Int) + 1) = (k : Int) + 1 + 1 := by omega
                              rw [e, ← Hrest.out]; exact HF
                            case measure => simp [intOf]; omega
                          · have r5 : ((ts.length : Int) == 0) = false := by rw [beq_eq_false_iff_ne]; intro e; exact ht0 (List.length_eq_zero_iff.1 (by omega))
                            have HE : Hid (([], [], 3, (k : Int) + 1) = R) := by
                              unfold Hid; rw [← HE1.out, if_neg (fun e => ht0 (List.isEmpty_iff.1 e.2)), hk0, if_neg (by decide)]
                            clear h82 h87 h68 h67 HE1 ht0 hk0
                            have a0 := Blk.cell_ (HM.at_ 0 rfl) 0
                            have a1 := Blk.cell_ (HM.at_ 0 rfl) 1
                            simp only [List.getElem?_toArray, List.getElem?_cons_succ, List.getElem?_cons_zero] at a0 a1
                            have b0 := Blk.cell_ (HM.at_ 3 rfl) 0
                            have b1 := Blk.cell_ (HM.at_ 3 rfl) 1
                            simp only [List.getElem?_toArray, List.getElem?_cons_succ, List.getElem?_cons_zero] at b0 b1
                            have fb0 := Blk.frozen (HM.at_ 3 rfl) 0
                            have fb1 := Blk.frozen (HM.at_ 3 rfl) 1
                            have c0 := Blk.cell_ (HM.at_ 4 rfl) 0
                            have c1 := Blk.cell_ (HM.at_ 4 rfl) 1
                            simp only [List.getElem?_toArray, List.getElem?_cons_succ, List.getElem?_cons_zero] at c0 c1
                            have fc0 := Blk.frozen (HM.at_ 4 rfl) 0
                            have fc1 := Blk.frozen (HM.at_ 4 rfl) 1
                            have HMx := (((HM.sel [3, 4, 1, 2] (by decide)).blkSet 0 (.slice none 0 0)).blkSet 1 (.slice none 0 0)).sel [1, 0, 2, 3] (by decide)
                            simp only [List.setIfInBounds_toArray, List.set_cons_zero, List.set_cons_succ, List.filterMap_cons, List.filterMap_nil, List.getElem?_cons_succ, List.getElem?_cons_zero] at HMx
                            have e0 := Blk.cell_ (HMx.at_ 0 rfl) 0
                            have e1 := Blk.cell_ (HMx.at_ 0 rfl) 1
                            simp only [List.getElem?_toArray, List.getElem?_cons_succ, List.getElem?_cons_zero] at e0 e1
                            have fe0 := Blk.frozen (HMx.at_ 0 rfl) 0
                            have fe1 := Blk.frozen (HMx.at_ 0 rfl) 1
                            have HMy := ((HMx.blkSet 0 (.int .i64 3)).blkSet 1 (.int .i64 ((k : Int) + 1)))
                            simp only [List.setIfInBounds_toArray, List.set_cons_zero, List.set_cons_succ, List.filterMap_cons, List.filterMap_nil, List.getElem?_cons_succ, List.getElem?_cons_zero] at HMy
                            have HMz := Lib.hid HMy
                            clear HM HMx HMy
                            go_wp2_with fail
                            clear a0 a1 b0 b1 fb0 fb1 c0 c1 fc0 fc1 e0 e1 fe0 fe1
                            have HM := HMz.out
                            clear HMz
                            generalize (((w2.setCell ⟨b2, 0, none⟩ (.slice none 0 0)).setCell ⟨b2, 1, none⟩ (.slice none 0 0)).setCell ⟨b3, 0, none⟩ (.int .i64 3)).setCell ⟨b3, 1, none⟩ (.int .i64 ((k : Int) + 1)) = W at *
                            have c0 := Blk.cell_ (HM.at_ 0 rfl) 0
                            have c1 := Blk.cell_ (HM.at_ 0 rfl) 1
                            simp only [List.getElem?_toArray, List.getElem?_cons_succ, List.getElem?_cons_zero] at c0 c1
                            have b0 := Blk.cell_ (HM.at_ 1 rfl) 0
                            have b1 := Blk.cell_ (HM.at_ 1 rfl) 1
                            simp only [List.getElem?_toArray, List.getElem?_cons_succ, List.getElem?_cons_zero] at b0 b1
                            refine bodyPost_ret (v := .tuple #[.agg #[.slice none 0 0, .slice none 0 0], .agg #[.int .i64 3, .int .i64 ((k : Int) + 1)]]) (by simp [results, Tryd.results29, go_sem, c0, c1, b0, b1]) rfl ⟨.slice none 0 0, .slice none 0 0, ?_, ?_⟩
                            · rw [← HE.out]
                            · rw [← HE.out]; exact (Mem.nilN (Mem.nilT HM)).sel [1, 0] (by decide)
                        · have r67 : ((a.toNat : Int) == 67) = false := (byte_eq a 67).trans (decide_eq_false h67)
                          have HE : Hid (([], [], 3, (k : Int) + 1) = R) := by
                            unfold Hid; rw [← HE1.out, if_neg (fun e => h67 e.1), hk0, if_neg (by decide)]
                          clear h82 h87 h68 h67 HE1 hk0
                          have a0 := Blk.cell_ (HM.at_ 0 rfl) 0
                          have a1 := Blk.cell_ (HM.at_ 0 rfl) 1
                          simp only [List.getElem?_toArray, List.getElem?_cons_succ, List.getElem?_cons_zero] at a0 a1
                          have b0 := Blk.cell_ (HM.at_ 3 rfl) 0
                          have b1 := Blk.cell_ (HM.at_ 3 rfl) 1
                          simp only [List.getElem?_toArray, List.getElem?_cons_succ, List.getElem?_cons_zero] at b0 b1
                          have fb0 := Blk.frozen (HM.at_ 3 rfl) 0
                          have fb1 := Blk.frozen (HM.at_ 3 rfl) 1
                          have c0 := Blk.cell_ (HM.at_ 4 rfl) 0
                          have c1 := Blk.cell_ (HM.at_ 4 rfl) 1
                          simp only [List.getElem?_toArray, List.getElem?_cons_succ, List.getElem?_cons_zero] at c0 c1
                          have fc0 := Blk.frozen (HM.at_ 4 rfl) 0
                          have fc1 := Blk.frozen (HM.at_ 4 rfl) 1
                          have HMx := (((HM.sel [3, 4, 1, 2] (by decide)).blkSet 0 (.slice none 0 0)).blkSet 1 (.slice none 0 0)).sel [1, 0, 2, 3] (by decide)
                          simp only [List.setIfInBounds_toArray, List.set_cons_zero, List.set_cons_succ, List.filterMap_cons, List.filterMap_nil, List.getElem?_cons_succ, List.getElem?_cons_zero] at HMx
                          have e0 := Blk.cell_ (HMx.at_ 0 rfl) 0
                          have e1 := Blk.cell_ (HMx.at_ 0 rfl) 1
                          simp only [List.getElem?_toArray, List.getElem?_cons_succ, List.getElem?_cons_zero] at e0 e1
                          have fe0 := Blk.frozen (HMx.at_ 0 rfl) 0
                          have fe1 := Blk.frozen (HMx.at_ 0 rfl) 1
                          have HMy := ((HMx.blkSet 0 (.int .i64 3)).blkSet 1 (.int .i64 ((k : Int) + 1)))
                          simp only [List.setIfInBounds_toArray, List.set_cons_zero, List.set_cons_succ, List.filterMap_cons, List.filterMap_nil, List.getElem?_cons_succ, List.getElem?_cons_zero] at HMy
                          have HMz := Lib.hid HMy
                          clear HM HMx HMy
                          go_wp2_with fail
                          clear a0 a1 b0 b1 fb0 fb1 c0 c1 fc0 fc1 e0 e1 fe0 fe1
                          have HM := HMz.out
                          clear HMz
                          generalize (((w2.setCell ⟨b2, 0, none⟩ (.slice none 0 0)).setCell ⟨b2, 1, none⟩ (.slice none 0 0)).setCell ⟨b3, 0, none⟩ (.int .i64 3)).setCell ⟨b3, 1, none⟩ (.int .i64 ((k : Int) + 1)) = W at *
                          have c0 := Blk.cell_ (HM.at_ 0 rfl) 0
                          have c1 := Blk.cell_ (HM.at_ 0 rfl) 1
                          simp only [List.getElem?_toArray, List.getElem?_cons_succ, List.getElem?_cons_zero] at c0 c1
                          have b0 := Blk.cell_ (HM.at_ 1 rfl) 0
                          have b1 := Blk.cell_ (HM.at_ 1 rfl) 1
                          simp only [List.getElem?_toArray, List.getElem?_cons_succ, List.getElem?_cons_zero] at b0 b1
                          refine bodyPost_ret (v := .tuple #[.agg #[.slice none 0 0, .slice none 0 0], .agg #[.int .i64 3, .int .i64 ((k : Int) + 1)]]) (by simp [results, Tryd.results29, go_sem, c0, c1, b0, b1]) rfl ⟨.slice none 0 0, .slice none 0 0, ?_, ?_⟩
                          · rw [← HE.out]
                          · rw [← HE.out]; exact (Mem.nilN (Mem.nilT HM)).sel [1, 0] (by decide)
              · have r1 : ((b.toNat : Int) == 32) = false := (byte_eq b 32).trans (decide_eq_false hb)
                have HE : Hid (([], [], 3, (k : Int) + 1) = R) := by unfold Hid; rw [← HE0.out]; unfold parseG; simp only [lineR, if_neg hb]
                clear hb HE0 hPl
                have a0 := Blk.cell_ (HM.at_ 0 rfl) 0
                have a1 := Blk.cell_ (HM.at_ 0 rfl) 1
                simp only [List.getElem?_toArray, List.getElem?_cons_succ, List.getElem?_cons_zero] at a0 a1
                have b0 := Blk.cell_ (HM.at_ 3 rfl) 0
                have b1 := Blk.cell_ (HM.at_ 3 rfl) 1
                simp only [List.getElem?_toArray, List.getElem?_cons_succ, List.getElem?_cons_zero] at b0 b1
                have fb0 := Blk.frozen (HM.at_ 3 rfl) 0
                have fb1 := Blk.frozen (HM.at_ 3 rfl) 1
                have c0 := Blk.cell_ (HM.at_ 4 rfl) 0
                have c1 := Blk.cell_ (HM.at_ 4 rfl) 1
                simp only [List.getElem?_toArray, List.getElem?_cons_succ, List.getElem?_cons_zero] at c0 c1
                have fc0 := Blk.frozen (HM.at_ 4 rfl) 0
                have fc1 := Blk.frozen (HM.at_ 4 rfl) 1
                have HMx := (((HM.sel [3, 4, 1, 2] (by decide)).blkSet 0 (.slice none 0 0)).blkSet 1 (.slice none 0 0)).sel [1, 0, 2, 3] (by decide)
                simp only [List.setIfInBounds_toArray, List.set_cons_zero, List.set_cons_succ, List.filterMap_cons, List.filterMap_nil, List.getElem?_cons_succ, List.getElem?_cons_zero] at HMx
                have e0 := Blk.cell_ (HMx.at_ 0 rfl) 0
                have e1 := Blk.cell_ (HMx.at_ 0 rfl) 1
                simp only [List.getElem?_toArray, List.getElem?_cons_succ, List.getElem?_cons_zero] at e0 e1
                have fe0 := Blk.frozen (HMx.at_ 0 rfl) 0
                have fe1 := Blk.frozen (HMx.at_ 0 rfl) 1
                have HMy := ((HMx.blkSet 0 (.int .i64 3)).blkSet 1 (.int .i64 ((k : Int) + 1)))
                simp only [List.setIfInBounds_toArray, List.set_cons_zero, List.set_cons_succ, List.filterMap_cons, List.filterMap_nil, List.getElem?_cons_succ, List.getElem?_cons_zero] at HMy
                have HMz := Lib.hid HMy
                clear HM HMx HMy
                go_wp2_with fail
                clear a0 a1 b0 b1 fb0 fb1 c0 c1 fc0 fc1 e0 e1 fe0 fe1
                have HM := HMz.out
                clear HMz
                generalize (((wr.setCell ⟨b2, 0, none⟩ (.slice none 0 0)).setCell ⟨b2, 1, none⟩ (.slice none 0 0)).setCell ⟨b3, 0, none⟩ (.int .i64 3)).setCell ⟨b3, 1, none⟩ (.int .i64 ((k : Int) + 1)) = W at *
                have c0 := Blk.cell_ (HM.at_ 0 rfl) 0
                have c1 := Blk.cell_ (HM.at_ 0 rfl) 1
                simp only [List.getElem?_toArray, List.getElem?_cons_succ, List.getElem?_cons_zero] at c0 c1
                have b0 := Blk.cell_ (HM.at_ 1 rfl) 0
                have b1 := Blk.cell_ (HM.at_ 1 rfl) 1
                simp only [List.getElem?_toArray, List.getElem?_cons_succ, List.getElem?_cons_zero] at b0 b1
                refine bodyPost_ret (v := .tuple #[.agg #[.slice none 0 0, .slice none 0 0], .agg #[.int .i64 3, .int .i64 ((k : Int) + 1)]]) (by simp [results, Tryd.results29, go_sem, c0, c1, b0, b1]) rfl ⟨.slice none 0 0, .slice none 0 0, ?_, ?_⟩
                · rw [← HE.out]
                · rw [← HE.out]; exact (Mem.nilN (Mem.nilT HM)).sel [1, 0] (by decide)
            · have q0 : (((s[j] : UInt8).toNat : Int) == 10) = false := (byte_eq s[j] 10).trans (decide_eq_false h10)
              have q1 : (((s[j] : UInt8).toNat : Int) != 10) = true := by simp only [bne, q0]; rfl
              have HS : Hid ((10 : UInt8) ∉ (s.drop f).take (j + 1 - f)) := by
                unfold Hid
                have e : (s.drop f).take (j + 1 - f) = (s.drop f).take (j - f) ++ [s[j]] := by
                  rw [show j + 1 - f = (j - f) + 1 from by omega, List.take_succ_eq_append_getElem (by rw [List.length_drop]; omega)]
                  congr 1
                  simp only [List.getElem_drop]
                  congr 2
                  omega
                rw [e]
                simp only [List.mem_append, List.mem_singleton, not_or]
                exact ⟨Hno.out, fun e => h10 e.symm⟩
              clear hdj h10
              generalize s[j] = sj at *
              go_wp2_with fail
              go_round
              case rel => exact ⟨j + 1, by omega, by omega, by go_num, HS⟩
              case measure => simp [intOf]; omega
          · have hjl' : decide ((j : Int) < (s.length : Int)) = false := decide_eq_false (by omega)
            have hjlN : decide (j < s.length) = false := decide_eq_false hjl
            have hfree : (10 : UInt8) ∉ s.drop f := by
              have := Hno.out
              rwa [List.take_of_length_le (by rw [List.length_drop]; omega)] at this
            have HE : Hid (([], [], 3, (k : Int) + 1) = R) := by
              unfold Hid; rw [← HF.out, parseF_none (by intro e; have := congrArg List.length e; rw [List.length_drop] at this; simp at this; omega) hn (cutB_free hfree)]
            clear HF hfree Hno
            have a0 := Blk.cell_ (HM.at_ 0 rfl) 0
            have a1 := Blk.cell_ (HM.at_ 0 rfl) 1
            simp only [List.getElem?_toArray, List.getElem?_cons_succ, List.getElem?_cons_zero] at a0 a1
            have b0 := Blk.cell_ (HM.at_ 3 rfl) 0
            have b1 := Blk.cell_ (HM.at_ 3 rfl) 1
            simp only [List.getElem?_toArray, List.getElem?_cons_succ, List.getElem?_cons_zero] at b0 b1
            have fb0 := Blk.frozen (HM.at_ 3 rfl) 0
            have fb1 := Blk.frozen (HM.at_ 3 rfl) 1
            have c0 := Blk.cell_ (HM.at_ 4 rfl) 0
            have c1 := Blk.cell_ (HM.at_ 4 rfl) 1
            simp only [List.getElem?_toArray, List.getElem?_cons_succ, List.getElem?_cons_zero] at c0 c1
            have fc0 := Blk.frozen (HM.at_ 4 rfl) 0
            have fc1 := Blk.frozen (HM.at_ 4 rfl) 1
            have HMx := (((HM.sel [3, 4, 1, 2] (by decide)).blkSet 0 (.slice none 0 0)).blkSet 1 (.slice none 0 0)).sel [1, 0, 2, 3] (by decide)
            simp only [List.setIfInBounds_toArray, List.set_cons_zero, List.set_cons_succ, List.filterMap_cons, List.filterMap_nil, List.getElem?_cons_succ, List.getElem?_cons_zero] at HMx
            have e0 := Blk.cell_ (HMx.at_ 0 rfl) 0
            have e1 := Blk.cell_ (HMx.at_ 0 rfl) 1
            simp only [List.getElem?_toArray, List.getElem?_cons_succ, List.getElem?_cons_zero] at e0 e1
            have fe0 := Blk.frozen (HMx.at_ 0 rfl) 0
            have fe1 := Blk.frozen (HMx.at_ 0 rfl) 1
            have HMy := ((HMx.blkSet 0 (.int .i64 3)).blkSet 1 (.int .i64 ((k : Int) + 1)))
            simp only [List.setIfInBounds_toArray, List.set_cons_zero, List.set_cons_succ, List.filterMap_cons, List.filterMap_nil, List.getElem?_cons_succ, List.getElem?_cons_zero] at HMy
            have HMz := Lib.hid HMy
            clear HM HMx HMy
            go_wp2_with fail
            clear a0 a1 b0 b1 fb0 fb1 c0 c1 fc0 fc1 e0 e1 fe0 fe1
            have HM := HMz.out
            clear HMz
            generalize (((wr.setCell ⟨b2, 0, none⟩ (.slice none 0 0)).setCell ⟨b2, 1, none⟩ (.slice none 0 0)).setCell ⟨b3, 0, none⟩ (.int .i64 3)).setCell ⟨b3, 1, none⟩ (.int .i64 ((k : Int) + 1)) = W at *
            have c0 := Blk.cell_ (HM.at_ 0 rfl) 0
            have c1 := Blk.cell_ (HM.at_ 0 rfl) 1
            simp only [List.getElem?_toArray, List.getElem?_cons_succ, List.getElem?_cons_zero] at c0 c1
            have b0 := Blk.cell_ (HM.at_ 1 rfl) 0
            have b1 := Blk.cell_ (HM.at_ 1 rfl) 1
            simp only [List.getElem?_toArray, List.getElem?_cons_succ, List.getElem?_cons_zero] at b0 b1
            refine bodyPost_ret (v := .tuple #[.agg #[.slice none 0 0, .slice none 0 0], .agg #[.int .i64 3, .int .i64 ((k : Int) + 1)]]) (by simp [results, Tryd.results29, go_sem, c0, c1, b0, b1]) rfl ⟨.slice none 0 0, .slice none 0 0, ?_, ?_⟩
            · rw [← HE.out]
            · rw [← HE.out]; exact (Mem.nilN (Mem.nilT HM)).sel [1, 0] (by decide)
      · have hlt' : decide ((f : Int) < (s.length : Int)) = false := decide_eq_false (by omega)
        have hltN : decide (f < s.length) = false := decide_eq_false hlt
        have HE : Hid ((cs, ts, 0, 0) = R) := by unfold Hid; rw [← HF.out, List.drop_of_length_le (by omega), parseF_nil]
        clear HF
        have a0 := Blk.cell_ (HM.at_ 0 rfl) 0
        have a1 := Blk.cell_ (HM.at_ 0 rfl) 1
        simp only [List.getElem?_toArray, List.getElem?_cons_succ, List.getElem?_cons_zero] at a0 a1
        have b0 := Blk.cell_ (HM.at_ 3 rfl) 0
        have b1 := Blk.cell_ (HM.at_ 3 rfl) 1
        simp only [List.getElem?_toArray, List.getElem?_cons_succ, List.getElem?_cons_zero] at b0 b1
        have fb0 := Blk.frozen (HM.at_ 3 rfl) 0
        have fb1 := Blk.frozen (HM.at_ 3 rfl) 1
        have c0 := Blk.cell_ (HM.at_ 4 rfl) 0
        have c1 := Blk.cell_ (HM.at_ 4 rfl) 1
        simp only [List.getElem?_toArray, List.getElem?_cons_succ, List.getElem?_cons_zero] at c0 c1
        have fc0 := Blk.frozen (HM.at_ 4 rfl) 0
        have fc1 := Blk.frozen (HM.at_ 4 rfl) 1
        have HMx := (((HM.sel [3, 4, 1, 2] (by decide)).blkSet 0 (.slice A1 cs.length d1)).blkSet 1 (.slice A2 ts.length d2)).sel [1, 0, 2, 3] (by decide)
        simp only [List.setIfInBounds_toArray, List.set_cons_zero, List.set_cons_succ, List.filterMap_cons, List.filterMap_nil, List.getElem?_cons_succ, List.getElem?_cons_zero] at HMx
        have e0 := Blk.cell_ (HMx.at_ 0 rfl) 0
        have e1 := Blk.cell_ (HMx.at_ 0 rfl) 1
        simp only [List.getElem?_toArray, List.getElem?_cons_succ, List.getElem?_cons_zero] at e0 e1
        have fe0 := Blk.frozen (HMx.at_ 0 rfl) 0
        have fe1 := Blk.frozen (HMx.at_ 0 rfl) 1
        have HMy := ((HMx.blkSet 0 (.int .i64 0)).blkSet 1 (.int .i64 0))
        simp only [List.setIfInBounds_toArray, List.set_cons_zero, List.set_cons_succ, List.filterMap_cons, List.filterMap_nil, List.getElem?_cons_succ, List.getElem?_cons_zero] at HMy
        have HMz := Lib.hid HMy
        clear HM HMx HMy
        go_wp2_with fail
        clear a0 a1 b0 b1 fb0 fb1 c0 c1 fc0 fc1 e0 e1 fe0 fe1
        have HM := HMz.out
        clear HMz
        generalize (((wr.setCell ⟨b2, 0, none⟩ (.slice A1 cs.length d1)).setCell ⟨b2, 1, none⟩ (.slice A2 ts.length d2)).setCell ⟨b3, 0, none⟩ (.int .i64 0)).setCell ⟨b3, 1, none⟩ (.int .i64 0) = W at *
        have c0 := Blk.cell_ (HM.at_ 0 rfl) 0
        have c1 := Blk.cell_ (HM.at_ 0 rfl) 1
        simp only [List.getElem?_toArray, List.getElem?_cons_succ, List.getElem?_cons_zero] at c0 c1
        have b0 := Blk.cell_ (HM.at_ 1 rfl) 0
        have b1 := Blk.cell_ (HM.at_ 1 rfl) 1
        simp only [List.getElem?_toArray, List.getElem?_cons_succ, List.getElem?_cons_zero] at b0 b1
        refine bodyPost_ret (v := .tuple #[.agg #[.slice A1 cs.length d1, .slice A2 ts.length d2], .agg #[.int .i64 0, .int .i64 0]]) (by simp [results, Tryd.results29, go_sem, c0, c1, b0, b1]) rfl ⟨.slice A1 cs.length d1, .slice A2 ts.length d2, ?_, ?_⟩
        · rw [← HE.out]
        · rw [← HE.out]; exact HM.sel [2, 3] (by decide)
end Go.Proofs.YtnpehlkdfbmnkaaDoor
