/-
  Layer 18 (stale): the code's Write.
-/
import Derived.Test.YtnpehlkdfbmnkaaDoorStlMe
set_option linter.unusedVariables false
set_option linter.unusedSimpArgs false
set_option maxRecDepth 20000
namespace Go.Proofs.YtnpehlkdfbmnkaaDoor
open Go.RowKit

theorem BldB.keep {b : Nat} {l : List UInt8} {w w' : World} (h : BldB b l w) (hp : Pure w w') : BldB b l w' := by
  have key : ∀ p, Lib.BuilderAt 110 5 b b p (Lib.byteCells l) w → Lib.BuilderAt 110 5 b b p (Lib.byteCells l) w' := by
    rintro p ⟨hB, v, hb, hown, hne⟩
    have hlt : b < w.heap.size := Lib.BuilderAt.lt ⟨hB, v, hb, hown, hne⟩
    refine ⟨hB, v, (hp.block b hlt (fun h => h)).trans hb, ?_, hne⟩
    obtain ⟨h1, h2⟩ := hown
    refine ⟨h1, h2.imp id ?_⟩
    rintro ⟨g, cap, cur, rfl, hg, hh, r⟩
    exact ⟨g, cap, cur, rfl, hg, (hp.block g (by exact (Array.getElem?_eq_some_iff.1 hh).1) (fun h => h)).trans hh, r⟩
  exact h.imp (key _) (key _)
theorem flat_le {α : Type} (f : α → List UInt8) (B : Nat) : ∀ l : List α, (∀ x, x ∈ l → (f x).length ≤ B) → (l.flatMap f).length ≤ B * l.length
  | [], _ => by simp
  | x :: l, h => by
    have := flat_le f B l (fun y hy => h y (by simp [hy]))
    have := h x (by simp)
    rw [List.flatMap_cons, List.length_append, List.length_cons, Nat.mul_add]
    omega
theorem tell_len (s : List UInt8) : (tellL s).length ≤ 2 * s.length := by
  induction s with
  | nil => simp [tellL]
  | cons c s ih =>
    have e : tellL (c :: s) = escB c ++ tellL s := by simp [tellL]
    have : (escB c).length ≤ 2 := by
      unfold escB
      split
      · simp
      · split <;> simp
    rw [e, List.length_append, List.length_cons]
    omega
theorem line_le {k : UInt8} {s : List UInt8} (h : s.length ≤ 2000) : (lineL k s).length ≤ 4003 := by
  have := tell_len s
  simp only [lineL, List.length_cons, List.length_append, List.length_nil]
  omega
theorem pure_below {w a b : World} {B : Nat} (hp : Pure w a) (hb : Below B a b) (h : w.heap.size ≤ B) : Pure w b :=
  ⟨hb.os.trans hp.os, hb.tape.trans hp.tape, hb.output.trans hp.output, Nat.le_trans hp.size hb.size, fun k hk hn => (hb.block k (by omega)).trans (hp.block k hk hn)⟩
theorem below_pure {a b c : World} {B : Nat} (hb : Below B a b) (hp : Pure b c) (hq : B ≤ b.heap.size) : Below B a c := hb.trans (hp.below hq (fun _ _ h => h))
abbrev touL (t : Tou) : List UInt8 := lineL (letterB t.1) t.2
theorem flat_snoc {α : Type} (f : α → List UInt8) (l : List α) (k : Nat) (h : k < l.length) : (l.take (k + 1)).flatMap f = (l.take k).flatMap f ++ f l[k] := by
  rw [List.take_succ_eq_append_getElem h, List.flatMap_append]; simp

set_option maxHeartbeats 8000000 in
theorem swrite_calls (CV TV : Value) (cs : List (List UInt8)) (ts : List Tou) (w : World) (hm : MaxV w) (hC : Txts w CV cs) (hT : Tous w TV ts) (hS : Small cs ts) :
    Calls Tryd.prog 26 #[.agg #[CV, TV]] w fun e w' => e = .returned (.tuple #[.string (ofL (writeT cs ts).1), .int .i64 (writeT cs ts).2]) ∧ Mem none_ w [] w' := by
  obtain ⟨A, c, rfl, g1, g2, g3, g4⟩ := hC
  obtain ⟨A2, c2, rfl, k1, k2, k3, k4⟩ := hT
  unfold maxLen at g2 k2
  have hs1 := hS.c
  have hs2 := hS.t
  have HS := Lib.hid hS
  obtain ⟨R, hR⟩ : ∃ R, writeT cs ts = R := ⟨_, rfl⟩
  rw [hR]
  have HR := Lib.hid hR
  clear hS hR g3 k3
  have HM0 := (Mem.start (fp := none_) w).box #[.slice A cs.length c, .slice A2 ts.length c2] 56
  have z0 := Blk.cell_ (HM0.at_ 0 rfl) 0
  simp only [List.getElem?_toArray, List.getElem?_cons_succ, List.getElem?_cons_zero] at z0
  have hB0 := bnew (w.alloc (.cells #[.slice A cs.length c, .slice A2 ts.length c2] 56))
  have hMo := HM0.alloc (.cells #[.pointer none, .slice none 0 0] 110)
  have y0 := Blk.cell_ (hMo.at_ 0 rfl) 0
  have y1 := Blk.cell_ (hMo.at_ 0 rfl) 1
  simp only [List.getElem?_toArray, List.getElem?_cons_succ, List.getElem?_cons_zero] at y0 y1
  have e1 : (w.alloc (.cells #[.slice A cs.length c, .slice A2 ts.length c2] 56)).heap.size = w.heap.size + 1 := by simp
  have hq0 : w.heap.size + 1 ≤ ((w.alloc (.cells #[.slice A cs.length c, .slice A2 ts.length c2] 56)).alloc (.cells #[.pointer none, .slice none 0 0] 110)).heap.size := by simp
  rw [e1] at hB0
  have hpW : Pure w ((w.alloc (.cells #[.slice A cs.length c, .slice A2 ts.length c2] 56)).alloc (.cells #[.pointer none, .slice none 0 0] 110)) := hMo.mu
  clear HM0 hMo e1
  go_enter Tryd.func26, Tryd.ntmps26
  go_wp2_with fail
  clear y0 z0
  have hwb : w.heap.size ≤ w.heap.size + 1 := by omega
  have hnb : w.heap.size < w.heap.size + 1 := by omega
  generalize hW1 : World.alloc _ (.cells #[.pointer none, .slice none 0 0] 110) = W1 at *
  clear hW1
  generalize w.heap.size + 1 = bb at *
  generalize hnn : w.heap.size = nb at hnb y1 ⊢
  clear hnn
  go_loopw [6, 12] (fun v6 v12 wr => ∃ k : Nat, k ≤ cs.length ∧ v12 = .int .i64 k ∧ BldB bb ((cs.take k).flatMap (lineL 67)) wr ∧ Below bb W1 wr ∧ bb ≤ wr.heap.size) (fun _ v _ => cs.length - (intOf v).toNat)
  case atStart => exact ⟨0, Nat.zero_le _, rfl, by simpa using hB0, Below.refl _ _, hq0⟩
  case round =>
    clear hB0 hq0
    obtain ⟨k, hk, rfl, hB, hb, hq⟩ := hrel
    have hp := pure_below hpW hb hwb
    by_cases hlt : k < cs.length
    · have hlt' : decide ((k : Int) < (cs.length : Int)) = true := decide_eq_true (by omega)
      have hltN : decide (k < cs.length) = true := decide_eq_true hlt
      obtain ⟨b, o, rfl, hcells⟩ := g4.resolve_left (by omega)
      have hx0 : wr.cell? ⟨b, o + k, none⟩ = some (.string (ofL cs[k])) := hp.cell (hcells k _ (tx_get hlt))
      have hxb := HS.out.cl cs[k] (List.getElem_mem hlt)
      have hsn := flat_snoc (lineL 67) cs k hlt
      have hal : ((cs.take k).flatMap (lineL 67)).length ≤ 4003 * 300 := by
        have h1 := flat_le (lineL 67) 4003 (cs.take k) (fun x hx => line_le (HS.out.cl x (List.mem_of_mem_take hx)))
        rw [List.length_take] at h1
        have h2 : 4003 * min k cs.length ≤ 4003 * 300 := Nat.mul_le_mul_left _ (by omega)
        omega
      have Hsn := Lib.hid hsn
      clear hcells g4 hsn
      generalize cs[k] = x at *
      generalize (cs.take k).flatMap (lineL 67) = acc at *
      have hTo := told_calls x wr (MaxV.pure hp hm) (by omega)
      have htl := tell_len x
      have a1 : ∀ wx, (Op.stringOp .add ⟨#[67, 32]⟩ (ofL (tellL x))).run Tryd.prog wx = .ok (.string (ofL ([67, 32] ++ tellL x))) wx := add_run [67, 32] (tellL x) (by show 2 + _ ≤ _; omega)
      have a2 : ∀ wx, (Op.stringOp .add (ofL ([67, 32] ++ tellL x)) ⟨#[10]⟩).run Tryd.prog wx = .ok (.string (ofL (([67, 32] ++ tellL x) ++ [10]))) wx := add_run ([67, 32] ++ tellL x) [10] (by rw [List.length_append]; show 2 + _ + 1 ≤ _; omega)
      have eL : ([67, 32] ++ tellL x) ++ [10] = lineL 67 x := by simp [lineL]
      have hLl : (lineL 67 x).length ≤ 4003 := line_le hxb
      rw [eL] at a2
      have hWs := fun wx (h1 : BldB bb acc wx) (h2 : bb ≤ wx.heap.size) => bws_calls bb acc (lineL 67 x) wx h1 (by omega) h2
      clear eL htl hLl hxb
      generalize lineL 67 x = Lx at *
      generalize [67, 32] ++ tellL x = Px at *
      generalize tellL x = Tx at *
      go_wp2_with fail
      refine hTo.mono ?_
      rintro e w2 ⟨rfl, hp2⟩
      have hB2 := hB.keep hp2
      have hq2 := Nat.le_trans hq hp2.size
      have hb2 := below_pure hb hp2 hq
      have hW2 := hWs w2 hB2 hq2
      clear hTo hWs hB hq hb hp hp2 hx0
      go_wp2_with fail
      refine hW2.mono ?_
      rintro e w3 ⟨rfl, hB3, hb3⟩
      have hq3 := Nat.le_trans hq2 hb3.size
      have hb4 := hb2.trans hb3
      clear hW2 hB2 hq2 hb2 hb3
      go_wp2_with fail
      go_roundw
      case rel => exact ⟨k + 1, by omega, by go_num, by rw [Hsn.out]; exact hB3, hb4, hq3⟩
      case measure => simp [intOf]; omega
    · have e : k = cs.length := by omega
      subst e
      rw [List.take_length] at hB
      have x1 : wr.cell? ⟨nb, 1, none⟩ = some (.slice A2 ts.length c2) := cell_of_block (hb.block _ hnb) y1
      have hcl : (cs.flatMap (lineL 67)).length ≤ 4003 * 300 := by
        have h1 := flat_le (lineL 67) 4003 cs (fun x hx => line_le (HS.out.cl x hx))
        have h2 : 4003 * cs.length ≤ 4003 * 300 := Nat.mul_le_mul_left _ (by omega)
        omega
      have HR2 : Hid ((if ts.any (fun t => decide (badK t.1)) = true then ([], 3) else if 65536 < (cs.flatMap (lineL 67) ++ ts.flatMap touL).length then ([], 5) else (cs.flatMap (lineL 67) ++ ts.flatMap touL, 0)) = R) := HR.out
      clear y1 HR
      generalize cs.flatMap (lineL 67) = pre at *
      go_wp2_with fail
      clear x1
      go_loopw [8, 25] (fun v8 v25 wr => ∃ k : Nat, k ≤ ts.length ∧ v25 = .int .i64 k ∧ BldB bb (pre ++ (ts.take k).flatMap touL) wr ∧ Below bb W1 wr ∧ bb ≤ wr.heap.size ∧ Hid (∀ x, x ∈ ts.take k → ¬ badK x.1)) (fun _ v _ => ts.length - (intOf v).toNat)
      case atStart => exact ⟨0, Nat.zero_le _, rfl, by simpa using hB, hb, hq, fun x hx => by cases hx⟩
      case round =>
        clear hB hb hq hp
        obtain ⟨k, hk, rfl, hB, hb, hq, Hg⟩ := hrel
        have hp := pure_below hpW hb hwb
        have hal : (pre ++ (ts.take k).flatMap touL).length ≤ 4003 * 600 := by
          have h1 := flat_le touL 4003 (ts.take k) (fun x hx => line_le (HS.out.tl x (List.mem_of_mem_take hx)))
          rw [List.length_take] at h1
          have h2 : 4003 * min k ts.length ≤ 4003 * 300 := Nat.mul_le_mul_left _ (by omega)
          rw [List.length_append]
          omega
        by_cases hlt : k < ts.length
        · have hlt' : decide ((k : Int) < (ts.length : Int)) = true := decide_eq_true (by omega)
          have hltN : decide (k < ts.length) = true := decide_eq_true hlt
          obtain ⟨b, o, rfl, hcells⟩ := k4.resolve_left (by omega)
          have pg := tch_get hlt
          have hx0 : wr.cell? ⟨b, o + k * 2, none⟩ = some (.int .i64 ts[k].1) := hp.cell (hcells _ _ pg.1)
          have hx1 : wr.cell? ⟨b, o + k * 2 + 1, none⟩ = some (.string (ofL ts[k].2)) := hp.cell (hcells _ _ pg.2)
          have hxb := HS.out.tl ts[k] (List.getElem_mem hlt)
          have hin : ts[k] ∈ ts := List.getElem_mem hlt
          have Hin := Lib.hid hin
          have hsn := flat_snoc touL ts k hlt
          have Hsn := Lib.hid hsn
          have HSn : Hid (ts.take (k + 1) = ts.take k ++ [ts[k]]) := List.take_succ_eq_append_getElem hlt
          clear hcells k4 pg hsn hin
          generalize ts[k] = x at *
          obtain ⟨xk, xp⟩ := x
          simp only at hx0 hx1 hxb
          have HM := (Mem.start (fp := none_) wr)
          have HMx := HM.box #[.int .i64 0, .string ⟨#[]⟩] 106
          have HMy := HM.box #[.int .i64 xk, .string (ofL xp)] 106
          have z0 := Blk.cell_ (HMx.at_ 0 rfl) 0
          have z1 := Blk.cell_ (HMx.at_ 0 rfl) 1
          have f0 := Blk.frozen (HMx.at_ 0 rfl) 0
          have f1 := Blk.frozen (HMx.at_ 0 rfl) 1
          have x0 := Blk.cell_ (HMy.at_ 0 rfl) 0
          simp only [List.getElem?_toArray, List.getElem?_cons_succ, List.getElem?_cons_zero] at z0 z1 x0
          have hpy : Pure wr (wr.alloc (.cells #[.int .i64 xk, .string (ofL xp)] 106)) := HMy.mu
          have hBy := hB.keep hpy
          have hby := below_pure hb hpy hq
          have hqy := Nat.le_trans hq hpy.size
          have HMy' := Lib.hid HMy
          clear HM HMx HMy hpy hB hb hq
          by_cases h1 : xk < 1
          · have q1 : decide (xk < 1) = true := decide_eq_true h1
            have HE : Hid (R = ([], 3)) := by
              unfold Hid; rw [← HR2.out, if_pos (List.any_eq_true.2 ⟨_, Hin.out, by simp only [decide_eq_true_eq]; exact .inl h1⟩)]
            have hpf := pure_below hpW hby hwb
            clear h1
            go_wp2_with fail
            refine bodyPost_ret (v := .tuple #[.string ⟨#[]⟩, .int .i64 3]) (by simp [results, Tryd.results26, go_sem]) rfl ⟨by rw [HE.out]; rfl, (Mem.start (fp := none_) w).keep hpf⟩
          · have q1 : decide (xk < 1) = false := decide_eq_false h1
            by_cases h3 : 3 < xk
            · have q3 : decide (3 < xk) = true := decide_eq_true h3
              have HE : Hid (R = ([], 3)) := by
                unfold Hid; rw [← HR2.out, if_pos (List.any_eq_true.2 ⟨_, Hin.out, by simp only [decide_eq_true_eq]; exact .inr h3⟩)]
              have hpf := pure_below hpW hby hwb
              clear h1 h3
              go_wp2_with fail
              refine bodyPost_ret (v := .tuple #[.string ⟨#[]⟩, .int .i64 3]) (by simp [results, Tryd.results26, go_sem]) rfl ⟨by rw [HE.out]; rfl, (Mem.start (fp := none_) w).keep hpf⟩
            · have q3 : decide (3 < xk) = false := decide_eq_false h3
              have Hnb : Hid (¬ badK xk) := by unfold Hid badK; omega
              have hgk : ∀ x, x ∈ ts.take (k + 1) → ¬ badK x.1 := fun x hx => by
                rw [HSn.out] at hx
                rcases List.mem_append.1 hx with hx | hx
                · exact Hg.out x hx
                · rw [List.mem_singleton.1 hx]; exact Hnb.out
              have Hgk := Lib.hid hgk
              have hwk : IntKind.i64.wrap (xk + 1) = xk + 1 := IntWalk.i64_in _ (by omega)
              have hex : ∀ wx, (Instr.slice 9 (.string ⟨#[63, 82, 87, 68]⟩) (some (.int .i64 xk)) (some (.int .i64 (xk + 1))) none).run Tryd.prog wx = .ok (.string (ofL [letterB xk])) wx := fun wx => by
                have h := run_slice_string (P := Tryd.prog) wx 9 ⟨#[63, 82, 87, 68]⟩ .i64 .i64 xk (xk + 1) Tryd.underlying9 (by omega) (by omega) (by show xk + 1 ≤ 4; omega)
                rw [h]
                have hc : xk = 1 ∨ xk = 2 ∨ xk = 3 := by omega
                rcases hc with rfl | rfl | rfl <;> rfl
              have htl := tell_len xp
              have hTo := told_calls xp
              have ad1 : ∀ wx, (Op.stringOp .add (ofL [letterB xk]) ⟨#[32]⟩).run Tryd.prog wx = .ok (.string (ofL ([letterB xk] ++ [32]))) wx := add_run [letterB xk] [32] (by show 1 + 1 ≤ _; omega)
              have ad2 : ∀ wx, (Op.stringOp .add (ofL ([letterB xk] ++ [32])) (ofL (tellL xp))).run Tryd.prog wx = .ok (.string (ofL (([letterB xk] ++ [32]) ++ tellL xp))) wx := add_run ([letterB xk] ++ [32]) (tellL xp) (by show 2 + _ ≤ _; omega)
              have ad3 : ∀ wx, (Op.stringOp .add (ofL (([letterB xk] ++ [32]) ++ tellL xp)) ⟨#[10]⟩).run Tryd.prog wx = .ok (.string (ofL ((([letterB xk] ++ [32]) ++ tellL xp) ++ [10]))) wx := add_run (([letterB xk] ++ [32]) ++ tellL xp) [10] (by rw [List.length_append]; show 2 + _ + 1 ≤ _; omega)
              have eL : (([letterB xk] ++ [32]) ++ tellL xp) ++ [10] = touL (xk, xp) := by simp [touL, lineL]
              have hLl : (touL (xk, xp)).length ≤ 4003 := line_le hxb
              rw [eL] at ad3
              have hWs := fun wx (h1 : BldB bb (pre ++ (ts.take k).flatMap touL) wx) (h2 : bb ≤ wx.heap.size) => bws_calls bb (pre ++ (ts.take k).flatMap touL) (touL (xk, xp)) wx h1 (by omega) h2
              rw [List.append_assoc, ← Hsn.out] at hWs
              have Hx := Lib.hid hxb
              clear htl eL hLl hgk h1 h3 hxb Hg HSn Hsn Hin HR2 hal
              generalize touL (xk, xp) = Lx at *
              generalize ([letterB xk] ++ [32]) ++ tellL xp = P3 at *
              generalize tellL xp = Tx at *
              generalize [letterB xk] ++ [32] = P2 at *
              generalize [letterB xk] = P1 at *
              obtain ⟨fl1, hfl⟩ : ∃ fl1, (ts.take (k + 1)).flatMap touL = fl1 := ⟨_, rfl⟩
              rw [hfl] at hWs
              have Hfl := Lib.hid hfl
              clear hfl
              generalize pre ++ (ts.take k).flatMap touL = acc at *
              go_wp2_with fail
              have HMz := HMy'.out.drew
              have x1 := Blk.cell_ (HMz.at_ 0 rfl) 1
              have x2 := Blk.cell_ (HMz.at_ 0 rfl) 0
              simp only [List.getElem?_toArray, List.getElem?_cons_succ, List.getElem?_cons_zero] at x1 x2
              have hBz : BldB bb acc (World.drew (wr.alloc (.cells #[.int .i64 xk, .string (ofL xp)] 106))) := hBy
              have hbz := hby.trans (Below.refl _ _).drew
              have hqz : bb ≤ (World.drew (wr.alloc (.cells #[.int .i64 xk, .string (ofL xp)] 106))).heap.size := hqy
              clear f0 f1 z0 z1 x0 hx0 hx1 HMy' hBy hby hqy q1 q3
              refine wp_plan [12] (S := fun w' => Hid (w'.cell? ⟨wr.heap.size, 0, none⟩ = some (.int .i64 xk) ∧ w'.cell? ⟨wr.heap.size, 1, none⟩ = some (.string (ofL xp)))) [(.pure, 0), (.load, 1), (.pure, 2), (.load, 3), (.pure, 4), (.pure, 5), (.pure, 6), (.pure, 7), (.load, 8), (.eff, 9), (.pure, 10), (.pure, 11), (.tail, 12)] (by kernel_rfl) rfl (by kernel_rfl) rfl (fun _ _ _ _ _ h => h) (Lib.hid ⟨x2, x1⟩) ?_
              generalize World.drew _ = W at *
              generalize wr.heap.size = tb at *
              repeat (first | (refine plan_pure (v := ?_) (a' := ?_) rfl rfl rfl ?_ ?_ ?_; rotate_left 2; (focus (intro w'; go_simp; with_reducible rfl)); (focus (simp only [Act.put, List.setIfInBounds_toArray, List.set_cons_zero, List.set_cons_succ]; rfl))) | (refine plan_load (v := ?_) (a' := ?_) rfl rfl rfl ?_ ?_ ?_; rotate_left 2; (focus (intro w' hw'; obtain ⟨q0, q1⟩ := hw'.out; clear hw'; go_simp; with_reducible rfl)); (focus (simp only [Act.put, List.setIfInBounds_toArray, List.set_cons_zero, List.set_cons_succ]; rfl))) | (refine plan_skip rfl rfl (by decide +kernel) (by simp only [Act.put, List.setIfInBounds_toArray, List.set_cons_zero, List.set_cons_succ]; rfl) ?_))
              have hpz := pure_below hpW hbz hwb
              have hTo1 := hTo W (MaxV.pure hpz hm) (by have := Hx.out; omega)
              refine plan_eff rfl (fun K hK => ?_)
              go_wp2_with fail
              refine hTo1.mono ?_
              rintro e w2 ⟨rfl, hp2⟩
              have hB2 := hBz.keep hp2
              have hb2 := below_pure hbz hp2 hqz
              have hq2 := Nat.le_trans hqz hp2.size
              have hS2 := Lib.hid (And.intro (hp2.cell x2) (hp2.cell x1))
              clear hTo1 hTo
              go_wp2_with fail
              refine hK _ _ hS2 ?_
              clear hK hS2
              repeat (first | (refine plan_pure (v := ?_) (a' := ?_) rfl rfl rfl ?_ ?_ ?_; rotate_left 2; (focus (intro w'; go_simp; with_reducible rfl)); (focus (simp only [Act.put, List.setIfInBounds_toArray, List.set_cons_zero, List.set_cons_succ]; rfl))) | (refine plan_load (v := ?_) (a' := ?_) rfl rfl rfl ?_ ?_ ?_; rotate_left 2; (focus (intro w' hw'; obtain ⟨q0, q1⟩ := hw'.out; clear hw'; go_simp; with_reducible rfl)); (focus (simp only [Act.put, List.setIfInBounds_toArray, List.set_cons_zero, List.set_cons_succ]; rfl))) | (refine plan_skip rfl rfl (by decide +kernel) (by simp only [Act.put, List.setIfInBounds_toArray, List.set_cons_zero, List.set_cons_succ]; rfl) ?_))
              have hW2 := hWs w2 hB2 hq2
              refine plan_tail rfl (fun K hK => ?_)
              go_wp2_with fail
              refine hW2.mono ?_
              rintro e w3 ⟨rfl, hB3, hb3⟩
              have hb4 := hb2.trans hb3
              have hq3 := Nat.le_trans hq2 hb3.size
              clear hW2 hWs
              go_wp2_with fail
              refine plan_done ?_
              go_wp2_with fail
              go_roundw
              case rel => exact ⟨k + 1, by omega, by go_num, by rw [Hfl.out]; exact hB3, hb4, hq3, Hgk⟩
              case measure => simp [intOf]; omega
        · have hlt' : decide ((k : Int) < (ts.length : Int)) = false := decide_eq_false (by omega)
          have hltN : decide (k < ts.length) = false := decide_eq_false hlt
          have e : k = ts.length := by omega
          subst e
          rw [List.take_length] at hB Hg hal
          have hno : ¬ (ts.any (fun t => decide (badK t.1)) = true) := fun h => by
            obtain ⟨x, hx, hb⟩ := List.any_eq_true.1 h
            exact Hg.out x hx (by simpa using hb)
          have HR3 : Hid ((if 65536 < (pre ++ ts.flatMap touL).length then ([], 5) else (pre ++ ts.flatMap touL, 0)) = R) := by
            unfold Hid; rw [← HR2.out, if_neg hno]
          clear HR2 Hg hno
          generalize pre ++ ts.flatMap touL = T at *
          have hL := blen_calls bb T wr hB
          have hSt := bstr_calls bb T wr hB hq
          by_cases hbig : 65536 < T.length
          · have q1 : decide ((65536 : Int) < (T.length : Int)) = true := decide_eq_true (by omega)
            have q1' : decide (65536 < T.length) = true := decide_eq_true hbig
            have HE : Hid (R = ([], 5)) := by unfold Hid; rw [← HR3.out, if_pos hbig]
            clear hbig HR3
            go_wp2_with fail
            refine hL.mono ?_
            rintro e w2 ⟨rfl, rfl⟩
            go_wp2_with fail
            refine bodyPost_ret (v := .tuple #[.string ⟨#[]⟩, .int .i64 5]) (by simp [results, Tryd.results26, go_sem]) rfl ⟨by rw [HE.out]; rfl, (Mem.start (fp := none_) w).keep hp⟩
          · have q1 : decide ((65536 : Int) < (T.length : Int)) = false := decide_eq_false (by omega)
            have q1' : decide (65536 < T.length) = false := decide_eq_false hbig
            have HE : Hid (R = (T, 0)) := by unfold Hid; rw [← HR3.out, if_neg hbig]
            clear hbig HR3
            go_wp2_with fail
            refine hL.mono ?_
            rintro e w2 ⟨rfl, rfl⟩
            go_wp2_with fail
            refine hSt.mono ?_
            rintro e w3 ⟨rfl, hb3⟩
            have hpf := pure_below hpW (hb.trans hb3) hwb
            go_wp2_with fail
            refine bodyPost_ret (v := .tuple #[.string (ofL T), .int .i64 0]) (by simp [results, Tryd.results26, go_sem]) rfl ⟨by rw [HE.out], (Mem.start (fp := none_) w).keep hpf⟩
end Go.Proofs.YtnpehlkdfbmnkaaDoor
