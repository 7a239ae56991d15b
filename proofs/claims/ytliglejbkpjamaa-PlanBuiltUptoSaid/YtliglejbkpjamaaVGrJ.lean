/-
  Layer 16 (graph): commands, the commands of a suffix rule.
-/
import Derived.Test.YtliglejbkpjamaaVGrI0
set_option linter.unusedVariables false
set_option linter.unusedSimpArgs false
set_option maxRecDepth 100000
namespace Go.Proofs.Ytliglejbkpjamaa
open Go.RowKit

def isWay (f to : ByteArray) (p : ByteArray × ByteArray) : Bool := hasSuf to p.2 && decide (cutRes to p.2 ++ p.1 = f)
def isCmd (suf : List ByteArray) (p : ByteArray × ByteArray) (r : RuleS) : Bool :=
  decide (r.tg.length = 1) && decide (r.cmd.length ≠ 0) && (decide ((sufx (r.tg.headD ⟨#[]⟩) suf suf).2.1 ≠ ⟨#[]⟩) && decide ((sufx (r.tg.headD ⟨#[]⟩) suf suf).1 = p.1) && decide ((sufx (r.tg.headD ⟨#[]⟩) suf suf).2.1 = p.2))
def cmdR (suf : List ByteArray) (p : ByteArray × ByteArray) (raw : List RuleS) : List ByteArray := match raw.find? (isCmd suf p) with | some r => r.cmd | none => []
def cmdW (suf : List ByteArray) (raw : List RuleS) (f to : ByteArray) (ways : List (ByteArray × ByteArray)) : List ByteArray := match ways.find? (isWay f to) with | some p => cmdR suf p raw | none => []
theorem cmdW_step (suf : List ByteArray) (raw : List RuleS) (f to : ByteArray) (ways : List (ByteArray × ByteArray)) (k : Nat) (h : k < ways.length) : cmdW suf raw f to (ways.drop k) = if isWay f to ways[k] then cmdR suf ways[k] raw else cmdW suf raw f to (ways.drop (k + 1)) := by
  unfold cmdW
  rw [List.drop_eq_getElem_cons h, List.find?_cons]
  cases isWay f to ways[k] <;> rfl
theorem cmdR_step (suf : List ByteArray) (p : ByteArray × ByteArray) (raw : List RuleS) (k : Nat) (h : k < raw.length) : cmdR suf p (raw.drop k) = if isCmd suf p raw[k] then raw[k].cmd else cmdR suf p (raw.drop (k + 1)) := by
  unfold cmdR
  rw [List.drop_eq_getElem_cons h, List.find?_cons]
  cases isCmd suf p raw[k] <;> rfl
set_option maxHeartbeats 16000000 in
theorem commands_calls (b : Nat) (RV SV WV : Value) (raw : List RuleS) (suf : List ByteArray) (ways : List (ByteArray × ByteArray)) (f to : ByteArray) (w : World) (hR : Rules w RV raw) (hS : Strs w SV suf) (hW : Prs w WV ways)
    (k0 : w.cell? ⟨b, 0, none⟩ = some RV) (k1 : w.cell? ⟨b, 1, none⟩ = some SV) (k2 : w.cell? ⟨b, 2, none⟩ = some WV)
    (hts : to.size ≤ 1125899906842624) (hws : ∀ p, p ∈ ways → p.1.size ≤ 1125899906842624) (hcs : ∀ r, r ∈ raw → r.cmd.length * 16 ≤ 140737488355328) :
    Calls Try.prog 66 #[.pointer (some ⟨b, 0, none⟩), .string f, .string to] w fun e w' => ∃ v, e = .returned v ∧ Mem none_ w [StrRow v (cmdW suf raw f to ways)] w' := by
  obtain ⟨Aw, cw, rfl, w1, w2, w3, w4⟩ := id hW
  obtain ⟨As, cs, rfl, s1, s2, s3, s4⟩ := id hS
  obtain ⟨Ar, nr, cr, rfl⟩ : ∃ A n c, RV = .slice A n c := by
    obtain ⟨cells, ⟨A, c, rfl, _⟩, _⟩ := hR
    exact ⟨A, _, c, rfl⟩
  obtain ⟨rfl, g1, g2, g3⟩ := hR.get
  unfold maxLen at w2 s2 g2
  obtain ⟨RS, hRS⟩ : ∃ x, cmdW suf raw f to ways = x := ⟨_, rfl⟩
  have HI0 : Hid (RS = cmdW suf raw f to (ways.drop 0)) := hRS.symm
  rw [hRS]
  clear hRS
  have HM0 := Mem.start (fp := none_) w
  go_enter Try.func66, Try.ntmps66
  go_wp2_with fail
  go_loopw [22] (fun v22 wr => ∃ k : Nat, k ≤ ways.length ∧ v22 = .int .i64 k ∧ Hid (RS = cmdW suf raw f to (ways.drop k)) ∧ Mem none_ w [] wr) (fun v _ => ways.length - (intOf v).toNat)
  case atStart => exact ⟨0, Nat.zero_le _, rfl, HI0, HM0⟩
  case round =>
    clear HM0 HI0
    obtain ⟨k, hk, rfl, HI, HM⟩ := hrel
    by_cases hlt : k < ways.length
    · have hlt' : decide ((k : Int) < (ways.length : Int)) = true := decide_eq_true (by omega)
      have hltN : decide (k < ways.length) = true := decide_eq_true hlt
      obtain ⟨bw, ow, rfl, hcw⟩ := w4.resolve_left (by omega)
      have x0 : wr.cell? ⟨bw, ow + k * 2, none⟩ = some (.string ways[k].1) := Pure.cell HM.mu (hcw _ _ (prs_get0 hlt))
      have x1 : wr.cell? ⟨bw, ow + k * 2 + 1, none⟩ = some (.string ways[k].2) := Pure.cell HM.mu (hcw _ _ (prs_get1 hlt))
      have HI1 := Lib.hid (HI.out.trans (cmdW_step suf raw f to ways k hlt))
      have hps := hws _ (List.getElem_mem hlt)
      clear hcw w4 HI
      generalize ways[k] = p at *
      obtain ⟨pa, pb'⟩ := p
      simp only at x0 x1 hps
      have HM2 := HM.box #[.string pa, .string pb'] 93
      have y0 := Blk.cell_ (HM2.at_ 0 rfl) 0
      have y1 := Blk.cell_ (HM2.at_ 0 rfl) 1
      simp only [List.getElem?_toArray, List.getElem?_cons_succ, List.getElem?_cons_zero] at y0 y1
      have k0' := Pure.cell HM2.mu k0
      have HM3 := Lib.hid HM2
      have hsz := cutRes_size to pb'
      have hap : ∀ wx, (Op.stringOp .add (cutRes to pb') pa).run Try.prog wx = .ok (.string (cutRes to pb' ++ pa)) wx := fun wx => run_string_add_sum wx _ _ (by show (cutRes to pb').size + pa.size ≤ _; omega)
      have hCu := fun wx => cutSuffix_calls to pb' wx (by omega)
      obtain ⟨hs, hhs⟩ : ∃ x, hasSuf to pb' = x := ⟨_, rfl⟩
      obtain ⟨root, hroot⟩ : ∃ x, cutRes to pb' = x := ⟨_, rfl⟩
      have hiw : isWay f to (pa, pb') = (hs && decide (root ++ pa = f)) := by rw [← hhs, ← hroot]; rfl
      rw [hhs, hroot] at hCu
      rw [hroot] at hap hsz
      have hiw := Lib.hid hiw
      generalize root ++ pa = ra at *
      clear HM HM2 hhs hroot
      cases hs with
      | false =>
        have HI2 := Lib.hid (HI1.out.trans (show _ = cmdW suf raw f to (ways.drop (k + 1)) from by rw [hiw.out]; rfl))
        clear HI1 hiw k0' y0
        go_wp2_with (go_at_call 79; refine (hCu _).mono ?_; clear hCu; rintro e wx ⟨rfl, rfl⟩)
        go_roundw
        case rel => exact ⟨k + 1, by omega, by go_num, HI2, HM3.out.sel [] (by decide)⟩
        case measure => simp [intOf]; omega
      | true =>
        by_cases hf : ra = f
        · have HI2 : Hid (RS = cmdR suf (pa, pb') (raw.drop 0)) := HI1.out.trans (show _ = cmdR suf (pa, pb') raw from by rw [hiw.out, decide_eq_true hf]; rfl)
          have f1 : (ra.toList == f.toList) = true := by rw [strEq]; exact decide_eq_true hf
          have f2 : (!(ra.toList == f.toList)) = false := by rw [f1]; rfl
          have f3 : ra.toList = f.toList := by rw [hf]
          clear HI1 hiw hf
          go_wp2_with (go_at_call 79; refine (hCu _).mono ?_; clear hCu; rintro e wx ⟨rfl, rfl⟩)
          clear f1 f2 f3 hap y0 y1 x0 x1 k0'
          generalize World.alloc _ _ = W1 at *
          generalize wr.heap.size = pbk at *
          go_loopw [48] (fun v48 wr => ∃ j : Nat, j ≤ raw.length ∧ v48 = .int .i64 j ∧ Hid (RS = cmdR suf (pa, pb') (raw.drop j)) ∧ Mem none_ w [Blk pbk 93 #[.string pa, .string pb']] wr) (fun v _ => raw.length - (intOf v).toNat)
          case atStart => exact ⟨0, Nat.zero_le _, rfl, HI2, HM3.out⟩
          case round =>
            clear HM3 HI2
            obtain ⟨j, hj, rfl, HI, HM⟩ := hrel
            by_cases hjt : j < raw.length
            · have hjt' : decide ((j : Int) < (raw.length : Int)) = true := decide_eq_true (by omega)
              have hjtN : decide (j < raw.length) = true := decide_eq_true hjt
              obtain ⟨br, or', rfl, hcells⟩ := g3.resolve_left (by omega)
              obtain ⟨TV, XV, CV, x0, x1, x2, x3, x4, t1, t2, t3⟩ := hcells j hjt
              have HI1 := Lib.hid (HI.out.trans (cmdR_step suf (pa, pb') raw j hjt))
              have hcl := hcs _ (List.getElem_mem hjt)
              clear hcells g3 HI
              have x0 := Pure.cell HM.mu x0
              have x1 := Pure.cell HM.mu x1
              have x2 := Pure.cell HM.mu x2
              have x3 := Pure.cell HM.mu x3
              have x4 := Pure.cell HM.mu x4
              generalize raw[j] = r at *
              obtain ⟨A2, c2, rfl, _⟩ := t2
              obtain ⟨A1, c1, rfl, p1, p2, p3, p4⟩ := id t1
              obtain ⟨A3, c3, rfl, d1, d2, _⟩ := id t3
              unfold maxLen at p2 d2
              have HM2 := HM.box #[.slice A1 r.tg.length c1, .int .i64 r.kind, .slice A2 r.src.length c2, .slice A3 r.cmd.length c3, .int .i64 r.at_] 25
              have a0 := Blk.cell_ (HM2.at_ 0 rfl) 0
              have a3 := Blk.cell_ (HM2.at_ 0 rfl) 3
              simp only [List.getElem?_toArray, List.getElem?_cons_succ, List.getElem?_cons_zero] at a0 a3
              have HM4 := Lib.hid HM2
              clear HM HM2 p3
              have hic : Hid (isCmd suf (pa, pb') r = (decide (r.tg.length = 1) && decide (r.cmd.length ≠ 0) && (decide ((sufx (r.tg.headD ⟨#[]⟩) suf suf).2.1 ≠ ⟨#[]⟩) && decide ((sufx (r.tg.headD ⟨#[]⟩) suf suf).1 = pa) && decide ((sufx (r.tg.headD ⟨#[]⟩) suf suf).2.1 = pb')))) := by unfold Hid; rfl
              by_cases h1 : r.tg.length = 1
              · obtain ⟨t, ht⟩ := List.length_eq_one_iff.1 h1
                have o1 : ((r.tg.length : Int) != 1) = false := by rw [h1]; rfl
                have o1' : ((r.tg.length : Int) == 1) = true := by rw [h1]; rfl
                by_cases h2 : r.cmd.length = 0
                · have o2 : ((r.cmd.length : Int) == 0) = true := by rw [h2]; rfl
                  have HI2 := Lib.hid (HI1.out.trans (show _ = cmdR suf (pa, pb') (raw.drop (j + 1)) from by rw [hic.out, decide_eq_false (p := r.cmd.length ≠ 0) (fun h => h h2)]; simp))
                  clear HI1 hic h1 h2 ht
                  go_wp2_with fail
                  go_roundw
                  case rel => exact ⟨j + 1, by omega, by go_num, HI2, HM4.out.sel [1] (by decide)⟩
                  case measure => simp [intOf]; omega
                · have o2 : ((r.cmd.length : Int) == 0) = false := by rw [beq_eq_false_iff_ne]; omega
                  obtain ⟨bt, ot, rfl, hct⟩ := p4.resolve_left (by omega)
                  have z0 := Pure.cell HM4.out.mu (hct 0 _ (by rw [ht]; rfl))
                  rw [Nat.add_zero] at z0
                  have ic : Hid (isCmd suf (pa, pb') r = (decide ((sufx t suf suf).2.1 ≠ ⟨#[]⟩) && decide ((sufx t suf suf).1 = pa) && decide ((sufx t suf suf).2.1 = pb'))) := by
                    unfold Hid
                    rw [hic.out, ht, decide_eq_true (p := r.cmd.length ≠ 0) h2]
                    simp
                  have hSx := fun wx (hm : Pure w wx) => sufx_calls t _ suf wx (hS.pure hm)
                  generalize sufx t suf suf = q at *
                  obtain ⟨qa, qb, qc⟩ := q
                  simp only at ic hSx
                  have o3 : decide ((0 : Int) < (r.tg.length : Int)) = true := decide_eq_true (by omega)
                  have o3N : decide (0 < r.tg.length) = true := decide_eq_true (by omega)
                  have o3P : 0 < r.tg.length := by omega
                  have o3Q : (0 : Int) < (r.tg.length : Int) := by omega
                  clear hic h1 h2 ht p4 hct
                  go_wp2_with fail
                  have HM5 := Lib.hid HM4.out.drew
                  have b0 := Blk.cell_ (HM5.out.at_ 0 rfl) 0
                  have hS0 := Lib.hid (show _ ∧ _ ∧ _ from ⟨b0, Pure.cell (Mut.drew (Mut.refl _ _)) z0, Pure.cell HM5.out.mu k1⟩)
                  refine wp_plan [] (S := fun w' => Hid (w'.cell? ⟨wr.heap.size, 0, none⟩ = some (.slice (some ⟨bt, ot, none⟩) r.tg.length c1) ∧ w'.cell? ⟨bt, ot, none⟩ = some (.string t) ∧ w'.cell? ⟨b, 1, none⟩ = some (.slice As suf.length cs))) [(.pure, 0), (.load, 1), (.pure, 2), (.load, 3), (.pure, 4), (.pure, 5), (.pure, 6), (.pure, 7), (.load, 8), (.eff, 9), (.pure, 10), (.pure, 11), (.pure, 12), (.pure, 13), (.pure, 14), (.pure, 15), (.pure, 16)] (by kernel_rfl) rfl (by kernel_rfl) rfl (fun _ _ _ _ _ h => h) hS0 ?_
                  clear HM4 a0 a3 b0 z0 x0 x1 x2 x3 x4
                  generalize wr.heap.size = rb at *
                  generalize World.drew _ = W5 at *
                  have hSy := hSx _ HM5.out.mu
                  clear hSx
                  repeat (first | (refine plan_pure (v := ?_) (a' := ?_) rfl rfl rfl ?_ ?_ ?_; rotate_left 2; (focus (intro w'; go_simp; with_reducible rfl)); (focus (simp only [Act.put, List.setIfInBounds_toArray, List.set_cons_zero, List.set_cons_succ]; rfl))) | (refine plan_load (v := ?_) (a' := ?_) rfl rfl rfl ?_ ?_ ?_; rotate_left 2; (focus (intro w' hw'; obtain ⟨q0, q1, q2⟩ := hw'.out; clear hw'; go_simp; with_reducible rfl)); (focus (simp only [Act.put, List.setIfInBounds_toArray, List.set_cons_zero, List.set_cons_succ]; rfl))) | (refine plan_skip rfl rfl (by decide +kernel) (by simp only [Act.put, List.setIfInBounds_toArray, List.set_cons_zero, List.set_cons_succ]; rfl) ?_))
                  refine plan_eff rfl (fun K hK => ?_)
                  go_wp2_with (go_at_call 42; refine hSy.mono ?_; clear hSy; rintro e w2 ⟨rfl, rfl⟩)
                  refine hK _ _ hS0 ?_
                  clear hK hS0
                  repeat (first | (refine plan_pure (v := ?_) (a' := ?_) rfl rfl rfl ?_ ?_ ?_; rotate_left 2; (focus (intro w'; go_simp; with_reducible rfl)); (focus (simp only [Act.put, List.setIfInBounds_toArray, List.set_cons_zero, List.set_cons_succ]; rfl))) | (refine plan_load (v := ?_) (a' := ?_) rfl rfl rfl ?_ ?_ ?_; rotate_left 2; (focus (intro w' hw'; obtain ⟨q0, q1, q2⟩ := hw'.out; clear hw'; go_simp; with_reducible rfl)); (focus (simp only [Act.put, List.setIfInBounds_toArray, List.set_cons_zero, List.set_cons_succ]; rfl))) | (refine plan_skip rfl rfl (by decide +kernel) (by simp only [Act.put, List.setIfInBounds_toArray, List.set_cons_zero, List.set_cons_succ]; rfl) ?_))
                  refine plan_done ?_
                  have a3 := Blk.cell_ (HM5.out.at_ 0 rfl) 3
                  have y0 := Blk.cell_ (HM5.out.at_ 1 rfl) 0
                  have y1 := Blk.cell_ (HM5.out.at_ 1 rfl) 1
                  simp only [List.getElem?_toArray, List.getElem?_cons_succ, List.getElem?_cons_zero] at a3 y0 y1
                  have hCl := clone_calls _ r.cmd _ (t3.pure HM5.out.mu) hcl
                  have ic1 := ic.out
                  by_cases c1 : qb = ⟨#[]⟩
                  · obtain ⟨r1, r2, r3⟩ := isE c1
                    have HI2 := Lib.hid (HI1.out.trans (show _ = cmdR suf (pa, pb') (raw.drop (j + 1)) from by rw [ic.out, decide_eq_false (p := qb ≠ ⟨#[]⟩) (fun h => h c1)]; simp))
                    clear HI1 ic c1 ic1 hCl
                    go_wp2_with fail
                    go_roundw
                    case rel => exact ⟨j + 1, by omega, by go_num, HI2, HM5.out.sel [1] (by decide)⟩
                    case measure => simp [intOf]; omega
                  · obtain ⟨r1, r2, r3⟩ := neE c1
                    by_cases c2 : qa = pa
                    · have s1 : (qa.toList == pa.toList) = true := by rw [strEq]; exact decide_eq_true c2
                      by_cases c3 : qb = pb'
                      · have s2 : (qb.toList == pb'.toList) = true := by rw [strEq]; exact decide_eq_true c3
                        have HI2 := Lib.hid (HI1.out.trans (show _ = r.cmd from by rw [ic.out, decide_eq_true (p := qb ≠ ⟨#[]⟩) c1, decide_eq_true c2, decide_eq_true c3]; rfl))
                        clear HI1 ic c1 c2 c3 ic1
                        go_wp2_with (go_at_call 29; refine hCl.mono ?_; clear hCl; rintro e w3 ⟨v, rfl, hm⟩; have HM6 := (HM5.out.got hm).sel [0] (by decide); clear HM5 hm)
                        go_ret
                        exact ⟨_, rfl, by rw [HI2.out]; exact HM6⟩
                      · have s2 : (qb.toList == pb'.toList) = false := by rw [strEq]; exact decide_eq_false c3
                        have s3 : ¬ qb.toList = pb'.toList := fun e => by rw [e] at s2; simp at s2
                        have HI2 := Lib.hid (HI1.out.trans (show _ = cmdR suf (pa, pb') (raw.drop (j + 1)) from by rw [ic.out, decide_eq_false c3]; simp))
                        clear HI1 ic c1 c2 c3 ic1 hCl
                        go_wp2_with fail
                        go_roundw
                        case rel => exact ⟨j + 1, by omega, by go_num, HI2, HM5.out.sel [1] (by decide)⟩
                        case measure => simp [intOf]; omega
                    · have s1 : (qa.toList == pa.toList) = false := by rw [strEq]; exact decide_eq_false c2
                      have s3 : ¬ qa.toList = pa.toList := fun e => by rw [e] at s1; simp at s1
                      have HI2 := Lib.hid (HI1.out.trans (show _ = cmdR suf (pa, pb') (raw.drop (j + 1)) from by rw [ic.out, decide_eq_false c2]; simp))
                      clear HI1 ic c1 c2 ic1 hCl
                      go_wp2_with fail
                      go_roundw
                      case rel => exact ⟨j + 1, by omega, by go_num, HI2, HM5.out.sel [1] (by decide)⟩
                      case measure => simp [intOf]; omega
              · have o1 : ((r.tg.length : Int) != 1) = true := by rw [bne_iff_ne]; omega
                have o1' : ((r.tg.length : Int) == 1) = false := by rw [beq_eq_false_iff_ne]; omega
                have HI2 := Lib.hid (HI1.out.trans (show _ = cmdR suf (pa, pb') (raw.drop (j + 1)) from by rw [hic.out, decide_eq_false h1]; rfl))
                clear HI1 hic h1
                go_wp2_with fail
                go_roundw
                case rel => exact ⟨j + 1, by omega, by go_num, HI2, HM4.out.sel [1] (by decide)⟩
                case measure => simp [intOf]; omega
            · have hjt' : decide ((j : Int) < (raw.length : Int)) = false := decide_eq_false (by omega)
              have hjtN : decide (j < raw.length) = false := decide_eq_false hjt
              have HI2 := HI.out
              rw [List.drop_of_length_le (by omega)] at HI2
              have HI3 : Hid (RS = []) := HI2
              clear HI2 HI
              go_wp2_with fail
              go_ret
              exact ⟨_, rfl, by rw [HI3.out]; exact (HM.sel [] (by decide)).nilS⟩
        · have HI2 := Lib.hid (HI1.out.trans (show _ = cmdW suf raw f to (ways.drop (k + 1)) from by rw [hiw.out, decide_eq_false hf]; rfl))
          have f1 : (ra.toList == f.toList) = false := by rw [strEq]; exact decide_eq_false hf
          have f2 : (!(ra.toList == f.toList)) = true := by rw [f1]; rfl
          have f3 : ¬ ra.toList = f.toList := fun e => by rw [e] at f1; simp at f1
          clear HI1 hiw hf k0'
          go_wp2_with (go_at_call 79; refine (hCu _).mono ?_; clear hCu; rintro e wx ⟨rfl, rfl⟩)
          go_roundw
          case rel => exact ⟨k + 1, by omega, by go_num, HI2, HM3.out.sel [] (by decide)⟩
          case measure => simp [intOf]; omega
    · have hlt' : decide ((k : Int) < (ways.length : Int)) = false := decide_eq_false (by omega)
      have hltN : decide (k < ways.length) = false := decide_eq_false hlt
      have HI2 := HI.out
      rw [List.drop_of_length_le (by omega)] at HI2
      have HI3 : Hid (RS = []) := HI2
      clear HI2 HI
      go_wp2_with fail
      go_ret
      exact ⟨_, rfl, by rw [HI3.out]; exact HM.nilS⟩
end Go.Proofs.Ytliglejbkpjamaa
