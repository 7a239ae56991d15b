/-
  Layer 16 (graph): aim.
-/
import Derived.Test.YtliglejbkpjamaaVGrA
set_option linter.unusedVariables false
set_option linter.unusedSimpArgs false
set_option maxRecDepth 20000
namespace Go.Proofs.Ytliglejbkpjamaa
open Go.RowKit

def mainN : ByteArray := ⟨#[46, 77, 65, 73, 78]⟩
def isAim (r : RuleS) : Bool := mem r.tg mainN && decide (0 < r.src.length)
def asGoal (t : ByteArray) : Bool := decide (classB t = 0) && (!(Lib.hasPrefix t.data.toList [46]) || decide (0 ≤ Lib.indexByte t.data.toList 47))
def aim3 (ts : List ByteArray) : List ByteArray := match ts.find? asGoal with | some t => [t] | none => []
def aim1 (m l : List RuleS) : List ByteArray := match m.find? isAim with | some r => r.src.take 1 | none => aim3 (l.flatMap RuleS.tg)
/-- The goals, if none are handed in. -/
def aimB (l : List RuleS) : List ByteArray := aim1 l l
theorem aim1_step (l : List RuleS) (k : Nat) (h : k < l.length) : aim1 (l.drop k) l = if isAim l[k] then l[k].src.take 1 else aim1 (l.drop (k + 1)) l := by
  unfold aim1
  rw [List.drop_eq_getElem_cons h, List.find?_cons]
  cases isAim l[k] <;> rfl
theorem aim1_end (l : List RuleS) (k : Nat) (h : l.length ≤ k) : aim1 (l.drop k) l = aim3 (l.flatMap RuleS.tg) := by
  unfold aim1
  rw [List.drop_of_length_le h]; rfl
theorem aim2_step (l : List RuleS) (k : Nat) (h : k < l.length) : (l.drop k).flatMap RuleS.tg = l[k].tg.drop 0 ++ (l.drop (k + 1)).flatMap RuleS.tg := by
  rw [List.drop_eq_getElem_cons h, List.flatMap_cons, List.drop_zero]
theorem aim3_step (ts rest : List ByteArray) (j : Nat) (h : j < ts.length) : aim3 (ts.drop j ++ rest) = if asGoal ts[j] then [ts[j]] else aim3 (ts.drop (j + 1) ++ rest) := by
  unfold aim3
  rw [List.drop_eq_getElem_cons h, List.cons_append, List.find?_cons]
  cases asGoal ts[j] <;> rfl
set_option maxHeartbeats 8000000 in
theorem aim_calls (V : Value) (l : List RuleS) {w0 : World} (w : World) (hV0 : Rules w0 V l) (hp0 : Pure w0 w) (hb : ∀ r, r ∈ l → ∀ t, t ∈ r.tg → t.size ≤ 4611686018427387904) :
    Calls Try.prog 25 #[V] w fun e w' => ∃ v, e = .returned v ∧ ((Mem none_ w [] w' ∧ Strs w0 v (aimB l)) ∨ Mem none_ w [StrRow v (aimB l)] w') := by
  have hV := hV0.pure hp0
  obtain ⟨A, n, c, rfl⟩ : ∃ A n c, V = .slice A n c := by
    obtain ⟨cells, ⟨A, c, rfl, _⟩, _⟩ := hV
    exact ⟨A, _, c, rfl⟩
  obtain ⟨rfl, g1, g2, g3⟩ := hV.get
  unfold maxLen at g2
  have HM0 := Mem.start (fp := none_) w
  go_enter Try.func25, Try.ntmps25
  go_wp2_with fail
  go_loopw [11] (fun v11 wr => ∃ k : Nat, k ≤ l.length ∧ v11 = .int .i64 k ∧ Hid (aimB l = aim1 (l.drop k) l) ∧ Mem none_ w [] wr) (fun v _ => l.length - (intOf v).toNat)
  case atStart => exact ⟨0, Nat.zero_le _, rfl, rfl, HM0⟩
  case round =>
    clear HM0
    obtain ⟨k, hk, rfl, HI, HM⟩ := hrel
    by_cases hlt : k < l.length
    · have hlt' : decide ((k : Int) < (l.length : Int)) = true := decide_eq_true (by omega)
      have hltN : decide (k < l.length) = true := decide_eq_true hlt
      obtain ⟨b, o, rfl, hcells⟩ := g3.resolve_left (by omega)
      obtain ⟨TV, SV, CV, x0, x1, x2, x3, x4, t1, t2, t3⟩ := hcells k hlt
      have hSt0 : Strs w0 SV l[k].src := by
        obtain ⟨_, _, _, q3⟩ := hV0.get
        obtain ⟨b', o', e', hc'⟩ := q3.resolve_left (by omega)
        cases e'
        obtain ⟨T', S', C', _, _, z2, _, _, _, u2, _⟩ := hc' k hlt
        have z3 := Pure.cell hp0 z2
        rw [x2] at z3
        cases z3
        exact u2
      have hSt0 := Lib.hid hSt0
      have hI := HI.out
      rw [aim1_step l k hlt] at hI
      have HI1 := Lib.hid hI
      clear hI HI hcells g3
      have x0 := Pure.cell HM.mu x0
      have x1 := Pure.cell HM.mu x1
      have x2 := Pure.cell HM.mu x2
      have x3 := Pure.cell HM.mu x3
      have x4 := Pure.cell HM.mu x4
      generalize l[k] = r at *
      obtain ⟨A2, c2, rfl, s1, s2, s3, s4⟩ := t2
      obtain ⟨A1, c1, eT, _⟩ := id t1
      obtain ⟨A3, c3, eC, _⟩ := t3
      subst eT eC
      have HM1 := HM.box #[.slice A1 r.tg.length c1, .int .i64 r.kind, .slice A2 r.src.length c2, .slice A3 r.cmd.length c3, .int .i64 r.at_] 25
      have t1 := t1.pure HM1.mu
      have t2' := Sl.pure HM1.mu (show Strs w (.slice A2 r.src.length c2) r.src from ⟨A2, c2, rfl, s1, s2, s3, s4⟩)
      unfold maxLen at s2
      have a0 := Blk.cell_ (HM1.at_ 0 rfl) 0
      have a2 := Blk.cell_ (HM1.at_ 0 rfl) 2
      simp only [List.getElem?_toArray, List.getElem?_cons_succ, List.getElem?_cons_zero] at a0 a2
      have HM2 := Lib.hid (HM1.sel [] (by decide))
      have hCo := contains_calls _ r.tg mainN _ t1
      obtain ⟨m, hm⟩ : ∃ m, mem r.tg mainN = m := ⟨_, rfl⟩
      rw [hm] at hCo
      unfold isAim at HI1
      rw [hm] at HI1
      have t2' := Lib.hid t2'
      by_cases h0 : 0 < r.src.length
      · have d0 : decide ((0 : Int) < (r.src.length : Int)) = true := decide_eq_true (by omega)
        have d0N : decide (0 < r.src.length) = true := decide_eq_true h0
        rw [d0N] at HI1
        obtain ⟨b2, o2, rfl, hc2⟩ := s4.resolve_left (by omega)
        clear s4 s3 hc2 HM HM1 t1 hm
        cases m with
        | true =>
          have HI2 := Lib.hid (show aimB l = r.src.take 1 from by rw [HI1.out]; rfl)
          clear HI1
          go_wp2_with (go_at_call 41; refine hCo.mono ?_; clear hCo; rintro e w1 ⟨rfl, rfl⟩)
          go_ret
          exact ⟨_, rfl, .inl ⟨HM2.out, by rw [HI2.out]; exact Strs.take (k := 1) hSt0.out (by omega)⟩⟩
        | false =>
          have HI2 := Lib.hid (show aimB l = aim1 (l.drop (k + 1)) l from by rw [HI1.out]; rfl)
          clear HI1
          go_wp2_with (go_at_call 41; refine hCo.mono ?_; clear hCo; rintro e w1 ⟨rfl, rfl⟩)
          go_roundw
          case rel => exact ⟨k + 1, by omega, by go_num, HI2, HM2.out⟩
          case measure => simp [intOf]; omega
      · have d0 : decide ((0 : Int) < (r.src.length : Int)) = false := decide_eq_false (by omega)
        have d0N : decide (0 < r.src.length) = false := decide_eq_false h0
        rw [d0N] at HI1
        clear s4 s3 HM HM1 t1 hm
        have HI2 := Lib.hid (show aimB l = aim1 (l.drop (k + 1)) l from by rw [HI1.out]; cases m <;> rfl)
        clear HI1
        cases m with
        | true =>
          go_wp2_with (go_at_call 41; refine hCo.mono ?_; clear hCo; rintro e w1 ⟨rfl, rfl⟩)
          go_roundw
          case rel => exact ⟨k + 1, by omega, by go_num, HI2, HM2.out⟩
          case measure => simp [intOf]; omega
        | false =>
          go_wp2_with (go_at_call 41; refine hCo.mono ?_; clear hCo; rintro e w1 ⟨rfl, rfl⟩)
          go_roundw
          case rel => exact ⟨k + 1, by omega, by go_num, HI2, HM2.out⟩
          case measure => simp [intOf]; omega
    · have hlt' : decide ((k : Int) < (l.length : Int)) = false := decide_eq_false (by omega)
      have hltN : decide (k < l.length) = false := decide_eq_false hlt
      have hI := HI.out
      rw [aim1_end l k (by omega)] at hI
      unfold aim3 at hI
      have HM1 := HM
      have HI1 := Lib.hid (show aimB l = aim3 ((l.drop 0).flatMap RuleS.tg) from by rw [hI, List.drop_zero]; rfl)
      clear hI HI hk hlt HM
      go_wp2_with fail
      go_loopw [30] (fun v30 wr => ∃ k : Nat, k ≤ l.length ∧ v30 = .int .i64 k ∧ Hid (aimB l = aim3 ((l.drop k).flatMap RuleS.tg)) ∧ Mem none_ w [] wr) (fun v _ => l.length - (intOf v).toNat)
      case atStart => exact ⟨0, Nat.zero_le _, rfl, HI1, HM1⟩
      case round =>
        clear HM1 HI1 hlt' hltN
        obtain ⟨k, hk, rfl, HI, HM⟩ := hrel
        by_cases hlt : k < l.length
        · have hlt' : decide ((k : Int) < (l.length : Int)) = true := decide_eq_true (by omega)
          have hltN : decide (k < l.length) = true := decide_eq_true hlt
          obtain ⟨b, o, rfl, hcells⟩ := g3.resolve_left (by omega)
          obtain ⟨TV, SV, CV, x0, x1, x2, x3, x4, t1, t2, t3⟩ := hcells k hlt
          have hI := HI.out
          rw [aim2_step l k hlt] at hI
          obtain ⟨rest, hrest⟩ : ∃ rest, (l.drop (k + 1)).flatMap RuleS.tg = rest := ⟨_, rfl⟩
          rw [hrest] at hI
          have HR := Lib.hid hrest
          have HI1 := Lib.hid hI
          clear hI HI hcells g3 hrest
          have x0 := Pure.cell HM.mu x0
          have x1 := Pure.cell HM.mu x1
          have x2 := Pure.cell HM.mu x2
          have x3 := Pure.cell HM.mu x3
          have x4 := Pure.cell HM.mu x4
          have hbr := Lib.hid (hb _ (List.getElem_mem hlt))
          generalize l[k] = r at *
          obtain ⟨A2, c2, rfl, s1, s2, s3, s4⟩ := t2
          obtain ⟨A1, c1, rfl, u1, u2, u3, u4⟩ := t1
          obtain ⟨A3, c3, rfl, _⟩ := t3
          unfold maxLen at u2
          have HM1 := HM.box #[.slice A1 r.tg.length c1, .int .i64 r.kind, .slice A2 r.src.length c2, .slice A3 r.cmd.length c3, .int .i64 r.at_] 25
          have a0 := Blk.cell_ (HM1.at_ 0 rfl) 0
          simp only [List.getElem?_toArray, List.getElem?_cons_succ, List.getElem?_cons_zero] at a0
          have HM2 := Lib.hid (HM1.sel [] (by decide))
          clear HM HM1 s1 s2 s3 s4 u3
          go_wp2_with fail
          go_loopw [37] (fun v37 wr => ∃ j : Nat, j ≤ r.tg.length ∧ v37 = .int .i64 j ∧ Hid (aimB l = aim3 (r.tg.drop j ++ rest)) ∧ Mem none_ w [] wr) (fun v _ => r.tg.length - (intOf v).toNat)
          case atStart => exact ⟨0, Nat.zero_le _, rfl, HI1, HM2.out⟩
          case round =>
            clear HI1 HM2 a0 x0 x1 x2 x3 x4
            obtain ⟨j, hj, rfl, HI, HM⟩ := hrel
            by_cases hjt : j < r.tg.length
            · have hjt' : decide ((j : Int) < (r.tg.length : Int)) = true := decide_eq_true (by omega)
              have hjtN : decide (j < r.tg.length) = true := decide_eq_true hjt
              obtain ⟨b1, o1, rfl, hc1⟩ := u4.resolve_left (by omega)
              have y0 := Pure.cell HM.mu (hc1 _ _ (strs_get hjt))
              have hI := HI.out
              rw [aim3_step _ _ j hjt] at hI
              have HI1 := Lib.hid hI
              have hsz := hbr.out _ (List.getElem_mem hjt)
              clear u4 hc1 hI HI
              generalize r.tg[j] = s at *
              have hC := class_calls s wr hsz
              have hP := Try.strings_HasPrefix s ⟨#[46]⟩ wr
              have hT := Try.strings_Contains_one s 47 wr
              have hA : asGoal s = (decide (classB s = 0) && (!(Lib.hasPrefix s.data.toList [46]) || decide (0 ≤ Lib.indexByte s.data.toList 47))) := rfl
              rw [hA] at HI1
              clear hA
              generalize classB s = cv at *
              have eP : Lib.hasPrefix s.data.toList (⟨#[46]⟩ : ByteArray).data.toList = Lib.hasPrefix s.data.toList [46] := rfl
              rw [eP] at hP
              clear eP
              generalize Lib.hasPrefix s.data.toList [46] = pv at *
              generalize decide (0 ≤ Lib.indexByte s.data.toList 47) = tv at *
              by_cases hc : cv = 0
              · subst hc
                cases pv with
                | false =>
                  have HI2 := Lib.hid (show aimB l = [s] from by rw [HI1.out]; rfl)
                  clear HI1
                  go_wp2_with (first | (go_at_call 39; refine hC.mono ?_; clear hC; rintro e w1 ⟨rfl, rfl⟩) | (go_at_call 44; refine hP.mono ?_; clear hP; rintro e w1 ⟨rfl, rfl⟩) | (go_at_call 45; refine hT.mono ?_; clear hT; rintro e w1 ⟨rfl, rfl⟩))
                  go_ret
                  exact ⟨_, rfl, .inr (by rw [HI2.out]; exact HM.lit1 s)⟩
                | true =>
                  cases tv with
                  | true =>
                    have HI2 := Lib.hid (show aimB l = [s] from by rw [HI1.out]; rfl)
                    clear HI1
                    go_wp2_with (first | (go_at_call 39; refine hC.mono ?_; clear hC; rintro e w1 ⟨rfl, rfl⟩) | (go_at_call 44; refine hP.mono ?_; clear hP; rintro e w1 ⟨rfl, rfl⟩) | (go_at_call 45; refine hT.mono ?_; clear hT; rintro e w1 ⟨rfl, rfl⟩))
                    go_ret
                    exact ⟨_, rfl, .inr (by rw [HI2.out]; exact HM.lit1 s)⟩
                  | false =>
                    have HI2 := Lib.hid (show aimB l = aim3 (r.tg.drop (j + 1) ++ rest) from by rw [HI1.out]; rfl)
                    clear HI1
                    go_wp2_with (first | (go_at_call 39; refine hC.mono ?_; clear hC; rintro e w1 ⟨rfl, rfl⟩) | (go_at_call 44; refine hP.mono ?_; clear hP; rintro e w1 ⟨rfl, rfl⟩) | (go_at_call 45; refine hT.mono ?_; clear hT; rintro e w1 ⟨rfl, rfl⟩))
                    go_roundw
                    case rel => exact ⟨j + 1, by omega, by go_num, HI2, HM⟩
                    case measure => simp [intOf]; omega
              · have HI2 := Lib.hid (show aimB l = aim3 (r.tg.drop (j + 1) ++ rest) from by rw [HI1.out, decide_eq_false hc]; rfl)
                clear HI1
                have q1 : (cv == 0) = false := by rw [beq_eq_false_iff_ne]; exact hc
                have q2 : decide (cv = 0) = false := decide_eq_false hc
                go_wp2_with (first | (go_at_call 39; refine hC.mono ?_; clear hC; rintro e w1 ⟨rfl, rfl⟩) | (go_at_call 44; refine hP.mono ?_; clear hP; rintro e w1 ⟨rfl, rfl⟩) | (go_at_call 45; refine hT.mono ?_; clear hT; rintro e w1 ⟨rfl, rfl⟩))
                go_roundw
                case rel => exact ⟨j + 1, by omega, by go_num, HI2, HM⟩
                case measure => simp [intOf]; omega
            · have hjt' : decide ((j : Int) < (r.tg.length : Int)) = false := decide_eq_false (by omega)
              have hjtN : decide (j < r.tg.length) = false := decide_eq_false hjt
              have hI := HI.out
              rw [List.drop_of_length_le (by omega), List.nil_append, ← HR.out] at hI
              have HI1 := Lib.hid hI
              clear hI HI HR
              go_wp2_with fail
              go_roundw
              case rel => exact ⟨k + 1, by omega, by go_num, HI1, HM⟩
              case measure => simp [intOf]; omega
        · have hlt' : decide ((k : Int) < (l.length : Int)) = false := decide_eq_false (by omega)
          have hltN : decide (k < l.length) = false := decide_eq_false hlt
          have hI := HI.out
          rw [List.drop_of_length_le (by omega)] at hI
          have HI1 := Lib.hid (show aimB l = [] from hI)
          clear hI HI hk hlt
          go_wp2_with fail
          go_ret
          exact ⟨_, rfl, .inl ⟨HM, by rw [HI1.out]; exact ⟨none, 0, rfl, Nat.le_refl _, by unfold maxLen; omega, by simp [strs], .inl rfl⟩⟩⟩
end Go.Proofs.Ytliglejbkpjamaa
