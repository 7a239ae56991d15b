/-
  The walks of layer 19 (plan): Start, skip, Finish, Stop.
-/
import Derived.Test.YtcbhdjpigadhmaaPlanJ
set_option linter.unusedVariables false
set_option linter.unusedSimpArgs false
namespace Go.Proofs.Ytcbhdjpigadhmaa
open Go.RowKit

theorem place_of {s : PS} (hG : PG s) {x : ByteArray} {i : Int} (h : mget s.at_ x = some i) : ∃ k : Nat, i = (k : Int) ∧ k < s.names.length := by
  obtain ⟨hi0, hin⟩ := hG.at1 x i h
  exact ⟨i.toNat, by omega, (List.getElem?_eq_some_iff.1 hin).1⟩
theorem st_cell {b : Nat} {V : PV} {s : PS} {w : World} (hC : (PlanC b V s).ok w) (hG : PG s) {i : Nat} (hi : i < s.names.length) :
    ∃ sb sc, w.cell? ⟨b, 5, none⟩ = some (.slice (some ⟨sb, 0, none⟩) s.states.length sc) ∧ w.cell? ⟨sb, i, none⟩ = some (.int .i64 (stD s i)) ∧ s.states.length ≤ sc ∧ sc ≤ maxLen := by
  have hl1 := hG.st1
  have hl2 := hG.st2
  have hP := PlanC.reads hC
  obtain ⟨sb, sc, evS, nS1, nS2⟩ := Row.at_ hP.st (by omega)
  have hil : i < s.states.length := by omega
  have hb1 := hP.st
  rw [evS] at hb1
  have y0 := hP.c5
  rw [evS] at y0
  have y1 := IRow.cell hb1 rfl hil
  have hxs : s.states[i] = stD s i := by unfold stD; rw [Int.toNat_natCast, List.getD_eq_getElem?_getD, List.getElem?_eq_getElem hil]; rfl
  rw [hxs] at y1
  exact ⟨sb, sc, y0, y1, nS1, nS2⟩

theorem Start_calls (b : Nat) (V : PV) (s : PS) (x : ByteArray) (w : World) (hC : (PlanC b V s).ok w) (hG : PG s) :
    Calls Try.prog 16 #[.pointer (some ⟨b, 0, none⟩), .string x] w fun e w' => e = .returned (.int .i64 (startS s x).2) ∧ Mem (PlanC b V s).fp w [PlanC b V (startS s x).1] w' := by
  have hf := find_calls b V s x w hC
  have HM := Mem.from hC
  unfold startS
  cases hg : mget s.at_ x with
  | none =>
    rw [hg] at hf
    clear hg
    dsimp only
    go_enter Try.func16, Try.ntmps16
    go_wp2_with (go_at_call 35; refine hf.mono ?_; rintro e w' ⟨rfl, rfl⟩)
    go_ret
    exact ⟨rfl, HM⟩
  | some i =>
    rw [hg] at hf
    dsimp only
    obtain ⟨i, rfl, hi⟩ := place_of hG hg
    clear hg
    have hr := ready_calls b V s i w hC hG hi
    cases hrb : readyB s (i : Int) with
    | false =>
      rw [hrb] at hr
      rw [if_neg (by decide)]
      clear hrb
      go_enter Try.func16, Try.ntmps16
      go_wp2_with fail
      refine hf.mono ?_
      rintro e w' ⟨rfl, rfl⟩
      go_wp2_with fail
      refine hr.mono ?_
      rintro e w' ⟨rfl, hp⟩
      have HM2 := HM.keep hp
      clear hp
      go_wp2
      go_ret
      exact ⟨rfl, HM2⟩
    | true =>
      rw [hrb] at hr
      rw [if_pos rfl]
      clear hrb
      go_enter Try.func16, Try.ntmps16
      go_wp2_with fail
      refine hf.mono ?_
      rintro e w' ⟨rfl, rfl⟩
      go_wp2_with fail
      refine hr.mono ?_
      rintro e w' ⟨rfl, hp⟩
      have HM2 := HM.keep hp
      clear hp HM
      go_wp2_with fail
      refine (turn_calls b V s i 1 _ HM2.head hG hi (by omega)).mono ?_
      rintro e w3 ⟨rfl, HM3⟩
      have HM4 := HM2.call1 HM3
      clear HM2 HM3
      go_wp2
      go_ret
      exact ⟨rfl, HM4⟩

theorem PG.skip {s : PS} (hG : PG s) {f i : Nat} (hi : i < s.names.length) (hf : s.names.length ≤ i + f) (h3 : 3 ≤ stD s i) : SkipR s i (skipF f s i) := skipF_spec f s i hG (by omega) (by omega) h3 (by omega)

set_option maxHeartbeats 4000000 in
theorem skip_calls (b : Nat) (V : PV) : ∀ (f : Nat) (s : PS) (i : Nat) (w : World), (PlanC b V s).ok w → PG s → i < s.names.length → s.names.length ≤ i + f → 3 ≤ stD s i →
    Calls Try.prog 37 #[.pointer (some ⟨b, 0, none⟩), .int .i64 i] w fun e w' => e = .returned (.tuple #[]) ∧ Mem (PlanC b V s).fp w [PlanC b V (skipF f s i)] w' := by
  intro f
  induction f with
  | zero => intro s i w _ _ hi hf; omega
  | succ f ih =>
    intro s i w hC hG hi hf h3
    have hn := hG.ok.n512
    have hP := PlanC.reads hC
    have hu1 : s.users.length ≤ s.names.length := Nat.le_of_eq hG.usLen
    have hu2 : s.names.length ≤ s.users.length := Nat.le_of_eq hG.usLen.symm
    have hiu : i < s.users.length := by omega
    obtain ⟨gU, cU, evU, nU1, nU2⟩ := Row.at_ hP.us.head (by omega)
    have lU : s.users.length ≤ V.us.length := Nat.le_of_eq hP.us.nest_len.symm
    have huH := hP.us.head
    rw [evU] at huH
    have e0 := hP.c4
    rw [evU] at e0
    have e2 := nest_cell huH (k := i) (by omega)
    have hk0 := hP.us.nestAt hiu (by omega)
    obtain ⟨Ak, ck, ek, n1, n2⟩ := Row.any_ hk0
    have hlk : s.users[i].length ≤ 600000 := hG.usL _ (List.getElem_mem hiu)
    rw [ek] at e2
    unfold maxLen at n2
    have hus : s.users.getD (i : Int).toNat [] = s.users[i] := by rw [Int.toNat_natCast, List.getD_eq_getElem?_getD, List.getElem?_eq_getElem hiu]; rfl
    have hfin : skipF (f + 1) s i = s.users[i].foldl (fun s k => if stD s k = 0 then skipF f (turnS s k 4) k else s) s := by
      show (s.users.getD (i : Int).toNat []).foldl _ s = _
      rw [hus]
    have hur : ∀ x, x ∈ s.users[i] → (i : Int) < x ∧ x < (s.names.length : Int) := fun x hx => hG.userR (j := i) (by rw [← hus, Int.toNat_natCast] at hx; exact hx)
    have HM0 := Mem.from hC
    have Hfin := Lib.hid hfin
    have Hek := Lib.hid ek
    clear hfin hus huH hk0 evU hP ek
    go_enter Try.func37, Try.ntmps37
    go_wp2
    clear e0 e2
    go_loopw [14] (fun v14 wr => ∃ (j : Nat) (t : PS), j ≤ s.users[i].length ∧ v14 = .int .i64 j ∧ PG t ∧ Hid (Same s t) ∧ Hid ((s.users[i].drop j).foldl (fun s k => if stD s k = 0 then skipF f (turnS s k 4) k else s) t = skipF (f + 1) s i) ∧ Mem (PlanC b V s).fp w [PlanC b V t] wr) (fun v _ => s.users[i].length - (intOf v).toNat)
    case atStart => exact ⟨0, s, Nat.zero_le _, rfl, hG, Lib.hid (Same.refl s), by unfold Hid; rw [Hfin.out]; rfl, HM0⟩
    case round =>
      clear HM0
      obtain ⟨j, t, hj, rfl, hGt, hSt, HF, HM⟩ := hrel
      by_cases hlt : j < s.users[i].length
      · have hCt := HM.head
        have hPt := PlanC.reads hCt
        have htu : t.users = s.users := hSt.out.2.2.2.2
        have htn : t.names = s.names := hSt.out.1
        have hk1 := hPt.us.nestAt (k := i) (by rw [htu]; omega) (by omega)
        rw [Hek.out] at hk1
        have htui : t.users[i]'(by rw [htu]; omega) = s.users[i] := by simp only [htu]
        rw [htui] at hk1
        obtain ⟨gk, ck', e7, _, _⟩ := Row.at_ hk1 (by omega)
        cases e7
        have hx0 : wr.cell? ⟨gk, j, none⟩ = some (.int .i64 s.users[i][j]) := Row.cell hk1 (ints_get hlt)
        have hxr := hur _ (List.getElem_mem hlt)
        have HF1 := HF.out
        rw [List.drop_eq_getElem_cons hlt, List.foldl_cons] at HF1
        have Htn := Lib.hid htn
        clear hPt htu hk1 htui HF htn
        generalize s.users[i][j] = x at *
        obtain ⟨x, rfl⟩ : ∃ m : Nat, x = (m : Int) := ⟨x.toNat, by omega⟩
        have hxn : x < s.names.length := by omega
        have hxt : x < t.names.length := by rw [Htn.out]; exact hxn
        obtain ⟨sb, sc, y0, y1, q1, q2⟩ := st_cell hCt hGt hxt
        have hl1 := hGt.st1
        have hl2 := hGt.st2
        have hxs : x < t.states.length := by omega
        unfold maxLen at q2
        by_cases hz : stD t x = 0
        · rw [if_pos hz] at HF1
          have HF2 := Lib.hid HF1
          have hstu : stD (turnS t x 4) x = 4 := by rw [stD_turn (by omega) (by rw [Int.toNat_natCast]; exact hxs) (by omega), if_pos rfl]
          have hGu : PG (turnS t x 4) := hGt.turn (by omega) (by omega) (by omega) (by omega)
          have hfu : (turnS t x 4).names.length ≤ x + f := by show t.names.length ≤ _; rw [Htn.out]; omega
          have hSk := hGu.skip (f := f) (i := x) hxt hfu (by omega)
          have hSS := Lib.hid (hSt.out.trans ((Same.turn t x 4).trans hSk.sk.same))
          have Hstu := Lib.hid (show 3 ≤ stD (turnS t x 4) x by omega)
          have hxt' : x < (turnS t x 4).names.length := hxt
          rw [hz] at y1
          clear hz HF1 hstu hl1 hl2
          go_wp2_with fail
          have hturn := turn_calls b V t x 4 wr hCt hGt hxt (by omega)
          refine hturn.mono ?_
          rintro e w3 ⟨rfl, HM3⟩
          have HM4 := HM.call1 HM3
          clear hturn HM3 y0 y1 HM hx0
          go_wp2_with fail
          refine (ih (turnS t x 4) x w3 HM4.head hGu hxt' hfu Hstu.out).mono ?_
          rintro e w5 ⟨rfl, HM5⟩
          have HM6 := HM4.call1 HM5
          clear HM4 HM5
          go_wp2
          go_roundw
          case rel => exact ⟨j + 1, _, by omega, by go_num, hSk.pg, hSS, HF2, HM6⟩
          case measure => simp [intOf]; omega
        · rw [if_neg hz] at HF1
          have HF2 := Lib.hid HF1
          clear HF1
          generalize stD t x = y at *
          have hd : (y == 0) = false := by simpa using hz
          have hd2 : decide (y = 0) = false := decide_eq_false hz
          go_wp2
          go_roundw
          case rel => exact ⟨j + 1, t, by omega, by go_num, hGt, hSt, HF2, HM⟩
          case measure => simp [intOf]; omega
      · have e : j = s.users[i].length := by omega
        subst e
        have HF1 := HF.out
        rw [List.drop_length] at HF1
        have HF2 : t = skipF (f + 1) s i := HF1
        clear HF HF1
        subst HF2
        go_wp2
        go_end0
        exact ⟨rfl, HM⟩
end Go.Proofs.Ytcbhdjpigadhmaa
