/-
  The walks of layer 19 (plan): Finish, Stop.
-/
import Derived.Test.YtcbhdjpigadhmaaPlanL
set_option linter.unusedVariables false
set_option linter.unusedSimpArgs false
namespace Go.Proofs.Ytcbhdjpigadhmaa
open Go.RowKit

set_option maxHeartbeats 2000000 in
theorem Finish_calls (b : Nat) (V : PV) (s : PS) (x : ByteArray) (ok : Bool) (w : World) (hC : (PlanC b V s).ok w) (hG : PG s) :
    Calls Try.prog 15 #[.pointer (some ⟨b, 0, none⟩), .string x, .bool ok] w fun e w' => e = .returned (.int .i64 (finishS s x ok).2) ∧ Mem (PlanC b V s).fp w [PlanC b V (finishS s x ok).1] w' := by
  have hf := find_calls b V s x w hC
  have HM := Mem.from hC
  unfold finishS
  cases hg : mget s.at_ x with
  | none =>
    rw [hg] at hf
    clear hg
    dsimp only
    go_enter Try.func15, Try.ntmps15
    go_wp2_with (go_at_call 35; refine hf.mono ?_; rintro e w' ⟨rfl, rfl⟩)
    go_ret
    exact ⟨rfl, HM⟩
  | some i =>
    rw [hg] at hf
    dsimp only
    obtain ⟨i, rfl, hi⟩ := place_of hG hg
    clear hg
    obtain ⟨sb, sc, y0, y1, q1, q2⟩ := st_cell hC hG hi
    have hl1 := hG.st1
    have hl2 := hG.st2
    have hn := hG.ok.n512
    have hil : i < s.states.length := by omega
    unfold maxLen at q2
    by_cases h1 : stD s i = 1
    · rw [if_pos h1]
      rw [h1] at y1
      clear h1
      cases ok with
      | true =>
        rw [if_pos rfl]
        go_enter Try.func15, Try.ntmps15
        go_wp2_with fail
        refine hf.mono ?_
        rintro e w' ⟨rfl, rfl⟩
        go_wp2_with fail
        refine (turn_calls b V s i 2 _ hC hG hi (by omega)).mono ?_
        rintro e w3 ⟨rfl, HM3⟩
        clear y0 y1
        go_wp2
        go_ret
        exact ⟨rfl, HM3⟩
      | false =>
        rw [if_neg (by decide)]
        have hGu : PG (turnS s i 3) := hG.turn (by omega) (by omega) (by omega) (by omega)
        have hstu : 3 ≤ stD (turnS s i 3) i := by rw [stD_turn (by omega) (by rw [Int.toNat_natCast]; exact hil) (by omega), if_pos rfl]; omega
        have Hstu := Lib.hid hstu
        clear hstu
        go_enter Try.func15, Try.ntmps15
        go_wp2_with fail
        refine hf.mono ?_
        rintro e w' ⟨rfl, rfl⟩
        go_wp2_with fail
        refine (turn_calls b V s i 3 _ hC hG hi (by omega)).mono ?_
        rintro e w3 ⟨rfl, HM3⟩
        clear y0 y1
        go_wp2_with fail
        refine (skip_calls b V s.names.length (turnS s i 3) i w3 HM3.head hGu hi (by show s.names.length ≤ _; omega) Hstu.out).mono ?_
        rintro e w5 ⟨rfl, HM5⟩
        have HM6 := HM3.call1 HM5
        clear HM5 HM3
        go_wp2
        go_ret
        exact ⟨rfl, HM6⟩
    · rw [if_neg h1]
      generalize stD s i = y at *
      have hd : (y == 1) = false := by simpa using h1
      have hd2 : decide (y = 1) = false := decide_eq_false h1
      go_enter Try.func15, Try.ntmps15
      go_wp2_with fail
      refine hf.mono ?_
      rintro e w' ⟨rfl, rfl⟩
      go_wp2
      go_ret
      exact ⟨rfl, HM⟩

theorem PG.stopUp {s : PS} (hG : PG s) : ∀ k : Nat, k ≤ s.names.length → PG (Go.Proofs.Ytcbhdjpigadhmaa.stopUp s k) ∧ Skips s (Go.Proofs.Ytcbhdjpigadhmaa.stopUp s k)
  | 0, _ => ⟨hG, Skips.refl s⟩
  | k + 1, hk => by
    obtain ⟨h1, h2⟩ := PG.stopUp hG k (by omega)
    have hnm : (Go.Proofs.Ytcbhdjpigadhmaa.stopUp s k).names = s.names := h2.same.1
    unfold Go.Proofs.Ytcbhdjpigadhmaa.stopUp
    by_cases hz : stD (Go.Proofs.Ytcbhdjpigadhmaa.stopUp s k) (k : Int) = 0
    · rw [if_pos hz]
      exact ⟨h1.turn (by omega) (by rw [hnm]; omega) (by omega) (by omega), h2.trans (Skips.one h1 (by omega) (by rw [hnm]; omega) hz)⟩
    · rw [if_neg hz]
      exact ⟨h1, h2⟩

set_option maxHeartbeats 2000000 in
theorem Stop_calls (b : Nat) (V : PV) (s : PS) (w : World) (hC : (PlanC b V s).ok w) (hG : PG s) :
    Calls Try.prog 20 #[.pointer (some ⟨b, 0, none⟩)] w fun e w' => e = .returned (.int .i64 (s.counts.getD 0 0)) ∧ Mem (PlanC b V s).fp w [PlanC b V (stopS s)] w' := by
  have hl1 := hG.st1
  have hl2 := hG.st2
  have hn := hG.ok.n512
  have hc5 := hG.c5
  have hok := ok_calls b V s w hC
  have y2 := (PlanC.reads hC).cn (k := 0) (by omega)
  have e0 : s.counts[0] = s.counts.getD 0 0 := by rw [List.getD_eq_getElem?_getD, List.getElem?_eq_getElem (by omega)]; rfl
  rw [e0, Nat.add_zero] at y2
  obtain ⟨AS, cS, evS, n1, n2⟩ := Row.any_ (PlanC.reads hC).st
  have y3 := (PlanC.reads hC).c5
  rw [evS] at y3
  have HM0 := Mem.from hC
  have HevS := Lib.hid evS
  unfold maxLen at n2
  clear e0 hc5 evS
  generalize s.counts.getD 0 0 = c0 at *
  go_enter Try.func20, Try.ntmps20
  go_wp2_with (go_at_call 33; refine hok.mono ?_; rintro e w' ⟨rfl, rfl⟩)
  clear y2 y3
  go_loopw [18] (fun v18 wr => ∃ k : Nat, k ≤ s.states.length ∧ v18 = .int .i64 k ∧ Mem (PlanC b V s).fp w [PlanC b V (stopUp s k)] wr) (fun v _ => s.states.length - (intOf v).toNat)
  case atStart => exact ⟨0, Nat.zero_le _, rfl, HM0⟩
  case round =>
    clear HM0
    obtain ⟨k, hk, rfl, HM⟩ := hrel
    by_cases hlt : k < s.states.length
    · obtain ⟨hGt, hSk⟩ := hG.stopUp k (by omega)
      have hkt : k < (stopUp s k).names.length := by rw [hSk.same.1]; omega
      obtain ⟨sb, sc, y0, y1, q1, q2⟩ := st_cell HM.head hGt hkt
      have hl3 := hGt.st2
      have hls : k < (stopUp s k).states.length := by omega
      unfold maxLen at q2
      have hst : stopUp s (k + 1) = if stD (stopUp s k) (k : Int) = 0 then turnS (stopUp s k) k 4 else stopUp s k := rfl
      have Hst := Lib.hid hst
      clear hst hSk hl3
      by_cases hz : stD (stopUp s k) (k : Int) = 0
      · have hst2 := Hst.out
        rw [if_pos hz] at hst2
        rw [hz] at y1
        have Hst2 := Lib.hid hst2
        clear hz Hst hst2
        generalize stopUp s k = t at *
        go_wp2_with fail
        refine (turn_calls b V t k 4 _ HM.head hGt hkt (by omega)).mono ?_
        rintro e w3 ⟨rfl, HM3⟩
        have HM4 := HM.call1 HM3
        have HM5 : Mem (PlanC b V s).fp w [PlanC b V (stopUp s (k + 1))] w3 := by rw [Hst2.out]; exact HM4
        clear HM HM3 HM4 y0 y1
        go_wp2
        go_roundw
        case rel => exact ⟨k + 1, by omega, by go_num, HM5⟩
        case measure => simp [intOf]; omega
      · have hst2 := Hst.out
        rw [if_neg hz] at hst2
        have HM5 := HM
        rw [← hst2] at HM5
        clear Hst hst2 HM
        generalize stD (stopUp s k) (k : Int) = y at *
        have hd : (y == 0) = false := by simpa using hz
        have hd2 : decide (y = 0) = false := decide_eq_false hz
        generalize (stopUp s k).states.length = tl at *
        go_wp2
        go_roundw
        case rel => exact ⟨k + 1, by omega, by go_num, HM5⟩
        case measure => simp [intOf]; omega
    · have e : k = s.states.length := by omega
      subst e
      go_wp2
      go_ret
      exact ⟨rfl, HM⟩
theorem PG.start {s : PS} (hG : PG s) (x : ByteArray) : PG (startS s x).1 := by
  unfold startS
  cases hg : mget s.at_ x with
  | none => exact hG
  | some i =>
    obtain ⟨i, rfl, hi⟩ := place_of hG hg
    dsimp only
    split
    · exact hG.turn (by omega) (by omega) (by omega) (by omega)
    · exact hG
theorem PG.finish {s : PS} (hG : PG s) (x : ByteArray) (ok : Bool) : PG (finishS s x ok).1 := by
  unfold finishS
  cases hg : mget s.at_ x with
  | none => exact hG
  | some i =>
    obtain ⟨i, rfl, hi⟩ := place_of hG hg
    dsimp only
    split
    · split
      · exact hG.turn (by omega) (by omega) (by omega) (by omega)
      · have hl2 := hG.st2
        have hGu : PG (turnS s i 3) := hG.turn (by omega) (by omega) (by omega) (by omega)
        exact (hGu.skip (i := i) hi (by show s.names.length ≤ _; omega) (by rw [stD_turn (by omega) (by rw [Int.toNat_natCast]; omega) (by omega), if_pos rfl]; omega)).pg
    · exact hG
theorem PG.stop {s : PS} (hG : PG s) : PG (stopS s) := (hG.stopUp s.states.length hG.st1).1
end Go.Proofs.Ytcbhdjpigadhmaa
