/-
  The walks of the reference of layer 19: Ready, State, Count, Over.
-/
import Derived.Test.YtcbhdjpigadhmaaRefB
set_option linter.unusedVariables false
set_option linter.unusedSimpArgs false
namespace Go.Proofs.Ytcbhdjpigadhmaa
open Go.RowKit

/-- What holds of a reference's plan. -/
structure RG (g : List Nd) (l : List Int) : Prop where
  len : l.length = g.length
  n512 : g.length ≤ 512
  few : ∀ i (h : i < g.length), g[i].src.length ≤ 1000 ∧ g[i].aft.length ≤ 1000
  src : ∀ i (h : i < g.length) y, y ∈ g[i].src → y ∈ namesG g
  aft : ∀ i (h : i < g.length) y, y ∈ g[i].aft → y ∈ namesG g
theorem namesG_len (g : List Nd) : (namesG g).length = g.length := by unfold namesG; rw [List.length_map]

def countR (l : List Int) (s : Int) : Int := ((l.count s : Nat) : Int)
set_option maxHeartbeats 2000000 in
theorem Rcount_calls (b : Nat) (GV NV LV SV : Value) (l : List Int) (s : Int) (w : World) (hB : (RefB b GV NV LV SV).ok w) (hS : (IRow SV l).ok w) (hl : l.length ≤ 512) :
    Calls Try.prog 31 #[.pointer (some ⟨b, 0, none⟩), .int .i64 s] w fun e w' => e = .returned (.int .i64 (countR l s)) ∧ w = w' := by
  obtain ⟨SA, sc, rfl, n1, n2⟩ := Row.any_ hS
  unfold maxLen at n2
  have c2 : w.cell? ⟨b, 3, none⟩ = some (.slice SA l.length sc) := by rw [Blk.cell_ hB]; rfl
  go_enter Try.func31, Try.ntmps31
  go_wp2_with fail
  go_loop [5, 6] (fun v5 v6 => ∃ k : Nat, k ≤ l.length ∧ v6 = .int .i64 k ∧ ∃ q : Nat, q ≤ k ∧ v5 = .int .i64 q ∧ Hid ((l.take k).count s = q)) (fun _ i => l.length - (intOf i).toNat)
  case atStart => exact ⟨0, Nat.zero_le _, rfl, 0, Nat.le_refl _, rfl, by unfold Hid; simp⟩
  case round =>
    obtain ⟨k, hk, rfl, q, hq, rfl, hc⟩ := hrel
    by_cases hlt : k < l.length
    · have hlt' : decide ((k : Int) < (l.length : Int)) = true := decide_eq_true (by omega)
      obtain ⟨sb, sc', e, _, _⟩ := Row.at_ hS (by omega)
      cases e
      have y1 := IRow.cell hS rfl hlt
      have hcs : (l.take (k + 1)).count s = (l.take k).count s + if l[k] = s then 1 else 0 := by
        rw [List.take_succ_eq_append_getElem hlt, List.count_append, List.count_singleton]
        by_cases h : l[k] = s <;> simp [h]
      rw [hc.out] at hcs
      by_cases h : l[k] = s
      · rw [if_pos h] at hcs
        have Hcs := Lib.hid hcs
        rw [h] at y1
        have d1 : (s == s) = true := beq_self_eq_true s
        clear hcs h
        go_wp2_with fail
        go_round
        case rel => exact ⟨k + 1, by omega, by go_num, q + 1, by omega, by go_num, Hcs⟩
        case measure => simp [intOf]; omega
      · rw [if_neg h, Nat.add_zero] at hcs
        have Hcs := Lib.hid hcs
        have d1 : (l[k] == s) = false := beq_eq_false_iff_ne.2 h
        have d2 : decide (l[k] = s) = false := decide_eq_false h
        clear hcs h
        generalize l[k] = y at *
        go_wp2_with fail
        go_round
        case rel => exact ⟨k + 1, by omega, by go_num, q, by omega, by go_num, Hcs⟩
        case measure => simp [intOf]; omega
    · have e : k = l.length := by omega
      subst e
      have HR : Hid (countR l s = (q : Int)) := by
        have := hc.out
        rw [List.take_length] at this
        unfold Hid countR; rw [this]
      go_wp2_with fail
      go_ret
      exact ⟨by rw [HR.out]; rfl, rfl⟩

def overR (l : List Int) : Bool := decide (countR l 0 + countR l 1 = 0)
theorem countR_le (l : List Int) (s : Int) : 0 ≤ countR l s ∧ countR l s ≤ l.length := by
  unfold countR
  have : l.count s ≤ l.length := List.count_le_length
  omega
theorem Rover_calls (b : Nat) (GV NV LV SV : Value) (l : List Int) (w : World) (hB : (RefB b GV NV LV SV).ok w) (hS : (IRow SV l).ok w) (hl : l.length ≤ 512) :
    Calls Try.prog 30 #[.pointer (some ⟨b, 0, none⟩)] w fun e w' => e = .returned (.bool (overR l)) ∧ w = w' := by
  have h0 := Rcount_calls b GV NV LV SV l 0 w hB hS hl
  have h1 := Rcount_calls b GV NV LV SV l 1 w hB hS hl
  have l0 := countR_le l 0
  have l1 := countR_le l 1
  unfold overR
  have hw1 : IntKind.i64.wrap (countR l 0 + countR l 1) = countR l 0 + countR l 1 := IntWalk.i64_in _ (by omega)
  generalize countR l 0 = c0 at *
  generalize countR l 1 = c1 at *
  go_enter Try.func30, Try.ntmps30
  go_wp2_with fail
  refine h0.mono ?_
  rintro e w' ⟨rfl, rfl⟩
  go_wp2_with fail
  refine h1.mono ?_
  rintro e w' ⟨rfl, rfl⟩
  go_wp2_with fail
  go_ret
  exact ⟨by by_cases h : c0 + c1 = 0 <;> simp [h], rfl⟩

def rstate (names : List ByteArray) (l : List Int) (x : ByteArray) : Int × Int := if atR names x < 0 then (0, 6) else (stR names l x, 0)
theorem Rstate_calls (b : Nat) (GV NV LV SV : Value) (g : List Nd) (l : List Int) (x : ByteArray) (w : World) (hB : (RefB b GV NV LV SV).ok w) (hL : Strs w LV (namesG g)) (hS : (IRow SV l).ok w) (hg : RG g l) :
    Calls Try.prog 29 #[.pointer (some ⟨b, 0, none⟩), .string x] w fun e w' => e = .returned (.tuple #[.int .i64 (rstate (namesG g) l x).1, .int .i64 (rstate (namesG g) l x).2]) ∧ w = w' := by
  have hn := namesG_len g
  have h512 := hg.n512
  have hlen := hg.len
  have hAt := at_calls LV (namesG g) x w hL (by omega)
  have c1 : w.cell? ⟨b, 2, none⟩ = some LV := by rw [Blk.cell_ hB]; rfl
  unfold rstate stR
  rcases atR_cases (namesG g) x with ⟨k, h1, _, h3⟩ | ⟨_, h3⟩
  · have hk : k < (namesG g).length := (List.getElem?_eq_some_iff.1 h1).1
    have hkl : k < l.length := by omega
    rw [h3] at hAt ⊢
    rw [if_neg (by omega), Int.toNat_natCast]
    obtain ⟨sb, sc, rfl, nS1, nS2⟩ := Row.at_ hS (by omega)
    unfold maxLen at nS2
    have c2 : w.cell? ⟨b, 3, none⟩ = some (.slice (some ⟨sb, 0, none⟩) l.length sc) := by rw [Blk.cell_ hB]; rfl
    have y1 := IRow.cell hS rfl hkl
    have hxs : l[k] = l.getD k 0 := by rw [List.getD_eq_getElem?_getD, List.getElem?_eq_getElem hkl]; rfl
    rw [hxs] at y1
    have d1 : decide ((k : Int) < 0) = false := decide_eq_false (by omega)
    have hki : (k : Int) < (l.length : Int) := by omega
    have hl512 : l.length ≤ 512 := by omega
    clear hxs h1 h3 hn hlen h512
    generalize l.getD k 0 = y at *
    go_enter Try.func29, Try.ntmps29
    go_wp2_with fail
    refine hAt.mono ?_
    rintro e w' ⟨rfl, rfl⟩
    go_wp2_with fail
    go_ret2
    exact ⟨rfl, rfl⟩
  · rw [h3] at hAt ⊢
    rw [if_pos (by omega)]
    clear h3 hn hlen h512
    go_enter Try.func29, Try.ntmps29
    go_wp2_with fail
    refine hAt.mono ?_
    rintro e w' ⟨rfl, rfl⟩
    go_wp2_with fail
    go_ret2
    exact ⟨rfl, rfl⟩
end Go.Proofs.Ytcbhdjpigadhmaa
