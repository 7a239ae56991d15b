/-
  Layer 18 (stale): File; StaleFiles.
-/
import Derived.Test.YtnpehlkdfbmnkaaDoorStlY
set_option linter.unusedVariables false
set_option linter.unusedSimpArgs false
set_option maxRecDepth 20000
namespace Go.Proofs.YtnpehlkdfbmnkaaDoor
open Go.RowKit

def fileB (c : UInt8) : List UInt8 := if c = 37 then [37, 37] else if c = 47 then [37, 115] else [c]
def fileL (s : List UInt8) : List UInt8 := [47, 109, 101, 116, 97, 47] ++ (s.flatMap fileB ++ [46, 109, 101, 116, 97])
theorem fileB_cases (c : UInt8) : (c = 37 ∧ fileB c = [37, 37]) ∨ (c = 47 ∧ fileB c = [37, 115]) ∨ (c ≠ 37 ∧ c ≠ 47 ∧ fileB c = [c]) := by
  unfold fileB
  by_cases h : c = 37
  · exact .inl ⟨h, if_pos h⟩
  · by_cases h2 : c = 47
    · exact .inr (.inl ⟨h2, by rw [if_neg h, if_pos h2]⟩)
    · exact .inr (.inr ⟨h, h2, by rw [if_neg h, if_neg h2]⟩)
theorem fileM_inj : ∀ {s t : List UInt8}, s.flatMap fileB = t.flatMap fileB → s = t
  | [], [], _ => rfl
  | [], c :: t, h => by
    rw [List.flatMap_cons] at h
    rcases fileB_cases c with ⟨_, e⟩ | ⟨_, e⟩ | ⟨_, _, e⟩ <;> rw [e] at h <;> simp at h
  | c :: s, [], h => by
    rw [List.flatMap_cons] at h
    rcases fileB_cases c with ⟨_, e⟩ | ⟨_, e⟩ | ⟨_, _, e⟩ <;> rw [e] at h <;> simp at h
  | c :: s, d :: t, h => by
    rw [List.flatMap_cons, List.flatMap_cons] at h
    rcases fileB_cases c with ⟨c1, e⟩ | ⟨c1, e⟩ | ⟨c1, c2, e⟩ <;> rcases fileB_cases d with ⟨d1, e'⟩ | ⟨d1, e'⟩ | ⟨d1, d2, e'⟩ <;> rw [e, e'] at h <;> simp at h
    · rw [c1, d1, fileM_inj h]
    · exact absurd h.1.symm d1
    · rw [c1, d1, fileM_inj h]
    · exact absurd h.1.symm d1
    · exact absurd h.1 c1
    · exact absurd h.1 c1
    · rw [h.1, fileM_inj h.2]
theorem fileL_inj {s t : List UInt8} : fileL s = fileL t ↔ s = t := by
  refine ⟨fun h => ?_, fun h => by rw [h]⟩
  unfold fileL at h
  exact fileM_inj (List.append_cancel_right (List.append_cancel_left h))
theorem fileM_count : ∀ s : List UInt8, (s.flatMap fileB).count 47 = 0
  | [] => rfl
  | c :: s => by
    rw [List.flatMap_cons, List.count_append, fileM_count s]
    rcases fileB_cases c with ⟨c1, e⟩ | ⟨c1, e⟩ | ⟨c1, c2, e⟩ <;> rw [e]
    · rfl
    · rfl
    · simp [c2]
theorem fileL_count (s : List UInt8) : (fileL s).count 47 = 2 := by
  unfold fileL
  rw [List.count_append, List.count_append, fileM_count]; rfl
theorem file_rep (s : List UInt8) : (s.flatMap (repB 37 [37, 37])).flatMap (repB 47 [37, 115]) = s.flatMap fileB := by
  rw [List.flatMap_assoc]
  congr 1
  funext c
  unfold repB fileB
  by_cases h : c = 37
  · rw [if_pos h, if_pos h]; rfl
  · rw [if_neg h, if_neg h]; simp
theorem fileM_len (s : List UInt8) : (s.flatMap fileB).length ≤ 2 * s.length := by
  induction s with
  | nil => simp
  | cons c s ih =>
    rw [List.flatMap_cons, List.length_append, List.length_cons]
    have : (fileB c).length ≤ 2 := by rcases fileB_cases c with ⟨_, e⟩ | ⟨_, e⟩ | ⟨_, _, e⟩ <;> rw [e] <;> simp
    omega
theorem fileL_len (s : List UInt8) : (fileL s).length ≤ 2 * s.length + 11 := by
  have := fileM_len s
  unfold fileL
  simp only [List.length_append, List.length_cons, List.length_nil]
  omega
theorem file_calls (s : List UInt8) (w : World) (hm : MaxV w) (hs : s.length ≤ 1000000000) :
    Calls Tryd.prog 24 #[.string (ofL s)] w fun e w' => e = .returned (.string (ofL (fileL s))) ∧ Pure w w' := by
  have h1 := replace_calls s 37 [37, 37] w hm (by omega) rfl
  have hl := rep_len 37 [37, 37] (Nat.le_refl _) (by decide) s
  have hl2 := fileM_len s
  have h2 := fun wx (hx : Pure w wx) => replace_calls (s.flatMap (repB 37 [37, 37])) 47 [37, 115] wx (MaxV.pure hx hm) (by omega) rfl
  rw [file_rep] at h2
  unfold fileL
  have a1 : ∀ wx, (Op.stringOp .add ⟨#[47, 109, 101, 116, 97, 47]⟩ (ofL (s.flatMap fileB))).run Tryd.prog wx = .ok (.string (ofL ([47, 109, 101, 116, 97, 47] ++ s.flatMap fileB))) wx := add_run [47, 109, 101, 116, 97, 47] (s.flatMap fileB) (by show 6 + (s.flatMap fileB).length ≤ _; omega)
  have a2 : ∀ wx, (Op.stringOp .add (ofL ([47, 109, 101, 116, 97, 47] ++ s.flatMap fileB)) ⟨#[46, 109, 101, 116, 97]⟩).run Tryd.prog wx = .ok (.string (ofL (([47, 109, 101, 116, 97, 47] ++ s.flatMap fileB) ++ [46, 109, 101, 116, 97]))) wx := add_run ([47, 109, 101, 116, 97, 47] ++ s.flatMap fileB) [46, 109, 101, 116, 97] (by rw [List.length_append]; show 6 + (s.flatMap fileB).length + 5 ≤ _; omega)
  rw [List.append_assoc] at a2
  generalize s.flatMap (repB 37 [37, 37]) = t at *
  generalize [47, 109, 101, 116, 97, 47] ++ s.flatMap fileB = v at *
  generalize [47, 109, 101, 116, 97, 47] ++ (s.flatMap fileB ++ [46, 109, 101, 116, 97]) = R at *
  generalize s.flatMap fileB = u at *
  clear hl hl2 hm
  go_enter Tryd.func24, Tryd.ntmps24
  go_wp2_with fail
  refine h1.mono ?_
  rintro e w1 ⟨rfl, hp1⟩
  have h2' := h2 w1 hp1
  clear h1 h2
  go_wp2_with fail
  refine h2'.mono ?_
  rintro e w2 ⟨rfl, hp2⟩
  clear h2'
  go_wp2_with fail
  go_ret
  exact ⟨rfl, hp1.trans hp2⟩

set_option maxHeartbeats 4000000 in
theorem files_calls (a b : List UInt8) (w : World) (hm : MaxV w) (ha : a.length ≤ 140737488351232) (hb : b.length ≤ 140737488351232) :
    Calls Tryd.prog 6 #[.string (ofL a), .string (ofL b)] w fun e w' => e = .returned (.bool true) ∧ Mem none_ w [] w' := by
  have hz := ofL_size a
  have hzb := ofL_size b
  have hA := fun wx (hx : Pure w wx) => alive_calls wx (MaxV.pure hx hm)
  go_enter Tryd.func6, Tryd.ntmps6
  by_cases h1 : 1000 < a.length
  · have d1 : decide ((1000 : Int) < (a.length : Int)) = true := decide_eq_true (by omega)
    have d1' : decide (1000 < a.length) = true := decide_eq_true h1
    have hA1 := hA w (Mut.refl _ _)
    clear h1 hA
    go_wp2_with fail
    refine hA1.mono ?_
    rintro e w1 ⟨rfl, HM⟩
    clear hA1
    go_wp2_with fail
    go_ret
    exact ⟨rfl, HM⟩
  · by_cases h2 : 1000 < b.length
    · have d1 : decide ((1000 : Int) < (a.length : Int)) = false := decide_eq_false (by omega)
      have d1' : decide (1000 < a.length) = false := decide_eq_false h1
      have d2 : decide ((1000 : Int) < (b.length : Int)) = true := decide_eq_true (by omega)
      have d2' : decide (1000 < b.length) = true := decide_eq_true h2
      have hA1 := hA w (Mut.refl _ _)
      clear h1 h2 hA
      go_wp2_with fail
      refine hA1.mono ?_
      rintro e w1 ⟨rfl, HM⟩
      clear hA1
      go_wp2_with fail
      go_ret
      exact ⟨rfl, HM⟩
    · have d1 : decide ((1000 : Int) < (a.length : Int)) = false := decide_eq_false (by omega)
      have d1' : decide (1000 < a.length) = false := decide_eq_false h1
      have d2 : decide ((1000 : Int) < (b.length : Int)) = false := decide_eq_false (by omega)
      have d2' : decide (1000 < b.length) = false := decide_eq_false h2
      have hF1 := file_calls a w hm (by omega)
      have hF2 := fun wx (hx : Pure w wx) => file_calls b wx (MaxV.pure hx hm) (by omega)
      have hlen := fileL_len a
      have hcnt := fileL_count a
      have hlx : (fileL a).length ≤ 2011 := by omega
      have hE1 : ((ofL (fileL a)).toList == (ofL (fileL b)).toList) = decide (a = b) := (str_eq (fileL a) (fileL b)).trans (decide_eq_decide.2 fileL_inj)
      have hE2 := str_eq a b
      have hzx := ofL_size (fileL a)
      generalize decide (a = b) = E at *
      generalize fileL a = X at *
      generalize fileL b = Y at *
      clear h1 h2 hlen ha hb
      go_wp2_with fail
      refine hF1.mono ?_
      rintro e w1 ⟨rfl, hp1⟩
      have hF3 := hF2 w1 hp1
      clear hF1 hF2
      go_wp2_with fail
      refine hF3.mono ?_
      rintro e w2 ⟨rfl, hp2⟩
      have hp := hp1.trans hp2
      clear hF3 hp1 hp2
      go_wp2_with fail
      go_loop [7, 8] (fun v7 v8 => ∃ k : Nat, k ≤ X.length ∧ v8 = .int .i64 k ∧ v7 = .int .i64 ((X.take k).count 47)) (fun _ v => X.length - (intOf v).toNat)
      case atStart => exact ⟨0, Nat.zero_le _, rfl, rfl⟩
      case round =>
        obtain ⟨k, hk, rfl, rfl⟩ := hrel
        by_cases hlt : k < X.length
        · have hlt' : decide ((k : Int) < (X.length : Int)) = true := decide_eq_true (by omega)
          have hltN : decide (k < X.length) = true := decide_eq_true hlt
          have hk' : k < (ofL X).size := by omega
          have hcl : (X.take k).count 47 ≤ k := by
            have := List.count_le_length (a := (47 : UInt8)) (l := X.take k)
            rw [List.length_take] at this
            omega
          have hsn : (X.take (k + 1)).count 47 = (X.take k).count 47 + if X[k] = 47 then 1 else 0 := by
            rw [List.take_succ_eq_append_getElem hlt, List.count_append]
            congr 1
            by_cases h : X[k] = 47 <;> simp [List.count_singleton, h] <;> exact h
          have g0 : (ofL X)[k]'hk' = X[k] := rfl
          generalize (X.take k).count 47 = cn at *
          generalize X[k] = c at *
          by_cases hc : c = 47
          · rw [if_pos hc] at hsn
            have q1 : ((c.toNat : Int) == 47) = true := (byte_eq c 47).trans (decide_eq_true hc)
            clear hc
            go_wp2_with fail
            go_round
            case rel => exact ⟨k + 1, by omega, by go_num, by rw [hsn]; go_num⟩
            case measure => simp [intOf]; omega
          · rw [if_neg hc] at hsn
            have q1 : ((c.toNat : Int) == 47) = false := (byte_eq c 47).trans (decide_eq_false hc)
            clear hc
            go_wp2_with fail
            go_round
            case rel => exact ⟨k + 1, by omega, by go_num, by rw [hsn]; rfl⟩
            case measure => simp [intOf]; omega
        · have hlt' : decide ((k : Int) < (X.length : Int)) = false := decide_eq_false (by omega)
          have hltN : decide (k < X.length) = false := decide_eq_false hlt
          have ek : X.take k = X := List.take_of_length_le (by omega)
          rw [ek, hcnt]
          have hA1 := hA w2 hp
          clear hA ek hcnt
          cases E with
          | true =>
            go_wp2_with fail
            refine hA1.mono ?_
            rintro e w3 ⟨rfl, HM⟩
            have HM2 := (Mem.start (fp := none_) w).keep hp
            have HM3 := HM2.got HM
            clear hA1
            go_wp2_with fail
            go_ret
            exact ⟨rfl, HM3⟩
          | false =>
            go_wp2_with fail
            refine hA1.mono ?_
            rintro e w3 ⟨rfl, HM⟩
            have HM2 := (Mem.start (fp := none_) w).keep hp
            have HM3 := HM2.got HM
            clear hA1
            go_wp2_with fail
            go_ret
            exact ⟨rfl, HM3⟩
end Go.Proofs.YtnpehlkdfbmnkaaDoor
