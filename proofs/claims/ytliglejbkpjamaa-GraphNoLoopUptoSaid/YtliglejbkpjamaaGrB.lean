/-
  Layer 16 (graph): Class, Suffixes.
-/
import Derived.Test.YtliglejbkpjamaaGrA
set_option linter.unusedVariables false
set_option linter.unusedSimpArgs false
set_option maxRecDepth 20000
namespace Go.Proofs.Ytliglejbkpjamaa
open Go.RowKit

theorem eqC (s : ByteArray) (l : List UInt8) : (s.toList == l) = decide (s = ⟨l.toArray⟩) := by
  have h := strEq s ⟨l.toArray⟩
  have e : (⟨l.toArray⟩ : ByteArray).toList = l := by rw [ByteArray.toList_eq]
  rw [e] at h
  exact h
theorem neC {s : ByteArray} {l : List UInt8} (h : ¬ s = ⟨l.toArray⟩) : (s.toList == l) = false ∧ ¬ s.toList = l := by
  have h1 : (s.toList == l) = false := by rw [eqC]; exact decide_eq_false h
  exact ⟨h1, fun e => by rw [e] at h1; simp at h1⟩
theorem isC {s : ByteArray} {l : List UInt8} (h : s = ⟨l.toArray⟩) : (s.toList == l) = true ∧ s.toList = l := by
  have h1 : (s.toList == l) = true := by rw [eqC]; exact decide_eq_true h
  exact ⟨h1, by simpa using h1⟩
set_option maxHeartbeats 8000000 in
theorem class_calls (s : ByteArray) (w : World) (hs : s.size ≤ 4611686018427387904) :
    Calls Try.prog 39 #[.string s] w fun e w' => e = .returned (.int .i64 (classB s)) ∧ w = w' := by
  have hap : ∀ wx, (Op.stringOp .add s ⟨#[46]⟩).run Try.prog wx = .ok (.string (s ++ ⟨#[46]⟩)) wx := fun wx => run_string_add_sum wx _ _ (by show s.size + 1 ≤ _; omega)
  have hP := Try.strings_HasPrefix (s ++ ⟨#[46]⟩) ⟨#[46, 80, 65, 84, 72, 46]⟩ w
  have eP : Lib.hasPrefix (s ++ ⟨#[46]⟩ : ByteArray).data.toList (⟨#[46, 80, 65, 84, 72, 46]⟩ : ByteArray).data.toList = Lib.hasPrefix (s.data.toList ++ [46]) [46, 80, 65, 84, 72, 46] := by simp
  rw [eP] at hP
  obtain ⟨B, hB⟩ : ∃ B, Lib.hasPrefix (s.data.toList ++ [46]) [46, 80, 65, 84, 72, 46] = B := ⟨_, rfl⟩
  rw [hB] at hP
  clear eP
  generalize hX : s ++ ⟨#[46]⟩ = X at *
  clear hX
  go_enter Try.func39, Try.ntmps39
  by_cases h0 : s = ⟨#[46, 80, 72, 79, 78, 89]⟩
  · obtain ⟨q, q'⟩ := isC (l := [46, 80, 72, 79, 78, 89]) h0
    have hc : classB s = 1 := by rw [h0]; decide +kernel
    rw [hc]
    clear hc h0 hP hB
    go_wp2_with fail
    go_ret
    exact ⟨rfl, rfl⟩
  obtain ⟨n0, m0⟩ := neC (l := [46, 80, 72, 79, 78, 89]) h0
  by_cases h1 : s = ⟨#[46, 80, 82, 69, 67, 73, 79, 85, 83]⟩
  · obtain ⟨q, q'⟩ := isC (l := [46, 80, 82, 69, 67, 73, 79, 85, 83]) h1
    have hc : classB s = 1 := by rw [h1]; decide +kernel
    rw [hc]
    clear hc h0 h1 hP hB
    go_wp2_with fail
    go_ret
    exact ⟨rfl, rfl⟩
  obtain ⟨n1, m1⟩ := neC (l := [46, 80, 82, 69, 67, 73, 79, 85, 83]) h1
  by_cases h2 : s = ⟨#[46, 73, 71, 78, 79, 82, 69]⟩
  · obtain ⟨q, q'⟩ := isC (l := [46, 73, 71, 78, 79, 82, 69]) h2
    have hc : classB s = 1 := by rw [h2]; decide +kernel
    rw [hc]
    clear hc h0 h1 h2 hP hB
    go_wp2_with fail
    go_ret
    exact ⟨rfl, rfl⟩
  obtain ⟨n2, m2⟩ := neC (l := [46, 73, 71, 78, 79, 82, 69]) h2
  by_cases h3 : s = ⟨#[46, 83, 73, 76, 69, 78, 84]⟩
  · obtain ⟨q, q'⟩ := isC (l := [46, 83, 73, 76, 69, 78, 84]) h3
    have hc : classB s = 1 := by rw [h3]; decide +kernel
    rw [hc]
    clear hc h0 h1 h2 h3 hP hB
    go_wp2_with fail
    go_ret
    exact ⟨rfl, rfl⟩
  obtain ⟨n3, m3⟩ := neC (l := [46, 83, 73, 76, 69, 78, 84]) h3
  by_cases h4 : s = ⟨#[46, 78, 79, 84, 77, 65, 73, 78]⟩
  · obtain ⟨q, q'⟩ := isC (l := [46, 78, 79, 84, 77, 65, 73, 78]) h4
    have hc : classB s = 1 := by rw [h4]; decide +kernel
    rw [hc]
    clear hc h0 h1 h2 h3 h4 hP hB
    go_wp2_with fail
    go_ret
    exact ⟨rfl, rfl⟩
  obtain ⟨n4, m4⟩ := neC (l := [46, 78, 79, 84, 77, 65, 73, 78]) h4
  by_cases h5 : s = ⟨#[46, 69, 88, 69, 67]⟩
  · obtain ⟨q, q'⟩ := isC (l := [46, 69, 88, 69, 67]) h5
    have hc : classB s = 1 := by rw [h5]; decide +kernel
    rw [hc]
    clear hc h0 h1 h2 h3 h4 h5 hP hB
    go_wp2_with fail
    go_ret
    exact ⟨rfl, rfl⟩
  obtain ⟨n5, m5⟩ := neC (l := [46, 69, 88, 69, 67]) h5
  by_cases h6 : s = ⟨#[46, 77, 69, 84, 65]⟩
  · obtain ⟨q, q'⟩ := isC (l := [46, 77, 69, 84, 65]) h6
    have hc : classB s = 1 := by rw [h6]; decide +kernel
    rw [hc]
    clear hc h0 h1 h2 h3 h4 h5 h6 hP hB
    go_wp2_with fail
    go_ret
    exact ⟨rfl, rfl⟩
  obtain ⟨n6, m6⟩ := neC (l := [46, 77, 69, 84, 65]) h6
  by_cases h7 : s = ⟨#[46, 79, 82, 68, 69, 82]⟩
  · obtain ⟨q, q'⟩ := isC (l := [46, 79, 82, 68, 69, 82]) h7
    have hc : classB s = 2 := by rw [h7]; decide +kernel
    rw [hc]
    clear hc h0 h1 h2 h3 h4 h5 h6 h7 hP hB
    go_wp2_with fail
    go_ret
    exact ⟨rfl, rfl⟩
  obtain ⟨n7, m7⟩ := neC (l := [46, 79, 82, 68, 69, 82]) h7
  by_cases h8 : s = ⟨#[46, 83, 85, 70, 70, 73, 88, 69, 83]⟩
  · obtain ⟨q, q'⟩ := isC (l := [46, 83, 85, 70, 70, 73, 88, 69, 83]) h8
    have hc : classB s = 3 := by rw [h8]; decide +kernel
    rw [hc]
    clear hc h0 h1 h2 h3 h4 h5 h6 h7 h8 hP hB
    go_wp2_with fail
    go_ret
    exact ⟨rfl, rfl⟩
  obtain ⟨n8, m8⟩ := neC (l := [46, 83, 85, 70, 70, 73, 88, 69, 83]) h8
  by_cases h9 : s = ⟨#[46, 77, 65, 73, 78]⟩
  · obtain ⟨q, q'⟩ := isC (l := [46, 77, 65, 73, 78]) h9
    have hc : classB s = 5 := by rw [h9]; decide +kernel
    rw [hc]
    clear hc h0 h1 h2 h3 h4 h5 h6 h7 h8 h9 hP hB
    go_wp2_with fail
    go_ret
    exact ⟨rfl, rfl⟩
  obtain ⟨n9, m9⟩ := neC (l := [46, 77, 65, 73, 78]) h9
  by_cases h10 : s = ⟨#[46, 87, 65, 73, 84]⟩
  · obtain ⟨q, q'⟩ := isC (l := [46, 87, 65, 73, 84]) h10
    have hc : classB s = 6 := by rw [h10]; decide +kernel
    rw [hc]
    clear hc h0 h1 h2 h3 h4 h5 h6 h7 h8 h9 h10 hP hB
    go_wp2_with fail
    go_ret
    exact ⟨rfl, rfl⟩
  obtain ⟨n10, m10⟩ := neC (l := [46, 87, 65, 73, 84]) h10
  by_cases h11 : s = ⟨#[46, 68, 69, 70, 65, 85, 76, 84]⟩
  · obtain ⟨q, q'⟩ := isC (l := [46, 68, 69, 70, 65, 85, 76, 84]) h11
    have hc : classB s = 7 := by rw [h11]; decide +kernel
    rw [hc]
    clear hc h0 h1 h2 h3 h4 h5 h6 h7 h8 h9 h10 h11 hP hB
    go_wp2_with fail
    go_ret
    exact ⟨rfl, rfl⟩
  obtain ⟨n11, m11⟩ := neC (l := [46, 68, 69, 70, 65, 85, 76, 84]) h11
  by_cases h12 : s = ⟨#[46, 66, 69, 71, 73, 78]⟩
  · obtain ⟨q, q'⟩ := isC (l := [46, 66, 69, 71, 73, 78]) h12
    have hc : classB s = 7 := by rw [h12]; decide +kernel
    rw [hc]
    clear hc h0 h1 h2 h3 h4 h5 h6 h7 h8 h9 h10 h11 h12 hP hB
    go_wp2_with fail
    go_ret
    exact ⟨rfl, rfl⟩
  obtain ⟨n12, m12⟩ := neC (l := [46, 66, 69, 71, 73, 78]) h12
  by_cases h13 : s = ⟨#[46, 69, 78, 68]⟩
  · obtain ⟨q, q'⟩ := isC (l := [46, 69, 78, 68]) h13
    have hc : classB s = 7 := by rw [h13]; decide +kernel
    rw [hc]
    clear hc h0 h1 h2 h3 h4 h5 h6 h7 h8 h9 h10 h11 h12 h13 hP hB
    go_wp2_with fail
    go_ret
    exact ⟨rfl, rfl⟩
  obtain ⟨n13, m13⟩ := neC (l := [46, 69, 78, 68]) h13
  by_cases h14 : s = ⟨#[46, 73, 78, 84, 69, 82, 82, 85, 80, 84]⟩
  · obtain ⟨q, q'⟩ := isC (l := [46, 73, 78, 84, 69, 82, 82, 85, 80, 84]) h14
    have hc : classB s = 7 := by rw [h14]; decide +kernel
    rw [hc]
    clear hc h0 h1 h2 h3 h4 h5 h6 h7 h8 h9 h10 h11 h12 h13 h14 hP hB
    go_wp2_with fail
    go_ret
    exact ⟨rfl, rfl⟩
  obtain ⟨n14, m14⟩ := neC (l := [46, 73, 78, 84, 69, 82, 82, 85, 80, 84]) h14
  by_cases h15 : s = ⟨#[46, 78, 79, 84, 80, 65, 82, 65, 76, 76, 69, 76]⟩
  · obtain ⟨q, q'⟩ := isC (l := [46, 78, 79, 84, 80, 65, 82, 65, 76, 76, 69, 76]) h15
    have hc : classB s = 8 := by rw [h15]; decide +kernel
    rw [hc]
    clear hc h0 h1 h2 h3 h4 h5 h6 h7 h8 h9 h10 h11 h12 h13 h14 h15 hP hB
    go_wp2_with fail
    go_ret
    exact ⟨rfl, rfl⟩
  obtain ⟨n15, m15⟩ := neC (l := [46, 78, 79, 84, 80, 65, 82, 65, 76, 76, 69, 76]) h15
  have hc : Hid (classB s = if B = true then 4 else 0) := by
    unfold Hid classB
    rw [if_neg (by rintro (h | h | h | h | h | h | h) <;> contradiction), if_neg (by rintro h; contradiction), if_neg (by rintro h; contradiction), if_neg (by rintro h; contradiction), if_neg (by rintro h; contradiction), if_neg (by rintro (h | h | h | h) <;> contradiction), if_neg (by rintro h; contradiction), hB]
  clear h0 h1 h2 h3 h4 h5 h6 h7 h8 h9 h10 h11 h12 h13 h14 h15 hB
  go_wp2_with fail
  refine hP.mono ?_
  rintro e w1 ⟨rfl, rfl⟩
  clear hP
  cases B with
  | true =>
    go_wp2_with fail
    go_ret
    exact ⟨by rw [hc.out]; rfl, rfl⟩
  | false =>
    go_wp2_with fail
    go_ret
    exact ⟨by rw [hc.out]; rfl, rfl⟩
theorem neE {s : ByteArray} (h : ¬ s = ⟨#[]⟩) : (s.toList == []) = false ∧ ¬ s.toList = [] ∧ (!(s.toList == [])) = true := by
  obtain ⟨a, b⟩ := neC (l := []) h
  exact ⟨a, b, by rw [a]; rfl⟩
theorem isE {s : ByteArray} (h : s = ⟨#[]⟩) : (s.toList == []) = true ∧ s.toList = [] ∧ (!(s.toList == [])) = false := by
  obtain ⟨a, b⟩ := isC (l := []) h
  exact ⟨a, b, by rw [a]; rfl⟩
def restB (name s : ByteArray) : ByteArray := ⟨(Lib.trimPrefix name.data.toList s.data.toList).toArray⟩
/-- The two suffixes of a name, or one. -/
def sufx (name : ByteArray) (all : List ByteArray) : List ByteArray → ByteArray × ByteArray × Bool
  | [] => if ¬ name = ⟨#[]⟩ ∧ mem all name = true then (name, ⟨#[]⟩, true) else (⟨#[]⟩, ⟨#[]⟩, false)
  | s :: l => if Lib.hasPrefix name.data.toList s.data.toList = true ∧ ¬ s = ⟨#[]⟩ ∧ ¬ restB name s = ⟨#[]⟩ ∧ mem all (restB name s) = true then (s, restB name s, true) else sufx name all l
set_option maxHeartbeats 8000000 in
theorem sufx_calls (name : ByteArray) (V : Value) (list : List ByteArray) (w : World) (hV : Strs w V list) :
    Calls Try.prog 42 #[.string name, V] w fun e w' => e = .returned (.tuple #[.string (sufx name list list).1, .string (sufx name list list).2.1, .bool (sufx name list list).2.2]) ∧ w = w' := by
  have hCo := fun x => contains_calls V list x w hV
  obtain ⟨A, c, rfl, h1, h2, h3, h4⟩ := hV
  unfold maxLen at h2
  obtain ⟨⟨R1, R2, R3⟩, hR⟩ : ∃ R, sufx name list list = R := ⟨_, rfl⟩
  rw [hR]
  have HR : Hid (sufx name list (list.drop 0) = (R1, R2, R3)) := hR
  clear hR
  go_enter Try.func42, Try.ntmps42
  go_wp2_with fail
  go_loop [13] (fun v13 => ∃ k : Nat, k ≤ list.length ∧ v13 = .int .i64 k ∧ Hid (sufx name list (list.drop k) = (R1, R2, R3))) (fun v => list.length - (intOf v).toNat)
  case atStart => exact ⟨0, Nat.zero_le _, rfl, HR⟩
  case round =>
    clear HR
    obtain ⟨k, hk, rfl, HR⟩ := hrel
    by_cases hlt : k < list.length
    · have hlt' : decide ((k : Int) < (list.length : Int)) = true := decide_eq_true (by omega)
      have hltN : decide (k < list.length) = true := decide_eq_true hlt
      obtain ⟨b, o, rfl, hcells⟩ := h4.resolve_left (by omega)
      have x0 : w.cell? ⟨b, o + k, none⟩ = some (.string list[k]) := hcells _ _ (strs_get hlt)
      have HS : Hid (sufx name list (list.drop k) = if Lib.hasPrefix name.data.toList list[k].data.toList = true ∧ ¬ list[k] = ⟨#[]⟩ ∧ ¬ restB name list[k] = ⟨#[]⟩ ∧ mem list (restB name list[k]) = true then (list[k], restB name list[k], true) else sufx name list (list.drop (k + 1))) := by
        unfold Hid
        rw [List.drop_eq_getElem_cons hlt]
        rfl
      have hCp := Try.strings_CutPrefix name list[k] w
      have hCo1 := hCo (restB name list[k])
      clear hcells h4 h3
      generalize list[k] = s at *
      have eB : (⟨(Lib.trimPrefix name.data.toList s.data.toList).toArray⟩ : ByteArray) = restB name s := rfl
      rw [eB] at hCp
      clear eB
      generalize restB name s = r at *
      obtain ⟨p, hp⟩ : ∃ p, Lib.hasPrefix name.data.toList s.data.toList = p := ⟨_, rfl⟩
      rw [hp] at hCp HS
      clear hp
      have skip : ∀ (hn : ¬ (p = true ∧ ¬ s = ⟨#[]⟩ ∧ ¬ r = ⟨#[]⟩ ∧ mem list r = true)), Hid (sufx name list (list.drop (k + 1)) = (R1, R2, R3)) := fun hn => by
        have h1 := HS.out
        rw [if_neg hn, HR.out] at h1
        exact h1.symm
      have take : ∀ (hn : p = true ∧ ¬ s = ⟨#[]⟩ ∧ ¬ r = ⟨#[]⟩ ∧ mem list r = true), R1 = s ∧ R2 = r ∧ R3 = true := fun hn => by
        have h1 := HS.out
        rw [if_pos hn, HR.out] at h1
        cases h1
        exact ⟨rfl, rfl, rfl⟩
      clear HS HR
      go_wp2_with fail
      refine hCp.mono ?_
      rintro e w1 ⟨rfl, rfl⟩
      clear hCp x0
      cases p with
      | false =>
        have HR2 := skip (by rintro ⟨h, _⟩; cases h)
        clear skip take
        go_wp2_with fail
        go_round
        case rel => exact ⟨k + 1, by omega, by go_num, HR2⟩
        case measure => simp [intOf]; omega
      | true =>
        by_cases hs : s = ⟨#[]⟩
        · have HR2 := skip (by rintro ⟨_, h, _⟩; exact h hs)
          obtain ⟨q1, q2, q3⟩ := isE hs
          clear skip take hs
          go_wp2_with fail
          go_round
          case rel => exact ⟨k + 1, by omega, by go_num, HR2⟩
          case measure => simp [intOf]; omega
        · obtain ⟨q1, q2, q3⟩ := neE hs
          by_cases hr : r = ⟨#[]⟩
          · have HR2 := skip (by rintro ⟨_, _, h, _⟩; exact h hr)
            obtain ⟨z1, z2, z3⟩ := isE hr
            clear skip take hs hr
            go_wp2_with fail
            go_round
            case rel => exact ⟨k + 1, by omega, by go_num, HR2⟩
            case measure => simp [intOf]; omega
          · obtain ⟨z1, z2, z3⟩ := neE hr
            obtain ⟨m, hm⟩ : ∃ m, mem list r = m := ⟨_, rfl⟩
            rw [hm] at hCo1
            cases m with
            | true =>
              obtain ⟨e1, e2, e3⟩ := take ⟨rfl, hs, hr, hm⟩
              clear skip take hs hr hm
              go_wp2_with fail
              refine hCo1.mono ?_
              rintro e w1 ⟨rfl, rfl⟩
              clear hCo1
              go_wp2_with fail
              refine bodyPost_ret (v := .tuple #[.string s, .string r, .bool true]) (by simp [results, Try.results42, go_sem]) rfl ⟨?_, rfl⟩
              rw [e1, e2, e3]
            | false =>
              have HR2 := skip (by rintro ⟨_, _, _, h⟩; rw [hm] at h; cases h)
              clear skip take hs hr hm
              go_wp2_with fail
              refine hCo1.mono ?_
              rintro e w1 ⟨rfl, rfl⟩
              clear hCo1
              go_wp2_with fail
              go_round
              case rel => exact ⟨k + 1, by omega, by go_num, HR2⟩
              case measure => simp [intOf]; omega
    · have hlt' : decide ((k : Int) < (list.length : Int)) = false := decide_eq_false (by omega)
      have hltN : decide (k < list.length) = false := decide_eq_false hlt
      have HE := HR.out
      rw [List.drop_of_length_le (by omega)] at HE
      have HE2 := Lib.hid HE
      have hCo1 := hCo name
      clear HE HR
      by_cases hn : name = ⟨#[]⟩
      · obtain ⟨q1, q2, q3⟩ := isE hn
        have h1 := HE2.out
        unfold sufx at h1
        rw [if_neg (fun h => h.1 hn)] at h1
        have E := Lib.hid h1
        clear h1 hn HE2
        go_wp2_with fail
        have h1 := E.out
        cases h1
        exact bodyPost_ret (v := .tuple #[.string ⟨#[]⟩, .string ⟨#[]⟩, .bool false]) (by simp [results, Try.results42, go_sem]) rfl ⟨rfl, rfl⟩
      · obtain ⟨q1, q2, q3⟩ := neE hn
        obtain ⟨m, hm⟩ : ∃ m, mem list name = m := ⟨_, rfl⟩
        rw [hm] at hCo1
        cases m with
        | true =>
          have h1 := HE2.out
          unfold sufx at h1
          rw [if_pos ⟨hn, hm⟩] at h1
          obtain ⟨e1, h2⟩ := Prod.mk.inj h1
          obtain ⟨e2, e3⟩ := Prod.mk.inj h2
          have E := Lib.hid (And.intro e1 (And.intro e2 e3))
          clear h1 h2 e1 e2 e3 hn HE2 hm
          go_wp2_with fail
          refine hCo1.mono ?_
          rintro e w1 ⟨rfl, rfl⟩
          clear hCo1
          go_wp2_with fail
          refine bodyPost_ret (v := .tuple #[.string name, .string ⟨#[]⟩, .bool true]) (by simp [results, Try.results42, go_sem]) rfl ⟨?_, rfl⟩
          rw [← E.out.1, ← E.out.2.1, ← E.out.2.2]
        | false =>
          have h1 := HE2.out
          unfold sufx at h1
          rw [if_neg (fun h => by rw [hm] at h; cases h.2)] at h1
          have E := Lib.hid h1
          clear h1 hn HE2 hm
          go_wp2_with fail
          refine hCo1.mono ?_
          rintro e w1 ⟨rfl, rfl⟩
          clear hCo1
          go_wp2_with fail
          have h1 := E.out
          cases h1
          exact bodyPost_ret (v := .tuple #[.string ⟨#[]⟩, .string ⟨#[]⟩, .bool false]) (by simp [results, Try.results42, go_sem]) rfl ⟨rfl, rfl⟩
end Go.Proofs.Ytliglejbkpjamaa
