/-
  Layer 18 (stale): the document's plain.
-/
import Derived.Test.YtnpehlkdfbmnkaaDoorStlBy
set_option linter.unusedVariables false
set_option linter.unusedSimpArgs false
set_option maxRecDepth 20000
namespace Go.Proofs.YtnpehlkdfbmnkaaDoor
open Go.RowKit

set_option maxHeartbeats 8000000 in
theorem rplain_calls (s : List UInt8) (w : World) (hs : s.length ≤ 1000000000) :
    Calls Tryd.prog 61 #[.string (ofL s)] w fun e w' => e = .returned (.tuple #[.string (ofL ((meantL s).getD [])), .bool (meantL s).isSome]) ∧ Mem none_ w [] w' := by
  have hz := ofL_size s
  obtain ⟨R, hR⟩ : ∃ R, meantL s = R := ⟨_, rfl⟩
  rw [hR]
  have HR := Lib.hid hR
  clear hR
  have HM0 := (Mem.start (fp := none_) w).nilB
  go_enter Tryd.func61, Tryd.ntmps61
  go_wp2_with fail
  go_loopw [4, 5] (fun v4 v5 wr => ∃ (k : Nat) (acc : List UInt8), k ≤ s.length ∧ v5 = .int .i64 k ∧ acc.length ≤ k ∧ Hid (R = (meantL (s.drop k)).map (acc ++ ·)) ∧ Mem none_ w [BRow v4 acc] wr) (fun _ v _ => s.length - (intOf v).toNat)
  case atStart => exact ⟨0, [], Nat.zero_le _, rfl, Nat.le_refl _, by unfold Hid; rw [← HR.out]; simp, HM0⟩
  case round =>
    clear HM0 HR
    obtain ⟨k, acc, hk, rfl, hal, HF0, HM⟩ := hrel
    by_cases hlt : k < s.length
    · have hlt' : decide ((k : Int) < (s.length : Int)) = true := decide_eq_true (by omega)
      have hltN : decide (k < s.length) = true := decide_eq_true hlt
      have hk' : k < (ofL s).size := by omega
      have hd : s.drop k = s[k] :: s.drop (k + 1) := List.drop_eq_getElem_cons hlt
      have g0 : (ofL s)[k]'hk' = s[k] := rfl
      by_cases h1 : s[k] = 92
      · have q0 : (((s[k] : UInt8).toNat : Int) == 92) = true := (byte_eq s[k] 92).trans (decide_eq_true h1)
        have q1 : (((s[k] : UInt8).toNat : Int) != 92) = false := by simp only [bne, q0]; rfl
        by_cases hl2 : k + 1 < s.length
        · have hl2' : decide ((k : Int) + 1 < (s.length : Int)) = true := decide_eq_true (by omega)
          have hl2c : decide (((k + 1 : Nat) : Int) < (s.length : Int)) = true := decide_eq_true (by omega)
          have hk2 : k + 1 < (ofL s).size := by omega
          have hwk : IntKind.i64.wrap ((k : Int) + 1) = ((k + 1 : Nat) : Int) := IntWalk.i64_in _ (by omega)
          have hd2 : s.drop (k + 1) = s[k + 1] :: s.drop (k + 2) := List.drop_eq_getElem_cons hl2
          have g2 : (ofL s)[k + 1]'hk2 = s[k + 1] := rfl
          have hm : meantL (s.drop k) = if s[k + 1] = 92 then (meantL (s.drop (k + 2))).map (92 :: ·) else if s[k + 1] = 110 then (meantL (s.drop (k + 2))).map (10 :: ·) else none := by
            rw [hd, hd2, meantL, if_pos h1]
          rw [hm] at HF0
          by_cases h2 : s[k + 1] = 92
          · have r1 : (((s[k + 1] : UInt8).toNat : Int) == 92) = true := (byte_eq s[k + 1] 92).trans (decide_eq_true h2)
            have HF : Hid (R = (meantL (s.drop (k + 2))).map ((acc ++ [92]) ++ ·)) := by
              unfold Hid; rw [HF0.out, if_pos h2, Option.map_map]; congr 1; funext y; simp
            clear hd hd2 hm h1 h2 HF0
            generalize s[k + 1] = d at *
            generalize s[k] = c at *
            have HMl := (HM.litB [92] (us := #[.int .u8 92]) rfl (n := 1) rfl (by decide))
            have HMs : Mem none_ w [BRow _ acc, BRow _ [92]] _ := HMl.sel [1, 0] (by decide)
            have Hx := Row.sl (HMs.at_ 1 rfl)
            clear HMl HM
            go_wp2_with (at_builtin; refine wpList_appBs bytE rfl _ _ rfl HMs rfl (xv := .slice (some ⟨wr.heap.size, 0, none⟩) 1 1) (m := [92]) rfl Hx ?hb ?_; (case hb => show (_ + 1) * 1 ≤ _; omega); intro v' w' HM4 HU4)
            have HM5 := HM4.sel [0] (by decide)
            go_roundw
            case rel => exact ⟨k + 2, acc ++ [92], by omega, by go_num, by rw [List.length_append, List.length_singleton]; omega, HF, HM5⟩
            case measure => simp [intOf]; omega
          · have r1 : (((s[k + 1] : UInt8).toNat : Int) == 92) = false := (byte_eq s[k + 1] 92).trans (decide_eq_false h2)
            by_cases h3 : s[k + 1] = 110
            · have r2 : (((s[k + 1] : UInt8).toNat : Int) == 110) = true := (byte_eq s[k + 1] 110).trans (decide_eq_true h3)
              have HF : Hid (R = (meantL (s.drop (k + 2))).map ((acc ++ [10]) ++ ·)) := by
                unfold Hid; rw [HF0.out, if_neg h2, if_pos h3, Option.map_map]; congr 1; funext y; simp
              clear hd hd2 hm h1 h2 h3 HF0
              generalize s[k + 1] = d at *
              generalize s[k] = c at *
              have HMl := (HM.litB [10] (us := #[.int .u8 10]) rfl (n := 1) rfl (by decide))
              have HMs : Mem none_ w [BRow _ acc, BRow _ [10]] _ := HMl.sel [1, 0] (by decide)
              have Hx := Row.sl (HMs.at_ 1 rfl)
              clear HMl HM
              go_wp2_with (at_builtin; refine wpList_appBs bytE rfl _ _ rfl HMs rfl (xv := .slice (some ⟨wr.heap.size, 0, none⟩) 1 1) (m := [10]) rfl Hx ?hb ?_; (case hb => show (_ + 1) * 1 ≤ _; omega); intro v' w' HM4 HU4)
              have HM5 := HM4.sel [0] (by decide)
              go_roundw
              case rel => exact ⟨k + 2, acc ++ [10], by omega, by go_num, by rw [List.length_append, List.length_singleton]; omega, HF, HM5⟩
              case measure => simp [intOf]; omega
            · have r2 : (((s[k + 1] : UInt8).toNat : Int) == 110) = false := (byte_eq s[k + 1] 110).trans (decide_eq_false h3)
              have HE : Hid (R = none) := by unfold Hid; rw [HF0.out, if_neg h2, if_neg h3]; rfl
              have HMe := HM.sel [] (by decide)
              clear hd hd2 hm h1 h2 h3 HF0 HM
              generalize s[k + 1] = d at *
              generalize s[k] = c at *
              go_wp2_with fail
              refine bodyPost_ret (v := .tuple #[.string ⟨#[]⟩, .bool false]) (by simp [results, Tryd.results61, go_sem]) rfl ⟨by rw [HE.out]; rfl, HMe⟩
        · have hl2' : decide ((k : Int) + 1 < (s.length : Int)) = false := decide_eq_false (by omega)
          have hl2c : decide (((k + 1 : Nat) : Int) < (s.length : Int)) = false := decide_eq_false (by omega)
          have hwk : IntKind.i64.wrap ((k : Int) + 1) = ((k + 1 : Nat) : Int) := IntWalk.i64_in _ (by omega)
          have hd2 : s.drop (k + 1) = [] := List.drop_of_length_le (by omega)
          have HE : Hid (R = none) := by unfold Hid; rw [HF0.out, hd, hd2, h1]; simp [meantL]
          have HMe := HM.sel [] (by decide)
          clear hd hd2 h1 HF0 HM
          generalize s[k] = c at *
          go_wp2_with fail
          refine bodyPost_ret (v := .tuple #[.string ⟨#[]⟩, .bool false]) (by simp [results, Tryd.results61, go_sem]) rfl ⟨by rw [HE.out]; rfl, HMe⟩
      · have q0 : (((s[k] : UInt8).toNat : Int) == 92) = false := (byte_eq s[k] 92).trans (decide_eq_false h1)
        have q1 : (((s[k] : UInt8).toNat : Int) != 92) = true := by simp only [bne, q0]; rfl
        have HF : Hid (R = (meantL (s.drop (k + 1))).map ((acc ++ [s[k]]) ++ ·)) := by
          unfold Hid; rw [HF0.out, hd, meant_cons h1, Option.map_map]; congr 1; funext y; simp
        clear hd h1 HF0
        generalize s[k] = c at *
        have HMl := (HM.litB [c] (us := #[.int .u8 c.toNat]) rfl (n := 1) rfl (by decide))
        have HMs : Mem none_ w [BRow _ acc, BRow _ [c]] _ := HMl.sel [1, 0] (by decide)
        have Hx := Row.sl (HMs.at_ 1 rfl)
        clear HMl HM
        go_wp2_with (at_builtin; refine wpList_appBs bytE rfl _ _ rfl HMs rfl (xv := .slice (some ⟨wr.heap.size, 0, none⟩) 1 1) (m := [c]) rfl Hx ?hb ?_; (case hb => show (_ + 1) * 1 ≤ _; omega); intro v' w' HM4 HU4)
        have HM5 := HM4.sel [0] (by decide)
        go_roundw
        case rel => exact ⟨k + 1, acc ++ [c], by omega, by go_num, by rw [List.length_append, List.length_singleton]; omega, HF, HM5⟩
        case measure => simp [intOf]; omega
    · have hlt' : decide ((k : Int) < (s.length : Int)) = false := decide_eq_false (by omega)
      have hltN : decide (k < s.length) = false := decide_eq_false hlt
      have hd : s.drop k = [] := List.drop_of_length_le (by omega)
      have HE : Hid (R = some acc) := by unfold Hid; rw [HF0.out, hd]; simp [meantL]
      obtain ⟨A, c, rfl, x1, x2⟩ := Row.any_ (HM.at_ 0 rfl)
      have hcv := fun wx (h : Byts wx (.slice A acc.length c) acc) => conv_run (.slice A acc.length c) acc wx h
      have hc1 := hcv wr (Row.sl (HM.at_ 0 rfl))
      have HMe := HM.sel [] (by decide)
      clear hd HF0 HM hcv
      go_wp2_with fail
      refine bodyPost_ret (v := .tuple #[.string (ofL acc), .bool true]) (by simp [results, Tryd.results61, go_sem]) rfl ⟨by rw [HE.out]; rfl, HMe⟩
end Go.Proofs.YtnpehlkdfbmnkaaDoor
