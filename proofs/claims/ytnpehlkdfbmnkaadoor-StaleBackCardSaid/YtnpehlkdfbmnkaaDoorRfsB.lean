/-
  The document's store: Used, home, Stat.
-/
import Derived.Test.YtnpehlkdfbmnkaaDoorRfsA
set_option linter.unusedVariables false
set_option linter.unusedSimpArgs false
set_option maxRecDepth 20000
namespace Go.Proofs.YtnpehlkdfbmnkaaDoor
open Go.RowKit

section
variable {rb : Nat} {lv nv : Value} {s : St} {w : World}
theorem sum_take (l : List (List UInt8 × VF)) (k : Nat) (h : k < l.length) : sumT (l.take (k + 1)) = sumT (l.take k) + l[k].2.text.length := by
  rw [List.take_succ_eq_append_getElem h]
  unfold sumT
  rw [List.map_append, List.sum_append]; rfl
theorem sum_take_le (l : List (List UInt8 × VF)) (k : Nat) : sumT (l.take k) ≤ sumT l := by
  have : sumT (l.take k) + sumT (l.drop k) = sumT l := by
    unfold sumT
    rw [← List.sum_append, ← List.map_append, List.take_append_drop]
  omega
set_option maxHeartbeats 2000000 in
theorem used_calls (h : (RefC rb lv nv s).ok w) (hl : s.files.length ≤ 512) (hs : sumT s.files ≤ 1048576) :
    Calls Tryd.prog 67 #[ptr rb] w fun e w' => e = .returned (.int .i64 (sumT s.files)) ∧ w = w' := by
  have c2 := RefC.c2 h
  obtain ⟨A, c, rfl, h1, h2, h3, h4⟩ := Row.sl (RefC.row h)
  unfold maxLen at h2
  clear h
  go_enter Tryd.func67, Tryd.ntmps67
  go_wp2_with fail
  go_loop [3, 4] (fun v3 v4 => ∃ k : Nat, k ≤ s.files.length ∧ v4 = .int .i64 k ∧ v3 = .int .i64 (sumT (s.files.take k))) (fun _ v => s.files.length - (intOf v).toNat)
  case atStart => exact ⟨0, Nat.zero_le _, rfl, rfl⟩
  case round =>
    obtain ⟨k, hk, rfl, rfl⟩ := hrel
    by_cases hlt : k < s.files.length
    · have hlt' : decide ((k : Int) < (s.files.length : Int)) = true := decide_eq_true (by omega)
      obtain ⟨b, o, rfl, hcells⟩ := h4.resolve_left (by omega)
      have hx0 : w.cell? ⟨b, o + k * 4 + 1, none⟩ = some (.string (ofL s.files[k].2.text)) := hcells _ _ (fls_get hlt).2.1
      have hz := ofL_size s.files[k].2.text
      have e1 := sum_take s.files k hlt
      have e2 := sum_take_le s.files (k + 1)
      have E1 := Lib.hid e1
      have hb1 : (sumT (s.files.take k)) ≤ 1048576 := by omega
      have hb2 : s.files[k].2.text.length ≤ 1048576 := by omega
      clear hcells h4 h3 e1 e2
      generalize sumT (s.files.take k) = a at *
      generalize s.files[k].2.text = x at *
      have hw : IntKind.i64.wrap ((a : Int) + (x.length : Int)) = ((a + x.length : Nat) : Int) := (IntWalk.i64_in _ (by omega)).trans (by omega)
      go_wp2_with fail
      go_round
      case rel => exact ⟨k + 1, by omega, by go_num, by rw [E1.out, Int.natCast_add]⟩
      case measure => simp [intOf]; omega
    · have e : k = s.files.length := by omega
      subst e
      rw [List.take_length]
      go_wp2_with fail
      go_ret
      exact ⟨rfl, rfl⟩

theorem at_mget (s : St) (q : List UInt8) : (atS s q = -1 ∧ mget s.files q = none) ∨ ∃ i : Nat, ∃ h : i < s.files.length, atS s q = i ∧ mget s.files q = some s.files[i].2 ∧ s.files[i].1 = q := by
  unfold atS
  cases hi : idxS s q with
  | none => exact .inl ⟨rfl, idx_none hi⟩
  | some i => obtain ⟨h1, h2, h3⟩ := idx_some hi; exact .inr ⟨i, h1, rfl, h2, h3⟩

set_option maxHeartbeats 2000000 in
theorem rhome_calls (h : (RefC rb lv nv s).ok w) (hl : s.files.length ≤ 512) (q : List UInt8) (hq : q.length ≤ 140737488351232) :
    Calls Tryd.prog 65 #[ptr rb, .string (ofL q)] w fun e w' => e = .returned (.int .i64 (homeS s q)) ∧ w = w' := by
  have hD := rdir_calls q w hq
  have hA := at_calls h hl (dirL q)
  have c2 := RefC.c2 h
  obtain ⟨A, c, rfl, h1, h2, h3, h4⟩ := Row.sl (RefC.row h)
  unfold maxLen at h2
  have hM := at_mget s (dirL q)
  obtain ⟨R, hR⟩ : ∃ R, homeS s q = R := ⟨_, rfl⟩
  rw [hR]
  unfold homeS at hR
  have HR := Lib.hid hR
  clear hR h
  generalize atS s (dirL q) = i0 at *
  go_enter Tryd.func65, Tryd.ntmps65
  go_wp2_with fail
  refine hD.mono ?_
  rintro e w1 ⟨rfl, rfl⟩
  clear hD
  go_wp2_with fail
  refine hA.mono ?_
  rintro e w1 ⟨rfl, rfl⟩
  clear hA
  rcases hM with ⟨rfl, hm⟩ | ⟨i, hi, rfl, hm, _⟩
  · have HE : Hid (R = 6) := by unfold Hid; rw [← HR.out, hm]
    clear hm HR
    go_wp2_with fail
    go_ret
    exact ⟨by rw [HE.out]; rfl, rfl⟩
  · obtain ⟨b, o, rfl, hcells⟩ := h4.resolve_left (by omega)
    have hx0 : w.cell? ⟨b, o + i * 4 + 3, none⟩ = some (.bool s.files[i].2.dir) := hcells _ _ (fls_get hi).2.2.2
    have hi0 : decide ((i : Int) < 0) = false := decide_eq_false (by omega)
    have hi1 : decide ((i : Int) < (s.files.length : Int)) = true := decide_eq_true (by omega)
    have HE : Hid (R = if s.files[i].2.dir then 0 else 8) := by unfold Hid; rw [← HR.out, hm]
    clear hcells h4 h3 hm HR
    generalize s.files[i].2.dir = d at *
    cases d with
    | true =>
      have HE2 : Hid (R = 0) := HE.out
      clear HE
      go_wp2_with fail
      go_ret
      exact ⟨by rw [HE2.out]; rfl, rfl⟩
    | false =>
      have HE2 : Hid (R = 8) := HE.out
      clear HE
      go_wp2_with fail
      go_ret
      exact ⟨by rw [HE2.out]; rfl, rfl⟩

theorem findS_at {s : St} {p q : List UInt8} (h : whereL p = some q) : (atS s q = -1 ∧ findS s p = (q, VF.zero, 6)) ∨ ∃ i : Nat, ∃ h : i < s.files.length, atS s q = i ∧ findS s p = (q, s.files[i].2, 0) := by
  unfold findS
  rw [h]
  rcases at_mget s q with ⟨e1, e2⟩ | ⟨i, hi, e1, e2, _⟩
  · exact .inl ⟨e1, by simp [e2]⟩
  · exact .inr ⟨i, hi, e1, by simp [e2]⟩
set_option maxHeartbeats 4000000 in
theorem rstat_calls (h : (RefC rb lv nv s).ok w) (hl : s.files.length ≤ 512) (p : List UInt8) (hp : p.length ≤ 150000) :
    Calls Tryd.prog 44 #[ptr rb, .string (ofL p)] w fun e w' =>
      e = .returned (.tuple #[.int .i64 (findS s p).2.1.time, .bool (findS s p).2.1.dir, .int .i64 (findS s p).2.2]) ∧ Mem none_ w [] w' := by
  have hW := rwhere_calls p w hp
  obtain ⟨R, hR⟩ : ∃ R, findS s p = R := ⟨_, rfl⟩
  rw [hR]
  have HR := Lib.hid hR
  clear hR
  go_enter Tryd.func44, Tryd.ntmps44
  go_wp2_with fail
  refine hW.mono ?_
  rintro e w1 ⟨rfl, HM1⟩
  clear hW
  have h1 := Pure.chunk HM1.mu h
  cases hq : whereL p with
  | none =>
    have HE : Hid (R = ([], VF.zero, 1)) := by unfold Hid; rw [← HR.out]; unfold findS; rw [hq]
    have e1 : (none : Option (List UInt8)).isSome = false := rfl
    rw [e1]
    clear h HR h1
    go_wp2_with fail
    refine bodyPost_ret (v := .tuple #[.int .i64 0, .bool false, .int .i64 1]) (by simp [results, Tryd.results44, go_sem]) rfl ⟨?_, HM1⟩
    rw [HE.out]; rfl
  | some q =>
    have e1 : (some q).isSome = true := rfl
    have e2 : whereQ p = q := by unfold whereQ; rw [hq]; rfl
    rw [e1, e2]
    have hA := at_calls h1 hl q
    have hF := findS_at (s := s) hq
    have c2 := RefC.c2 h1
    obtain ⟨A, c, rfl, g1, g2, g3, g4⟩ := Row.sl (RefC.row h1)
    unfold maxLen at g2
    rw [HR.out] at hF
    clear h h1 e1 e2 HR
    generalize atS s q = i0 at *
    go_wp2_with fail
    refine hA.mono ?_
    rintro e w2 ⟨rfl, rfl⟩
    clear hA
    rcases hF with ⟨rfl, hf⟩ | ⟨i, hi, rfl, hf⟩
    · have HE := Lib.hid hf
      clear hf
      go_wp2_with fail
      refine bodyPost_ret (v := .tuple #[.int .i64 0, .bool false, .int .i64 6]) (by simp [results, Tryd.results44, go_sem]) rfl ⟨?_, HM1⟩
      rw [HE.out]; rfl
    · obtain ⟨b, o, rfl, hcells⟩ := g4.resolve_left (by omega)
      have hx0 : w1.drew.cell? ⟨b, o + i * 4 + 2, none⟩ = some (.int .i64 s.files[i].2.time) := hcells _ _ (fls_get hi).2.2.1
      have hx1 : w1.drew.cell? ⟨b, o + i * 4 + 3, none⟩ = some (.bool s.files[i].2.dir) := hcells _ _ (fls_get hi).2.2.2
      have hx2 : w1.drew.cell? ⟨rb, 2, none⟩ = some (.slice (some ⟨b, o, none⟩) s.files.length c) := c2
      have hi0 : decide ((i : Int) < 0) = false := decide_eq_false (by omega)
      have hi1 : decide ((i : Int) < (s.files.length : Int)) = true := decide_eq_true (by omega)
      have HE := Lib.hid hf
      have HM2 := HM1.drew
      clear hcells g4 g3 hf
      generalize s.files[i].2 = f at *
      go_wp2_with fail
      clear HM1 c2
      refine wp_plan [] (S := fun w' => w' = World.drew _) [(.pure, 0), (.pure, 1), (.pure, 2), (.load, 3), (.pure, 4), (.pure, 5), (.pure, 6), (.load, 7), (.pure, 8), (.pure, 9), (.pure, 10), (.load, 11), (.pure, 12), (.pure, 13), (.pure, 14), (.load, 15), (.pure, 16), (.pure, 17), (.pure, 18)] (by kernel_rfl) rfl (by kernel_rfl) rfl (fun _ _ _ _ _ h => h) rfl ?_
      generalize World.drew _ = W at *
      repeat (first | (refine plan_pure (v := ?_) (a' := ?_) rfl rfl rfl ?_ ?_ ?_; rotate_left 2; (focus (intro w'; go_simp; with_reducible rfl)); (focus (simp only [Act.put, List.setIfInBounds_toArray, List.set_cons_zero, List.set_cons_succ]; rfl))) | (refine plan_load (v := ?_) (a' := ?_) rfl rfl rfl ?_ ?_ ?_; rotate_left 2; (focus (intro w' hw'; rw [hw']; go_simp; with_reducible rfl)); (focus (simp only [Act.put, List.setIfInBounds_toArray, List.set_cons_zero, List.set_cons_succ]; rfl))) | (refine plan_skip rfl rfl (by decide +kernel) (by simp only [Act.put, List.setIfInBounds_toArray, List.set_cons_zero, List.set_cons_succ]; rfl) ?_))
      refine plan_done ?_
      go_wp2_with fail
      refine bodyPost_ret (v := .tuple #[.int .i64 f.time, .bool f.dir, .int .i64 0]) (by simp [results, Tryd.results44, go_sem]) rfl ⟨?_, HM2⟩
      rw [HE.out]; rfl
end
end Go.Proofs.YtnpehlkdfbmnkaaDoor
