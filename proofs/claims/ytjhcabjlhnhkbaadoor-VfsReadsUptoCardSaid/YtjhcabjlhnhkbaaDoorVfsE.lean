/-
  The store's calls: Write, Touch, Notes, New (printed by mkVfsE.py).
  The store's calls: Touch, Notes, New.
-/
import Derived.Test.YtjhcabjlhnhkbaaDoorVfsD
set_option linter.unusedVariables false
set_option linter.unusedSimpArgs false
namespace Go.Proofs.YtjhcabjlhnhkbaaDoor
section
set_option maxRecDepth 20000
open Go.RowKit

theorem findS_e (s : St) (p : List UInt8) : ((findS s p).2.2 = 1 ∧ (findS s p).2.1 = VF.zero ∧ whereL p = none) ∨ ((findS s p).2.2 = 6 ∧ (findS s p).2.1 = VF.zero ∧ mget s.files (findS s p).1 = none ∧ whereL p = some (findS s p).1) ∨
    ((findS s p).2.2 = 0 ∧ mget s.files (findS s p).1 = some (findS s p).2.1 ∧ whereL p = some (findS s p).1) := by
  unfold findS
  cases hq : whereL p with
  | none => exact .inl ⟨rfl, rfl, rfl⟩
  | some q =>
    cases hm : mget s.files q with
    | none => exact .inr (.inl ⟨by simp [hm], by simp [hm], by simp [hm], by simp [hm]⟩)
    | some f => exact .inr (.inr ⟨by simp [hm], by simp [hm], by simp [hm]⟩)
theorem homeS_e (s : St) (q : List UInt8) : homeS s q = 0 ∨ homeS s q = 6 ∨ homeS s q = 8 := by
  unfold homeS
  cases mget s.files (dirL q) with
  | none => exact .inr (.inl rfl)
  | some f => show (if f.dir then 0 else 8) = 0 ∨ _ ∨ (if f.dir then 0 else 8) = 8; cases f.dir <;> simp
theorem StoreC.keep {sb mb : Nat} {nv : Value} {s : St} {w w' : World} (h : (StoreC sb mb nv s).ok w) (hm : Pure w w') : Mem (StoreC sb mb nv s).fp w [StoreC sb mb nv s] w' := (Mem.from h).keep hm

section
variable {sb mb : Nat} {nv : Value} {s : St} {w : World}
set_option maxHeartbeats 8000000 in
theorem write_calls (h : (StoreC sb mb nv s).ok w) (hG : GoodS s) (hck : s.clock ≤ 4611686018427387904) (p t : List UInt8) (hp : p.length ≤ 1100000) (ht : t.length ≤ 4611686018427387904) :
    Calls Tryd.prog 16 #[ptr sb, .string (ofL p), .string (ofL t)] w fun e w' => e = .returned (.int .i64 (writeS s p t).2) ∧ ∃ nv', Mem (StoreC sb mb nv s).fp w [StoreC sb mb nv' (writeS s p t).1] w' := by
  have hF := find_calls h p hp
  have hE := findS_e s p
  have hQl : whereL p = some (findS s p).1 → (findS s p).1.length ≤ 1100003 := fun e => whereL_len e (by omega)
  have g5 : 0 ≤ s.used := by rw [hG.used]; exact Int.natCast_nonneg _
  have g6 : s.used ≤ 1048576 := by have := hG.fits; have := hG.room1; omega
  have g7 := hG.room0
  have g8 := hG.room1
  have g9 := hG.len
  have hgt := hG.text
  obtain ⟨⟨s', r⟩, hW⟩ : ∃ R, writeS s p t = R := ⟨_, rfl⟩
  rw [hW]
  unfold writeS at hW
  obtain ⟨⟨Rq, Rf, Re⟩, hR⟩ : ∃ R, findS s p = R := ⟨_, rfl⟩
  rw [hR] at hF hE hQl hW
  simp only at hF hE hQl hW ⊢
  have HW := Lib.hid hW
  clear hW hR
  have hft : Rf.text.length ≤ 65536 := by
    rcases hE with ⟨_, e, _⟩ | ⟨_, e, _⟩ | ⟨_, e, _⟩
    · rw [e]; exact Nat.zero_le _
    · rw [e]; exact Nat.zero_le _
    · exact (hgt _ (mget_mem e)).1
  clear hgt
  have zt := ofL_size t
  have zf := ofL_size Rf.text
  unfold vF at hF
  have hgood := Lib.hid hG
  clear hG
  go_enter Tryd.func16, Tryd.ntmps16
  go_wp2_with fail
  refine hF.mono ?_
  rintro e w1 ⟨rfl, HM1⟩
  clear hF
  have HM2 := HM1.fbox Rf
  have a0 := FBlk.g0 (HM2.at_ 0 rfl)
  have a2 := FBlk.g2 (HM2.at_ 0 rfl)
  have HM2' := Lib.hid HM2
  clear HM1 HM2
  rcases hE with ⟨e1, e2, e3⟩ | ⟨e1, e2, e3, e4⟩ | ⟨e1, e3, e4⟩
  · subst e1
    clear e2 e3 hQl
    go_wp2_with fail
    go_ret
    have h1 := HW.out
    rw [if_pos ⟨by decide, by decide⟩] at h1
    cases h1
    exact ⟨rfl, nv, StoreC.keep h HM2'.out.mu⟩
  · subst e1
    have E3 := Lib.hid e3
    have E4 := Lib.hid e4
    have QL := Lib.hid (hQl e4)
    clear e3 e4 hQl
    have E2 := Lib.hid e2
    clear e2
    have HW1 : Hid ((if Rf.dir = true then (s, 8) else if homeS s Rq ≠ 0 then (s, homeS s Rq) else if 65536 < t.length then (s, 5)
        else if s.room - (t.length : Int) < s.used - (Rf.text.length : Int) ∨ (6 = 6 ∧ 512 ≤ s.files.length) then (s, 9)
        else (noteS (putS s Rq ⟨t, 0, false⟩) 2 Rq, 0)) = (s', r)) := by
      unfold Hid
      have h1 := HW.out
      rw [if_neg (by omega)] at h1
      exact h1
    clear HW
    obtain ⟨d, hd⟩ : ∃ d, Rf.dir = d := ⟨_, rfl⟩
    rw [hd] at a2 HW1
    have HM3 : Hid (Mem none_ w [FBlk w1.heap.size Rf] (w1.alloc (.cells #[.string (ofL Rf.text), .int .i64 Rf.time, .bool d] 50))) := by
      unfold Hid
      rw [← hd]
      exact HM2'.out
    have a0' : (w1.alloc (.cells #[.string (ofL Rf.text), .int .i64 Rf.time, .bool d] 50)).cell? ⟨w1.heap.size, 0, none⟩ = some (.string (ofL Rf.text)) := by rw [← hd]; exact a0
    have a2' : (w1.alloc (.cells #[.string (ofL Rf.text), .int .i64 Rf.time, .bool d] 50)).cell? ⟨w1.heap.size, 2, none⟩ = some (.bool d) := by rw [← hd]; exact FBlk.g2 (HM2'.out.at_ 0 rfl)
    rw [hd]
    clear a0 a2 HM2'
    cases d with
    | true =>
      go_wp2_with fail
      go_ret
      have h1 := HW1.out
      first | rw [if_pos trivial] at h1 | rw [if_pos rfl] at h1
      cases h1
      exact ⟨rfl, nv, StoreC.keep h HM3.out.mu⟩
    | false =>
      have HW2 : Hid ((if homeS s Rq ≠ 0 then (s, homeS s Rq) else if 65536 < t.length then (s, 5)
          else if s.room - (t.length : Int) < s.used - (Rf.text.length : Int) ∨ (6 = 6 ∧ 512 ≤ s.files.length) then (s, 9)
          else (noteS (putS s Rq ⟨t, 0, false⟩) 2 Rq, 0)) = (s', r)) := by
        unfold Hid
        have h1 := HW1.out
        rw [if_neg (by decide)] at h1
        exact h1
      clear HW1
      go_wp2_with fail
      have hH := home_calls (Pure.chunk HM3.out.mu h) Rq (by have := QL.out; omega)
      generalize w1.alloc _ = W1 at *
      refine hH.mono ?_
      rintro e w2 ⟨rfl, HM4⟩
      have HM5 := HM3.out.got HM4
      clear hH HM4 HM3 a0' a2'
      rcases homeS_e s Rq with eh | eh | eh
      · rw [eh] at HW2 ⊢
        by_cases ht5 : 65536 < t.length
        · have dt : decide (65536 < (t.length : Int)) = true := decide_eq_true (by omega)
          go_wp2_with fail
          go_ret
          have h1 := HW2.out
          rw [if_neg (by decide), if_pos ht5] at h1
          cases h1
          exact ⟨rfl, nv, StoreC.keep h HM5.mu⟩
        · have dt : decide (65536 < (t.length : Int)) = false := decide_eq_false (by omega)
          have HM6 := HM5.drew
          simp only [List.nil_append] at HM6
          go_wp2_with fail
          have hC := Pure.chunk HM6.mu h
          have a0 := FBlk.g0 (HM6.at_ 0 rfl)
          have c0 := StoreC.c0 hC
          have c1 := StoreC.c1 hC
          have w01 : IntKind.i64.wrap (s.used - (Rf.text.length : Int)) = s.used - (Rf.text.length : Int) := IntWalk.i64_in _ (by omega)
          have w02 : IntKind.i64.wrap (s.room - (t.length : Int)) = s.room - (t.length : Int) := IntWalk.i64_in _ (by omega)
          by_cases hfull : s.room - (t.length : Int) < s.used - (Rf.text.length : Int)
          · have dfu : decide (s.room - (t.length : Int) < s.used - (Rf.text.length : Int)) = true := decide_eq_true hfull
            refine wp_plan [] (S := fun w' => w' = World.drew _) [(.pure, 0), (.pure, 1), (.pure, 2), (.load, 3), (.pure, 4), (.load, 5), (.pure, 6), (.pure, 7), (.pure, 8), (.pure, 9), (.pure, 10), (.load, 11), (.pure, 12), (.pure, 13), (.pure, 14), (.pure, 15), (.pure, 16)] (by kernel_rfl) rfl (by kernel_rfl) rfl (fun _ _ _ _ _ h => h) rfl ?_
            generalize World.drew _ = W at *
            repeat (first | (refine plan_pure (v := ?_) (a' := ?_) rfl rfl rfl ?_ ?_ ?_; rotate_left 2; (focus (intro w'; go_simp; with_reducible rfl)); (focus (simp only [Act.put, List.setIfInBounds_toArray, List.set_cons_zero, List.set_cons_succ]; rfl))) | (refine plan_load (v := ?_) (a' := ?_) rfl rfl rfl ?_ ?_ ?_; rotate_left 2; (focus (intro w' hw'; rw [hw']; go_simp; with_reducible rfl)); (focus (simp only [Act.put, List.setIfInBounds_toArray, List.set_cons_zero, List.set_cons_succ]; rfl))) | (refine plan_skip rfl rfl (by decide +kernel) (by simp only [Act.put, List.setIfInBounds_toArray, List.set_cons_zero, List.set_cons_succ]; rfl) ?_))
            refine plan_done ?_
            go_wp2_with fail
            go_ret
            have h1 := HW2.out
            rw [if_neg (by decide), if_neg ht5, if_pos (.inl hfull)] at h1
            cases h1
            exact ⟨rfl, nv, StoreC.keep h HM6.mu⟩
          · have dfu : decide (s.room - (t.length : Int) < s.used - (Rf.text.length : Int)) = false := decide_eq_false hfull
            refine wp_plan [] (S := fun w' => w' = World.drew _) [(.pure, 0), (.pure, 1), (.pure, 2), (.load, 3), (.pure, 4), (.load, 5), (.pure, 6), (.pure, 7), (.pure, 8), (.pure, 9), (.pure, 10), (.load, 11), (.pure, 12), (.pure, 13), (.pure, 14), (.pure, 15), (.pure, 16)] (by kernel_rfl) rfl (by kernel_rfl) rfl (fun _ _ _ _ _ h => h) rfl ?_
            generalize World.drew _ = W at *
            repeat (first | (refine plan_pure (v := ?_) (a' := ?_) rfl rfl rfl ?_ ?_ ?_; rotate_left 2; (focus (intro w'; go_simp; with_reducible rfl)); (focus (simp only [Act.put, List.setIfInBounds_toArray, List.set_cons_zero, List.set_cons_succ]; rfl))) | (refine plan_load (v := ?_) (a' := ?_) rfl rfl rfl ?_ ?_ ?_; rotate_left 2; (focus (intro w' hw'; rw [hw']; go_simp; with_reducible rfl)); (focus (simp only [Act.put, List.setIfInBounds_toArray, List.set_cons_zero, List.set_cons_succ]; rfl))) | (refine plan_skip rfl rfl (by decide +kernel) (by simp only [Act.put, List.setIfInBounds_toArray, List.set_cons_zero, List.set_cons_succ]; rfl) ?_))
            refine plan_done ?_
            have HM7 := HM6.mu
            clear HM6 HM5 a0 c0 c1 w01 w02 dfu
            have hmp := StoreC.map_ hC
            have c3 := StoreC.c3 hC
            by_cases hln : 512 ≤ s.files.length
            · have dl : decide (512 ≤ (s.files.length : Int)) = true := decide_eq_true (by omega)
              go_wp2_with (at_len; refine wpList_lenM Tryd.underlying51 rfl _ rfl hmp rfl ?_)
              go_ret
              have h1 := HW2.out
              rw [if_neg (by decide), if_neg ht5, if_pos (.inr ⟨by trivial, hln⟩)] at h1
              cases h1
              exact ⟨rfl, nv, StoreC.keep h HM7⟩
            · have dl : decide (512 ≤ (s.files.length : Int)) = false := decide_eq_false (by omega)
              go_wp2_with (at_len; refine wpList_lenM Tryd.underlying51 rfl _ rfl hmp rfl ?_)
              clear hmp c3
              have hPu := put_calls hC hgood.out hck Rq ⟨t, 0, false⟩ (by show t.length ≤ 65536; omega)
              unfold vF at hPu
              go_wp2_with fail
              refine hPu.mono ?_
              rintro e w3 ⟨rfl, HM8⟩
              have HP : GoodS (putS s Rq ⟨t, 0, false⟩) := putS_good hgood.out QL.out (by show t.length ≤ 65536; omega) (fun h => by cases h) (.inr (by omega)) (by
                show s.used - ((txtS s Rq).length : Int) ≤ s.room - (t.length : Int)
                have : txtS s Rq = Rf.text := by unfold txtS; rw [E3.out, E2.out]; rfl
                rw [this]; omega)
              have hNo := note_calls HM8.head HP 2 Rq
              have HM9 := Mem.call1 (StoreC.keep h HM7) HM8
              clear hPu HM8
              go_wp2_with fail
              refine hNo.mono ?_
              rintro e w4 ⟨rfl, nv', HM10⟩
              have HM11 := Mem.call1 HM9 HM10
              clear hNo HM9 HM10
              go_wp2_with fail
              go_ret
              have h1 := HW2.out
              rw [if_neg (by decide), if_neg ht5, if_neg (by rintro (e | ⟨_, e⟩) <;> omega)] at h1
              cases h1
              exact ⟨rfl, nv', HM11⟩
      · rw [eh] at HW2 ⊢
        go_wp2_with fail
        go_ret
        have h1 := HW2.out
        rw [if_pos (by decide)] at h1
        cases h1
        exact ⟨rfl, nv, StoreC.keep h HM5.mu⟩
      · rw [eh] at HW2 ⊢
        go_wp2_with fail
        go_ret
        have h1 := HW2.out
        rw [if_pos (by decide)] at h1
        cases h1
        exact ⟨rfl, nv, StoreC.keep h HM5.mu⟩
  · subst e1
    have E3 := Lib.hid e3
    have E4 := Lib.hid e4
    have QL := Lib.hid (hQl e4)
    clear e3 e4 hQl
    have HW1 : Hid ((if Rf.dir = true then (s, 8) else if homeS s Rq ≠ 0 then (s, homeS s Rq) else if 65536 < t.length then (s, 5)
        else if s.room - (t.length : Int) < s.used - (Rf.text.length : Int) ∨ (0 = 6 ∧ 512 ≤ s.files.length) then (s, 9)
        else (noteS (putS s Rq ⟨t, 0, false⟩) 2 Rq, 0)) = (s', r)) := by
      unfold Hid
      have h1 := HW.out
      rw [if_neg (by omega)] at h1
      exact h1
    clear HW
    obtain ⟨d, hd⟩ : ∃ d, Rf.dir = d := ⟨_, rfl⟩
    rw [hd] at a2 HW1
    have HM3 : Hid (Mem none_ w [FBlk w1.heap.size Rf] (w1.alloc (.cells #[.string (ofL Rf.text), .int .i64 Rf.time, .bool d] 50))) := by
      unfold Hid
      rw [← hd]
      exact HM2'.out
    have a0' : (w1.alloc (.cells #[.string (ofL Rf.text), .int .i64 Rf.time, .bool d] 50)).cell? ⟨w1.heap.size, 0, none⟩ = some (.string (ofL Rf.text)) := by rw [← hd]; exact a0
    have a2' : (w1.alloc (.cells #[.string (ofL Rf.text), .int .i64 Rf.time, .bool d] 50)).cell? ⟨w1.heap.size, 2, none⟩ = some (.bool d) := by rw [← hd]; exact FBlk.g2 (HM2'.out.at_ 0 rfl)
    rw [hd]
    clear a0 a2 HM2'
    cases d with
    | true =>
      go_wp2_with fail
      go_ret
      have h1 := HW1.out
      first | rw [if_pos trivial] at h1 | rw [if_pos rfl] at h1
      cases h1
      exact ⟨rfl, nv, StoreC.keep h HM3.out.mu⟩
    | false =>
      have HW2 : Hid ((if homeS s Rq ≠ 0 then (s, homeS s Rq) else if 65536 < t.length then (s, 5)
          else if s.room - (t.length : Int) < s.used - (Rf.text.length : Int) ∨ (0 = 6 ∧ 512 ≤ s.files.length) then (s, 9)
          else (noteS (putS s Rq ⟨t, 0, false⟩) 2 Rq, 0)) = (s', r)) := by
        unfold Hid
        have h1 := HW1.out
        rw [if_neg (by decide)] at h1
        exact h1
      clear HW1
      go_wp2_with fail
      have hH := home_calls (Pure.chunk HM3.out.mu h) Rq (by have := QL.out; omega)
      generalize w1.alloc _ = W1 at *
      refine hH.mono ?_
      rintro e w2 ⟨rfl, HM4⟩
      have HM5 := HM3.out.got HM4
      clear hH HM4 HM3 a0' a2'
      rcases homeS_e s Rq with eh | eh | eh
      · rw [eh] at HW2 ⊢
        by_cases ht5 : 65536 < t.length
        · have dt : decide (65536 < (t.length : Int)) = true := decide_eq_true (by omega)
          go_wp2_with fail
          go_ret
          have h1 := HW2.out
          rw [if_neg (by decide), if_pos ht5] at h1
          cases h1
          exact ⟨rfl, nv, StoreC.keep h HM5.mu⟩
        · have dt : decide (65536 < (t.length : Int)) = false := decide_eq_false (by omega)
          have HM6 := HM5.drew
          simp only [List.nil_append] at HM6
          go_wp2_with fail
          have hC := Pure.chunk HM6.mu h
          have a0 := FBlk.g0 (HM6.at_ 0 rfl)
          have c0 := StoreC.c0 hC
          have c1 := StoreC.c1 hC
          have w01 : IntKind.i64.wrap (s.used - (Rf.text.length : Int)) = s.used - (Rf.text.length : Int) := IntWalk.i64_in _ (by omega)
          have w02 : IntKind.i64.wrap (s.room - (t.length : Int)) = s.room - (t.length : Int) := IntWalk.i64_in _ (by omega)
          by_cases hfull : s.room - (t.length : Int) < s.used - (Rf.text.length : Int)
          · have dfu : decide (s.room - (t.length : Int) < s.used - (Rf.text.length : Int)) = true := decide_eq_true hfull
            refine wp_plan [] (S := fun w' => w' = World.drew _) [(.pure, 0), (.pure, 1), (.pure, 2), (.load, 3), (.pure, 4), (.load, 5), (.pure, 6), (.pure, 7), (.pure, 8), (.pure, 9), (.pure, 10), (.load, 11), (.pure, 12), (.pure, 13), (.pure, 14), (.pure, 15), (.pure, 16)] (by kernel_rfl) rfl (by kernel_rfl) rfl (fun _ _ _ _ _ h => h) rfl ?_
            generalize World.drew _ = W at *
            repeat (first | (refine plan_pure (v := ?_) (a' := ?_) rfl rfl rfl ?_ ?_ ?_; rotate_left 2; (focus (intro w'; go_simp; with_reducible rfl)); (focus (simp only [Act.put, List.setIfInBounds_toArray, List.set_cons_zero, List.set_cons_succ]; rfl))) | (refine plan_load (v := ?_) (a' := ?_) rfl rfl rfl ?_ ?_ ?_; rotate_left 2; (focus (intro w' hw'; rw [hw']; go_simp; with_reducible rfl)); (focus (simp only [Act.put, List.setIfInBounds_toArray, List.set_cons_zero, List.set_cons_succ]; rfl))) | (refine plan_skip rfl rfl (by decide +kernel) (by simp only [Act.put, List.setIfInBounds_toArray, List.set_cons_zero, List.set_cons_succ]; rfl) ?_))
            refine plan_done ?_
            go_wp2_with fail
            go_ret
            have h1 := HW2.out
            rw [if_neg (by decide), if_neg ht5, if_pos (.inl hfull)] at h1
            cases h1
            exact ⟨rfl, nv, StoreC.keep h HM6.mu⟩
          · have dfu : decide (s.room - (t.length : Int) < s.used - (Rf.text.length : Int)) = false := decide_eq_false hfull
            refine wp_plan [] (S := fun w' => w' = World.drew _) [(.pure, 0), (.pure, 1), (.pure, 2), (.load, 3), (.pure, 4), (.load, 5), (.pure, 6), (.pure, 7), (.pure, 8), (.pure, 9), (.pure, 10), (.load, 11), (.pure, 12), (.pure, 13), (.pure, 14), (.pure, 15), (.pure, 16)] (by kernel_rfl) rfl (by kernel_rfl) rfl (fun _ _ _ _ _ h => h) rfl ?_
            generalize World.drew _ = W at *
            repeat (first | (refine plan_pure (v := ?_) (a' := ?_) rfl rfl rfl ?_ ?_ ?_; rotate_left 2; (focus (intro w'; go_simp; with_reducible rfl)); (focus (simp only [Act.put, List.setIfInBounds_toArray, List.set_cons_zero, List.set_cons_succ]; rfl))) | (refine plan_load (v := ?_) (a' := ?_) rfl rfl rfl ?_ ?_ ?_; rotate_left 2; (focus (intro w' hw'; rw [hw']; go_simp; with_reducible rfl)); (focus (simp only [Act.put, List.setIfInBounds_toArray, List.set_cons_zero, List.set_cons_succ]; rfl))) | (refine plan_skip rfl rfl (by decide +kernel) (by simp only [Act.put, List.setIfInBounds_toArray, List.set_cons_zero, List.set_cons_succ]; rfl) ?_))
            refine plan_done ?_
            have HM7 := HM6.mu
            clear HM6 HM5 a0 c0 c1 w01 w02 dfu
            have hPu := put_calls hC hgood.out hck Rq ⟨t, 0, false⟩ (by show t.length ≤ 65536; omega)
            unfold vF at hPu
            go_wp2_with fail
            refine hPu.mono ?_
            rintro e w3 ⟨rfl, HM8⟩
            have HP : GoodS (putS s Rq ⟨t, 0, false⟩) := putS_good hgood.out QL.out (by show t.length ≤ 65536; omega) (fun h => by cases h) (.inl (by unfold mhas; rw [E3.out]; rfl)) (by
              show s.used - ((txtS s Rq).length : Int) ≤ s.room - (t.length : Int)
              have : txtS s Rq = Rf.text := by unfold txtS; rw [E3.out]; rfl
              rw [this]; omega)
            have hNo := note_calls HM8.head HP 2 Rq
            have HM9 := Mem.call1 (StoreC.keep h HM7) HM8
            clear hPu HM8
            go_wp2_with fail
            refine hNo.mono ?_
            rintro e w4 ⟨rfl, nv', HM10⟩
            have HM11 := Mem.call1 HM9 HM10
            clear hNo HM9 HM10
            go_wp2_with fail
            go_ret
            have h1 := HW2.out
            rw [if_neg (by decide), if_neg ht5, if_neg (by rintro (e | ⟨e, _⟩) <;> omega)] at h1
            cases h1
            exact ⟨rfl, nv', HM11⟩
      · rw [eh] at HW2 ⊢
        go_wp2_with fail
        go_ret
        have h1 := HW2.out
        rw [if_pos (by decide)] at h1
        cases h1
        exact ⟨rfl, nv, StoreC.keep h HM5.mu⟩
      · rw [eh] at HW2 ⊢
        go_wp2_with fail
        go_ret
        have h1 := HW2.out
        rw [if_pos (by decide)] at h1
        cases h1
        exact ⟨rfl, nv, StoreC.keep h HM5.mu⟩
end
end
section
set_option maxRecDepth 20000
open Go.RowKit

section
variable {sb mb : Nat} {nv : Value} {s : St} {w : World}
set_option maxHeartbeats 4000000 in
theorem touch_calls (h : (StoreC sb mb nv s).ok w) (hG : GoodS s) (hck : s.clock ≤ 4611686018427387904) (p : List UInt8) (hp : p.length ≤ 1100000) :
    Calls Tryd.prog 21 #[ptr sb, .string (ofL p)] w fun e w' => e = .returned (.int .i64 (touchS s p).2) ∧ ∃ nv', Mem (StoreC sb mb nv s).fp w [StoreC sb mb nv' (touchS s p).1] w' := by
  have hF := find_calls h p hp
  have hE := findS_e s p
  have hft : (findS s p).2.1.text.length ≤ 65536 := by
    rcases hE with ⟨_, e, _⟩ | ⟨_, e, _⟩ | ⟨_, e, _⟩
    · rw [e]; exact Nat.zero_le _
    · rw [e]; exact Nat.zero_le _
    · exact (hG.text _ (mget_mem e)).1
  obtain ⟨⟨s', r⟩, hW⟩ : ∃ R, touchS s p = R := ⟨_, rfl⟩
  rw [hW]
  unfold touchS at hW
  have hgood := Lib.hid hG
  clear hE hG
  obtain ⟨⟨Rq, Rf, Re⟩, hR⟩ : ∃ R, findS s p = R := ⟨_, rfl⟩
  rw [hR] at hF hft hW
  simp only at hF hft hW ⊢
  have HW := Lib.hid hW
  clear hW hR
  obtain ⟨ft, fm, fd⟩ := Rf
  unfold vF at hF
  simp only at hF hft
  go_enter Tryd.func21, Tryd.ntmps21
  go_wp2_with fail
  refine hF.mono ?_
  rintro e w1 ⟨rfl, HM1⟩
  clear hF
  have HM2 := Lib.hid (HM1.fbox ⟨ft, fm, fd⟩)
  have a0 := FBlk.g0 (HM2.out.at_ 0 rfl)
  have a1 := FBlk.g1 (HM2.out.at_ 0 rfl)
  have a2 := FBlk.g2 (HM2.out.at_ 0 rfl)
  have hC := Pure.chunk HM2.out.mu h
  simp only at a0 a1 a2 hC
  cases fd with
  | true =>
    have hPu := put_calls hC hgood.out hck Rq ⟨ft, fm, true⟩ hft
    unfold vF at hPu
    simp only at hPu
    go_wp2_with fail
    refine hPu.mono ?_
    rintro e w2 ⟨rfl, HM3⟩
    have HM4 := Mem.call1 (StoreC.keep h HM2.out.mu) HM3
    clear hPu HM3
    go_wp2_with fail
    go_ret
    have h1 := HW.out
    first | rw [if_pos trivial] at h1 | rw [if_pos rfl] at h1
    cases h1
    exact ⟨rfl, nv, HM4⟩
  | false =>
    have hWr := write_calls hC hgood.out hck p ft hp (by omega)
    have h1 := HW.out
    rw [if_neg (by decide)] at h1
    rw [h1] at hWr
    simp only at hWr
    clear h1 HW
    go_wp2_with fail
    refine hWr.mono ?_
    rintro e w2 ⟨rfl, nv', HM3⟩
    have HM4 := Mem.call1 (StoreC.keep h HM2.out.mu) HM3
    clear hWr HM3
    go_wp2_with fail
    go_ret
    exact ⟨rfl, nv', HM4⟩

theorem Mem.nilN {fp : Nat → Prop} {w0 W : World} {F : List Chunk} (h : Mem fp w0 F W) : Mem fp w0 (NRow (.slice none 0 0) [] :: F) W :=
  Mem.new h (Mut.refl _ _) (by exact World.ownsRow_nil _ _ _ _) (by intro b hb; cases hb)
theorem notes_calls (h : (StoreC sb mb nv s).ok w) (b : Bool) :
    Calls Tryd.prog 20 #[ptr sb, .bool b] w fun e w' => e = .returned nv ∧ Mem (StoreC sb mb nv s).fp w [StoreC sb mb (.slice none 0 0) (notesS s b).1, NRow nv s.notes] w' := by
  have hO := ok_calls h
  obtain ⟨A, c, rfl, h1, h2⟩ := Row.any_ (StoreC.row h)
  unfold maxLen at h2
  have HM := StoreC.mem h
  have c4 := StoreC.c4 h
  have c5 := StoreC.c5 h
  have z5 := Blk.frozen (StoreC.blk h) 5
  have z4 := Blk.frozen (StoreC.blk h) 4
  clear h
  go_enter Tryd.func20, Tryd.ntmps20
  go_wp2_with fail
  refine hO.mono ?_
  rintro e w1 ⟨rfl, rfl⟩
  clear hO
  go_wp2_with fail
  have HM2 := Mem.nilN ((HM.blkSet 5 (.slice none 0 0)).blkSet 4 (.bool b))
  simp only [List.setIfInBounds_toArray, List.set_cons_zero, List.set_cons_succ] at HM2
  go_ret
  refine ⟨rfl, ?_⟩
  exact Mem.shut_ (F := [NRow (.slice A s.notes.length c) s.notes]) (cs := StoreF sb mb (.slice none 0 0) (notesS s b).1) (HM2.sel [1, 2, 0, 3] (by decide))
end
theorem new_calls (room : Int) (w : World) (h0 : 0 ≤ room) (h1 : room ≤ 1048576) :
    Calls Tryd.prog 7 #[.int .i64 room] w fun e w' => ∃ sb mb, e = .returned (.tuple #[ptr sb, .int .i64 0]) ∧ Mem none_ w [StoreC sb mb (.slice none 0 0) (newS room)] w' := by
  have d0 : decide (room < 0) = false := decide_eq_false (by omega)
  have d1 : decide (1048576 < room) = false := decide_eq_false (by omega)
  have hmm := @run_makeMap Tryd.prog
  have HM0 := MapC.made (Mem.start (fp := none_) w) kL vF
  go_enter Tryd.func7, Tryd.ntmps7
  go_wp2_with (first | (refine wpList_put (keyL Tryd.underlying9) Tryd.underlying51 rfl _ _ _ (.inr rfl) HM0 rfl rootS rfl ⟨[], 0, true⟩ rfl ?_; intro w2 HM2 HU2; have HM2' := Lib.hid HM2; clear HM2 HU2))
  have HM3 := Mem.nilN (HM2'.out.box #[.int .i64 room, .int .i64 0, .int .i64 0, .map (some w.heap.size), .bool false, .slice none 0 0] 58)
  refine bodyPost_ret (v := .tuple #[ptr w2.heap.size, .int .i64 0]) (by simp [results, Tryd.results7, go_sem]) rfl ⟨w2.heap.size, w.heap.size, rfl, ?_⟩
  exact Mem.shut_ (F := []) (cs := StoreF w2.heap.size w.heap.size (.slice none 0 0) (newS room)) (HM3.sel [1, 2, 0] (by decide))
end
end Go.Proofs.YtjhcabjlhnhkbaaDoor
