/-
  The document's store: note (while nothing is noted), Write (printed by mkRfsD.py).
  The document's store: New.
-/
import Derived.Test.YtnpehlkdfbmnkaaDoorRfsA
set_option linter.unusedVariables false
set_option linter.unusedSimpArgs false
namespace Go.Proofs.YtnpehlkdfbmnkaaDoor
section
set_option maxRecDepth 20000
open Go.RowKit

section
variable {rb : Nat} {lv nv : Value} {s : St} {w : World}
theorem rnote_calls (h : (RefC rb lv nv s).ok w) (hn : s.noting = false) (k : Int) (q : List UInt8) :
    Calls Tryd.prog 69 #[ptr rb, .int .i64 k, .string (ofL q)] w fun e w' => e = .returned (.tuple #[]) ∧ w = w' := by
  have c3 := RefC.c3 h
  rw [hn] at c3
  clear h hn
  go_enter Tryd.func69, Tryd.ntmps69
  go_wp2_with fail
  go_end0
  exact ⟨rfl, rfl⟩
theorem noteS_off {s : St} (h : s.noting = false) (k : Int) (q : List UInt8) : noteS s k q = s := by
  unfold noteS
  rw [if_neg]
  rintro ⟨e, _⟩
  rw [h] at e; cases e

set_option maxHeartbeats 8000000 in
theorem rwrite_calls (h : (RefC rb lv nv s).ok w) (hG : GoodS s) (hn : s.noting = false) (hck : s.clock ≤ 4611686018427387904) (p t : List UInt8) (hp : p.length ≤ 150000) (ht : t.length ≤ 140737488351232) :
    Calls Tryd.prog 40 #[ptr rb, .string (ofL p), .string (ofL t)] w fun e w' => e = .returned (.int .i64 (writeS s p t).2) ∧ ∃ lv', Mem (RefC rb lv nv s).fp w [RefC rb lv' nv (writeS s p t).1] w' := by
  have hW := rwhere_calls p w hp
  have g7 := hG.room0
  have g8 := hG.room1
  have g9 := hG.len
  have g10 : sumT s.files ≤ 1048576 := by have := hG.used; have := hG.fits; omega
  have hus := Lib.hid hG.used
  have hgt := hG.text
  obtain ⟨⟨s', r⟩, hR⟩ : ∃ R, writeS s p t = R := ⟨_, rfl⟩
  rw [hR]
  unfold writeS at hR
  simp only
  have HW := Lib.hid hR
  clear hR
  have zt := ofL_size t
  have hgood := Lib.hid hG
  clear hG
  go_enter Tryd.func40, Tryd.ntmps40
  go_wp2_with fail
  refine hW.mono ?_
  rintro e w1 ⟨rfl, HM1⟩
  clear hW
  have h1 := Pure.chunk HM1.mu h
  cases hq : whereL p with
  | none =>
    have HE : Hid (s' = s ∧ r = 1) := by
      have e := HW.out
      unfold findS at e
      rw [hq] at e
      rw [if_pos (by simp)] at e
      cases e; exact ⟨rfl, rfl⟩
    have e1 : (none : Option (List UInt8)).isSome = false := rfl
    rw [e1]
    clear HW h1 hgt e1
    go_wp2_with fail
    go_ret
    rw [HE.out.1, HE.out.2]
    exact ⟨rfl, lv, RefC.keep h HM1.mu⟩
  | some q =>
    have e1 : (some q).isSome = true := rfl
    have e2 : whereQ p = q := by unfold whereQ; rw [hq]; rfl
    rw [e1, e2]
    have hql := Lib.hid (whereL_len hq (by omega))
    have hH := rhome_calls h1 g9 q (by have := hql.out; omega)
    have hA := at_calls h1 g9 q
    have hF := findS_at (s := s) hq
    have hM := at_mget s q
    have c0 := RefC.c0 h1
    have c2 := RefC.c2 h1
    obtain ⟨b, c, rfl, u1, u2⟩ := Row.at_ (RefC.row h1) hgood.out.pos
    unfold maxLen at u2
    have hrow := fun (j : Nat) (u : Value) (hu : (fls s.files)[j]? = some u) => Row.cell (RefC.row h1) (j := j) (u := u) hu
    have Hrow := Lib.hid hrow
    have hUs := used_calls h1 g9 g10
    have H1 := Lib.hid h1
    clear e1 e2 h1 hrow
    have hHe := homeS_e s q
    have hps := Lib.hid (hgood.out.pos)
    generalize hat : atS s q = ix at *
    go_wp2_with fail
    refine hH.mono ?_
    rintro e w2 ⟨rfl, rfl⟩
    clear hH
    go_wp2_with fail
    refine hA.mono ?_
    rintro e w2 ⟨rfl, rfl⟩
    clear hA
    obtain ⟨hv, hhv⟩ : ∃ hv, homeS s q = hv := ⟨_, rfl⟩
    rw [hhv] at hHe ⊢
    have Hhv := Lib.hid hhv
    clear hhv
    rcases hF with ⟨rfl, hf⟩ | ⟨i, hi, rfl, hf⟩
    · have hF := Lib.hid hf
      clear hf
      have HW2 : Hid ((if homeS s q ≠ 0 then (s, homeS s q) else if 65536 < t.length then (s, 5)
          else if s.room - (t.length : Int) < s.used - ((0 : Nat) : Int) ∨ (6 = 6 ∧ 512 ≤ s.files.length) then (s, 9)
          else (noteS (putS s q ⟨t, 0, false⟩) 2 q, 0)) = (s', r)) := by
        unfold Hid
        have e := HW.out
        rw [hF.out] at e; rw [if_neg (by simp), if_neg (by simp [VF.zero])] at e
        exact e
      clear HW
      rw [Hhv.out] at HW2
      rcases hHe with rfl | rfl | rfl
      · by_cases ht5 : 65536 < t.length
        · have dt : decide (65536 < (t.length : Int)) = true := decide_eq_true (by omega)
          have HE : Hid (s' = s ∧ r = 5) := by
            have e := HW2.out
            rw [if_neg (by decide), if_pos ht5] at e
            cases e; exact ⟨rfl, rfl⟩
          go_wp2_with fail
          go_ret
          rw [HE.out.1, HE.out.2]
          exact ⟨rfl, _, RefC.keep h HM1.mu⟩
        · have dt : decide (65536 < (t.length : Int)) = false := decide_eq_false (by omega)
          have HM2 := HM1.drew
          have hD := Pure.chunk HM2.mu h
          have hUd := used_calls hD g9 g10
          have x0 := RefC.c0 hD
          have x2 := RefC.c2 hD
          have w01 : IntKind.i64.wrap ((sumT s.files : Int)) = (sumT s.files : Int) := IntWalk.i64_in _ (by omega)
          have w02 : IntKind.i64.wrap (s.room - (t.length : Int)) = s.room - (t.length : Int) := IntWalk.i64_in _ (by omega)
          go_wp2_with fail
          clear hUs c0 c2
          by_cases hfull : s.room - (t.length : Int) < (sumT s.files : Int)
          · have dfu : decide (s.room - (t.length : Int) < (sumT s.files : Int)) = true := decide_eq_true hfull
            have HE : Hid (s' = s ∧ r = 9) := by
              have e := HW2.out
              rw [hus.out] at e
              rw [if_neg (by decide), if_neg ht5, if_pos (.inl (by first | exact hfull | simpa using hfull))] at e
              cases e; exact ⟨rfl, rfl⟩
            refine wp_plan [] (S := fun w' => w' = World.drew _) [(.pure, 0), (.pure, 2), (.pure, 4), (.pure, 5), (.pure, 6), (.load, 7), (.pure, 8), (.pure, 9), (.pure, 10), (.eff, 1), (.pure, 3), (.pure, 11), (.pure, 12), (.pure, 13), (.pure, 14), (.pure, 15), (.pure, 16), (.pure, 17), (.pure, 18), (.load, 19), (.pure, 20), (.pure, 21), (.pure, 22), (.pure, 23)] (by kernel_rfl) rfl (by kernel_rfl) rfl (fun _ _ _ _ _ h => h) rfl ?_
            generalize World.drew _ = W at *
            repeat (first | (refine plan_pure (v := ?_) (a' := ?_) rfl rfl rfl ?_ ?_ ?_; rotate_left 2; (focus (intro w'; go_simp; with_reducible rfl)); (focus (simp only [Act.put, List.setIfInBounds_toArray, List.set_cons_zero, List.set_cons_succ]; rfl))) | (refine plan_load (v := ?_) (a' := ?_) rfl rfl rfl ?_ ?_ ?_; rotate_left 2; (focus (intro w' hw'; rw [hw']; go_simp; with_reducible rfl)); (focus (simp only [Act.put, List.setIfInBounds_toArray, List.set_cons_zero, List.set_cons_succ]; rfl))) | (refine plan_skip rfl rfl (by decide +kernel) (by simp only [Act.put, List.setIfInBounds_toArray, List.set_cons_zero, List.set_cons_succ]; rfl) ?_) | (refine plan_skip (a' := ?_) rfl rfl rfl ?_ ?_; rotate_left 1; (focus (simp only [Act.put, List.setIfInBounds_toArray, List.set_cons_zero, List.set_cons_succ]; rfl))) | (refine plan_skipL (a' := ?_) rfl rfl rfl ?_ ?_; rotate_left 1; (focus (simp only [Act.put, List.setIfInBounds_toArray, List.set_cons_zero, List.set_cons_succ]; rfl))))
            refine plan_eff rfl (fun K hK => ?_)
            go_wp2_with fail
            refine hUd.mono ?_
            rintro e w2 ⟨rfl, rfl⟩
            clear hUd
            go_wp2_with fail
            refine hK _ _ rfl ?_
            clear hK
            repeat (first | (refine plan_pure (v := ?_) (a' := ?_) rfl rfl rfl ?_ ?_ ?_; rotate_left 2; (focus (intro w'; go_simp; with_reducible rfl)); (focus (simp only [Act.put, List.setIfInBounds_toArray, List.set_cons_zero, List.set_cons_succ]; rfl))) | (refine plan_load (v := ?_) (a' := ?_) rfl rfl rfl ?_ ?_ ?_; rotate_left 2; (focus (intro w' hw'; rw [hw']; go_simp; with_reducible rfl)); (focus (simp only [Act.put, List.setIfInBounds_toArray, List.set_cons_zero, List.set_cons_succ]; rfl))) | (refine plan_skip rfl rfl (by decide +kernel) (by simp only [Act.put, List.setIfInBounds_toArray, List.set_cons_zero, List.set_cons_succ]; rfl) ?_) | (refine plan_skip (a' := ?_) rfl rfl rfl ?_ ?_; rotate_left 1; (focus (simp only [Act.put, List.setIfInBounds_toArray, List.set_cons_zero, List.set_cons_succ]; rfl))) | (refine plan_skipL (a' := ?_) rfl rfl rfl ?_ ?_; rotate_left 1; (focus (simp only [Act.put, List.setIfInBounds_toArray, List.set_cons_zero, List.set_cons_succ]; rfl))))
            refine plan_done ?_
            go_wp2_with fail
            go_ret
            rw [HE.out.1, HE.out.2]
            exact ⟨rfl, _, RefC.keep h HM2.mu⟩
          · have dfu : decide (s.room - (t.length : Int) < (sumT s.files : Int)) = false := decide_eq_false hfull
            have hSt := rset_calls hD g9 hps.out hgood.out.clock hck q ⟨t, 0, false⟩
            simp only at hSt
            by_cases hln : 512 ≤ s.files.length
            · have dl : decide (512 ≤ (s.files.length : Int)) = true := decide_eq_true (by omega)
              have HE : Hid (s' = s ∧ r = 9) := by
                have e := HW2.out
                rw [if_neg (by decide), if_neg ht5, if_pos (.inr ⟨by trivial, hln⟩)] at e
                cases e; exact ⟨rfl, rfl⟩
              refine wp_plan [] (S := fun w' => w' = World.drew _) [(.pure, 0), (.pure, 2), (.pure, 4), (.pure, 5), (.pure, 6), (.load, 7), (.pure, 8), (.pure, 9), (.pure, 10), (.eff, 1), (.pure, 3), (.pure, 11), (.pure, 12), (.pure, 13), (.pure, 14), (.pure, 15), (.pure, 16), (.pure, 17), (.pure, 18), (.load, 19), (.pure, 20), (.pure, 21), (.pure, 22), (.pure, 23)] (by kernel_rfl) rfl (by kernel_rfl) rfl (fun _ _ _ _ _ h => h) rfl ?_
              generalize World.drew _ = W at *
              repeat (first | (refine plan_pure (v := ?_) (a' := ?_) rfl rfl rfl ?_ ?_ ?_; rotate_left 2; (focus (intro w'; go_simp; with_reducible rfl)); (focus (simp only [Act.put, List.setIfInBounds_toArray, List.set_cons_zero, List.set_cons_succ]; rfl))) | (refine plan_load (v := ?_) (a' := ?_) rfl rfl rfl ?_ ?_ ?_; rotate_left 2; (focus (intro w' hw'; rw [hw']; go_simp; with_reducible rfl)); (focus (simp only [Act.put, List.setIfInBounds_toArray, List.set_cons_zero, List.set_cons_succ]; rfl))) | (refine plan_skip rfl rfl (by decide +kernel) (by simp only [Act.put, List.setIfInBounds_toArray, List.set_cons_zero, List.set_cons_succ]; rfl) ?_) | (refine plan_skip (a' := ?_) rfl rfl rfl ?_ ?_; rotate_left 1; (focus (simp only [Act.put, List.setIfInBounds_toArray, List.set_cons_zero, List.set_cons_succ]; rfl))) | (refine plan_skipL (a' := ?_) rfl rfl rfl ?_ ?_; rotate_left 1; (focus (simp only [Act.put, List.setIfInBounds_toArray, List.set_cons_zero, List.set_cons_succ]; rfl))))
              refine plan_eff rfl (fun K hK => ?_)
              go_wp2_with fail
              refine hUd.mono ?_
              rintro e w2 ⟨rfl, rfl⟩
              clear hUd
              go_wp2_with fail
              refine hK _ _ rfl ?_
              clear hK
              repeat (first | (refine plan_pure (v := ?_) (a' := ?_) rfl rfl rfl ?_ ?_ ?_; rotate_left 2; (focus (intro w'; go_simp; with_reducible rfl)); (focus (simp only [Act.put, List.setIfInBounds_toArray, List.set_cons_zero, List.set_cons_succ]; rfl))) | (refine plan_load (v := ?_) (a' := ?_) rfl rfl rfl ?_ ?_ ?_; rotate_left 2; (focus (intro w' hw'; rw [hw']; go_simp; with_reducible rfl)); (focus (simp only [Act.put, List.setIfInBounds_toArray, List.set_cons_zero, List.set_cons_succ]; rfl))) | (refine plan_skip rfl rfl (by decide +kernel) (by simp only [Act.put, List.setIfInBounds_toArray, List.set_cons_zero, List.set_cons_succ]; rfl) ?_) | (refine plan_skip (a' := ?_) rfl rfl rfl ?_ ?_; rotate_left 1; (focus (simp only [Act.put, List.setIfInBounds_toArray, List.set_cons_zero, List.set_cons_succ]; rfl))) | (refine plan_skipL (a' := ?_) rfl rfl rfl ?_ ?_; rotate_left 1; (focus (simp only [Act.put, List.setIfInBounds_toArray, List.set_cons_zero, List.set_cons_succ]; rfl))))
              refine plan_done ?_
              go_wp2_with fail
              go_ret
              rw [HE.out.1, HE.out.2]
              exact ⟨rfl, _, RefC.keep h HM2.mu⟩
            · have dl : decide (512 ≤ (s.files.length : Int)) = false := decide_eq_false (by omega)
              have HE : Hid ((putS s q ⟨t, 0, false⟩, 0) = (s', r)) := by
                have e := HW2.out
                rw [hus.out] at e
                rw [if_neg (by decide), if_neg ht5, if_neg (by rintro (e | ⟨_, e⟩) <;> omega), noteS_off (show (putS s q ⟨t, 0, false⟩).noting = false from hn)] at e
                exact e
              refine wp_plan [] (S := fun w' => w' = World.drew _) [(.pure, 0), (.pure, 2), (.pure, 4), (.pure, 5), (.pure, 6), (.load, 7), (.pure, 8), (.pure, 9), (.pure, 10), (.eff, 1), (.pure, 3), (.pure, 11), (.pure, 12), (.pure, 13), (.pure, 14), (.pure, 15), (.pure, 16), (.pure, 17), (.pure, 18), (.load, 19), (.pure, 20), (.pure, 21), (.pure, 22), (.pure, 23)] (by kernel_rfl) rfl (by kernel_rfl) rfl (fun _ _ _ _ _ h => h) rfl ?_
              generalize World.drew _ = W at *
              repeat (first | (refine plan_pure (v := ?_) (a' := ?_) rfl rfl rfl ?_ ?_ ?_; rotate_left 2; (focus (intro w'; go_simp; with_reducible rfl)); (focus (simp only [Act.put, List.setIfInBounds_toArray, List.set_cons_zero, List.set_cons_succ]; rfl))) | (refine plan_load (v := ?_) (a' := ?_) rfl rfl rfl ?_ ?_ ?_; rotate_left 2; (focus (intro w' hw'; rw [hw']; go_simp; with_reducible rfl)); (focus (simp only [Act.put, List.setIfInBounds_toArray, List.set_cons_zero, List.set_cons_succ]; rfl))) | (refine plan_skip rfl rfl (by decide +kernel) (by simp only [Act.put, List.setIfInBounds_toArray, List.set_cons_zero, List.set_cons_succ]; rfl) ?_) | (refine plan_skip (a' := ?_) rfl rfl rfl ?_ ?_; rotate_left 1; (focus (simp only [Act.put, List.setIfInBounds_toArray, List.set_cons_zero, List.set_cons_succ]; rfl))) | (refine plan_skipL (a' := ?_) rfl rfl rfl ?_ ?_; rotate_left 1; (focus (simp only [Act.put, List.setIfInBounds_toArray, List.set_cons_zero, List.set_cons_succ]; rfl))))
              refine plan_eff rfl (fun K hK => ?_)
              go_wp2_with fail
              refine hUd.mono ?_
              rintro e w2 ⟨rfl, rfl⟩
              clear hUd
              go_wp2_with fail
              refine hK _ _ rfl ?_
              clear hK
              repeat (first | (refine plan_pure (v := ?_) (a' := ?_) rfl rfl rfl ?_ ?_ ?_; rotate_left 2; (focus (intro w'; go_simp; with_reducible rfl)); (focus (simp only [Act.put, List.setIfInBounds_toArray, List.set_cons_zero, List.set_cons_succ]; rfl))) | (refine plan_load (v := ?_) (a' := ?_) rfl rfl rfl ?_ ?_ ?_; rotate_left 2; (focus (intro w' hw'; rw [hw']; go_simp; with_reducible rfl)); (focus (simp only [Act.put, List.setIfInBounds_toArray, List.set_cons_zero, List.set_cons_succ]; rfl))) | (refine plan_skip rfl rfl (by decide +kernel) (by simp only [Act.put, List.setIfInBounds_toArray, List.set_cons_zero, List.set_cons_succ]; rfl) ?_) | (refine plan_skip (a' := ?_) rfl rfl rfl ?_ ?_; rotate_left 1; (focus (simp only [Act.put, List.setIfInBounds_toArray, List.set_cons_zero, List.set_cons_succ]; rfl))) | (refine plan_skipL (a' := ?_) rfl rfl rfl ?_ ?_; rotate_left 1; (focus (simp only [Act.put, List.setIfInBounds_toArray, List.set_cons_zero, List.set_cons_succ]; rfl))))
              refine plan_done ?_
              have HM3 := HM2.mu
              clear HM2 hD x0 x2 w01 w02
              go_wp2_with fail
              refine hSt.mono ?_
              rintro e w3 ⟨rfl, lv', HM4⟩
              have hNo := rnote_calls HM4.head hn 2 q
              have HM5 := Mem.call1 (RefC.keep h HM3) HM4
              clear hSt HM4
              go_wp2_with fail
              refine hNo.mono ?_
              rintro e w4 ⟨rfl, rfl⟩
              clear hNo
              go_wp2_with fail
              go_ret
              have e := HE.out
              cases e
              exact ⟨rfl, lv', HM5⟩
      · have HE : Hid (s' = s ∧ r = 6) := by
          have e := HW2.out
          rw [if_pos (by decide)] at e
          cases e; exact ⟨rfl, rfl⟩
        go_wp2_with fail
        go_ret
        rw [HE.out.1, HE.out.2]
        exact ⟨rfl, _, RefC.keep h HM1.mu⟩
      · have HE : Hid (s' = s ∧ r = 8) := by
          have e := HW2.out
          rw [if_pos (by decide)] at e
          cases e; exact ⟨rfl, rfl⟩
        go_wp2_with fail
        go_ret
        rw [HE.out.1, HE.out.2]
        exact ⟨rfl, _, RefC.keep h HM1.mu⟩
    · have hF := Lib.hid hf
      have fg := fls_get hi
      have k3 := Hrow.out _ _ fg.2.2.2
      have k1 := Hrow.out _ _ fg.2.1
      have hi0 : decide ((i : Int) < 0) = false := decide_eq_false (by omega)
      have hi1 : decide (0 ≤ (i : Int)) = true := decide_eq_true (by omega)
      have hi2 : decide ((i : Int) < (s.files.length : Int)) = true := decide_eq_true (by omega)
      have hft := (hgt _ (List.getElem_mem hi)).1
      have hmm := mget s.files q
      have Hmg : Hid (mget s.files q = some s.files[i].2) := by
        rcases hM with ⟨e, _⟩ | ⟨j, hj, e, e2, _⟩
        · omega
        · have : i = j := by omega
          subst this; exact e2
      have zf := ofL_size s.files[i].2.text
      clear fg hf
      obtain ⟨f, hfe⟩ : ∃ f, s.files[i].2 = f := ⟨_, rfl⟩
      rw [hfe] at k3 k1 hft Hmg zf hF
      clear hfe
      obtain ⟨ft, fm, fd⟩ := f
      simp only at k3 k1 hft Hmg zf hF
      cases fd with
      | true =>
        have HE : Hid (s' = s ∧ r = 8) := by
          have e := HW.out
          rw [hF.out] at e
          rw [if_neg (by simp)] at e
          first | rw [if_pos trivial] at e | rw [if_pos rfl] at e
          cases e; exact ⟨rfl, rfl⟩
        rcases hHe with rfl | rfl | rfl <;>
        · go_wp2_with fail
          go_ret
          rw [HE.out.1, HE.out.2]
          exact ⟨rfl, _, RefC.keep h HM1.mu⟩
      | false =>
        have HW2 : Hid ((if homeS s q ≠ 0 then (s, homeS s q) else if 65536 < t.length then (s, 5)
            else if s.room - (t.length : Int) < s.used - ((ft.length : Nat) : Int) ∨ (0 = 6 ∧ 512 ≤ s.files.length) then (s, 9)
            else (noteS (putS s q ⟨t, 0, false⟩) 2 q, 0)) = (s', r)) := by
          unfold Hid
          have e := HW.out
          rw [hF.out] at e; rw [if_neg (by simp), if_neg (by simp [VF.zero])] at e
          exact e
        clear HW
        rw [Hhv.out] at HW2
        rcases hHe with rfl | rfl | rfl
        · by_cases ht5 : 65536 < t.length
          · have dt : decide (65536 < (t.length : Int)) = true := decide_eq_true (by omega)
            have HE : Hid (s' = s ∧ r = 5) := by
              have e := HW2.out
              rw [if_neg (by decide), if_pos ht5] at e
              cases e; exact ⟨rfl, rfl⟩
            go_wp2_with fail
            go_ret
            rw [HE.out.1, HE.out.2]
            exact ⟨rfl, _, RefC.keep h HM1.mu⟩
          · have dt : decide (65536 < (t.length : Int)) = false := decide_eq_false (by omega)
            have HM2 := HM1.drew
            have hD := Pure.chunk HM2.mu h
            have hUd := used_calls hD g9 g10
            have x0 := RefC.c0 hD
            have x2 := RefC.c2 hD
            have w01 : IntKind.i64.wrap ((sumT s.files : Int) - (ft.length : Int)) = (sumT s.files : Int) - (ft.length : Int) := IntWalk.i64_in _ (by omega)
            have w02 : IntKind.i64.wrap (s.room - (t.length : Int)) = s.room - (t.length : Int) := IntWalk.i64_in _ (by omega)
            go_wp2_with fail
            clear hUs c0 c2
            by_cases hfull : s.room - (t.length : Int) < (sumT s.files : Int) - (ft.length : Int)
            · have dfu : decide (s.room - (t.length : Int) < (sumT s.files : Int) - (ft.length : Int)) = true := decide_eq_true hfull
              have HE : Hid (s' = s ∧ r = 9) := by
                have e := HW2.out
                rw [hus.out] at e
                rw [if_neg (by decide), if_neg ht5, if_pos (.inl (by first | exact hfull | simpa using hfull))] at e
                cases e; exact ⟨rfl, rfl⟩
              refine wp_plan [] (S := fun w' => w' = World.drew _) [(.pure, 0), (.pure, 2), (.pure, 4), (.pure, 5), (.pure, 6), (.load, 7), (.pure, 8), (.pure, 9), (.pure, 10), (.eff, 1), (.pure, 3), (.pure, 11), (.pure, 12), (.pure, 13), (.pure, 14), (.pure, 15), (.pure, 16), (.pure, 17), (.pure, 18), (.load, 19), (.pure, 20), (.pure, 21), (.pure, 22), (.pure, 23)] (by kernel_rfl) rfl (by kernel_rfl) rfl (fun _ _ _ _ _ h => h) rfl ?_
              generalize World.drew _ = W at *
              repeat (first | (refine plan_pure (v := ?_) (a' := ?_) rfl rfl rfl ?_ ?_ ?_; rotate_left 2; (focus (intro w'; go_simp; with_reducible rfl)); (focus (simp only [Act.put, List.setIfInBounds_toArray, List.set_cons_zero, List.set_cons_succ]; rfl))) | (refine plan_load (v := ?_) (a' := ?_) rfl rfl rfl ?_ ?_ ?_; rotate_left 2; (focus (intro w' hw'; rw [hw']; go_simp; with_reducible rfl)); (focus (simp only [Act.put, List.setIfInBounds_toArray, List.set_cons_zero, List.set_cons_succ]; rfl))) | (refine plan_skip rfl rfl (by decide +kernel) (by simp only [Act.put, List.setIfInBounds_toArray, List.set_cons_zero, List.set_cons_succ]; rfl) ?_) | (refine plan_skip (a' := ?_) rfl rfl rfl ?_ ?_; rotate_left 1; (focus (simp only [Act.put, List.setIfInBounds_toArray, List.set_cons_zero, List.set_cons_succ]; rfl))) | (refine plan_skipL (a' := ?_) rfl rfl rfl ?_ ?_; rotate_left 1; (focus (simp only [Act.put, List.setIfInBounds_toArray, List.set_cons_zero, List.set_cons_succ]; rfl))))
              refine plan_eff rfl (fun K hK => ?_)
              go_wp2_with fail
              refine hUd.mono ?_
              rintro e w2 ⟨rfl, rfl⟩
              clear hUd
              go_wp2_with fail
              refine hK _ _ rfl ?_
              clear hK
              repeat (first | (refine plan_pure (v := ?_) (a' := ?_) rfl rfl rfl ?_ ?_ ?_; rotate_left 2; (focus (intro w'; go_simp; with_reducible rfl)); (focus (simp only [Act.put, List.setIfInBounds_toArray, List.set_cons_zero, List.set_cons_succ]; rfl))) | (refine plan_load (v := ?_) (a' := ?_) rfl rfl rfl ?_ ?_ ?_; rotate_left 2; (focus (intro w' hw'; rw [hw']; go_simp; with_reducible rfl)); (focus (simp only [Act.put, List.setIfInBounds_toArray, List.set_cons_zero, List.set_cons_succ]; rfl))) | (refine plan_skip rfl rfl (by decide +kernel) (by simp only [Act.put, List.setIfInBounds_toArray, List.set_cons_zero, List.set_cons_succ]; rfl) ?_) | (refine plan_skip (a' := ?_) rfl rfl rfl ?_ ?_; rotate_left 1; (focus (simp only [Act.put, List.setIfInBounds_toArray, List.set_cons_zero, List.set_cons_succ]; rfl))) | (refine plan_skipL (a' := ?_) rfl rfl rfl ?_ ?_; rotate_left 1; (focus (simp only [Act.put, List.setIfInBounds_toArray, List.set_cons_zero, List.set_cons_succ]; rfl))))
              refine plan_done ?_
              go_wp2_with fail
              go_ret
              rw [HE.out.1, HE.out.2]
              exact ⟨rfl, _, RefC.keep h HM2.mu⟩
            · have dfu : decide (s.room - (t.length : Int) < (sumT s.files : Int) - (ft.length : Int)) = false := decide_eq_false hfull
              have hSt := rset_calls hD g9 hps.out hgood.out.clock hck q ⟨t, 0, false⟩
              simp only at hSt
              have HE : Hid ((putS s q ⟨t, 0, false⟩, 0) = (s', r)) := by
                have e := HW2.out
                rw [hus.out] at e
                rw [if_neg (by decide), if_neg ht5, if_neg (by rintro (e | ⟨e, _⟩) <;> omega), noteS_off (show (putS s q ⟨t, 0, false⟩).noting = false from hn)] at e
                exact e
              refine wp_plan [] (S := fun w' => w' = World.drew _) [(.pure, 0), (.pure, 2), (.pure, 4), (.pure, 5), (.pure, 6), (.load, 7), (.pure, 8), (.pure, 9), (.pure, 10), (.eff, 1), (.pure, 3), (.pure, 11), (.pure, 12), (.pure, 13), (.pure, 14), (.pure, 15), (.pure, 16), (.pure, 17), (.pure, 18), (.load, 19), (.pure, 20), (.pure, 21), (.pure, 22), (.pure, 23)] (by kernel_rfl) rfl (by kernel_rfl) rfl (fun _ _ _ _ _ h => h) rfl ?_
              generalize World.drew _ = W at *
              repeat (first | (refine plan_pure (v := ?_) (a' := ?_) rfl rfl rfl ?_ ?_ ?_; rotate_left 2; (focus (intro w'; go_simp; with_reducible rfl)); (focus (simp only [Act.put, List.setIfInBounds_toArray, List.set_cons_zero, List.set_cons_succ]; rfl))) | (refine plan_load (v := ?_) (a' := ?_) rfl rfl rfl ?_ ?_ ?_; rotate_left 2; (focus (intro w' hw'; rw [hw']; go_simp; with_reducible rfl)); (focus (simp only [Act.put, List.setIfInBounds_toArray, List.set_cons_zero, List.set_cons_succ]; rfl))) | (refine plan_skip rfl rfl (by decide +kernel) (by simp only [Act.put, List.setIfInBounds_toArray, List.set_cons_zero, List.set_cons_succ]; rfl) ?_) | (refine plan_skip (a' := ?_) rfl rfl rfl ?_ ?_; rotate_left 1; (focus (simp only [Act.put, List.setIfInBounds_toArray, List.set_cons_zero, List.set_cons_succ]; rfl))) | (refine plan_skipL (a' := ?_) rfl rfl rfl ?_ ?_; rotate_left 1; (focus (simp only [Act.put, List.setIfInBounds_toArray, List.set_cons_zero, List.set_cons_succ]; rfl))))
              refine plan_eff rfl (fun K hK => ?_)
              go_wp2_with fail
              refine hUd.mono ?_
              rintro e w2 ⟨rfl, rfl⟩
              clear hUd
              go_wp2_with fail
              refine hK _ _ rfl ?_
              clear hK
              repeat (first | (refine plan_pure (v := ?_) (a' := ?_) rfl rfl rfl ?_ ?_ ?_; rotate_left 2; (focus (intro w'; go_simp; with_reducible rfl)); (focus (simp only [Act.put, List.setIfInBounds_toArray, List.set_cons_zero, List.set_cons_succ]; rfl))) | (refine plan_load (v := ?_) (a' := ?_) rfl rfl rfl ?_ ?_ ?_; rotate_left 2; (focus (intro w' hw'; rw [hw']; go_simp; with_reducible rfl)); (focus (simp only [Act.put, List.setIfInBounds_toArray, List.set_cons_zero, List.set_cons_succ]; rfl))) | (refine plan_skip rfl rfl (by decide +kernel) (by simp only [Act.put, List.setIfInBounds_toArray, List.set_cons_zero, List.set_cons_succ]; rfl) ?_) | (refine plan_skip (a' := ?_) rfl rfl rfl ?_ ?_; rotate_left 1; (focus (simp only [Act.put, List.setIfInBounds_toArray, List.set_cons_zero, List.set_cons_succ]; rfl))) | (refine plan_skipL (a' := ?_) rfl rfl rfl ?_ ?_; rotate_left 1; (focus (simp only [Act.put, List.setIfInBounds_toArray, List.set_cons_zero, List.set_cons_succ]; rfl))))
              refine plan_done ?_
              have HM3 := HM2.mu
              clear HM2 hD x0 x2 w01 w02
              go_wp2_with fail
              refine hSt.mono ?_
              rintro e w3 ⟨rfl, lv', HM4⟩
              have hNo := rnote_calls HM4.head hn 2 q
              have HM5 := Mem.call1 (RefC.keep h HM3) HM4
              clear hSt HM4
              go_wp2_with fail
              refine hNo.mono ?_
              rintro e w4 ⟨rfl, rfl⟩
              clear hNo
              go_wp2_with fail
              go_ret
              have e := HE.out
              cases e
              exact ⟨rfl, lv', HM5⟩
        · have HE : Hid (s' = s ∧ r = 6) := by
            have e := HW2.out
            rw [if_pos (by decide)] at e
            cases e; exact ⟨rfl, rfl⟩
          go_wp2_with fail
          go_ret
          rw [HE.out.1, HE.out.2]
          exact ⟨rfl, _, RefC.keep h HM1.mu⟩
        · have HE : Hid (s' = s ∧ r = 8) := by
            have e := HW2.out
            rw [if_pos (by decide)] at e
            cases e; exact ⟨rfl, rfl⟩
          go_wp2_with fail
          go_ret
          rw [HE.out.1, HE.out.2]
          exact ⟨rfl, _, RefC.keep h HM1.mu⟩
end
end
section
set_option maxRecDepth 20000
open Go.RowKit

set_option maxHeartbeats 2000000 in
theorem rnew_calls (room : Int) (w : World) (h0 : 0 ≤ room) (h1 : room ≤ 1048576) :
    Calls Tryd.prog 39 #[.int .i64 room] w fun e w' => ∃ lv, e = .returned (.tuple #[.agg #[.int .i64 room, .int .i64 0, lv, .bool false, .slice none 0 0], .int .i64 0]) ∧ Mem none_ w [FRow lv [(rootS, ⟨[], 0, true⟩)]] w' := by
  have d0 : decide (room < 0) = false := decide_eq_false (by omega)
  have d1 : decide (1048576 < room) = false := decide_eq_false (by omega)
  have HM0 := (Mem.start (fp := none_) w).box #[.int .i64 0, .int .i64 0, .slice none 0 0, .bool false, .slice none 0 0] 81
  have HM1 := HM0.lit 129 4 1 [.string ⟨#[47]⟩, .string ⟨#[]⟩, .int .i64 0, .bool true] rfl (by unfold maxLen; omega)
  simp only [World.size_alloc] at HM1
  have HM2 := HM1.sel [1, 0] (by decide)
  simp only [List.filterMap_cons, List.filterMap_nil, List.getElem?_cons_succ, List.getElem?_cons_zero] at HM2
  have HM2' := Lib.hid HM2
  have y0 := Blk.cell_ (HM2.at_ 0 rfl) 0
  have y1 := Blk.cell_ (HM2.at_ 0 rfl) 1
  have y2 := Blk.cell_ (HM2.at_ 0 rfl) 2
  have y3 := Blk.cell_ (HM2.at_ 0 rfl) 3
  have y4 := Blk.cell_ (HM2.at_ 0 rfl) 4
  have z0 := Blk.frozen (HM2.at_ 0 rfl) 0
  have z1 := Blk.frozen (HM2.at_ 0 rfl) 1
  have z2 := Blk.frozen (HM2.at_ 0 rfl) 2
  have z3 := Blk.frozen (HM2.at_ 0 rfl) 3
  have z4 := Blk.frozen (HM2.at_ 0 rfl) 4
  simp only [List.getElem?_toArray, List.getElem?_cons_succ, List.getElem?_cons_zero] at y0 y1 y2 y3 y4
  clear HM0 HM1 HM2
  go_enter Tryd.func39, Tryd.ntmps39
  go_wp2_with fail
  clear HM2' y0 y1 y2 y3 y4 z0 z1 z2 z3 z4
  have HM0 := (Mem.start (fp := none_) w).box #[.int .i64 room, .int .i64 0, .slice (some ⟨w.heap.size + 1, 0, none⟩) 1 1, .bool false, .slice none 0 0] 81
  have HM1 := HM0.lit 129 4 1 [.string ⟨#[47]⟩, .string ⟨#[]⟩, .int .i64 0, .bool true] rfl (by unfold maxLen; omega)
  simp only [World.size_alloc] at HM1
  have f0 := Blk.cell_ (HM1.at_ 1 rfl) 0
  have f1 := Blk.cell_ (HM1.at_ 1 rfl) 1
  have f2 := Blk.cell_ (HM1.at_ 1 rfl) 2
  have f3 := Blk.cell_ (HM1.at_ 1 rfl) 3
  have f4 := Blk.cell_ (HM1.at_ 1 rfl) 4
  simp only [List.getElem?_toArray, List.getElem?_cons_succ, List.getElem?_cons_zero] at f0 f1 f2 f3 f4
  have HM4 := HM1.sel [0] (by decide)
  clear HM0 HM1
  generalize hwb : w.heap.size = wb at *
  generalize World.alloc _ _ = W at *
  exact bodyPost_ret (v := .tuple #[.agg #[.int .i64 room, .int .i64 0, .slice (some ⟨wb + 1, 0, none⟩) 1 1, .bool false, .slice none 0 0], .int .i64 0]) (by simp [results, Tryd.results39, go_sem, f0, f1, f2, f3, f4]) rfl ⟨.slice (some ⟨wb + 1, 0, none⟩) 1 1, rfl, HM4⟩
end
end Go.Proofs.YtnpehlkdfbmnkaaDoor
