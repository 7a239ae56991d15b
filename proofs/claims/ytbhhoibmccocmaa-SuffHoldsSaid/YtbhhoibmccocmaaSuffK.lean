/-
  The walk of the statement SuffHolds.
-/
import Derived.Test.YtbhhoibmccocmaaSuffJ
set_option linter.unusedVariables false
set_option linter.unusedSimpArgs false
namespace Go.Proofs.Ytbhhoibmccocmaa
open Go.RowKit

/-- What the statement asks of a chain that was found. -/
structure Held (ways : List (ByteArray × ByteArray)) (name : ByteArray) (there c : List ByteArray) (n : Nat) : Prop where
  lo : 1 ≤ n
  hi : n ≤ 7
  len : c.length = n + 1
  first : ∀ h : 0 < c.length, mem there c[0] = true
  last : ∀ h : n < c.length, c[n] = name
  step : ∀ k (h : k < c.length), 1 ≤ k → mem (nextOf c[k] ways) c[k - 1] = true
  none : ∀ k (h : k < c.length), 1 ≤ k → k < n → mem there c[k] = false
  size : ∀ k (h : k < c.length), c[k].size ≤ 9000

theorem held_of {s : List ByteArray} {ways : List (ByteArray × ByteArray)} {name : ByteArray} {there c : List ByteArray} (hn : name.size ≤ 1000) (hf : farT s ways = false) (h : ChainR s ways name there c) (ho : (rightOf s ways && hit ways name there) = true) : ∃ n, Held ways name there c n := by
  obtain ⟨n, l, rfl, h1, h2, h3, h4, h5, h6, h7⟩ := h.2 ho
  rw [Bool.and_eq_true] at ho
  have hw := (right_small ho.1 hf).1
  generalize hc : (walkOf ways name there).2 :: l = c at *
  have hl : c.length = n + 1 := by rw [← hc]; simp [h3]
  have step : ∀ i (h : i + 1 < c.length), c[i] ∈ nextOf c[i + 1] ways ∧ (0 < i → c[i] ∉ there) := by
    intro i hi
    obtain ⟨z, x, e1, e2, e3, e4⟩ := h7 i (by omega)
    rw [List.getElem?_eq_getElem (by omega)] at e1 e2
    cases e1; cases e2
    exact ⟨e3, e4⟩
  have hlast : ∀ h : n < c.length, c[n] = name := by
    intro h
    rw [List.getElem?_eq_getElem h] at h6
    exact Option.some.inj h6
  have hsize : ∀ j, j ≤ n → ∀ h : n - j < c.length, c[n - j].size ≤ 1000 + 1000 * j := by
    intro j
    induction j with
    | zero => intro _ h; have := hlast (by omega); simp only [Nat.sub_zero]; rw [this]; omega
    | succ j ih =>
      intro hj h
      have h8 := (step (n - (j + 1)) (by omega)).1
      have h9 := nextOf_size hw h8
      have h10 := ih (by omega) (by omega)
      have e : c[n - (j + 1) + 1]'(by omega) = c[n - j]'(by omega) := by congr 1; omega
      rw [e] at h9
      exact Nat.le_trans h9 (Nat.le_trans (Nat.add_le_add_right h10 1000) (by omega))
  refine ⟨n, h1, h2, hl, fun h => ?_, hlast, fun k h hk => ?_, fun k h hk hkn => ?_, fun k h => ?_⟩
  · rw [mem_iff]
    have : c[0] = (walkOf ways name there).2 := by simp only [← hc, List.getElem_cons_zero]
    rw [this]; exact h5
  · rw [mem_iff]
    obtain ⟨j, rfl⟩ : ∃ j, k = j + 1 := ⟨k - 1, by omega⟩
    exact (step j (by omega)).1
  · rw [mem_false]
    exact (step k (by omega)).2 (by omega)
  · have := hsize (n - k) (by omega) (by omega)
    have e : c[n - (n - k)]'(by omega) = c[k] := by congr 1; omega
    rw [e] at this
    omega

theorem row_cells {w : World} {b o k : Nat} {l : List ByteArray} (h : (StrRow (.slice (some ⟨b, o, none⟩) l.length k) l).ok w) {i : Nat} (hi : i < l.length) : w.cell? ⟨b, o + i, none⟩ = some (.string l[i]) := by
  obtain ⟨A, c, e, h1, h2, h3, h4⟩ := Row.sl h
  cases e
  obtain ⟨b', o', e, hc⟩ := h4.resolve_left (by omega)
  cases e
  exact hc i _ (strs_get hi)

set_option maxHeartbeats 4000000 in
theorem holds_calls (SV WV TV : Value) (s : List ByteArray) (ways : List (ByteArray × ByteArray)) (name : ByteArray) (there : List ByteArray) (w : World) (hS : Strs w SV s) (hW : Prs w WV ways) (hT : Strs w TV there) (hns : name.size ≤ 9223372036854775807) :
    Calls Try.prog 3 #[.agg #[SV, WV], .string name, TV] w fun e w' => e = .returned (.bool true) ∧ Mem none_ w [] w' := by
  obtain ⟨A, c, rfl, h1, h2, h3, h4⟩ := id hS
  obtain ⟨A', c', rfl, h1', h2', h3', h4'⟩ := id hW
  obtain ⟨AT, cT, rfl, t1, t2, t3, t4⟩ := id hT
  unfold maxLen at h2 h2' t2
  clear h3 h4 h3' h4' t3 t4
  have HM0 := ((Mem.start (fp := none_) w).box #[.slice A s.length c, .slice A' ways.length c'] 25)
  cases hf : farT s ways
  · by_cases hn : 200 < name.size
    · have hn' : decide (200 < (name.size : Int)) = true := decide_eq_true (by omega)
      go_enter Try.func3, Try.ntmps3
      go_wp2_with (first | (go_at_call 6; refine (far_calls _ _ s ways _ (hS.pure HM0.mu) (hW.pure HM0.mu)).mono ?_; rintro e w1 ⟨rfl, HM1⟩) | (go_at_call 7; refine (alive_calls _).mono ?_; rintro e w2 ⟨rfl, HM2⟩))
      go_ret
      exact ⟨rfl, ((HM0.got HM1).got HM2).sel [] (by decide)⟩
    · have hn' : decide (200 < (name.size : Int)) = false := decide_eq_false (by omega)
      by_cases ht : 60 < there.length
      · have ht' : decide (60 < (there.length : Int)) = true := decide_eq_true (by omega)
        go_enter Try.func3, Try.ntmps3
        go_wp2_with (first | (go_at_call 6; refine (far_calls _ _ s ways _ (hS.pure HM0.mu) (hW.pure HM0.mu)).mono ?_; rintro e w1 ⟨rfl, HM1⟩) | (go_at_call 7; refine (alive_calls _).mono ?_; rintro e w2 ⟨rfl, HM2⟩))
        go_ret
        exact ⟨rfl, ((HM0.got HM1).got HM2).sel [] (by decide)⟩
      · have ht' : decide (60 < (there.length : Int)) = false := decide_eq_false (by omega)
        clear ht
        go_enter Try.func3, Try.ntmps3
        go_wp2_with fail
        refine (far_calls _ _ s ways _ (hS.pure HM0.mu) (hW.pure HM0.mu)).mono ?_
        rintro e w1 ⟨rfl, HM1⟩
        have HM2 := HM0.got HM1
        clear HM0 HM1
        have hb0 : w1.cell? ⟨w.heap.size, 0, none⟩ = some (.slice A s.length c) := Blk.cell HM2.head 0
        have hb1 : w1.cell? ⟨w.heap.size, 1, none⟩ = some (.slice A' ways.length c') := Blk.cell HM2.head 1
        go_wp2_with fail
        refine (theirs_calls _ _ s ways _ (hS.pure HM2.mu) (hW.pure HM2.mu)).mono ?_
        rintro e w2 ⟨rfl, HM3'⟩
        have HM3 := HM2.got HM3'
        clear HM2 HM3' hb0 hb1
        go_wp2_with fail
        refine (chainR _ _ _ s ways name there _ (hS.pure HM3.mu) (hW.pure HM3.mu) (hT.pure HM3.mu) hf (by omega)).mono ?_
        rintro e w3 ⟨v3, c3, rfl, HM4', C3⟩
        have HM4 := (HM3.got HM4')
        clear HM3 HM4'
        have hr : (rightOf s ways && hit ways name there) = true → rightOf s ways = true := fun h => (Bool.and_eq_true_iff.1 h).1
        cases hok : (rightOf s ways && hit ways name there)
        · have e0 := C3.1 hok
          subst e0
          obtain ⟨A3, k3, rfl, z1, z2, z3, z4⟩ := Row.sl HM4.head
          clear z3 z4 C3 hr hok
          rw [List.length_nil] at *
          go_wp2_with (go_at_call 7; refine (alive_calls _).mono ?_; rintro e w4 ⟨rfl, HM5⟩)
          go_ret
          exact ⟨rfl, (HM4.got HM5).sel [] (by decide)⟩
        · obtain ⟨n, HH⟩ := held_of (by omega) hf C3 hok
          have hR := hr hok
          obtain ⟨hw, hl⟩ := right_small hR hf
          clear C3 hr hok
          obtain ⟨A3, k3, rfl, z1, z2, z3, z4⟩ := Row.sl HM4.head
          unfold maxLen at z2
          have q1 := HH.lo
          have q2 := HH.hi
          have q3 : c3.length ≤ n + 1 := by have := HH.len; omega
          have q4 : n + 1 ≤ c3.length := by have := HH.len; omega
          have hd1 : decide ((c3.length : Int) < 2) = false := decide_eq_false (by omega)
          have hd2 : decide (8 < (c3.length : Int)) = false := decide_eq_false (by omega)
          have hwr : IntKind.i64.wrap ((c3.length : Int) - 1) = (n : Int) := by rw [IntWalk.i64_in _ (by omega)]; omega
          have hm0 := HH.first (by omega)
          obtain ⟨b, o, rfl, hcells⟩ := z4.resolve_left (by omega)
          have hx0 : w3.cell? ⟨b, o, none⟩ = some (.string (c3[0]'(by omega))) := hcells 0 _ (strs_get (by omega))
          have hx1 : w3.cell? ⟨b, o + n, none⟩ = some (.string name) := by
            have h := hcells n _ (strs_get (by omega))
            rw [HH.last (by omega)] at h
            exact h
          clear hcells z4
          generalize c3[0]'(by omega) = x0 at *
          go_wp2_with fail
          refine (in_calls _ there x0 _ (hT.pure HM4.mu)).mono ?_
          rintro e w4 ⟨rfl, rfl⟩
          rw [hm0]
          go_wp2
          have HH' := Lib.hid HH
          have hsz := HH.size
          clear HH hm0 hx0 hx1 hd1 hd2
          go_loopw [9] (fun v9 wr => ∃ k : Nat, 1 ≤ k ∧ k ≤ c3.length ∧ v9 = .int .i64 k ∧ Mem none_ w [StrRow (.slice (some ⟨b, o, none⟩) c3.length k3) c3, Blk w.heap.size 25 #[.slice A s.length c, .slice A' ways.length c']] wr) (fun i _ => c3.length - (intOf i).toNat)
          case atStart => exact ⟨1, Nat.le_refl _, by omega, rfl, HM4⟩
          case round =>
            clear HM4
            obtain ⟨k, hk1, hk, rfl, HM⟩ := hrel
            by_cases hlt : k < c3.length
            · have hsk := hsz k hlt
              have hst := HH'.out.step k hlt hk1
              have hwk : IntKind.i64.wrap ((k : Int) - 1) = ((k - 1 : Nat) : Int) := by rw [IntWalk.i64_in _ (by omega)]; omega
              have hlt' : decide ((k : Int) < (c3.length : Int)) = true := decide_eq_true (by omega)
              have y0 : wr.drew.cell? ⟨w.heap.size, 0, none⟩ = some (.slice A s.length c) := Blk.cell HM.tail.head 0
              have y1 : wr.drew.cell? ⟨w.heap.size, 1, none⟩ = some (.slice A' ways.length c') := Blk.cell HM.tail.head 1
              have x1 : wr.drew.cell? ⟨b, o + k, none⟩ = some (.string c3[k]) := row_cells HM.drew.head hlt
              have x2 : wr.drew.cell? ⟨b, o + (k - 1), none⟩ = some (.string (c3[k - 1]'(by omega))) := row_cells HM.drew.head (by omega)
              have hno : k < n → mem there c3[k] = false := HH'.out.none k hlt hk1
              have hk2 : k - 1 < c3.length := by omega
              have hxd0 : Hid (c3[k] = c3[k]) := by unfold Hid; rfl
              have hzd0 : Hid (c3[k - 1]'(by omega) = c3[k - 1]'(by omega)) := by unfold Hid; rfl
              generalize hxd' : c3[k] = x at *
              generalize hzd' : c3[k - 1]'(by omega) = z at *
              have hxd := Lib.hid hxd'
              have hzd := Lib.hid hzd'
              clear hxd' hzd' hxd0 hzd0
              have HM2 := HM.drew
              clear hsz
              go_wp2
              refine wp_plan [] (S := fun w' => w'.cell? ⟨w.heap.size, 0, none⟩ = some (.slice A s.length c) ∧ w'.cell? ⟨w.heap.size, 1, none⟩ = some (.slice A' ways.length c') ∧ w'.cell? ⟨b, o + k, none⟩ = some (.string x) ∧ w'.cell? ⟨b, o + (k - 1), none⟩ = some (.string z)) [(.load, 0), (.pure, 1), (.pure, 2), (.pure, 3), (.load, 4), (.pure, 6), (.pure, 7), (.pure, 8), (.pure, 9), (.load, 10), (.eff, 5), (.eff, 11), (.pure, 12), (.pure, 13), (.pure, 14), (.pure, 15), (.pure, 16), (.pure, 17), (.pure, 18), (.pure, 19), (.pure, 20), (.pure, 21), (.pure, 22), (.pure, 23), (.load, 24), (.eff, 25), (.pure, 26), (.pure, 27)] (by kernel_rfl) rfl (by kernel_rfl) rfl (fun _ _ _ _ _ h => h) ⟨y0, y1, x1, x2⟩ ?_
              clear y0 y1 x1 x2 HM
              generalize wr.drew = W at *
              repeat (first | (refine plan_pure (v := ?_) (a' := ?_) rfl rfl rfl ?_ ?_ ?_; rotate_left 2; (focus (intro w'; go_simp; with_reducible rfl)); (focus (simp only [Act.put, List.setIfInBounds_toArray, List.set_cons_zero, List.set_cons_succ]; rfl))) | (refine plan_load (v := ?_) (a' := ?_) rfl rfl rfl ?_ ?_ ?_; rotate_left 2; (focus (rintro w' ⟨q0, q1, q2, q3⟩; go_simp; with_reducible rfl)); (focus (simp only [Act.put, List.setIfInBounds_toArray, List.set_cons_zero, List.set_cons_succ]; rfl))) | (refine plan_skip (a' := ?_) rfl rfl rfl ?_ ?_; rotate_left 1; (focus (simp only [Act.put, List.setIfInBounds_toArray, List.set_cons_zero, List.set_cons_succ]; rfl))) | (refine plan_skipL (a' := ?_) rfl rfl rfl ?_ ?_; rotate_left 1; (focus (simp only [Act.put, List.setIfInBounds_toArray, List.set_cons_zero, List.set_cons_succ]; rfl))))
              refine plan_eff rfl (fun K hK => ?_)
              go_wp2_with fail
              refine (refNext_yes _ _ s ways x _ (hS.pure HM2.mu) (hW.pure HM2.mu) hR (by omega) (fun p hp => by have := hw p hp; omega) hl).mono ?_
              rintro e w4 ⟨v4, rfl, HM2'⟩
              have HM3 := HM2.got HM2'
              clear HM2 HM2'
              have x1 : w4.cell? ⟨b, o + k, none⟩ = some (.string x) := by have h := row_cells HM3.tail.head hlt; rw [hxd.out] at h; exact h
              have x2 : w4.cell? ⟨b, o + (k - 1), none⟩ = some (.string z) := by have h := row_cells HM3.tail.head hk2; rw [hzd.out] at h; exact h
              go_wp2
              refine hK _ _ ⟨Blk.cell HM3.tail.tail.head 0, Blk.cell HM3.tail.tail.head 1, x1, x2⟩ ?_
              refine plan_eff rfl (fun K hK => ?_)
              go_wp2_with fail
              refine (in_calls _ _ z _ (Row.sl HM3.head)).mono ?_
              rintro e w5 ⟨rfl, rfl⟩
              rw [hst]
              go_wp2
              refine hK _ _ ⟨Blk.cell HM3.tail.tail.head 0, Blk.cell HM3.tail.tail.head 1, x1, x2⟩ ?_
              have HM4 := HM3.sel [1, 2] (by decide)
              by_cases hkn : k < n
              · have hkn' : decide ((k : Int) < (n : Int)) = true := decide_eq_true (by omega)
                have hno' := hno hkn
                repeat (first | (refine plan_pure (v := ?_) (a' := ?_) rfl rfl rfl ?_ ?_ ?_; rotate_left 2; (focus (intro w'; go_simp; with_reducible rfl)); (focus (simp only [Act.put, List.setIfInBounds_toArray, List.set_cons_zero, List.set_cons_succ]; rfl))) | (refine plan_load (v := ?_) (a' := ?_) rfl rfl rfl ?_ ?_ ?_; rotate_left 2; (focus (rintro w' ⟨q0, q1, q2, q3⟩; go_simp; with_reducible rfl)); (focus (simp only [Act.put, List.setIfInBounds_toArray, List.set_cons_zero, List.set_cons_succ]; rfl))) | (refine plan_skip (a' := ?_) rfl rfl rfl ?_ ?_; rotate_left 1; (focus (simp only [Act.put, List.setIfInBounds_toArray, List.set_cons_zero, List.set_cons_succ]; rfl))) | (refine plan_skipL (a' := ?_) rfl rfl rfl ?_ ?_; rotate_left 1; (focus (simp only [Act.put, List.setIfInBounds_toArray, List.set_cons_zero, List.set_cons_succ]; rfl))))
                refine plan_eff rfl (fun K hK => ?_)
                go_wp2_with fail
                refine (in_calls _ there x _ (hT.pure HM4.mu)).mono ?_
                rintro e w6 ⟨rfl, rfl⟩
                rw [hno']
                go_wp2
                refine hK _ _ ⟨Blk.cell HM3.tail.tail.head 0, Blk.cell HM3.tail.tail.head 1, x1, x2⟩ ?_
                repeat (first | (refine plan_pure (v := ?_) (a' := ?_) rfl rfl rfl ?_ ?_ ?_; rotate_left 2; (focus (intro w'; go_simp; with_reducible rfl)); (focus (simp only [Act.put, List.setIfInBounds_toArray, List.set_cons_zero, List.set_cons_succ]; rfl))) | (refine plan_load (v := ?_) (a' := ?_) rfl rfl rfl ?_ ?_ ?_; rotate_left 2; (focus (rintro w' ⟨q0, q1, q2, q3⟩; go_simp; with_reducible rfl)); (focus (simp only [Act.put, List.setIfInBounds_toArray, List.set_cons_zero, List.set_cons_succ]; rfl))) | (refine plan_skip (a' := ?_) rfl rfl rfl ?_ ?_; rotate_left 1; (focus (simp only [Act.put, List.setIfInBounds_toArray, List.set_cons_zero, List.set_cons_succ]; rfl))) | (refine plan_skipL (a' := ?_) rfl rfl rfl ?_ ?_; rotate_left 1; (focus (simp only [Act.put, List.setIfInBounds_toArray, List.set_cons_zero, List.set_cons_succ]; rfl))))
                refine plan_done ?_
                go_wp2
                go_roundw
                case rel => exact ⟨k + 1, by omega, by omega, by go_num, HM4⟩
                case measure => simp [intOf]; omega
              · have hkn' : decide ((k : Int) < (n : Int)) = false := decide_eq_false (by omega)
                have hkn2 : decide (k < n) = false := decide_eq_false hkn
                clear hno hkn
                repeat (first | (refine plan_pure (v := ?_) (a' := ?_) rfl rfl rfl ?_ ?_ ?_; rotate_left 2; (focus (intro w'; go_simp; with_reducible rfl)); (focus (simp only [Act.put, List.setIfInBounds_toArray, List.set_cons_zero, List.set_cons_succ]; rfl))) | (refine plan_load (v := ?_) (a' := ?_) rfl rfl rfl ?_ ?_ ?_; rotate_left 2; (focus (rintro w' ⟨q0, q1, q2, q3⟩; go_simp; with_reducible rfl)); (focus (simp only [Act.put, List.setIfInBounds_toArray, List.set_cons_zero, List.set_cons_succ]; rfl))) | (refine plan_skip (a' := ?_) rfl rfl rfl ?_ ?_; rotate_left 1; (focus (simp only [Act.put, List.setIfInBounds_toArray, List.set_cons_zero, List.set_cons_succ]; rfl))) | (refine plan_skipL (a' := ?_) rfl rfl rfl ?_ ?_; rotate_left 1; (focus (simp only [Act.put, List.setIfInBounds_toArray, List.set_cons_zero, List.set_cons_succ]; rfl))))
                refine plan_eff rfl (fun K hK => ?_)
                go_wp2
                refine hK _ _ ⟨Blk.cell HM3.tail.tail.head 0, Blk.cell HM3.tail.tail.head 1, x1, x2⟩ ?_
                repeat (first | (refine plan_pure (v := ?_) (a' := ?_) rfl rfl rfl ?_ ?_ ?_; rotate_left 2; (focus (intro w'; go_simp; with_reducible rfl)); (focus (simp only [Act.put, List.setIfInBounds_toArray, List.set_cons_zero, List.set_cons_succ]; rfl))) | (refine plan_load (v := ?_) (a' := ?_) rfl rfl rfl ?_ ?_ ?_; rotate_left 2; (focus (rintro w' ⟨q0, q1, q2, q3⟩; go_simp; with_reducible rfl)); (focus (simp only [Act.put, List.setIfInBounds_toArray, List.set_cons_zero, List.set_cons_succ]; rfl))) | (refine plan_skip (a' := ?_) rfl rfl rfl ?_ ?_; rotate_left 1; (focus (simp only [Act.put, List.setIfInBounds_toArray, List.set_cons_zero, List.set_cons_succ]; rfl))) | (refine plan_skipL (a' := ?_) rfl rfl rfl ?_ ?_; rotate_left 1; (focus (simp only [Act.put, List.setIfInBounds_toArray, List.set_cons_zero, List.set_cons_succ]; rfl))))
                refine plan_done ?_
                go_wp2
                go_roundw
                case rel => exact ⟨k + 1, by omega, by omega, by go_num, HM4⟩
                case measure => simp [intOf]; omega
            · have e : k = c3.length := by omega
              have hlt' : decide ((k : Int) < (c3.length : Int)) = false := decide_eq_false (by omega)
              go_wp2_with (go_at_call 7; refine (alive_calls _).mono ?_; rintro e w4 ⟨rfl, HM5⟩)
              go_ret
              exact ⟨rfl, (HM.got HM5).sel [] (by decide)⟩
  · go_enter Try.func3, Try.ntmps3
    go_wp2_with (first | (go_at_call 6; refine (far_calls _ _ s ways _ (hS.pure HM0.mu) (hW.pure HM0.mu)).mono ?_; rintro e w1 ⟨rfl, HM1⟩) | (go_at_call 7; refine (alive_calls _).mono ?_; rintro e w2 ⟨rfl, HM2⟩))
    go_ret
    exact ⟨rfl, ((HM0.got HM1).got HM2).sel [] (by decide)⟩
end Go.Proofs.Ytbhhoibmccocmaa
