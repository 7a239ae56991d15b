/-
  Layer 02 (path): the walks of the other statements.
-/
import Derived.Test.YtclpbifcngohmaaDoorPthK
set_option linter.unusedVariables false
set_option linter.unusedSimpArgs false
namespace Go.Proofs.YtclpbifcngohmaaDoor
open Go.RowKit

theorem lastFrom_spec (c : UInt8) (s : List UInt8) : ∀ k, (lastFrom c s k = -1 ∧ ∀ j, j < k → s[j]? ≠ some c) ∨ ∃ i : Nat, i < k ∧ lastFrom c s k = (i : Int) ∧ s[i]? = some c ∧ ∀ j, i < j → j < k → s[j]? ≠ some c
  | 0 => .inl ⟨rfl, fun j h => by omega⟩
  | k + 1 => by
    unfold lastFrom
    by_cases h : s[k]? = some c
    · rw [if_pos h]; exact .inr ⟨k, by omega, rfl, h, fun j h1 h2 => by omega⟩
    · rw [if_neg h]
      rcases lastFrom_spec c s k with ⟨e, hn⟩ | ⟨i, hi, e, hc, hn⟩
      · refine .inl ⟨e, fun j hj => ?_⟩
        by_cases hjk : j = k
        · rw [hjk]; exact h
        · exact hn j (by omega)
      · refine .inr ⟨i, by omega, e, hc, fun j h1 h2 => ?_⟩
        by_cases hjk : j = k
        · rw [hjk]; exact h
        · exact hn j h1 (by omega)
theorem lastL_spec (c : UInt8) (s : List UInt8) : (lastL c s = -1 ∧ ∀ j : Nat, s[j]? ≠ some c) ∨ ∃ i : Nat, i < s.length ∧ lastL c s = (i : Int) ∧ s[i]? = some c ∧ ∀ j, i < j → s[j]? ≠ some c := by
  have out : ∀ j, s.length ≤ j → s[j]? ≠ some c := fun j hj e => by rw [List.getElem?_eq_none hj] at e; cases e
  rcases lastFrom_spec c s s.length with ⟨e, hn⟩ | ⟨i, hi, e, hc, hn⟩
  · refine .inl ⟨e, fun j => ?_⟩
    by_cases hj : j < s.length
    · exact hn j hj
    · exact out j (by omega)
  · refine .inr ⟨i, hi, e, hc, fun j h1 => ?_⟩
    by_cases hj : j < s.length
    · exact hn j h1 hj
    · exact out j (by omega)
theorem name_free (s : List UInt8) : ∀ j : Nat, (nameL s)[j]? ≠ some 47 := by
  intro j
  unfold nameL
  rw [List.getElem?_drop]
  rcases lastL_spec 47 s with ⟨e, hn⟩ | ⟨i, hi, e, hc, hn⟩
  · exact hn _
  · rw [e]; exact hn _ (by omega)
theorem suffix_law (s : List UInt8) {i : Nat} (h : i < (suffixL s).length) : (suffixL s)[i] ≠ 47 ∧ ((suffixL s)[i] = 46 ↔ i = 0) := by
  have hn := name_free s
  have e : (suffixL s)[i]? = some (suffixL s)[i] := List.getElem?_eq_getElem h
  generalize (suffixL s)[i] = x at *
  have key : suffixL s = [] ∨ ∃ k : Nat, suffixL s = (nameL s).drop k ∧ (nameL s)[k]? = some 46 ∧ ∀ j, k < j → (nameL s)[j]? ≠ some 46 := by
    unfold suffixL
    split
    · exact .inl rfl
    · rename_i h1
      rcases lastL_spec 46 (nameL s) with ⟨e1, _⟩ | ⟨k, _, e1, h2, h3⟩
      · rw [e1] at h1; omega
      · right; exact ⟨k, by rw [e1, Int.toNat_natCast], h2, h3⟩
  rcases key with h0 | ⟨k, hk, h2, h3⟩
  · rw [h0] at h; cases h
  · rw [hk, List.getElem?_drop] at e
    refine ⟨fun e2 => hn (k + i) (by rw [e, e2]), ⟨fun e2 => ?_, fun e2 => ?_⟩⟩
    · refine Classical.byContradiction fun hi => h3 (k + i) (by omega) (by rw [e, e2])
    · subst e2
      rw [Nat.add_zero, h2] at e
      exact (Option.some.inj e).symm
theorem root_suffix (s : List UInt8) : rootL s ++ suffixL s = s := by
  obtain ⟨t, ht⟩ := suffix_suf s
  unfold rootL
  have e : s.length - (suffixL s).length = t.length := by
    have := congrArg List.length ht
    rw [List.length_append] at this; omega
  rw [e]
  conv => lhs; arg 1; rw [← ht]
  rw [List.take_left, ht]
theorem dir_ne (s : List UInt8) : dirL s ≠ [] := by
  unfold dirL
  split
  · simp
  · split
    · simp
    · rename_i h1 h2
      rcases lastL_spec 47 s with ⟨e1, _⟩ | ⟨k, hk, e1, _, _⟩
      · rw [e1] at h1; omega
      · rw [e1, Int.toNat_natCast]
        rw [e1] at h2
        intro e
        have := congrArg List.length e
        rw [List.length_take, List.length_nil] at this
        omega
theorem back_law (s : List UInt8) (hn : nameL s ≠ []) : JoinL [dirL s, nameL s] = cleanL s := by
  have hk : ∀ x : List UInt8, x ≠ [] → keepB x = true := fun x hx => by
    cases x with
    | nil => exact absurd rfl hx
    | cons a b => rfl
  have hf : [dirL s, nameL s].filter keepB = [dirL s, nameL s] := List.filter_eq_self.2 fun x hx => by
    rcases List.mem_cons.1 hx with rfl | hx
    · exact hk _ (dir_ne s)
    · rw [List.mem_singleton.1 hx]; exact hk _ hn
  have e0 : JoinL [dirL s, nameL s] = cleanL (dirL s ++ 47 :: nameL s) := by
    show cleanL (joinL ([dirL s, nameL s].filter keepB)) = _
    rw [hf]; rfl
  rw [e0]
  unfold dirL nameL
  rcases lastL_spec 47 s with ⟨e1, h1⟩ | ⟨k, hk, e1, h1, h2⟩
  · rw [e1, if_pos (by decide)]
    have e2 : ((-1 : Int) + 1).toNat = 0 := rfl
    rw [e2, List.drop_zero]
    have hfree : ∀ b, b ∈ s → b ≠ 47 := fun b hb e => by
      obtain ⟨j, hj⟩ := List.getElem?_of_mem hb
      exact h1 j (by rw [hj, e])
    have hr : rootedL s = false := by
      unfold rootedL
      cases s with
      | nil => rfl
      | cons a s =>
        have := hfree a (List.mem_cons_self ..)
        simpa using this
    have hr2 : rootedL ([46] ++ 47 :: s) = false := rfl
    refine clean_of (by rw [hr, hr2]) ?_
    unfold partsL
    rw [hr, hr2, split_app (a := [46]) s (fun x hx => by rw [List.mem_singleton.1 hx]; decide), List.foldl_cons, step_dot]
  · rw [e1]
    have e3 : (((k : Nat) : Int) + 1).toNat = k + 1 := by omega
    rw [if_neg (by omega), e3]
    have hs : s = s.take k ++ 47 :: s.drop (k + 1) := by
      have h3 : s[k] = 47 := by rw [List.getElem?_eq_getElem hk] at h1; exact Option.some.inj h1
      rw [← h3, ← List.drop_eq_getElem_cons hk, List.take_append_drop]
    by_cases hk0 : k = 0
    · subst hk0
      have hz0 : ((0 : Nat) : Int) = 0 := rfl
      rw [if_pos hz0]
      rw [List.take_zero, List.nil_append] at hs
      have hr : rootedL s = true := by rw [hs]; rfl
      have e4 : [47] ++ 47 :: s.drop (0 + 1) = 47 :: s := by rw [← hs]; rfl
      rw [e4]
      have hr2 : rootedL (47 :: s) = true := rfl
      refine clean_of (by rw [hr, hr2]) ?_
      unfold partsL
      have e5 : splitL 47 (47 :: s) = [] :: splitL 47 s := split_app (a := []) s (fun _ h => (by cases h))
      rw [hr, hr2, e5, List.foldl_cons, step_nil]
    · rw [if_neg (by omega), Int.toNat_natCast, ← hs]
set_option maxHeartbeats 2000000 in
theorem whole_calls (s : List UInt8) (w : World) (hs : s.length ≤ 140737488351232) :
    Calls Tryd.prog 6 #[.string (ofL s)] w fun e w' => e = .returned (.bool true) ∧ Mem none_ w [] w' := by
  have hS := psuffix_calls s w hs
  have hR := proot_calls s w hs
  have hlaw := fun i (h : i < (suffixL s).length) => suffix_law s h
  have hrs := root_suffix s
  have hll := congrArg List.length hrs
  rw [List.length_append] at hll
  have hap := add_run (rootL s) (suffixL s) (by omega)
  rw [hrs] at hap
  have e1 := lit_self s
  have e1' : ((ofL s).toList != (ofL s).toList) = false := by rw [bne, e1]; rfl
  have hxl : (suffixL s).length ≤ 140737488351232 := by omega
  have hal := alive_calls w
  clear hrs hll
  generalize suffixL s = x at *
  generalize rootL s = r at *
  have hz := ofL_size x
  go_enter Tryd.func6, Tryd.ntmps6
  go_wp2_with fail
  refine hS.mono ?_
  rintro e w1 ⟨rfl, rfl⟩
  go_wp2_with fail
  refine hR.mono ?_
  rintro e w1 ⟨rfl, rfl⟩
  go_wp2_with fail
  clear hS hR hap e1 e1'
  go_loop [4] (fun v4 => ∃ k : Nat, k ≤ x.length ∧ v4 = .int .i64 k) (fun v => x.length - (intOf v).toNat)
  case atStart => exact ⟨0, Nat.zero_le _, rfl⟩
  case round =>
    obtain ⟨k, hk, rfl⟩ := hrel
    by_cases hlt : k < x.length
    · have hlt' : decide ((k : Int) < (x.length : Int)) = true := decide_eq_true (by omega)
      obtain ⟨h1, h2⟩ := hlaw k hlt
      have d1 : (((((ofL x)[k]'(by rw [ofL_size]; exact hlt)).toNat : Nat) : Int) == 46) = decide (x[k] = 46) := byte_eq _ 46
      have d2 : (((((ofL x)[k]'(by rw [ofL_size]; exact hlt)).toNat : Nat) : Int) == 47) = false := (byte_eq _ 47).trans (decide_eq_false h1)
      by_cases h0 : k = 0
      · have d3 : (((((ofL x)[k]'(by rw [ofL_size]; exact hlt)).toNat : Nat) : Int) == 46) = true := d1.trans (decide_eq_true (h2.2 h0))
        have d4 : ((k : Int) == 0) = true := by rw [beq_iff_eq]; omega
        have d4' : decide (k = 0) = true := decide_eq_true h0
        clear d1 h1 h2 hlaw h0
        go_wp2_with fail
        go_round
        case rel => exact ⟨k + 1, by omega, by go_num⟩
        case measure => simp [intOf]; omega
      · have d3 : (((((ofL x)[k]'(by rw [ofL_size]; exact hlt)).toNat : Nat) : Int) == 46) = false := d1.trans (decide_eq_false (fun e => h0 (h2.1 e)))
        have d4 : ((k : Int) == 0) = false := beq_eq_false_iff_ne.2 (by omega)
        have d4' : decide (k = 0) = false := decide_eq_false h0
        clear d1 h1 h2 hlaw
        go_wp2_with fail
        go_round
        case rel => exact ⟨k + 1, by omega, by go_num⟩
        case measure => simp [intOf]; omega
    · have e : k = x.length := by omega
      subst e
      clear hlaw
      go_wp2_with fail
      refine hal.mono ?_
      rintro e w1 ⟨rfl, HM⟩
      clear hal
      go_wp2_with fail
      go_ret
      exact ⟨rfl, HM⟩
set_option maxHeartbeats 2000000 in
theorem below_calls (p d : List UInt8) (w : World) (hp : p.length ≤ 140737488351232) (hd : d.length ≤ 140737488351232) :
    Calls Tryd.prog 8 #[.string (ofL p), .string (ofL d)] w fun e w' => e = .returned (.bool true) ∧ Mem none_ w [] w' := by
  have HM0 : Mem none_ w [TRow (.slice (some ⟨w.heap.size, 0, none⟩) 2 2) [p, d]] (w.alloc (.cells #[.string (ofL p), .string (ofL d)] 9)) := (Mem.start (fp := none_) w).litT [p, d] (by simp)
  have hF := far_calls (.slice (some ⟨w.heap.size, 0, none⟩) 2 2) [p, d] _ (Row.sl HM0.head) (by simp)
  have HM := HM0.sel [] (by decide)
  clear HM0
  by_cases hf : farB [p, d] = true
  · rw [hf] at hF
    clear hf
    go_enter Tryd.func8, Tryd.ntmps8
    go_wp2_with fail
    refine hF.mono ?_
    rintro e w1 ⟨rfl, rfl⟩
    clear hF
    generalize w.alloc _ = W1 at *
    go_wp2_with fail
    refine (alive_calls _).mono ?_
    rintro e w2 ⟨rfl, HM2⟩
    have HM3 := HM.got HM2
    simp only [List.nil_append] at HM3
    clear HM HM2
    go_wp2_with fail
    go_ret
    exact ⟨rfl, HM3⟩
  · have hf' : farB [p, d] = false := by simpa using hf
    rw [hf'] at hF
    have hb : p.length ≤ 3000 ∧ d.length ≤ 3000 := by
      unfold farB at hf'
      simp at hf'
      exact hf'
    obtain ⟨hb1, hb2⟩ := hb
    have hB1 := fun wx => pbelow_calls p d wx (by omega) (by omega)
    have hB2 := fun wx => rbelow_calls p d wx (by omega) (by omega)
    clear hf hf'
    generalize belowL p d = q at *
    have hqq : (q == q) = true := by simp
    go_enter Tryd.func8, Tryd.ntmps8
    go_wp2_with fail
    refine hF.mono ?_
    rintro e w1 ⟨rfl, rfl⟩
    clear hF
    generalize w.alloc _ = W1 at *
    go_wp2_with fail
    refine (hB1 _).mono ?_
    rintro e w2 ⟨rfl, HM2⟩
    have HM3 := HM.got HM2
    simp only [List.nil_append] at HM3
    clear HM HM2 hB1
    go_wp2_with fail
    refine (hB2 _).mono ?_
    rintro e w3 ⟨rfl, HM4⟩
    have HM5 := HM3.got HM4
    simp only [List.nil_append] at HM5
    clear HM3 HM4 hB2
    go_wp2_with fail
    refine (alive_calls _).mono ?_
    rintro e w4 ⟨rfl, HM6⟩
    have HM7 := HM5.got HM6
    simp only [List.nil_append] at HM7
    clear HM5 HM6
    go_wp2_with fail
    go_ret
    exact ⟨rfl, HM7⟩
theorem far_one {p : List UInt8} (h : farB [p] = false) : p.length ≤ 3000 := by
  unfold farB at h
  simpa using h
set_option maxHeartbeats 2000000 in
theorem stays_calls (p : List UInt8) (w : World) (hp : p.length ≤ 140737488351232) :
    Calls Tryd.prog 4 #[.string (ofL p)] w fun e w' => e = .returned (.bool true) ∧ Mem none_ w [] w' := by
  have HM0 : Mem none_ w [TRow (.slice (some ⟨w.heap.size, 0, none⟩) 1 1) [p]] (w.alloc (.cells #[.string (ofL p)] 9)) := (Mem.start (fp := none_) w).litT [p] (by simp)
  have hF := far_calls (.slice (some ⟨w.heap.size, 0, none⟩) 1 1) [p] _ (Row.sl HM0.head) (by simp)
  have HM := HM0.sel [] (by decide)
  clear HM0
  by_cases hf : farB [p] = true
  · rw [hf] at hF
    clear hf
    go_enter Tryd.func4, Tryd.ntmps4
    go_wp2_with fail
    refine hF.mono ?_
    rintro e w1 ⟨rfl, rfl⟩
    clear hF
    generalize w.alloc _ = W1 at *
    go_wp2_with fail
    refine (alive_calls _).mono ?_
    rintro e w2 ⟨rfl, HM2⟩
    have HM3 := HM.got HM2
    simp only [List.nil_append] at HM3
    clear HM HM2
    go_wp2_with fail
    go_ret
    exact ⟨rfl, HM3⟩
  · have hf' : farB [p] = false := by simpa using hf
    rw [hf'] at hF
    have hb := far_one hf'
    have hcl := clean_len p
    have hC1 := fun wx => pclean_calls p wx (by omega)
    have hC2 := fun wx => pclean_calls (cleanL p) wx (by omega)
    rw [clean_clean] at hC2
    have hP1 := fun wx => pparts_calls (cleanL p) wx (by omega)
    rw [(parts_clean p).1] at hP1
    have hP2 := fun wx => pparts_calls p wx (by omega)
    have hne := clean_ne p
    clear hf hf' hcl
    generalize cleanL p = c at *
    generalize partsL p = P at *
    have e1 := lit_self c
    have e2 := empty_eq c
    rw [decide_eq_false hne] at e2
    clear hne
    go_enter Tryd.func4, Tryd.ntmps4
    go_wp2_with fail
    refine hF.mono ?_
    rintro e w1 ⟨rfl, rfl⟩
    clear hF
    generalize w.alloc _ = W1 at *
    go_wp2_with fail
    refine (hC1 _).mono ?_
    rintro e w2 ⟨rfl, HM2⟩
    have HM3 := HM.got HM2
    simp only [List.nil_append] at HM3
    clear HM HM2 hC1
    go_wp2_with fail
    refine (hC2 _).mono ?_
    rintro e w3 ⟨rfl, HM4⟩
    have HM5 := HM3.got HM4
    simp only [List.nil_append] at HM5
    clear HM3 HM4 hC2
    go_wp2_with fail
    refine (hP1 _).mono ?_
    rintro e w4 ⟨v1, rfl, HM6⟩
    have HM7 := HM5.got HM6
    clear HM5 HM6 hP1
    go_wp2_with fail
    refine (hP2 _).mono ?_
    rintro e w5 ⟨v2, rfl, HM8⟩
    have HM9 : Mem none_ w [TRow v2 P, TRow v1 P] w5 := HM7.got HM8
    clear HM7 HM8 hP2
    have hS := sameT_calls v1 v2 P P w5 (Row.sl (HM9.at_ 1 rfl)) (Row.sl (HM9.at_ 0 rfl))
    rw [decide_eq_true rfl] at hS
    go_wp2_with fail
    refine hS.mono ?_
    rintro e w6 ⟨rfl, HM10⟩
    have HM11 := (HM9.got HM10).sel [] (by decide)
    clear HM9 HM10 hS
    go_wp2_with fail
    refine (alive_calls _).mono ?_
    rintro e w7 ⟨rfl, HM12⟩
    have HM13 := HM11.got HM12
    simp only [List.nil_append] at HM13
    clear HM11 HM12
    go_wp2_with fail
    go_ret
    exact ⟨rfl, HM13⟩
set_option maxHeartbeats 2000000 in
theorem back_calls (p : List UInt8) (w : World) (hp : p.length ≤ 140737488351232) :
    Calls Tryd.prog 5 #[.string (ofL p)] w fun e w' => e = .returned (.bool true) ∧ Mem none_ w [] w' := by
  have HM0 : Mem none_ w [TRow (.slice (some ⟨w.heap.size, 0, none⟩) 1 1) [p]] (w.alloc (.cells #[.string (ofL p)] 9)) := (Mem.start (fp := none_) w).litT [p] (by simp)
  have hF := far_calls (.slice (some ⟨w.heap.size, 0, none⟩) 1 1) [p] _ (Row.sl HM0.head) (by simp)
  have HM := HM0.sel [] (by decide)
  clear HM0
  by_cases hf : farB [p] = true
  · rw [hf] at hF
    clear hf
    go_enter Tryd.func5, Tryd.ntmps5
    go_wp2_with fail
    refine hF.mono ?_
    rintro e w1 ⟨rfl, rfl⟩
    clear hF
    generalize w.alloc _ = W1 at *
    go_wp2_with fail
    refine (alive_calls _).mono ?_
    rintro e w2 ⟨rfl, HM2⟩
    have HM3 := HM.got HM2
    simp only [List.nil_append] at HM3
    clear HM HM2
    go_wp2_with fail
    go_ret
    exact ⟨rfl, HM3⟩
  · have hf' : farB [p] = false := by simpa using hf
    rw [hf'] at hF
    have hb := far_one hf'
    have hN := fun wx => pname_calls p wx (by omega)
    have hD := fun wx => pdir_calls p wx (by omega)
    have hC := fun wx => pclean_calls p wx (by omega)
    have e0 := empty_eq (nameL p)
    have hnl := name_len p
    have hdl : (dirL p).length ≤ p.length + 1 := by
      unfold dirL
      split
      · simp
      · split
        · simp
        · rw [List.length_take]; omega
    clear hf hf'
    by_cases hn : nameL p = []
    · rw [decide_eq_true hn] at e0
      clear hn
      generalize nameL p = n at *
      go_enter Tryd.func5, Tryd.ntmps5
      go_wp2_with fail
      refine hF.mono ?_
      rintro e w1 ⟨rfl, rfl⟩
      clear hF
      generalize w.alloc _ = W1 at *
      go_wp2_with fail
      refine (hN _).mono ?_
      rintro e w1 ⟨rfl, rfl⟩
      clear hN
      go_wp2_with fail
      refine (alive_calls _).mono ?_
      rintro e w2 ⟨rfl, HM2⟩
      have HM3 := HM.got HM2
      simp only [List.nil_append] at HM3
      clear HM HM2
      go_wp2_with fail
      go_ret
      exact ⟨rfl, HM3⟩
    · rw [decide_eq_false hn] at e0
      have hlaw := back_law p hn
      have hJ := fun V wx (hV : Txts wx V [dirL p, nameL p]) => pjoin_calls V [dirL p, nameL p] wx hV (by
        rw [wt_cons, wt_cons]
        have e : wt [] = 0 := rfl
        omega)
      rw [hlaw] at hJ
      clear hn hlaw hnl hdl
      generalize nameL p = n at *
      generalize dirL p = d at *
      generalize cleanL p = c at *
      have e1 := lit_self c
      go_enter Tryd.func5, Tryd.ntmps5
      go_wp2_with fail
      refine hF.mono ?_
      rintro e w1 ⟨rfl, rfl⟩
      clear hF
      generalize w.alloc _ = W1 at *
      go_wp2_with fail
      refine (hN _).mono ?_
      rintro e w1 ⟨rfl, rfl⟩
      go_wp2_with fail
      refine (hD _).mono ?_
      rintro e w1 ⟨rfl, rfl⟩
      clear hD
      go_wp2_with fail
      refine (hN _).mono ?_
      rintro e w1 ⟨rfl, rfl⟩
      clear hN
      have HM1 : Mem none_ w [TRow (.slice (some ⟨W1.heap.size, 0, none⟩) 2 2) [d, n]] (W1.alloc (.cells #[.string (ofL d), .string (ofL n)] 9)) := HM.litT [d, n] (by simp)
      have hJ1 := hJ _ _ (Row.sl HM1.head)
      clear hJ
      go_wp2_with fail
      refine hJ1.mono ?_
      rintro e w2 ⟨rfl, HM2⟩
      have HM3 := (HM1.got HM2).sel [] (by decide)
      clear HM HM1 HM2 hJ1
      go_wp2_with fail
      refine (hC _).mono ?_
      rintro e w3 ⟨rfl, HM4⟩
      have HM5 := HM3.got HM4
      simp only [List.nil_append] at HM5
      clear HM3 HM4 hC
      go_wp2_with fail
      refine (alive_calls _).mono ?_
      rintro e w4 ⟨rfl, HM6⟩
      have HM7 := HM5.got HM6
      simp only [List.nil_append] at HM7
      clear HM5 HM6
      go_wp2_with fail
      go_ret
      exact ⟨rfl, HM7⟩
end Go.Proofs.YtclpbifcngohmaaDoor
