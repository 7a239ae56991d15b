/-
  Layer 02 (path): the walks of Same, Contains, Equal, Below, alive.
-/
import Derived.Test.YtclpbifcngohmaaDoorPthI
import Derived.Deep.QuietTactic
set_option linter.unusedVariables false
set_option linter.unusedSimpArgs false
namespace Go.Proofs.YtclpbifcngohmaaDoor
open Go.RowKit

theorem ret_bool {a b : Bool} (h : a = b) : Ending.returned (.bool a) = .returned (.bool b) := by rw [h]
def same (a b : List ByteArray) : Bool := decide (a = b)
theorem same_end {a b : List ByteArray} (hl : a.length = b.length) (h : ∀ j, j < a.length → a[j]? = b[j]?) : same a b = true := by
  refine decide_eq_true (List.ext_getElem? fun j => ?_)
  by_cases hj : j < a.length
  · exact h j hj
  · rw [List.getElem?_eq_none (by omega), List.getElem?_eq_none (by omega)]

set_option maxHeartbeats 1000000 in
theorem same_calls (V U : Value) (l m : List ByteArray) (w : World) (hV : Strs w V l) (hU : Strs w U m) :
    Calls Tryd.prog 13 #[V, U] w fun e w' => e = .returned (.bool (same l m)) ∧ Mem none_ w [] w' := by
  obtain ⟨A, c, rfl, h1, h2, h3, h4⟩ := hV
  obtain ⟨A', c', rfl, h1', h2', h3', h4'⟩ := hU
  unfold maxLen at h2 h2'
  by_cases hl : l.length = m.length
  · have hl0 : ((l.length : Int) != m.length) = false := by rw [bne_eq_false_iff_eq]; omega
    have hl1 := Lib.hid hl
    clear hl
    go_enter Tryd.func13, Tryd.ntmps13
    go_wp2
    go_loopw [5] (fun i wr => ∃ k : Nat, k ≤ l.length ∧ i = .int .i64 k ∧ Hid (∀ j, j < k → l[j]? = m[j]?) ∧ Mem none_ w [] wr) (fun i _ => l.length - (intOf i).toNat)
    case atStart => exact ⟨0, Nat.zero_le _, rfl, fun j hj => by omega, Mem.start _⟩
    case round =>
      obtain ⟨k, hk, rfl, hyes, HM⟩ := hrel
      by_cases hlt : k < l.length
      · have hlt' : k < m.length := by have := hl1.out; omega
        obtain ⟨b, o, rfl, hcells⟩ := h4.resolve_left (by omega)
        obtain ⟨b', o', rfl, hcells'⟩ := h4'.resolve_left (by omega)
        clear h4 h4'
        have hx0 : wr.cell? ⟨b, o + k, none⟩ = some (.string l[k]) := HM.mu.cell (hcells k _ (strs_get hlt)) (fun h => h)
        have hx1 : wr.cell? ⟨b', o' + k, none⟩ = some (.string m[k]) := HM.mu.cell (hcells' k _ (strs_get hlt')) (fun h => h)
        clear hcells hcells'
        by_cases he : l[k] = m[k]
        · have he' : (l[k].toList == m[k].toList) = true := by rw [strEq]; simp [he]
          have hy2 : Hid (∀ j, j < k + 1 → l[j]? = m[j]?) := by
            intro j hj
            by_cases hjk : j = k
            · subst hjk; rw [List.getElem?_eq_getElem hlt, List.getElem?_eq_getElem hlt', he]
            · exact hyes.out j (by omega)
          clear he
          go_wp2
          go_quiet (fail)
          go_wp2
          go_roundw
          case rel => exact ⟨k + 1, by omega, by go_num, hy2, HM.drewN _⟩
          case measure => simp [intOf]; omega
        · have he' : (l[k].toList == m[k].toList) = false := by rw [strEq]; simp [he]
          have HR : Hid (same l m = false) := by
            unfold Hid same
            refine decide_eq_false (fun e => he ?_)
            have := congrArg (fun l => l[k]?) e
            simpa [hlt, hlt'] using this
          clear he
          go_wp2
          go_quiet (fail)
          go_wp2
          go_ret
          exact ⟨ret_bool HR.out.symm, HM.drewN _⟩
      · have HR : Hid (same l m = true) := same_end hl1.out (fun j hj => hyes.out j (by omega))
        go_wp2
        go_ret
        exact ⟨ret_bool HR.out.symm, HM⟩
  · have hl0 : ((l.length : Int) != m.length) = true := by rw [bne_iff_ne]; omega
    have HR : Hid (same l m = false) := decide_eq_false (fun e => hl (by rw [e]))
    clear hl
    go_enter Tryd.func13, Tryd.ntmps13
    go_wp2
    go_ret
    exact ⟨ret_bool HR.out.symm, Mem.start _⟩


theorem map_inj {l m : List (List UInt8)} : l.map ofL = m.map ofL ↔ l = m := by
  constructor
  · intro h
    have := congrArg (List.map toL) h
    rw [List.map_map, List.map_map] at this
    have e : ∀ l : List (List UInt8), l.map (toL ∘ ofL) = l := fun l => by
      conv => rhs; rw [← List.map_id l]
      exact List.map_congr_left fun x _ => toL_of x
    rwa [e, e] at this
  · intro h; rw [h]
theorem sameT_calls (V U : Value) (l m : List (List UInt8)) (w : World) (hV : Txts w V l) (hU : Txts w U m) :
    Calls Tryd.prog 13 #[V, U] w fun e w' => e = .returned (.bool (decide (l = m))) ∧ Mem none_ w [] w' := by
  rw [← Txts.eq] at hV hU
  refine (same_calls V U _ _ w hV hU).mono ?_
  rintro e w' ⟨h1, h2⟩
  refine ⟨?_, h2⟩
  rw [h1]
  unfold same
  have : decide (l.map ofL = m.map ofL) = decide (l = m) := by
    rw [Bool.eq_iff_iff, decide_eq_true_eq, decide_eq_true_eq]; exact map_inj
  rw [this]
theorem contains_calls (V : Value) (l : List (List UInt8)) (x : List UInt8) (w : World) (hV : Txts w V l) (hl : l.length ≤ 1000000) :
    Calls Tryd.prog 40 #[V, .string (ofL x)] w fun e w' => e = .returned (.bool (decide (x ∈ l))) ∧ w = w' := by
  obtain ⟨A, c, rfl, h1, h2, h3, h4⟩ := hV
  by_cases h0 : l.length = 0
  · have hn := List.length_eq_zero_iff.1 h0
    subst hn
    refine (Tryd.slices_Contains_string_empty A c (ofL x) w).mono ?_
    rintro e w' ⟨rfl, rfl⟩
    exact ⟨by simp, rfl⟩
  · obtain ⟨b, o, rfl, hcells⟩ := h4.resolve_left h0
    refine (Tryd.slices_Contains_string b o l.length c (l.map ofL) (ofL x) w (by rw [List.length_map]; exact Nat.le_refl _) (by omega) (fun j hj => ?_)).mono ?_
    · rw [List.length_map] at hj
      rw [List.getD_eq_getElem?_getD, List.getElem?_map, List.getElem?_eq_getElem hj]
      exact hcells j _ (tx_get hj)
    · rintro e w' ⟨rfl, rfl⟩
      refine ⟨ret_bool ?_, rfl⟩
      rw [Bool.eq_iff_iff, Lib.containsS_iff, decide_eq_true_eq, List.take_of_length_le (by rw [List.length_map]; exact Nat.le_refl _), List.mem_map]
      constructor
      · rintro ⟨y, hy, e⟩; rw [← ofL_inj e]; exact hy
      · intro h; exact ⟨x, h, rfl⟩
theorem equal_calls (V U : Value) (l m : List (List UInt8)) (w : World) (hV : Txts w V l) (hU : Txts w U m) (hl : l.length ≤ 1000000) (hm : m.length ≤ 1000000) :
    Calls Tryd.prog 41 #[V, U] w fun e w' => e = .returned (.bool (decide (l = m))) ∧ Mem none_ w [] w' := by
  obtain ⟨A, c, rfl, h1, h2, h3, h4⟩ := hV
  obtain ⟨A', c', rfl, h1', h2', h3', h4'⟩ := hU
  by_cases hlm : l.length = m.length
  · by_cases h0 : l.length = 0
    · have hn := List.length_eq_zero_iff.1 h0
      have hn' := List.length_eq_zero_iff.1 (hlm ▸ h0)
      subst hn
      subst hn'
      refine (Tryd.slices_Equal_string_empty A A' c 0 c' w (by omega)).mono ?_
      rintro e w' ⟨rfl, rfl⟩
      exact ⟨by simp, Mem.start _⟩
    · obtain ⟨b, o, rfl, hcells⟩ := h4.resolve_left h0
      obtain ⟨b', o', rfl, hcells'⟩ := h4'.resolve_left (by omega)
      refine (Tryd.slices_Equal_string b o l.length c b' o' m.length c' (l.map ofL) (m.map ofL) w (by rw [List.length_map]; exact Nat.le_refl _) (by rw [List.length_map]; exact Nat.le_refl _) (by omega) (by omega) (fun j hj => ?_) (fun j hj => ?_)).mono ?_
      · rw [List.length_map] at hj
        rw [List.getD_eq_getElem?_getD, List.getElem?_map, List.getElem?_eq_getElem hj]
        exact hcells j _ (tx_get hj)
      · rw [List.length_map] at hj
        rw [List.getD_eq_getElem?_getD, List.getElem?_map, List.getElem?_eq_getElem hj]
        exact hcells' j _ (tx_get hj)
      · rintro e w' ⟨rfl, q, rfl⟩
        refine ⟨ret_bool ?_, (Mem.start _).drewN _⟩
        rw [List.take_of_length_le (by rw [List.length_map]; exact Nat.le_refl _), List.take_of_length_le (by rw [List.length_map]; exact Nat.le_refl _), Bool.eq_iff_iff, decide_eq_true_eq, decide_eq_true_eq]
        exact map_inj
  · refine (Tryd.slices_Equal_string_lens A A' l.length c m.length c' w hlm).mono ?_
    rintro e w' ⟨rfl, rfl⟩
    exact ⟨ret_bool (decide_eq_false (fun e => hlm (by rw [e]))).symm, Mem.start _⟩
/-- Does a path lie below another one? -/
def belowL (p d : List UInt8) : Bool :=
  if rootedL p ≠ rootedL d ∨ ddL ∈ partsL d ∨ (partsL p).length < (partsL d).length ∨ (partsL p).take (partsL d).length ≠ partsL d then false
  else decide ((partsL p).length = (partsL d).length) || decide ((partsL p)[(partsL d).length]? ≠ some ddL)
set_option maxHeartbeats 4000000 in
theorem pbelow_calls (p d : List UInt8) (w : World) (hp : p.length ≤ 200000) (hd : d.length ≤ 200000) :
    Calls Tryd.prog 26 #[.string (ofL p), .string (ofL d)] w fun e w' => e = .returned (.bool (belowL p d)) ∧ Mem none_ w [] w' := by
  have hP1 := pparts_calls p w (by omega)
  have hP2 := fun wx => pparts_calls d wx (by omega)
  have hR1 := fun wx => prooted_calls p wx
  have hR2 := fun wx => prooted_calls d wx
  have la := Nat.le_trans (len_wt (partsL p)) (wt_parts p)
  have lb := Nat.le_trans (len_wt (partsL d)) (wt_parts d)
  obtain ⟨Q, hQ⟩ : ∃ Q, belowL p d = Q := ⟨_, rfl⟩
  rw [hQ]
  unfold belowL at hQ
  generalize rootedL p = r1 at *
  generalize rootedL d = r2 at *
  generalize partsL p = a at *
  generalize partsL d = b at *
  go_enter Tryd.func26, Tryd.ntmps26
  go_wp2_with fail
  refine hP1.mono ?_
  rintro e w1 ⟨va, rfl, HM1⟩
  have hP2 := hP2 w1
  clear hP1
  go_wp2_with fail
  refine hP2.mono ?_
  rintro e w2 ⟨vb, rfl, HM2⟩
  have HM : Mem none_ w [TRow vb b, TRow va a] w2 := HM1.got HM2
  have hR1 := hR1 w2
  have hR2 := hR2 w2
  clear hP2 HM1 HM2
  obtain ⟨AA, ca, rfl, na1, na2⟩ := Row.any_ (HM.at_ 1 rfl)
  obtain ⟨AB, cb, rfl, nb1, nb2⟩ := Row.any_ (HM.at_ 0 rfl)
  unfold maxLen at na2 nb2
  go_wp2_with fail
  refine hR1.mono ?_
  rintro e w3 ⟨rfl, rfl⟩
  clear hR1
  go_wp2_with fail
  refine hR2.mono ?_
  rintro e w3 ⟨rfl, rfl⟩
  clear hR2
  by_cases h1 : r1 = r2
  · subst h1
    have b1 : (r1 != r1) = false := by simp
    have hC := contains_calls (.slice AB b.length cb) b ddL w2 (Row.sl (HM.at_ 0 rfl)) (by omega)
    by_cases h2 : ddL ∈ b
    · rw [decide_eq_true h2] at hC
      have HQ : Hid (Q = false) := by unfold Hid; rw [← hQ, if_pos (.inr (.inl h2))]
      clear hQ h2
      have HMe := HM.sel [] (by decide)
      clear HM
      go_wp2_with fail
      refine hC.mono ?_
      rintro e w4 ⟨rfl, rfl⟩
      clear hC
      go_wp2_with fail
      go_ret
      exact ⟨by rw [HQ.out]; rfl, HMe⟩
    · rw [decide_eq_false h2] at hC
      by_cases h3 : a.length < b.length
      · have b3 : decide ((a.length : Int) < (b.length : Int)) = true := decide_eq_true (by omega)
        have b3' : decide (a.length < b.length) = true := decide_eq_true h3
        have HQ : Hid (Q = false) := by unfold Hid; rw [← hQ, if_pos (.inr (.inr (.inl h3)))]
        have HMe := HM.sel [] (by decide)
        clear hQ h2 HM
        go_wp2_with fail
        refine hC.mono ?_
        rintro e w4 ⟨rfl, rfl⟩
        clear hC
        go_wp2_with fail
        go_ret
        exact ⟨by rw [HQ.out]; rfl, HMe⟩
      · have b3 : decide ((a.length : Int) < (b.length : Int)) = false := decide_eq_false (by omega)
        have b3' : decide (a.length < b.length) = false := decide_eq_false h3
        have hle : b.length ≤ a.length := by omega
        have hle2 : b.length ≤ ca := by omega
        have htl : (a.take b.length).length = b.length := by rw [List.length_take]; omega
        have hEq := equal_calls (.slice AA b.length ca) (.slice AB b.length cb) (a.take b.length) b w2 (Txts.take (Row.sl (HM.at_ 1 rfl)) hle) (Row.sl (HM.at_ 0 rfl)) (by omega) (by omega)
        clear htl
        by_cases h4 : a.take b.length = b
        · rw [decide_eq_true h4] at hEq
          have hQ2 : Q = (decide (a.length = b.length) || decide (a[b.length]? ≠ some ddL)) := by
            rw [← hQ, if_neg]
            rintro (e | e | e | e)
            · exact e rfl
            · exact h2 e
            · exact h3 e
            · exact e h4
          clear hQ h2 h4
          by_cases h5 : a.length = b.length
          · have HQ : Hid (Q = true) := by unfold Hid; rw [hQ2, decide_eq_true h5]; rfl
            have b5 : ((a.length : Int) == (b.length : Int)) = true := by rw [beq_iff_eq]; omega
            have b5' : decide ((a.length : Int) = (b.length : Int)) = true := decide_eq_true (by omega)
            have b5'' : decide (a.length = b.length) = true := decide_eq_true h5
            have H5 := Lib.hid h5
            clear hQ2 h5
            go_wp2_with fail
            refine hC.mono ?_
            rintro e w4 ⟨rfl, rfl⟩
            clear hC
            go_wp2_with fail
            refine hEq.mono ?_
            rintro e w5 ⟨rfl, HM5⟩
            have HMe := (HM.got HM5).sel [] (by decide)
            clear hEq HM HM5
            go_wp2_with fail
            go_ret
            exact ⟨by rw [HQ.out]; rfl, HMe⟩
          · have hlt : b.length < a.length := by omega
            have b5 : ((a.length : Int) == (b.length : Int)) = false := beq_eq_false_iff_ne.2 (by omega)
            have b5' : decide ((a.length : Int) = (b.length : Int)) = false := decide_eq_false (by omega)
            have b5'' : decide (a.length = b.length) = false := decide_eq_false h5
            have hltI : (b.length : Int) < (a.length : Int) := by omega
            rw [b5'', Bool.false_or, List.getElem?_eq_getElem hlt] at hQ2
            have e2 := lit_eq a[b.length] ddL
            have HQ : Hid (Q = !((ofL a[b.length]).toList == ddL)) := by
              unfold Hid
              rw [hQ2, e2]
              by_cases h : a[b.length] = ddL <;> simp [h]
            have hcell := tx_get hlt
            clear hQ2 h5 e2
            generalize a[b.length] = x at *
            obtain ⟨q, hq⟩ : ∃ q, ((ofL x).toList == ddL) = q := ⟨_, rfl⟩
            rw [hq] at HQ
            have hq2 : ((ofL x).toList != ddL) = !q := by rw [bne, hq]
            go_wp2_with fail
            refine hC.mono ?_
            rintro e w4 ⟨rfl, rfl⟩
            clear hC
            go_wp2_with fail
            refine hEq.mono ?_
            rintro e w5 ⟨rfl, HM5⟩
            have HM6 := HM.got HM5
            simp only [List.nil_append] at HM6
            obtain ⟨ga, ca', el, _, _⟩ := Row.at_ (HM6.at_ 1 rfl) (by omega)
            cases el
            have x0 := Row.cell (HM6.at_ 1 rfl) hcell
            have HMe := HM6.sel [] (by decide)
            clear hEq HM HM5 HM6 hcell
            go_wp2_with fail
            go_ret
            exact ⟨by rw [HQ.out]; rfl, HMe⟩
        · rw [decide_eq_false h4] at hEq
          have HQ : Hid (Q = false) := by unfold Hid; rw [← hQ, if_pos (.inr (.inr (.inr h4)))]
          clear hQ h2 h4
          go_wp2_with fail
          refine hC.mono ?_
          rintro e w4 ⟨rfl, rfl⟩
          clear hC
          go_wp2_with fail
          refine hEq.mono ?_
          rintro e w5 ⟨rfl, HM5⟩
          have HMe := (HM.got HM5).sel [] (by decide)
          clear hEq HM HM5
          go_wp2_with fail
          go_ret
          exact ⟨by rw [HQ.out]; rfl, HMe⟩
  · have b1 : (r1 != r2) = true := by simpa using h1
    have HQ : Hid (Q = false) := by unfold Hid; rw [← hQ, if_pos (.inl h1)]
    clear hQ b1
    have HMe := HM.sel [] (by decide)
    clear HM
    cases r1 <;> cases r2
    · exact absurd rfl h1
    · clear h1
      go_wp2_with fail
      go_ret
      exact ⟨by rw [HQ.out]; rfl, HMe⟩
    · clear h1
      go_wp2_with fail
      go_ret
      exact ⟨by rw [HQ.out]; rfl, HMe⟩
    · exact absurd rfl h1
theorem strsEq (x y : List UInt8) : ((ofL x).toList == (ofL y).toList) = decide (x = y) := by
  rw [lit_eq, ByteArray.toList_eq]; rfl
set_option maxHeartbeats 4000000 in
theorem rbelow_calls (p d : List UInt8) (w : World) (hp : p.length ≤ 200000) (hd : d.length ≤ 200000) :
    Calls Tryd.prog 27 #[.string (ofL p), .string (ofL d)] w fun e w' => e = .returned (.bool (belowL p d)) ∧ Mem none_ w [] w' := by
  have hP1 := rparts_calls p w (by omega)
  have hP2 := fun wx => rparts_calls d wx (by omega)
  have hR1 := fun wx => rrooted_calls p wx (by omega)
  have hR2 := fun wx => rrooted_calls d wx (by omega)
  have la := Nat.le_trans (len_wt (partsL p)) (wt_parts p)
  have lb := Nat.le_trans (len_wt (partsL d)) (wt_parts d)
  obtain ⟨Q, hQ⟩ : ∃ Q, belowL p d = Q := ⟨_, rfl⟩
  rw [hQ]
  unfold belowL at hQ
  generalize rootedL p = r1 at *
  generalize rootedL d = r2 at *
  generalize partsL p = a at *
  generalize partsL d = b at *
  go_enter Tryd.func27, Tryd.ntmps27
  go_wp2_with fail
  refine hP1.mono ?_
  rintro e w1 ⟨va, rfl, HM1⟩
  have hP2 := hP2 w1
  clear hP1
  go_wp2_with fail
  refine hP2.mono ?_
  rintro e w2 ⟨vb, rfl, HM2⟩
  have HM : Mem none_ w [TRow vb b, TRow va a] w2 := HM1.got HM2
  have hR1 := hR1 w2
  have hR2 := hR2 w2
  clear hP2 HM1 HM2
  obtain ⟨AA, ca, rfl, na1, na2⟩ := Row.any_ (HM.at_ 1 rfl)
  obtain ⟨AB, cb, rfl, nb1, nb2⟩ := Row.any_ (HM.at_ 0 rfl)
  unfold maxLen at na2 nb2
  go_wp2_with fail
  refine hR1.mono ?_
  rintro e w3 ⟨rfl, rfl⟩
  clear hR1
  go_wp2_with fail
  refine hR2.mono ?_
  rintro e w3 ⟨rfl, rfl⟩
  clear hR2
  by_cases h1 : r1 = r2
  · subst h1
    have b1 : (r1 != r1) = false := by simp
    by_cases h3 : a.length < b.length
    · have b3 : decide ((a.length : Int) < (b.length : Int)) = true := decide_eq_true (by omega)
      have b3' : decide (a.length < b.length) = true := decide_eq_true h3
      have HQ : Hid (Q = false) := by unfold Hid; rw [← hQ, if_pos (.inr (.inr (.inl h3)))]
      have HMe := HM.sel [] (by decide)
      clear hQ HM
      go_wp2_with fail
      go_ret
      exact ⟨by rw [HQ.out]; rfl, HMe⟩
    · have b3 : decide ((a.length : Int) < (b.length : Int)) = false := decide_eq_false (by omega)
      have b3' : decide (a.length < b.length) = false := decide_eq_false h3
      have hle : b.length ≤ a.length := by omega
      have HQ0 := Lib.hid hQ
      clear hQ
      go_wp2_with fail
      clear b1 b3 b3'
      go_loopw [7] (fun v7 wr => ∃ k : Nat, k ≤ b.length ∧ v7 = .int .i64 k ∧ Hid (∀ j (h : j < b.length) (h' : j < a.length), j < k → a[j] = b[j] ∧ b[j] ≠ ddL) ∧ Mem none_ w [TRow (.slice AB b.length cb) b, TRow (.slice AA a.length ca) a] wr) (fun v _ => b.length - (intOf v).toNat)
      case atStart => exact ⟨0, Nat.zero_le _, rfl, fun j _ _ h => by omega, HM⟩
      case round =>
        clear HM
        obtain ⟨k, hk, rfl, hall, HM⟩ := hrel
        by_cases hlt : k < b.length
        · have hlt' : decide ((k : Int) < (b.length : Int)) = true := decide_eq_true (by omega)
          have hka : k < a.length := by omega
          have hkaI : (k : Int) < (a.length : Int) := by omega
          have hkbI : (k : Int) < (b.length : Int) := by omega
          have HMd := HM.drew
          clear HM
          obtain ⟨ga, ca', el, _, _⟩ := Row.at_ (HMd.at_ 1 rfl) (by omega)
          cases el
          obtain ⟨gb, cb', el, _, _⟩ := Row.at_ (HMd.at_ 0 rfl) (by omega)
          cases el
          have x0 := Row.cell (HMd.at_ 1 rfl) (tx_get hka)
          have y0 := Row.cell (HMd.at_ 0 rfl) (tx_get hlt)
          have e1 := strsEq a[k] b[k]
          have e1' : ((ofL a[k]).toList != (ofL b[k]).toList) = !decide (a[k] = b[k]) := by rw [bne, e1]
          have e2 := lit_eq b[k] ddL
          have hbad : (a[k] ≠ b[k] ∨ b[k] = ddL) → Q = false := by
            intro h
            rw [← HQ0.out, if_pos]
            rcases h with h | h
            · refine .inr (.inr (.inr fun e => h ?_))
              have := congrArg (fun l => l[k]?) e
              simp only [List.getElem?_take_of_lt hlt, List.getElem?_eq_getElem hka, List.getElem?_eq_getElem hlt] at this
              exact Option.some.inj this
            · exact .inr (.inl (by rw [← h]; exact List.getElem_mem hlt))
          by_cases hxy : a[k] = b[k]
          · rw [decide_eq_true hxy] at e1 e1'
            have e1'' : (!true) = false := rfl
            rw [e1''] at e1'
            by_cases hd : b[k] = ddL
            · have HQ : Hid (Q = false) := hbad (.inr hd)
              rw [decide_eq_true hd] at e2
              have HMe := HMd.sel [] (by decide)
              clear hbad hxy hd HMd
              generalize a[k] = x at *
              generalize b[k] = y at *
              go_wp2_with fail
              refine wp_plan [] (S := fun w' => w' = World.drew wr) [(.pure, 0), (.pure, 1), (.pure, 2), (.load, 3), (.pure, 4), (.pure, 5), (.pure, 6), (.load, 7), (.pure, 8), (.pure, 9), (.pure, 10), (.pure, 11), (.pure, 12), (.load, 13), (.pure, 14), (.pure, 15)] (by kernel_rfl) rfl (by kernel_rfl) rfl (fun _ _ _ _ _ h => h) rfl ?_
              generalize World.drew wr = W at *
              repeat (first | (refine plan_pure (v := ?_) (a' := ?_) rfl rfl rfl ?_ ?_ ?_; rotate_left 2; (focus (intro w'; go_simp; with_reducible rfl)); (focus (simp only [Act.put, List.setIfInBounds_toArray, List.set_cons_zero, List.set_cons_succ]; rfl))) | (refine plan_load (v := ?_) (a' := ?_) rfl rfl rfl ?_ ?_ ?_; rotate_left 2; (focus (intro w' hw'; rw [hw']; go_simp; with_reducible rfl)); (focus (simp only [Act.put, List.setIfInBounds_toArray, List.set_cons_zero, List.set_cons_succ]; rfl))) | (refine plan_skip rfl rfl (by decide +kernel) (by simp only [Act.put, List.setIfInBounds_toArray, List.set_cons_zero, List.set_cons_succ]; rfl) ?_) | (refine plan_skip (a' := ?_) rfl rfl rfl ?_ ?_; rotate_left 1; (focus (simp only [Act.put, List.setIfInBounds_toArray, List.set_cons_zero, List.set_cons_succ]; rfl))) | (refine plan_skipL (a' := ?_) rfl rfl rfl ?_ ?_; rotate_left 1; (focus (simp only [Act.put, List.setIfInBounds_toArray, List.set_cons_zero, List.set_cons_succ]; rfl))))
              refine plan_done ?_
              go_wp2_with fail
              go_ret
              exact ⟨by rw [HQ.out]; rfl, HMe⟩
            · have HA : Hid (∀ j (h : j < b.length) (h' : j < a.length), j < k + 1 → a[j] = b[j] ∧ b[j] ≠ ddL) := by
                intro j h h' hj
                by_cases e : j = k
                · subst e; exact ⟨hxy, hd⟩
                · exact hall.out j h h' (by omega)
              rw [decide_eq_false hd] at e2
              clear hbad hxy hd
              generalize a[k] = x at *
              generalize b[k] = y at *
              go_wp2_with fail
              refine wp_plan [] (S := fun w' => w' = World.drew wr) [(.pure, 0), (.pure, 1), (.pure, 2), (.load, 3), (.pure, 4), (.pure, 5), (.pure, 6), (.load, 7), (.pure, 8), (.pure, 9), (.pure, 10), (.pure, 11), (.pure, 12), (.load, 13), (.pure, 14), (.pure, 15)] (by kernel_rfl) rfl (by kernel_rfl) rfl (fun _ _ _ _ _ h => h) rfl ?_
              generalize World.drew wr = W at *
              repeat (first | (refine plan_pure (v := ?_) (a' := ?_) rfl rfl rfl ?_ ?_ ?_; rotate_left 2; (focus (intro w'; go_simp; with_reducible rfl)); (focus (simp only [Act.put, List.setIfInBounds_toArray, List.set_cons_zero, List.set_cons_succ]; rfl))) | (refine plan_load (v := ?_) (a' := ?_) rfl rfl rfl ?_ ?_ ?_; rotate_left 2; (focus (intro w' hw'; rw [hw']; go_simp; with_reducible rfl)); (focus (simp only [Act.put, List.setIfInBounds_toArray, List.set_cons_zero, List.set_cons_succ]; rfl))) | (refine plan_skip rfl rfl (by decide +kernel) (by simp only [Act.put, List.setIfInBounds_toArray, List.set_cons_zero, List.set_cons_succ]; rfl) ?_) | (refine plan_skip (a' := ?_) rfl rfl rfl ?_ ?_; rotate_left 1; (focus (simp only [Act.put, List.setIfInBounds_toArray, List.set_cons_zero, List.set_cons_succ]; rfl))) | (refine plan_skipL (a' := ?_) rfl rfl rfl ?_ ?_; rotate_left 1; (focus (simp only [Act.put, List.setIfInBounds_toArray, List.set_cons_zero, List.set_cons_succ]; rfl))))
              refine plan_done ?_
              go_wp2_with fail
              go_roundw
              case rel => exact ⟨k + 1, by omega, by go_num, HA, HMd⟩
              case measure => simp [intOf]; omega
          · have HQ : Hid (Q = false) := hbad (.inl hxy)
            rw [decide_eq_false hxy] at e1 e1'
            have e1'' : (!false) = true := rfl
            rw [e1''] at e1'
            have HMe := HMd.sel [] (by decide)
            clear hbad hxy HMd e2
            generalize a[k] = x at *
            generalize b[k] = y at *
            go_wp2_with fail
            refine wp_plan [] (S := fun w' => w' = World.drew wr) [(.pure, 0), (.pure, 1), (.pure, 2), (.load, 3), (.pure, 4), (.pure, 5), (.pure, 6), (.load, 7), (.pure, 8), (.pure, 9), (.pure, 10), (.pure, 11), (.pure, 12), (.load, 13), (.pure, 14), (.pure, 15)] (by kernel_rfl) rfl (by kernel_rfl) rfl (fun _ _ _ _ _ h => h) rfl ?_
            generalize World.drew wr = W at *
            repeat (first | (refine plan_pure (v := ?_) (a' := ?_) rfl rfl rfl ?_ ?_ ?_; rotate_left 2; (focus (intro w'; go_simp; with_reducible rfl)); (focus (simp only [Act.put, List.setIfInBounds_toArray, List.set_cons_zero, List.set_cons_succ]; rfl))) | (refine plan_load (v := ?_) (a' := ?_) rfl rfl rfl ?_ ?_ ?_; rotate_left 2; (focus (intro w' hw'; rw [hw']; go_simp; with_reducible rfl)); (focus (simp only [Act.put, List.setIfInBounds_toArray, List.set_cons_zero, List.set_cons_succ]; rfl))) | (refine plan_skip rfl rfl (by decide +kernel) (by simp only [Act.put, List.setIfInBounds_toArray, List.set_cons_zero, List.set_cons_succ]; rfl) ?_) | (refine plan_skip (a' := ?_) rfl rfl rfl ?_ ?_; rotate_left 1; (focus (simp only [Act.put, List.setIfInBounds_toArray, List.set_cons_zero, List.set_cons_succ]; rfl))) | (refine plan_skipL (a' := ?_) rfl rfl rfl ?_ ?_; rotate_left 1; (focus (simp only [Act.put, List.setIfInBounds_toArray, List.set_cons_zero, List.set_cons_succ]; rfl))))
            refine plan_done ?_
            go_wp2_with fail
            go_ret
            exact ⟨by rw [HQ.out]; rfl, HMe⟩
        · have e : k = b.length := by omega
          subst e
          have h4 : a.take b.length = b := by
            refine List.ext_getElem? fun j => ?_
            by_cases hj : j < b.length
            · rw [List.getElem?_take_of_lt hj, List.getElem?_eq_getElem (by omega), List.getElem?_eq_getElem hj, (hall.out j hj (by omega) hj).1]
            · rw [List.getElem?_eq_none (by rw [List.length_take]; omega), List.getElem?_eq_none (by omega)]
          have h2 : ddL ∉ b := fun hm => by
            obtain ⟨j, hj, e⟩ := List.getElem_of_mem hm
            exact (hall.out j hj (by omega) hj).2 e
          have hQ2 : Q = (decide (a.length = b.length) || decide (a[b.length]? ≠ some ddL)) := by
            rw [← HQ0.out, if_neg]
            rintro (e | e | e | e)
            · exact e rfl
            · exact h2 e
            · exact h3 e
            · exact e h4
          clear h2 h4 hall HQ0
          by_cases h5 : a.length = b.length
          · have HQ : Hid (Q = true) := by unfold Hid; rw [hQ2, decide_eq_true h5]; rfl
            have b5 : ((a.length : Int) == (b.length : Int)) = true := by rw [beq_iff_eq]; omega
            have b5' : decide ((a.length : Int) = (b.length : Int)) = true := decide_eq_true (by omega)
            have b5'' : decide (a.length = b.length) = true := decide_eq_true h5
            have H5 := Lib.hid h5
            clear hQ2 h5
            have HMe := HM.sel [] (by decide)
            clear HM
            go_wp2_with fail
            go_ret
            exact ⟨by rw [HQ.out]; rfl, HMe⟩
          · have hlt : b.length < a.length := by omega
            have b5 : ((a.length : Int) == (b.length : Int)) = false := beq_eq_false_iff_ne.2 (by omega)
            have b5' : decide ((a.length : Int) = (b.length : Int)) = false := decide_eq_false (by omega)
            have b5'' : decide (a.length = b.length) = false := decide_eq_false h5
            have hltI : (b.length : Int) < (a.length : Int) := by omega
            rw [b5'', Bool.false_or, List.getElem?_eq_getElem hlt] at hQ2
            have e2 := lit_eq a[b.length] ddL
            have HQ : Hid (Q = !((ofL a[b.length]).toList == ddL)) := by
              unfold Hid
              rw [hQ2, e2]
              by_cases h : a[b.length] = ddL <;> simp [h]
            have hcell := tx_get hlt
            clear hQ2 h5 e2
            generalize a[b.length] = x at *
            obtain ⟨q, hq⟩ : ∃ q, ((ofL x).toList == ddL) = q := ⟨_, rfl⟩
            rw [hq] at HQ
            have hq2 : ((ofL x).toList != ddL) = !q := by rw [bne, hq]
            have HM6 := HM
            obtain ⟨ga, ca', el, _, _⟩ := Row.at_ (HM6.at_ 1 rfl) (by omega)
            cases el
            have x0 := Row.cell (HM6.at_ 1 rfl) hcell
            have HMe := HM6.sel [] (by decide)
            clear HM HM6 hcell
            go_wp2_with fail
            go_ret
            exact ⟨by rw [HQ.out]; rfl, HMe⟩
  · have HQ : Hid (Q = false) := by unfold Hid; rw [← hQ, if_pos (.inl h1)]
    clear hQ
    have HMe := HM.sel [] (by decide)
    clear HM
    cases r1 <;> cases r2
    · exact absurd rfl h1
    · clear h1
      go_wp2_with fail
      go_ret
      exact ⟨by rw [HQ.out]; rfl, HMe⟩
    · clear h1
      go_wp2_with fail
      go_ret
      exact ⟨by rw [HQ.out]; rfl, HMe⟩
    · exact absurd rfl h1
end Go.Proofs.YtclpbifcngohmaaDoor
