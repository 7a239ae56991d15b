/-
  The walks of layer 15 (suff): the references' Right and Next; alive.
-/
import Derived.Test.YtbhhoibmccocmaaSuffE
import Derived.StillTailTactics
set_option linter.unusedVariables false
set_option linter.unusedSimpArgs false
namespace Go.Proofs.Ytbhhoibmccocmaa
open Go.RowKit

theorem mem_take_succ {l : List ByteArray} {k : Nat} (h : k < l.length) (x : ByteArray) : mem (l.take (k + 1)) x = (mem (l.take k) x || decide (x = l[k])) := by
  unfold mem
  rw [List.take_succ_eq_append_getElem h, List.any_append]
  simp
theorem memP_take_succ {l : List (ByteArray × ByteArray)} {k : Nat} (h : k < l.length) (x : ByteArray × ByteArray) : memP (l.take (k + 1)) x = (memP (l.take k) x || decide (x = l[k])) := by
  unfold memP
  rw [List.take_succ_eq_append_getElem h, List.any_append]
  simp
theorem mhas_put {κ ν : Type} [DecidableEq κ] (m : List (κ × ν)) (k : κ) (v : ν) (x : κ) : mhas (mput m k v) x = (mhas m x || decide (x = k)) := by
  unfold mhas
  rw [mget_put]
  by_cases h : x = k <;> simp [h]

def wayOpt (ways : List (ByteArray × ByteArray)) : Option (List (ByteArray × Unit)) → Bool
  | none => false
  | some met => wayRun met [] ways
theorem rightOf_eq {s : List ByteArray} {ways : List (ByteArray × ByteArray)} (h1 : ¬ 64 < s.length) (h2 : ¬ 256 < ways.length) : rightOf s ways = wayOpt ways (sufRun [] s) := by
  unfold rightOf
  rw [if_neg h1, if_neg h2]
  cases sufRun [] s <;> rfl

theorem has_still (V : Value) (l : List ByteArray) (x : ByteArray) (w : World) (hV : Strs w V l) :
    Calls Try.prog 21 #[V, .string x] w fun e w' => e = .returned (.bool (mem l x)) ∧ w' = w := (has_calls V l x w hV).mono fun _ _ h => ⟨h.1, h.2.symm⟩

set_option maxHeartbeats 2000000 in
theorem refRight_calls (SV WV : Value) (s : List ByteArray) (ways : List (ByteArray × ByteArray)) (w : World) (hS : Strs w SV s) (hW : Prs w WV ways) :
    Calls Try.prog 18 #[.agg #[SV, WV]] w fun e w' => e = .returned (.bool (rightOf s ways)) ∧ Mem none_ w [] w' := by
  obtain ⟨A, c, rfl, h1, h2, h3, h4⟩ := id hS
  obtain ⟨A', c', rfl, h1', h2', h3', h4'⟩ := id hW
  unfold maxLen at h2 h2'
  have HM0 := ((Mem.start (fp := none_) w).box #[.slice A s.length c, .slice A' ways.length c'] 25)
  by_cases hb1 : 64 < s.length
  · go_enter Try.func18, Try.ntmps18
    go_wp2
    go_ret
    exact ⟨ret_bool (by simp [rightOf, hb1]), HM0.sel [] (by decide)⟩
  by_cases hb2 : 256 < ways.length
  · go_enter Try.func18, Try.ntmps18
    go_wp2
    go_ret
    exact ⟨ret_bool (by simp [rightOf, hb1, hb2]), HM0.sel [] (by decide)⟩
  have HR : Hid (rightOf s ways = wayOpt ways (sufRun [] s)) := rightOf_eq hb1 hb2
  have hb1' : decide (64 < (s.length : Int)) = false := decide_eq_false (by omega)
  have hb2' : decide (256 < (ways.length : Int)) = false := decide_eq_false (by omega)
  clear hb1 hb2
  go_enter Try.func18, Try.ntmps18
  go_wp2
  go_loopw [3] (fun i wr => ∃ (k : Nat) (mk : List (ByteArray × Unit)), k ≤ s.length ∧ i = .int .i64 k ∧ Hid (sufRun [] s = sufRun mk (s.drop k)) ∧ Hid (∀ x, mhas mk x = mem (s.take k) x) ∧ Mem none_ w [Blk w.heap.size 25 #[.slice A s.length c, .slice A' ways.length c']] wr) (fun i _ => s.length - (intOf i).toNat)
  case atStart => exact ⟨0, [], Nat.zero_le _, rfl, by unfold Hid; rfl, by intro x; rfl, HM0⟩
  case round =>
    clear HM0
    obtain ⟨k, mk, hk, rfl, HK, HH, HM⟩ := hrel
    have hf0 : wr.cell? ⟨w.heap.size, 0, none⟩ = some (.slice A s.length c) := Blk.cell HM.head 0
    have hf1 : wr.cell? ⟨w.heap.size, 1, none⟩ = some (.slice A' ways.length c') := Blk.cell HM.head 1
    by_cases hlt : k < s.length
    · have hSk := Strs.take (hS.pure HM.mu) (k := k) (by omega)
      obtain ⟨b, o, rfl, hcells⟩ := h4.resolve_left (by omega)
      clear h4
      have hx0 : wr.cell? ⟨b, o + k, none⟩ = some (.string s[k]) := HM.mu.cell (hcells k _ (strs_get hlt)) (fun h => h)
      clear hcells
      have HN : Hid (sufRun mk (s.drop k) = if s[k].toList.isEmpty || mhas mk s[k] then none else sufRun (mput mk s[k] ()) (s.drop (k + 1))) := by
        unfold Hid; rw [List.drop_eq_getElem_cons hlt]; rfl
      have hkc : k ≤ c := by omega
      have hkc' : (k : Int) ≤ (c : Int) := by omega
      have hk0 : 0 ≤ (k : Int) := by omega
      cases he : s[k].toList.isEmpty
      · cases hh : mem (s.take k) s[k]
        · go_wp2
          go_quiet ((go_at_call 21; exact quietW (has_calls _ _ _ _ (hSk.drewN _))))
          go_wp2
          go_roundw
          case rel => exact ⟨k + 1, _, by omega, by go_num, by unfold Hid; rw [HK.out, HN.out, he, HH.out, hh]; rfl, by intro x; rw [mhas_put, HH.out, mem_take_succ hlt], HM.drewN _⟩
          case measure => simp [intOf]; omega
        · have HF : Hid (rightOf s ways = false) := by unfold Hid; rw [HR.out, HK.out, HN.out, he, HH.out, hh]; rfl
          go_wp2
          go_quiet ((go_at_call 21; exact quietW (has_calls _ _ _ _ (hSk.drewN _))))
          go_wp2
          go_ret
          exact ⟨ret_bool HF.out.symm, (HM.drewN _).sel [] (by decide)⟩
      · have HF : Hid (rightOf s ways = false) := by unfold Hid; rw [HR.out, HK.out, HN.out, he]; rfl
        go_wp2
        go_quiet (fail)
        go_wp2
        go_ret
        exact ⟨ret_bool HF.out.symm, (HM.drewN _).sel [] (by decide)⟩
    · have e : k = s.length := by omega
      have HR2 : Hid (rightOf s ways = wayRun mk [] ways) := by unfold Hid; rw [HR.out, HK.out, e, List.drop_length]; rfl
      have HH2 : Hid (∀ x, mhas mk x = mem s x) := by intro x; rw [HH.out, e, List.take_length]
      clear HK HH e
      go_wp2
      obtain ⟨wo, rfl⟩ : ∃ wo : World, wo = wr := ⟨_, rfl⟩
      go_loopw [4] (fun i wr => ∃ (j : Nat) (mj : List ((ByteArray × ByteArray) × Unit)), j ≤ ways.length ∧ i = .int .i64 j ∧ Hid (wayRun mk [] ways = wayRun mk mj (ways.drop j)) ∧ Hid (∀ x, mhas mj x = memP (ways.take j) x) ∧ Mem none_ w [Blk w.heap.size 25 #[.slice A s.length c, .slice A' ways.length c']] wr) (fun i _ => ways.length - (intOf i).toNat)
      case atStart => exact ⟨0, [], Nat.zero_le _, rfl, by unfold Hid; rfl, by intro x; rfl, HM⟩
      case round =>
        clear HM hf0 hf1
        obtain ⟨j, mj, hj, rfl, HK, HH, HM⟩ := hrel
        have hf0 : wr.cell? ⟨w.heap.size, 0, none⟩ = some (.slice A s.length c) := Blk.cell HM.head 0
        have hf1 : wr.cell? ⟨w.heap.size, 1, none⟩ = some (.slice A' ways.length c') := Blk.cell HM.head 1
        by_cases hlt' : j < ways.length
        · have hWj := Prs.take (hW.pure HM.mu) (k := j) (by omega)
          have hSw := hS.pure HM.mu
          obtain ⟨b, o, rfl, hcells⟩ := h4'.resolve_left (by omega)
          clear h4'
          have hx0 : wr.cell? ⟨b, o + j * 2, none⟩ = some (.string ways[j].1) := HM.mu.cell (hcells _ _ (prs_get0 hlt')) (fun h => h)
          have hx1 : wr.cell? ⟨b, o + j * 2 + 1, none⟩ = some (.string ways[j].2) := HM.mu.cell (hcells _ _ (prs_get1 hlt')) (fun h => h)
          clear hcells
          have HN : Hid (wayRun mk mj (ways.drop j) = if (ways[j].1.toList == ways[j].2.toList) || !mhas mk ways[j].1 || !mhas mk ways[j].2 || mhas mj ways[j] then false else wayRun mk (mput mj ways[j] ()) (ways.drop (j + 1))) := by
            unfold Hid; rw [List.drop_eq_getElem_cons hlt']; rfl
          have hjc : j ≤ c' := by omega
          have hjc' : (j : Int) ≤ (c' : Int) := by omega
          have hj0 : 0 ≤ (j : Int) := by omega
          cases he : (ways[j].1.toList == ways[j].2.toList)
          · cases hh1 : mem s ways[j].1
            · have HF : Hid (rightOf s ways = false) := by unfold Hid; rw [HR2.out, HK.out, HN.out, he, HH2.out, hh1]; rfl
              go_wp2
              have HM2 := HM.box #[.string ways[j].1, .string ways[j].2] 44
              clear hx0 hx1 hf0 hf1
              generalize wr.alloc (.cells #[.string ways[j].1, .string ways[j].2] 44) = W at *
              have hf0 : W.cell? ⟨w.heap.size, 0, none⟩ = some (.slice A s.length c) := Blk.cell HM2.tail.head 0
              have hf1 : W.cell? ⟨w.heap.size, 1, none⟩ = some (.slice (some ⟨b, o, none⟩) ways.length c') := Blk.cell HM2.tail.head 1
              have hb0 : W.cell? ⟨wr.heap.size, 0, none⟩ = some (.string ways[j].1) := Blk.cell HM2.head 0
              have hb1 : W.cell? ⟨wr.heap.size, 1, none⟩ = some (.string ways[j].2) := Blk.cell HM2.head 1
              have hSW := hS.pure HM2.mu
              go_quiet ((first | (go_at_call 21; exact quietW (has_calls _ _ _ _ (hSW.drewN _)))))
              go_wp2
              go_ret
              exact ⟨ret_bool HF.out.symm, (HM2.drewN _).sel [] (by decide)⟩
            · cases hh2 : mem s ways[j].2
              · have HF : Hid (rightOf s ways = false) := by unfold Hid; rw [HR2.out, HK.out, HN.out, he, HH2.out, hh1, HH2.out, hh2]; rfl
                go_wp2
                have HM2 := HM.box #[.string ways[j].1, .string ways[j].2] 44
                clear hx0 hx1 hf0 hf1
                generalize wr.alloc (.cells #[.string ways[j].1, .string ways[j].2] 44) = W at *
                have hf0 : W.cell? ⟨w.heap.size, 0, none⟩ = some (.slice A s.length c) := Blk.cell HM2.tail.head 0
                have hf1 : W.cell? ⟨w.heap.size, 1, none⟩ = some (.slice (some ⟨b, o, none⟩) ways.length c') := Blk.cell HM2.tail.head 1
                have hb0 : W.cell? ⟨wr.heap.size, 0, none⟩ = some (.string ways[j].1) := Blk.cell HM2.head 0
                have hb1 : W.cell? ⟨wr.heap.size, 1, none⟩ = some (.string ways[j].2) := Blk.cell HM2.head 1
                have hSW := hS.pure HM2.mu
                go_quiet ((first | (go_at_call 21; exact quietW (has_calls _ _ _ _ (hSW.drewN _)))))
                go_wp2
                go_ret
                exact ⟨ret_bool HF.out.symm, (HM2.drewN _).sel [] (by decide)⟩
              · go_wp2
                have HM2 := (HM.box #[.string ways[j].1, .string ways[j].2] 44).drew
                refine wp_region_still_tail 27 (by kernel_rfl) (by kernel_rfl) ?_
                change wpStill _ _ (World.drew _) (fun a' => wpList _ _ _ _ a' (World.drew _)) _ _
                clear hx0 hx1 hf0 hf1
                generalize (wr.alloc (.cells #[.string ways[j].1, .string ways[j].2] 44)).drew = W at *
                have hf0 : W.cell? ⟨w.heap.size, 0, none⟩ = some (.slice A s.length c) := Blk.cell HM2.tail.head 0
                have hf1 : W.cell? ⟨w.heap.size, 1, none⟩ = some (.slice (some ⟨b, o, none⟩) ways.length c') := Blk.cell HM2.tail.head 1
                have hb0 : W.cell? ⟨wr.heap.size, 0, none⟩ = some (.string ways[j].1) := Blk.cell HM2.head 0
                have hb1 : W.cell? ⟨wr.heap.size, 1, none⟩ = some (.string ways[j].2) := Blk.cell HM2.head 1
                have hSW := hS.pure HM2.mu
                simp only [List.take_succ_cons, List.take_zero, List.drop_succ_cons, List.drop_zero]
                repeat (first | still_call (has_still _ _ _ _ hSW) | still_step)
                refine wpStill_nil ?_
                have hWW := Prs.take (hW.pure HM2.mu) (k := j) (by omega)
                cases hh3 : memP (ways.take j) ways[j]
                · go_wp2_with (go_at_call 22; refine (way_calls _ _ ways[j] _ hWW).mono ?_; rintro e w5 ⟨rfl, HM5⟩)
                  go_roundw
                  case rel => exact ⟨j + 1, _, by omega, by go_num, by unfold Hid; rw [HK.out, HN.out, he, HH2.out, hh1, HH2.out, hh2, HH.out, hh3]; rfl, by intro x; rw [mhas_put, HH.out, memP_take_succ hlt'], (HM2.got HM5).sel [1] (by decide)⟩
                  case measure => simp [intOf]; omega
                · have HF : Hid (rightOf s ways = false) := by unfold Hid; rw [HR2.out, HK.out, HN.out, he, HH2.out, hh1, HH2.out, hh2, HH.out, hh3]; rfl
                  go_wp2_with (go_at_call 22; refine (way_calls _ _ ways[j] _ hWW).mono ?_; rintro e w5 ⟨rfl, HM5⟩)
                  go_ret
                  exact ⟨ret_bool HF.out.symm, (HM2.got HM5).sel [] (by decide)⟩
          · have HF : Hid (rightOf s ways = false) := by unfold Hid; rw [HR2.out, HK.out, HN.out, he]; rfl
            go_wp2
            have HM2 := HM.box #[.string ways[j].1, .string ways[j].2] 44
            clear hx0 hx1 hf0 hf1
            generalize wr.alloc (.cells #[.string ways[j].1, .string ways[j].2] 44) = W at *
            have hf0 : W.cell? ⟨w.heap.size, 0, none⟩ = some (.slice A s.length c) := Blk.cell HM2.tail.head 0
            have hf1 : W.cell? ⟨w.heap.size, 1, none⟩ = some (.slice (some ⟨b, o, none⟩) ways.length c') := Blk.cell HM2.tail.head 1
            have hb0 : W.cell? ⟨wr.heap.size, 0, none⟩ = some (.string ways[j].1) := Blk.cell HM2.head 0
            have hb1 : W.cell? ⟨wr.heap.size, 1, none⟩ = some (.string ways[j].2) := Blk.cell HM2.head 1
            go_quiet (fail)
            go_wp2
            go_ret
            exact ⟨ret_bool HF.out.symm, (HM2.drewN _).sel [] (by decide)⟩
        · have e : j = ways.length := by omega
          have HF : Hid (rightOf s ways = true) := by unfold Hid; rw [HR2.out, HK.out, e, List.drop_length]; rfl
          go_wp2
          go_ret
          exact ⟨ret_bool HF.out.symm, HM.sel [] (by decide)⟩
end Go.Proofs.Ytbhhoibmccocmaa
