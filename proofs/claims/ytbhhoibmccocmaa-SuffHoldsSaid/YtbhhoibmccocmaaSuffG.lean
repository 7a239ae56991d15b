/-
  The walks of layer 15 (suff): the reference's Next; alive.
-/
import Derived.Test.YtbhhoibmccocmaaSuffF
import Derived.Test.YtbhhoibmccocmaaDraw
set_option linter.unusedVariables false
set_option linter.unusedSimpArgs false
namespace Go.Proofs.Ytbhhoibmccocmaa
open Go.RowKit

set_option maxHeartbeats 400000 in
theorem refNext_no (SV WV : Value) (s : List ByteArray) (ways : List (ByteArray × ByteArray)) (name : ByteArray) (w : World) (hS : Strs w SV s) (hW : Prs w WV ways) (hr : rightOf s ways = false) :
    Calls Try.prog 11 #[.agg #[SV, WV], .string name] w fun e w' => e = .returned (.slice none 0 0) ∧ Mem none_ w [] w' := by
  obtain ⟨A, c, rfl, h1, h2, h3, h4⟩ := id hS
  obtain ⟨A', c', rfl, h1', h2', h3', h4'⟩ := id hW
  have HM0 := ((Mem.start (fp := none_) w).box #[.slice A s.length c, .slice A' ways.length c'] 25)
  go_enter Try.func11, Try.ntmps11
  go_wp2_with (go_at_call 18; refine (refRight_calls _ _ s ways _ (hS.pure HM0.mu) (hW.pure HM0.mu)).mono ?_; rintro e w' ⟨rfl, HM1⟩)
  go_ret
  exact ⟨rfl, (HM0.got HM1).sel [] (by decide)⟩

theorem cutRes_yes {s p : ByteArray} (h : hasSuf s p = true) : cutRes s p = cutSuf s p := by unfold cutRes; rw [if_pos h]
theorem hasSuf_le {s p : ByteArray} (h : hasSuf s p = true) : p.size ≤ s.size := by
  unfold hasSuf at h
  exact of_decide_eq_true (Bool.and_eq_true_iff.1 h).1

set_option maxHeartbeats 2000000 in
theorem refNext_yes (SV WV : Value) (s : List ByteArray) (ways : List (ByteArray × ByteArray)) (name : ByteArray) (w : World) (hS : Strs w SV s) (hW : Prs w WV ways) (hr : rightOf s ways = true)
    (hs : name.size ≤ 1000000) (hw : ∀ p, p ∈ ways → p.1.size ≤ 1000000) (hl : ways.length ≤ 256) :
    Calls Try.prog 11 #[.agg #[SV, WV], .string name] w fun e w' => ∃ v, e = .returned v ∧ Mem none_ w [StrRow v (nextOf name ways)] w' := by
  obtain ⟨A, c, rfl, h1, h2, h3, h4⟩ := id hS
  obtain ⟨A', c', rfl, h1', h2', h3', h4'⟩ := id hW
  unfold maxLen at h2'
  have HM0 := ((Mem.start (fp := none_) w).box #[.slice A s.length c, .slice A' ways.length c'] 25)
  go_enter Try.func11, Try.ntmps11
  go_wp2_with (go_at_call 18; refine (refRight_calls _ _ s ways _ (hS.pure HM0.mu) (hW.pure HM0.mu)).mono ?_; rintro e w1 ⟨rfl, HM1⟩)
  have HM2 := (HM0.got HM1).nilS
  clear HM0 HM1
  go_loopw [5, 6] (fun v i wr => ∃ k : Nat, k ≤ ways.length ∧ i = .int .i64 k ∧ Mem none_ w [StrRow v (nextOf name (ways.take k)), Blk w.heap.size 25 #[.slice A s.length c, .slice A' ways.length c']] wr) (fun _ i _ => ways.length - (intOf i).toNat)
  case atStart => exact ⟨0, Nat.zero_le _, rfl, HM2⟩
  case round =>
    clear HM2
    obtain ⟨k, hk, rfl, HM⟩ := hrel
    have hf1 : wr.cell? ⟨w.heap.size, 1, none⟩ = some (.slice A' ways.length c') := Blk.cell HM.tail.head 1
    by_cases hlt : k < ways.length
    · obtain ⟨b, o, rfl, hcells⟩ := h4'.resolve_left (by omega)
      clear h4' h4
      have hx0 : wr.cell? ⟨b, o + k * 2, none⟩ = some (.string ways[k].1) := HM.mu.cell (hcells _ _ (prs_get0 hlt)) (fun h => h)
      have hx1 : wr.cell? ⟨b, o + k * 2 + 1, none⟩ = some (.string ways[k].2) := HM.mu.cell (hcells _ _ (prs_get1 hlt)) (fun h => h)
      clear hcells
      have hsz : (cutRes name ways[k].2).size + ways[k].1.size ≤ 2000000 := by
        have := cutRes_size name ways[k].2
        have := hw ways[k] (List.getElem_mem hlt)
        omega
      have HS := Lib.hid (nextOf_snoc name ways k hlt)
      cases hh : hasSuf name ways[k].2
      · by_cases hle : ways[k].2.size ≤ name.size
        · have he : ((name.extract (name.size - ways[k].2.size) name.size).toList == ways[k].2.toList) = false := by
            unfold hasSuf at hh; simpa [hle] using hh
          go_wp2
          go_roundw
          case rel => exact ⟨k + 1, by omega, by go_num, by rw [HS.out, hh]; simpa using HM⟩
          case measure => simp [intOf]; omega
        · go_wp2
          go_roundw
          case rel => exact ⟨k + 1, by omega, by go_num, by rw [HS.out, hh]; simpa using HM⟩
          case measure => simp [intOf]; omega
      · have hle := hasSuf_le hh
        have he : ((name.extract (name.size - ways[k].2.size) name.size).toList == ways[k].2.toList) = true := by
          have h' := hh
          unfold hasSuf at h'; simpa [hle] using h'
        have hwr : IntKind.i64.wrap ((name.size : Int) - (ways[k].2.size : Int)) = (name.size : Int) - (ways[k].2.size : Int) := IntWalk.i64_in _ (by omega)
        have hsl : ∀ W, (Instr.slice 9 (.string name) none (some (.int .i64 ((name.size : Int) - (ways[k].2.size : Int)))) none).run Try.prog W = .ok (.string (name.extract 0 (name.size - ways[k].2.size))) W := fun W => by
          have h := run_slice_string_h (P := Try.prog) (w := W) 9 name Try.underlying9 .i64 ((name.size : Int) - (ways[k].2.size : Int)) (by omega) (by omega)
          rw [show ((name.size : Int) - (ways[k].2.size : Int)).toNat = name.size - ways[k].2.size from by omega] at h
          exact h
        rw [cutRes_yes hh] at hsz
        unfold cutSuf at hsz
        have hadd : ∀ W, (Op.stringOp .add (name.extract 0 (name.size - ways[k].2.size)) ways[k].1).run Try.prog W = .ok (.string (name.extract 0 (name.size - ways[k].2.size) ++ ways[k].1)) W := fun W => run_string_add_sum _ _ _ (by omega)
        go_wp2
        refine wp_plan [15, 16, 17] (S := fun w' => w' = wr.drew) [(.pure, 0), (.pure, 1), (.pure, 2), (.pure, 3), (.pure, 4), (.pure, 5), (.pure, 6), (.pure, 7), (.pure, 8), (.load, 9), (.pure, 10), (.pure, 11), (.pure, 12), (.load, 13), (.pure, 14), (.tail, 15), (.tail, 16), (.tail, 17)] (by kernel_rfl) rfl (by kernel_rfl) rfl (fun _ _ _ _ _ h => h) rfl ?_
        have HM2 := HM.drew
        have hg1 : wr.drew.cell? ⟨w.heap.size, 1, none⟩ = some (.slice (some ⟨b, o, none⟩) ways.length c') := hf1
        have hg2 : wr.drew.cell? ⟨b, o + k * 2, none⟩ = some (.string ways[k].1) := hx0
        clear hx0 hx1 hf1
        generalize wr.drew = W at *
        repeat (first | (refine plan_pure (v := ?_) (a' := ?_) rfl rfl rfl ?_ ?_ ?_; rotate_left 2; (focus (intro w'; go_simp; with_reducible rfl)); (focus (simp only [Act.put, List.setIfInBounds_toArray, List.set_cons_zero, List.set_cons_succ]; rfl))) | (refine plan_load (v := ?_) (a' := ?_) rfl rfl rfl ?_ ?_ ?_; rotate_left 2; (focus (intro w' hw'; rw [hw']; go_simp; with_reducible rfl)); (focus (simp only [Act.put, List.setIfInBounds_toArray, List.set_cons_zero, List.set_cons_succ]; rfl))))
        refine plan_tail rfl (fun K hK => ?_)
        go_wp2
        refine plan_tail rfl (fun K hK => ?_)
        refine wpList_appS strE rfl _ _ rfl HM2 rfl _ _ rfl ?hnb ?hb ?_
        case hnb => simp
        case hb => have := nextOf_length name (ways.take k); simp at this; omega
        intro v' w' HM3 HU3
        go_wp2
        refine plan_tail rfl (fun K hK => ?_)
        go_wp2
        refine plan_done ?_
        go_wp2
        go_roundw
        case rel => exact ⟨k + 1, by omega, by go_num, by rw [HS.out, hh]; exact HM3⟩
        case measure => simp [intOf]; omega
    · have e : k = ways.length := by omega
      go_wp2
      go_ret
      exact ⟨_, rfl, by rw [e, List.take_length] at HM; exact HM.sel [0] (by decide)⟩
end Go.Proofs.Ytbhhoibmccocmaa
