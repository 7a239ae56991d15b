/-
  The store's calls: Append, Read, Mkdir, Later, Used, Clock, drop.
-/
import Derived.Test.YtjhcabjlhnhkbaaDoorVfsG
set_option linter.unusedVariables false
set_option linter.unusedSimpArgs false
set_option maxRecDepth 20000
namespace Go.Proofs.YtjhcabjlhnhkbaaDoor
open Go.RowKit

theorem Mem.tick {fp : Nat → Prop} {w0 w : World} {F : List Chunk} {sb mb : Nat} {nv : Value} {s : St} (h : Mem fp w0 (StoreC sb mb nv s :: F) w) (z : Int) :
    Mem fp w0 (StoreC sb mb nv { s with clock := z } :: F) (w.setCell ⟨sb, 2, none⟩ (.int .i64 z)) := by
  have h1 : Mem fp w0 (Blk sb 58 #[.int .i64 s.room, .int .i64 s.used, .int .i64 s.clock, .map (some mb), .bool s.noting, nv] :: (MapC mb kL vF s.files :: NRow nv s.notes :: F)) w := h.open_
  have h2 := h1.blkSet 2 (.int .i64 z)
  simp only [List.setIfInBounds_toArray, List.set_cons_zero, List.set_cons_succ] at h2
  exact Mem.shut_ (cs := StoreF sb mb nv { s with clock := z }) h2
theorem load_calls (b o : Nat) (x : Int) (w : World) (hc : w.cell? ⟨b, o, none⟩ = some (.int .i64 x)) :
    Calls Tryd.prog 23 #[.pointer (some ⟨b, o, none⟩)] w fun e w' => e = .returned (.int .i64 x) ∧ w = w' := by
  have hd : (callFunc 39 #[.pointer (some ⟨b, o, none⟩)]).run Tryd.prog w = .ok (.value (.int .i64 x)) w :=
    run_call_load Tryd.func39 (by kernel_rfl) (by kernel_rfl) (by kernel_rfl) .i64 (by kernel_rfl) hc
  clear hc
  go_enter Tryd.func23, Tryd.ntmps23
  go_wp2
  go_ret
  exact ⟨rfl, rfl⟩
section
variable {sb mb : Nat} {nv : Value} {s : St} {w : World}
theorem used_calls (h : (StoreC sb mb nv s).ok w) :
    Calls Tryd.prog 18 #[ptr sb] w fun e w' => e = .returned (.int .i64 s.used) ∧ w = w' := by
  have hO := ok_calls h
  have c1 := StoreC.c1 h
  clear h
  go_enter Tryd.func18, Tryd.ntmps18
  go_wp2_with fail
  refine hO.mono ?_
  rintro e w1 ⟨rfl, rfl⟩
  clear hO
  go_wp2_with fail
  go_ret
  exact ⟨rfl, rfl⟩
theorem clock_calls (h : (StoreC sb mb nv s).ok w) :
    Calls Tryd.prog 10 #[ptr sb] w fun e w' => e = .returned (.int .i64 s.clock) ∧ w = w' := by
  have hO := ok_calls h
  have hL := load_calls sb 2 s.clock w (StoreC.c2 h)
  clear h
  go_enter Tryd.func10, Tryd.ntmps10
  go_wp2_with fail
  refine hO.mono ?_
  rintro e w1 ⟨rfl, rfl⟩
  clear hO
  go_wp2_with fail
  refine hL.mono ?_
  rintro e w1 ⟨rfl, rfl⟩
  clear hL
  go_wp2_with fail
  go_ret
  exact ⟨rfl, rfl⟩
set_option maxHeartbeats 2000000 in
theorem later_calls (h : (StoreC sb mb nv s).ok w) (hG : GoodS s) (n : Int) (hck : s.clock ≤ 4611686018427387904) :
    Calls Tryd.prog 28 #[ptr sb, .int .i64 n] w fun e w' => e = .returned (.tuple #[]) ∧ Mem (StoreC sb mb nv s).fp w [StoreC sb mb nv (laterS s n)] w' := by
  have hO := ok_calls h
  have hC := clock_calls h
  have hM := Mem.from h
  have g0 := hG.clock
  obtain ⟨R, hR⟩ : ∃ R, laterS s n = R := ⟨_, rfl⟩
  rw [hR]
  unfold laterS at hR
  have HR := Lib.hid hR
  clear hR
  go_enter Tryd.func28, Tryd.ntmps28
  go_wp2_with fail
  refine hO.mono ?_
  rintro e w1 ⟨rfl, rfl⟩
  clear hO
  by_cases h1 : 0 ≤ n
  · have d1 : decide (0 ≤ n) = true := decide_eq_true h1
    by_cases h2 : n ≤ 1099511627776
    · have d2 : decide (n ≤ 1099511627776) = true := decide_eq_true h2
      go_wp2_with fail
      refine hC.mono ?_
      rintro e w1 ⟨rfl, rfl⟩
      clear hC
      by_cases h3 : s.clock ≤ 1152921504606846976
      · have d3 : decide (s.clock ≤ 1152921504606846976) = true := decide_eq_true h3
        have hA := add_calls sb 2 s.clock n (s.clock + n) _ (StoreC.c2 h) (Blk.frozen (StoreC.blk h) 2) (IntWalk.i64_in _ (by omega))
        have HR1 : Hid ({ s with clock := s.clock + n } = R) := by
          unfold Hid
          rw [← HR.out, if_pos ⟨h1, h2, h3⟩]
        clear HR
        go_wp2_with fail
        refine hA.mono ?_
        rintro e w2 ⟨rfl, rfl⟩
        have hM2 := hM.tick (s.clock + n)
        rw [HR1.out] at hM2
        clear hA hM h
        generalize World.setCell _ _ _ = W2 at *
        go_wp2_with fail
        go_end0
        exact ⟨rfl, hM2⟩
      · have d3 : decide (s.clock ≤ 1152921504606846976) = false := decide_eq_false h3
        have HR1 : Hid (s = R) := by
          unfold Hid
          rw [← HR.out, if_neg (fun c => h3 c.2.2)]
        go_wp2_with fail
        go_end0
        refine ⟨rfl, ?_⟩
        rw [← HR1.out]; exact hM
    · have d2 : decide (n ≤ 1099511627776) = false := decide_eq_false h2
      have HR1 : Hid (s = R) := by
        unfold Hid
        rw [← HR.out, if_neg (fun c => h2 c.2.1)]
      go_wp2_with fail
      go_end0
      refine ⟨rfl, ?_⟩
      rw [← HR1.out]; exact hM
  · have d1 : decide (0 ≤ n) = false := decide_eq_false h1
    have HR1 : Hid (s = R) := by
      unfold Hid
      rw [← HR.out, if_neg (fun c => h1 c.1)]
    go_wp2_with fail
    go_end0
    refine ⟨rfl, ?_⟩
    rw [← HR1.out]; exact hM
set_option maxHeartbeats 4000000 in
theorem append_calls (h : (StoreC sb mb nv s).ok w) {k : Int} (hO : OkS s k) (hck : s.clock ≤ 4611686018427387904) (p t : List UInt8) (hp : p.length ≤ 150000) (ht : t.length ≤ 140737488351232) :
    Calls Tryd.prog 24 #[ptr sb, .string (ofL p), .string (ofL t)] w fun e w' => e = .returned (.int .i64 (appendS s p t).2) ∧ ∃ nv', Mem (StoreC sb mb nv s).fp w [StoreC sb mb nv' (appendS s p t).1] w' := by
  have hF := find_calls h p (by omega)
  have hft := (find_text hO p).1
  have hW := fun wx (hx : (StoreC sb mb nv s).ok wx) => write_calls hx hO.good hck p ((findS s p).2.1.text ++ t) (by omega) (by rw [List.length_append]; omega)
  have hap := add_run (findS s p).2.1.text t (by omega)
  unfold appendS
  generalize (findS s p).2.1.text ++ t = X at *
  generalize writeS s p X = R at *
  generalize findS s p = F at *
  obtain ⟨Fq, Ff, Fe⟩ := F
  obtain ⟨ft, fm, fd⟩ := Ff
  simp only at hF hft hap
  unfold vF at hF
  simp only at hF
  clear hO hck
  go_enter Tryd.func24, Tryd.ntmps24
  go_wp2_with fail
  refine hF.mono ?_
  rintro e w1 ⟨rfl, HM1⟩
  clear hF
  have HM2 := Lib.hid (HM1.fbox ⟨ft, fm, fd⟩)
  have a0 := FBlk.g0 (HM2.out.at_ 0 rfl)
  have hWr := hW _ (Pure.chunk HM2.out.mu h)
  simp only at a0 hWr
  clear HM1 hW
  go_wp2_with fail
  refine hWr.mono ?_
  rintro e w2 ⟨rfl, nv', HM3⟩
  have HM4 := Mem.call1 (StoreC.keep h HM2.out.mu) HM3
  clear hWr HM3
  go_wp2_with fail
  go_ret
  exact ⟨rfl, nv', HM4⟩
set_option maxHeartbeats 4000000 in
theorem read_calls (h : (StoreC sb mb nv s).ok w) (hG : GoodS s) (p : List UInt8) (hp : p.length ≤ 1100000) :
    Calls Tryd.prog 19 #[ptr sb, .string (ofL p)] w fun e w' => e = .returned (.tuple #[.string (ofL (readS s p).2.1), .int .i64 (readS s p).2.2]) ∧ ∃ nv', Mem (StoreC sb mb nv s).fp w [StoreC sb mb nv' (readS s p).1] w' := by
  have hF := find_calls h p (by omega)
  obtain ⟨⟨s', t', e'⟩, hW⟩ : ∃ R, readS s p = R := ⟨_, rfl⟩
  rw [hW]
  unfold readS at hW
  generalize findS s p = F at *
  obtain ⟨Fq, Ff, Fe⟩ := F
  obtain ⟨ft, fm, fd⟩ := Ff
  simp only at hF hW ⊢
  have HW := Lib.hid hW
  clear hW
  unfold vF at hF
  simp only at hF
  go_enter Tryd.func19, Tryd.ntmps19
  go_wp2_with fail
  refine hF.mono ?_
  rintro e w1 ⟨rfl, HM1⟩
  clear hF
  have HM2 := Lib.hid (HM1.fbox ⟨ft, fm, fd⟩)
  have a0 := FBlk.g0 (HM2.out.at_ 0 rfl)
  have a2 := FBlk.g2 (HM2.out.at_ 0 rfl)
  have hC := Pure.chunk HM2.out.mu h
  simp only at a0 a2 hC
  clear HM1
  by_cases he : Fe = 0
  · have qe : ((Fe : Int) != 0) = false := by rw [bne_eq_false_iff_eq]; omega
    cases fd with
    | true =>
      go_wp2_with fail
      have h1 := HW.out
      rw [if_neg (by omega)] at h1
      first | rw [if_pos trivial] at h1 | rw [if_pos rfl] at h1
      cases h1
      exact bodyPost_ret (v := .tuple #[.string ⟨#[]⟩, .int .i64 8]) (by simp [results, Tryd.results19, go_sem]) rfl ⟨rfl, nv, StoreC.keep h HM2.out.mu⟩
    | false =>
      have hN := note_calls hC hG 1 Fq
      have HA : Mem (StoreC sb mb nv s).fp w [StoreC sb mb nv s, FBlk w1.heap.size ⟨ft, fm, false⟩] _ := ((Mem.from h).got HM2.out).sel [1, 0] (by decide)
      clear HM2 a0
      go_wp2_with fail
      refine hN.mono ?_
      rintro e w2 ⟨rfl, nv', HM3⟩
      have HM4 := Mem.call1 HA HM3
      simp only [List.cons_append, List.nil_append] at HM4
      have a0 := FBlk.g0 (HM4.at_ 1 rfl)
      simp only at a0
      clear hN HA HM3 a2
      go_wp2_with fail
      have h1 := HW.out
      rw [if_neg (by omega), if_neg (by decide)] at h1
      cases h1
      exact bodyPost_ret (v := .tuple #[.string (ofL t'), .int .i64 0]) (by simp [results, Tryd.results19, go_sem]) rfl ⟨rfl, nv', HM4.sel [0] (by decide)⟩
  · have qe : ((Fe : Int) != 0) = true := by rw [bne_iff_ne]; omega
    go_wp2_with fail
    have h1 := HW.out
    rw [if_pos he] at h1
    cases h1
    exact bodyPost_ret (v := .tuple #[.string ⟨#[]⟩, .int .i64 e']) (by simp [results, Tryd.results19, go_sem]) rfl ⟨rfl, nv, StoreC.keep h HM2.out.mu⟩
end
end Go.Proofs.YtjhcabjlhnhkbaaDoor
