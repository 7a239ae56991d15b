/-
  The store's calls: Touch, Notes, New.
-/
import Derived.Test.YtnpehlkdfbmnkaaDoorVfsE
set_option linter.unusedVariables false
set_option linter.unusedSimpArgs false
set_option maxRecDepth 20000
namespace Go.Proofs.YtnpehlkdfbmnkaaDoor
open Go.RowKit

section
variable {sb mb : Nat} {nv : Value} {s : St} {w : World}
set_option maxHeartbeats 4000000 in
theorem touch_calls (h : (StoreC sb mb nv s).ok w) (hG : GoodS s) (hck : s.clock ≤ 4611686018427387904) (p : List UInt8) (hp : p.length ≤ 150000) :
    Calls Tryd.prog 23 #[ptr sb, .string (ofL p)] w fun e w' => e = .returned (.int .i64 (touchS s p).2) ∧ ∃ nv', Mem (StoreC sb mb nv s).fp w [StoreC sb mb nv' (touchS s p).1] w' := by
  have hF := find_calls h p hp
  have hE := findS_e s p
  have hft : (findS s p).2.1.text.length ≤ 65536 := by
    rcases hE with ⟨_, e, _⟩ | ⟨_, e, _⟩ | ⟨_, e, _⟩
    · rw [e]; exact Nat.zero_le _
    · rw [e]; exact Nat.zero_le _
    · exact (hG.text _ (mget_mem e)).1
  obtain ⟨⟨s', r⟩, hW⟩ : ∃ R, touchS s p = R := ⟨_, rfl⟩
  rw [hW]
  unfold touchS at hW
  have hgood := Lib.hid hG
  clear hE hG
  obtain ⟨⟨Rq, Rf, Re⟩, hR⟩ : ∃ R, findS s p = R := ⟨_, rfl⟩
  rw [hR] at hF hft hW
  simp only at hF hft hW ⊢
  have HW := Lib.hid hW
  clear hW hR
  obtain ⟨ft, fm, fd⟩ := Rf
  unfold vF at hF
  simp only at hF hft
  go_enter Tryd.func23, Tryd.ntmps23
  go_wp2_with fail
  refine hF.mono ?_
  rintro e w1 ⟨rfl, HM1⟩
  clear hF
  have HM2 := Lib.hid (HM1.fbox ⟨ft, fm, fd⟩)
  have a0 := FBlk.g0 (HM2.out.at_ 0 rfl)
  have a1 := FBlk.g1 (HM2.out.at_ 0 rfl)
  have a2 := FBlk.g2 (HM2.out.at_ 0 rfl)
  have hC := Pure.chunk HM2.out.mu h
  simp only at a0 a1 a2 hC
  cases fd with
  | true =>
    have hPu := put_calls hC hgood.out hck Rq ⟨ft, fm, true⟩ hft
    unfold vF at hPu
    simp only at hPu
    go_wp2_with fail
    refine hPu.mono ?_
    rintro e w2 ⟨rfl, HM3⟩
    have HM4 := Mem.call1 (StoreC.keep h HM2.out.mu) HM3
    clear hPu HM3
    go_wp2_with fail
    go_ret
    have h1 := HW.out
    first | rw [if_pos trivial] at h1 | rw [if_pos rfl] at h1
    cases h1
    exact ⟨rfl, nv, HM4⟩
  | false =>
    have hWr := write_calls hC hgood.out hck p ft hp (by omega)
    have h1 := HW.out
    rw [if_neg (by decide)] at h1
    rw [h1] at hWr
    simp only at hWr
    clear h1 HW
    go_wp2_with fail
    refine hWr.mono ?_
    rintro e w2 ⟨rfl, nv', HM3⟩
    have HM4 := Mem.call1 (StoreC.keep h HM2.out.mu) HM3
    clear hWr HM3
    go_wp2_with fail
    go_ret
    exact ⟨rfl, nv', HM4⟩

theorem Mem.nilN {fp : Nat → Prop} {w0 W : World} {F : List Chunk} (h : Mem fp w0 F W) : Mem fp w0 (NRow (.slice none 0 0) [] :: F) W :=
  Mem.new h (Mut.refl _ _) (by exact World.ownsRow_nil _ _ _ _) (by intro b hb; cases hb)
theorem notes_calls (h : (StoreC sb mb nv s).ok w) (b : Bool) :
    Calls Tryd.prog 17 #[ptr sb, .bool b] w fun e w' => e = .returned nv ∧ Mem (StoreC sb mb nv s).fp w [StoreC sb mb (.slice none 0 0) (notesS s b).1, NRow nv s.notes] w' := by
  have hO := ok_calls h
  obtain ⟨A, c, rfl, h1, h2⟩ := Row.any_ (StoreC.row h)
  unfold maxLen at h2
  have HM := StoreC.mem h
  have c4 := StoreC.c4 h
  have c5 := StoreC.c5 h
  have z5 := Blk.frozen (StoreC.blk h) 5
  have z4 := Blk.frozen (StoreC.blk h) 4
  clear h
  go_enter Tryd.func17, Tryd.ntmps17
  go_wp2_with fail
  refine hO.mono ?_
  rintro e w1 ⟨rfl, rfl⟩
  clear hO
  go_wp2_with fail
  have HM2 := Mem.nilN ((HM.blkSet 5 (.slice none 0 0)).blkSet 4 (.bool b))
  simp only [List.setIfInBounds_toArray, List.set_cons_zero, List.set_cons_succ] at HM2
  go_ret
  refine ⟨rfl, ?_⟩
  exact Mem.shut_ (F := [NRow (.slice A s.notes.length c) s.notes]) (cs := StoreF sb mb (.slice none 0 0) (notesS s b).1) (HM2.sel [1, 2, 0, 3] (by decide))
end
theorem new_calls (room : Int) (w : World) (h0 : 0 ≤ room) (h1 : room ≤ 1048576) :
    Calls Tryd.prog 38 #[.int .i64 room] w fun e w' => ∃ sb mb, e = .returned (.tuple #[ptr sb, .int .i64 0]) ∧ Mem none_ w [StoreC sb mb (.slice none 0 0) (newS room)] w' := by
  have d0 : decide (room < 0) = false := decide_eq_false (by omega)
  have d1 : decide (1048576 < room) = false := decide_eq_false (by omega)
  have hmm := @run_makeMap Tryd.prog
  have HM0 := MapC.made (Mem.start (fp := none_) w) kL vF
  go_enter Tryd.func38, Tryd.ntmps38
  go_wp2_with (first | (refine wpList_put (keyL Tryd.underlying9) Tryd.underlying92 rfl _ _ _ (.inr rfl) HM0 rfl rootS rfl ⟨[], 0, true⟩ rfl ?_; intro w2 HM2 HU2; have HM2' := Lib.hid HM2; clear HM2 HU2))
  have HM3 := Mem.nilN (HM2'.out.box #[.int .i64 room, .int .i64 0, .int .i64 0, .map (some w.heap.size), .bool false, .slice none 0 0] 94)
  refine bodyPost_ret (v := .tuple #[ptr w2.heap.size, .int .i64 0]) (by simp [results, Tryd.results38, go_sem]) rfl ⟨w2.heap.size, w.heap.size, rfl, ?_⟩
  exact Mem.shut_ (F := []) (cs := StoreF w2.heap.size w.heap.size (.slice none 0 0) (newS room)) (HM3.sel [1, 2, 0] (by decide))
end Go.Proofs.YtnpehlkdfbmnkaaDoor
