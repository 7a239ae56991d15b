/-
  The store's calls: put, note.
-/
import Derived.Test.YtjhcabjlhnhkbaaDoorVfsA
set_option linter.unusedVariables false
set_option linter.unusedSimpArgs false
set_option maxRecDepth 20000
namespace Go.Proofs.YtjhcabjlhnhkbaaDoor
open Go.RowKit

theorem field_text (x : ByteArray) (n : Int) (d : Bool) (w : World) : (Instr.field 50 (.agg #[.string x, .int .i64 n, .bool d]) 0).run Tryd.prog w = .ok (.string x) w := by kernel_rfl
theorem add_calls (b o : Nat) (x d z : Int) (w : World) (hc : w.cell? ⟨b, o, none⟩ = some (.int .i64 x)) (hz : w.frozen? ⟨b, o, none⟩ = false) (hs : IntKind.i64.wrap (x + d) = z) :
    Calls Tryd.prog 41 #[.pointer (some ⟨b, o, none⟩), .int .i64 d] w fun e w' => e = .returned (.int .i64 z) ∧ w.setCell ⟨b, o, none⟩ (.int .i64 z) = w' := by
  have hd : (callFunc 52 #[.pointer (some ⟨b, o, none⟩), .int .i64 d]).run Tryd.prog w = .ok (.value (.int .i64 z)) (w.setCell ⟨b, o, none⟩ (.int .i64 z)) :=
    run_call_add Tryd.func52 (by kernel_rfl) (by kernel_rfl) (by kernel_rfl) .i64 (by kernel_rfl) hc hz (by simp [Op.intArith, hs])
  clear hc hz
  go_enter Tryd.func41, Tryd.ntmps41
  go_wp2
  go_ret
  exact ⟨rfl, rfl⟩

section
variable {sb mb : Nat} {nv : Value} {s : St} {w : World}
set_option maxHeartbeats 4000000 in
theorem put_calls (h : (StoreC sb mb nv s).ok w) (hG : GoodS s) (hck : s.clock ≤ 4611686018427387904) (q : List UInt8) (f : VF) (hf : f.text.length ≤ 65536) :
    Calls Tryd.prog 37 #[ptr sb, .string (ofL q), vF f] w fun e w' => e = .returned (.tuple #[]) ∧ Mem (StoreC sb mb nv s).fp w [StoreC sb mb nv (putS s q f)] w' := by
  have g1 := hG.used
  have g2 := hG.fits
  have g3 := hG.room1
  have g4 := hG.clock
  have K := keyL (P := Tryd.prog) Tryd.underlying9
  have ht : (txtS s q).length ≤ 1048576 := by
    unfold txtS
    cases hm : mget s.files q with
    | none => exact Nat.zero_le _
    | some g => have := sum_ge hm; rw [Option.getD_some]; omega
  have hlr : (if false = true then Value.tuple #[((mget s.files q).map vF).getD (vF VF.zero), .bool (mhas s.files q)] else ((mget s.files q).map vF).getD (vF VF.zero)) = .agg #[.string (ofL (txtS s q)), .int .i64 ((mget s.files q).getD VF.zero).time, .bool ((mget s.files q).getD VF.zero).dir] := by
    rw [if_neg (by decide)]
    unfold txtS
    cases mget s.files q <;> rfl
  generalize ((mget s.files q).getD VF.zero).time = ot at *
  generalize ((mget s.files q).getD VF.zero).dir = od at *
  have hlk : ∀ w', (MapC mb kL vF s.files).ok w' → (Instr.lookup 51 (.map (some mb)) (.string (ofL q)) false).run Tryd.prog w' = .ok (.agg #[.string (ofL (txtS s q)), .int .i64 ot, .bool od]) w' := fun w' hw' =>
    (MapC.lookup K Tryd.underlying51 (zeroF w') hw' q false).trans (congrArg (fun v => Result.ok v w') hlr)
  clear hlr
  have hP : Hid (putS s q f = { s with clock := s.clock + 1, used := s.used + ((f.text.length : Int) - ((txtS s q).length : Int)), files := mput s.files q ⟨f.text, s.clock + 1, f.dir⟩ }) := rfl
  obtain ⟨s', hs'⟩ : ∃ s', putS s q f = s' := ⟨_, rfl⟩
  rw [hs'] at hP ⊢
  clear hs'
  obtain ⟨T, hT⟩ : ∃ T, txtS s q = T := ⟨_, rfl⟩
  rw [hT] at hP ht hlk
  clear hT
  have HM0 := (StoreC.mem h).fbox f
  obtain ⟨ft, fm, fd⟩ := f
  unfold vF
  simp only at hf hP ⊢
  have zt := ofL_size ft
  have zT := ofL_size T
  have HM1 : Mem (StoreC sb mb nv s).fp w (Blk sb 58 #[.int .i64 s.room, .int .i64 s.used, .int .i64 s.clock, .map (some mb), .bool s.noting, nv] :: [FBlk w.heap.size ⟨ft, fm, fd⟩, MapC mb kL vF s.files, NRow nv s.notes]) (w.alloc (.cells #[.string (ofL ft), .int .i64 fm, .bool fd] 50)) := HM0.sel [1, 0, 2, 3] (by decide)
  have c2 := Blk.cell_ HM1.head 2
  have z2 := Blk.frozen HM1.head 2
  simp only [List.getElem?_toArray, List.getElem?_cons_succ, List.getElem?_cons_zero] at c2
  have hA := add_calls sb 2 s.clock 1 (s.clock + 1) _ c2 z2 (IntWalk.i64_in _ (by omega))
  have HM2 := HM1.blkSet 2 (.int .i64 (s.clock + 1))
  clear HM1 HM0 c2 z2 h
  have g5 : 0 ≤ s.used := by omega
  have g6 : s.used ≤ 1048576 := by omega
  clear g1 g2 g3 hG K
  go_enter Tryd.func37, Tryd.ntmps37
  go_wp2_with fail
  refine hA.mono ?_
  rintro e w2 ⟨rfl, rfl⟩
  clear hA
  generalize World.setCell _ _ _ = W2 at *
  simp only [List.setIfInBounds_toArray, List.set_cons_zero, List.set_cons_succ] at HM2
  have HM3 : Mem (StoreC sb mb nv s).fp w (FBlk w.heap.size ⟨ft, fm, fd⟩ :: [Blk sb 58 #[.int .i64 s.room, .int .i64 s.used, .int .i64 (s.clock + 1), .map (some mb), .bool s.noting, nv], MapC mb kL vF s.files, NRow nv s.notes]) W2 := HM2.sel [1, 0, 2, 3] (by decide)
  have a1 := FBlk.g1 (HM3.at_ 0 rfl)
  have b1 := Blk.frozen (HM3.at_ 0 rfl) 1
  have HM4 := HM3.blkSet 1 (.int .i64 (s.clock + 1))
  clear HM2 HM3
  go_wp2_with fail
  clear a1 b1
  generalize World.setCell _ _ _ = W3 at *
  have HM5 : Mem (StoreC sb mb nv s).fp w [FBlk w.heap.size ⟨ft, s.clock + 1, fd⟩, Blk sb 58 #[.int .i64 s.room, .int .i64 s.used, .int .i64 (s.clock + 1), .map (some mb), .bool s.noting, nv], MapC mb kL vF s.files, NRow nv s.notes] W3.drew := HM4.drew
  clear HM4
  have a0 := FBlk.g0 (HM5.at_ 0 rfl)
  have c1 := Blk.cell_ (HM5.at_ 1 rfl) 1
  have c3 := Blk.cell_ (HM5.at_ 1 rfl) 3
  have z1 := Blk.frozen (HM5.at_ 1 rfl) 1
  simp only [List.getElem?_toArray, List.getElem?_cons_succ, List.getElem?_cons_zero] at c1 c3
  have hl := hlk _ (HM5.at_ 2 rfl)
  have w1 : IntKind.i64.wrap ((ft.length : Int) - (T.length : Int)) = (ft.length : Int) - (T.length : Int) := IntWalk.i64_in _ (by omega)
  have w2 : IntKind.i64.wrap (s.used + ((ft.length : Int) - (T.length : Int))) = s.used + ((ft.length : Int) - (T.length : Int)) := IntWalk.i64_in _ (by omega)
  refine wp_plan [19] (S := fun w' => w' = World.drew _) [(.pure, 0), (.pure, 1), (.pure, 2), (.load, 3), (.pure, 4), (.load, 5), (.pure, 6), (.pure, 7), (.pure, 8), (.pure, 9), (.load, 10), (.pure, 11), (.load, 12), (.pure, 13), (.pure, 14), (.pure, 15), (.pure, 16), (.pure, 17), (.pure, 18), (.tail, 19)] (by kernel_rfl) rfl (by kernel_rfl) rfl (fun _ _ _ _ _ h => h) rfl ?_
  generalize World.drew _ = W at *
  repeat (first | (refine plan_pure (v := ?_) (a' := ?_) rfl rfl rfl ?_ ?_ ?_; rotate_left 2; (focus (intro w'; go_simp; with_reducible rfl)); (focus (simp only [Act.put, List.setIfInBounds_toArray, List.set_cons_zero, List.set_cons_succ]; rfl))) | (refine plan_load (v := ?_) (a' := ?_) rfl rfl rfl ?_ ?_ ?_; rotate_left 2; (focus (intro w' hw'; rw [hw']; go_simp; with_reducible rfl)); (focus (simp only [Act.put, List.setIfInBounds_toArray, List.set_cons_zero, List.set_cons_succ]; rfl))) | (refine plan_skip rfl rfl (by decide +kernel) (by simp only [Act.put, List.setIfInBounds_toArray, List.set_cons_zero, List.set_cons_succ]; rfl) ?_))
  have hfd := field_text (ofL T) ot od
  repeat (first | (refine plan_pure (v := ?_) (a' := ?_) rfl rfl rfl ?_ ?_ ?_; rotate_left 2; (focus (intro w'; go_simp; with_reducible rfl)); (focus (simp only [Act.put, List.setIfInBounds_toArray, List.set_cons_zero, List.set_cons_succ]; rfl))) | (refine plan_load (v := ?_) (a' := ?_) rfl rfl rfl ?_ ?_ ?_; rotate_left 2; (focus (intro w' hw'; rw [hw']; go_simp; with_reducible rfl)); (focus (simp only [Act.put, List.setIfInBounds_toArray, List.set_cons_zero, List.set_cons_succ]; rfl))) | (refine plan_skip rfl rfl (by decide +kernel) (by simp only [Act.put, List.setIfInBounds_toArray, List.set_cons_zero, List.set_cons_succ]; rfl) ?_))
  refine plan_tail rfl (fun K hK => ?_)
  go_wp2
  refine plan_done ?_
  have HM6 : Mem (StoreC sb mb nv s).fp w (Blk sb 58 #[.int .i64 s.room, .int .i64 s.used, .int .i64 (s.clock + 1), .map (some mb), .bool s.noting, nv] :: [FBlk w.heap.size ⟨ft, s.clock + 1, fd⟩, MapC mb kL vF s.files, NRow nv s.notes]) W := HM5.sel [1, 0, 2, 3] (by decide)
  have HM7 := HM6.blkSet 1 (.int .i64 (s.used + ((ft.length : Int) - (T.length : Int))))
  clear HM5 HM6 a0 c1 c3 z1 hl w1 w2 hfd
  generalize World.setCell _ _ _ = W4 at *
  simp only [List.setIfInBounds_toArray, List.set_cons_zero, List.set_cons_succ] at HM7
  go_wp2_with fail
  have HM8 : Mem (StoreC sb mb nv s).fp w (MapC mb kL vF s.files :: [FBlk w.heap.size ⟨ft, s.clock + 1, fd⟩, Blk sb 58 #[.int .i64 s.room, .int .i64 (s.used + ((ft.length : Int) - (T.length : Int))), .int .i64 (s.clock + 1), .map (some mb), .bool s.noting, nv], NRow nv s.notes]) W4.drew := HM7.drew.sel [2, 1, 0, 3] (by decide)
  clear HM7
  have a0 := FBlk.g0 (HM8.at_ 1 rfl)
  have a1 := FBlk.g1 (HM8.at_ 1 rfl)
  have a2 := FBlk.g2 (HM8.at_ 1 rfl)
  have c3 := Blk.cell_ (HM8.at_ 2 rfl) 3
  simp only [List.getElem?_toArray, List.getElem?_cons_succ, List.getElem?_cons_zero] at c3
  refine wp_plan [6] (S := fun w' => w' = World.drew _) [(.pure, 0), (.pure, 1), (.pure, 2), (.load, 3), (.pure, 4), (.load, 5), (.tail, 6)] (by kernel_rfl) rfl (by kernel_rfl) rfl (fun _ _ _ _ _ h => h) rfl ?_
  generalize World.drew _ = W5 at *
  repeat (first | (refine plan_pure (v := ?_) (a' := ?_) rfl rfl rfl ?_ ?_ ?_; rotate_left 2; (focus (intro w'; go_simp; with_reducible rfl)); (focus (simp only [Act.put, List.setIfInBounds_toArray, List.set_cons_zero, List.set_cons_succ]; rfl))) | (refine plan_load (v := ?_) (a' := ?_) rfl rfl rfl ?_ ?_ ?_; rotate_left 2; (focus (intro w' hw'; rw [hw']; go_simp; with_reducible rfl)); (focus (simp only [Act.put, List.setIfInBounds_toArray, List.set_cons_zero, List.set_cons_succ]; rfl))) | (refine plan_skip rfl rfl (by decide +kernel) (by simp only [Act.put, List.setIfInBounds_toArray, List.set_cons_zero, List.set_cons_succ]; rfl) ?_))
  refine plan_tail rfl (fun K hK => ?_)
  refine wpList_put (keyL Tryd.underlying9) Tryd.underlying51 rfl _ _ _ (.inl rfl) HM8 rfl q rfl ⟨ft, s.clock + 1, fd⟩ rfl ?_
  intro w6 HM9 HU
  clear HU a0 a1 a2 c3 HM8
  go_wp2_with fail
  refine plan_done ?_
  go_wp2_with fail
  have HM10 : Mem (StoreC sb mb nv s).fp w (StoreF sb mb nv s') w6 := by
    rw [hP.out]
    exact HM9.sel [2, 0, 3] (by decide)
  go_end0
  refine ⟨rfl, ?_⟩
  have := Mem.shut_ (F := []) (cs := StoreF sb mb nv s') (by simpa using HM10)
  exact this

theorem touE : Elem Tryd.prog 46 89 2 24 := Elem.of (z := .agg #[.int .i64 0, .string ⟨#[]⟩]) Tryd.underlying46 (by kernel_rfl) rfl (by decide) (by decide)
theorem tch_app (l : List (Int × List UInt8)) (k : Int) (q : List UInt8) : tch (l ++ [(k, q)]) = tch l ++ [.int .i64 k, .string (ofL q)] := by simp [tch]
set_option maxHeartbeats 2000000 in
theorem note_calls (h : (StoreC sb mb nv s).ok w) (hG : GoodS s) (k : Int) (q : List UInt8) :
    Calls Tryd.prog 38 #[ptr sb, .int .i64 k, .string (ofL q)] w fun e w' => e = .returned (.tuple #[]) ∧ ∃ nv', Mem (StoreC sb mb nv s).fp w [StoreC sb mb nv' (noteS s k q)] w' := by
  have g1 := hG.notes
  obtain ⟨A, c, rfl, h1, h2⟩ := Row.any_ (StoreC.row h)
  unfold maxLen at h2
  have HM := StoreC.mem h
  have c4 := StoreC.c4 h
  have c5 := StoreC.c5 h
  clear h hG
  go_enter Tryd.func38, Tryd.ntmps38
  cases hn : s.noting with
  | false =>
    have hP : Hid (noteS s k q = s) := by unfold Hid noteS; rw [if_neg]; rintro ⟨e, _⟩; rw [hn] at e; cases e
    rw [hn] at c4
    go_wp2_with fail
    go_end0
    refine ⟨rfl, .slice A s.notes.length c, ?_⟩
    rw [hP.out]
    exact Mem.shut_ (F := []) (cs := StoreF sb mb _ s) (by simpa using HM)
  | true =>
    rw [hn] at c4
    by_cases hl : s.notes.length < 4096
    · have hP : Hid (noteS s k q = { s with notes := s.notes ++ [(k, q)] }) := by unfold Hid noteS; rw [if_pos ⟨hn, hl⟩]
      have hl' : decide ((s.notes.length : Int) < 4096) = true := decide_eq_true (by omega)
      have HM2 : Mem (StoreC sb mb (.slice A s.notes.length c) s).fp w (NRow (.slice A s.notes.length c) s.notes :: [Blk sb 58 #[.int .i64 s.room, .int .i64 s.used, .int .i64 s.clock, .map (some mb), .bool s.noting, .slice A s.notes.length c], MapC mb kL vF s.files]) w := HM.sel [2, 0, 1] (by decide)
      have hn' := Lib.hid hn
      clear HM hn
      go_wp2_with (at_builtin; refine wpList_app1 touE rfl _ _ rfl HM2 rfl #[.int .i64 k, .string (ofL q)] _ rfl ?hnb rfl ?h1 ?hb ?_; (case hnb => simp); (case h1 => simp [Value.oneCell']); (case hb => omega); intro v' w' HM3 HU3; obtain ⟨A', c', rfl, q1, q2⟩ := Row.any_ (HM3.at_ 0 rfl); have c5' := Blk.cell_ (HM3.at_ 1 rfl) 5; have z5' := Blk.frozen (HM3.at_ 1 rfl) 5; simp only [List.getElem?_toArray, List.getElem?_cons_succ, List.getElem?_cons_zero] at c5'; clear c4 c5)
      have HM4 : Mem (StoreC sb mb (.slice A s.notes.length c) s).fp w (Blk sb 58 #[.int .i64 s.room, .int .i64 s.used, .int .i64 s.clock, .map (some mb), .bool s.noting, .slice A s.notes.length c] :: [MapC mb kL vF s.files, NRow (.slice A' (s.notes.length + 1) c') (s.notes ++ [(k, q)])]) w' := by
        have := HM3.sel [1, 2, 0] (by decide)
        unfold NRow
        rw [tch_app, List.length_append]
        exact this
      have HM5 := HM4.blkSet 5 (.slice A' (s.notes.length + 1) c')
      simp only [List.setIfInBounds_toArray, List.set_cons_zero, List.set_cons_succ] at HM5
      go_end0
      refine ⟨rfl, .slice A' (s.notes.length + 1) c', ?_⟩
      rw [hP.out]
      exact Mem.shut_ (F := []) (cs := StoreF sb mb (.slice A' (s.notes.length + 1) c') { s with notes := s.notes ++ [(k, q)] }) (by rw [List.append_nil]; exact HM5)
    · have hP : Hid (noteS s k q = s) := by unfold Hid noteS; rw [if_neg]; rintro ⟨_, e⟩; exact hl e
      have hl' : decide ((s.notes.length : Int) < 4096) = false := decide_eq_false (by omega)
      go_wp2_with fail
      go_end0
      refine ⟨rfl, .slice A s.notes.length c, ?_⟩
      rw [hP.out]
      exact Mem.shut_ (F := []) (cs := StoreF sb mb _ s) (by simpa using HM)
end
end Go.Proofs.YtjhcabjlhnhkbaaDoor
