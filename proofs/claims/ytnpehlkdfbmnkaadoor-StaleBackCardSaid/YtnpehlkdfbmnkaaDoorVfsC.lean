/-
  The store's calls: home.
-/
import Derived.Test.YtnpehlkdfbmnkaaDoorVfsB
import Derived.Test.YtnpehlkdfbmnkaaDoorForkP
set_option linter.unusedVariables false
set_option linter.unusedSimpArgs false
set_option maxRecDepth 20000
namespace Go.Proofs.YtnpehlkdfbmnkaaDoor
open Go.RowKit

section
variable {sb mb : Nat} {nv : Value} {s : St} {w : World}
set_option maxHeartbeats 4000000 in
theorem home_calls (h : (StoreC sb mb nv s).ok w) (q : List UInt8) (hp : q.length ≤ 140737488351232) :
    Calls Tryd.prog 46 #[ptr sb, .string (ofL q)] w fun e w' => e = .returned (.int .i64 (homeS s q)) ∧ Mem none_ w [] w' := by
  have hD := fun wx => pdir_calls q wx hp
  obtain ⟨R, hR⟩ : ∃ R, homeS s q = R := ⟨_, rfl⟩
  rw [hR]
  obtain ⟨f, hf⟩ : ∃ f, (mget s.files (dirL q)).getD VF.zero = f := ⟨_, rfl⟩
  obtain ⟨ok, hok⟩ : ∃ ok, mhas s.files (dirL q) = ok := ⟨_, rfl⟩
  have hr : (if true = true then Value.tuple #[((mget s.files (dirL q)).map vF).getD (vF VF.zero), .bool (mhas s.files (dirL q))] else ((mget s.files (dirL q)).map vF).getD (vF VF.zero)) = .tuple #[.agg #[.string (ofL f.text), .int .i64 f.time, .bool f.dir], .bool ok] := by
    rw [if_pos rfl, hok, ← hf]
    cases mget s.files (dirL q) <;> rfl
  have HR : Hid (R = if ok = false then 6 else if f.dir = false then 8 else 0) := by
    unfold Hid
    rw [← hR, ← hok, ← hf]
    unfold homeS mhas
    cases mget s.files (dirL q) with
    | none => rfl
    | some f => cases hd : f.dir <;> simp [hd]
  clear hR hf hok
  have K := keyL (P := Tryd.prog) Tryd.underlying9
  have HM0 := (Mem.start (fp := none_) w).drew
  have h0 : (StoreC sb mb nv s).ok w.drew := Pure.chunk HM0.mu h
  clear h
  go_enter Tryd.func46, Tryd.ntmps46
  go_wp2_with fail
  refine lf_start (fun w' => Hid (w'.cell? ⟨sb, 3, none⟩ = some (.map (some mb)) ∧ (MapC mb kL vF s.files).ok w')) [11] 13 (by kernel_rfl) rfl (by kernel_rfl) ⟨StoreC.c3 h0, StoreC.map_ h0⟩ ?_
  generalize World.drew w = W at *
  have hS0 : Hid (W.cell? ⟨sb, 3, none⟩ = some (.map (some mb)) ∧ (MapC mb kL vF s.files).ok W) := ⟨StoreC.c3 h0, StoreC.map_ h0⟩
  have hSa : Hid ((W.alloc (.cells #[.string ⟨#[]⟩, .int .i64 0, .bool false] 98)).cell? ⟨sb, 3, none⟩ = some (.map (some mb)) ∧ (MapC mb kL vF s.files).ok (W.alloc (.cells #[.string ⟨#[]⟩, .int .i64 0, .bool false] 98))) :=
    ⟨StoreC.c3 (Pure.chunk ((Mut.refl _ _).alloc _) h0), StoreC.map_ (Pure.chunk ((Mut.refl _ _).alloc _) h0)⟩
  refine lf_pre [(.pure, 0), (.pure, 1), (.pure, 2), (.load, 3), (.pure, 4)] [4, 3, 2, 1, 0] 8 rfl (by kernel_rfl) (fun _ _ _ _ _ h => h) hS0 ?_
  repeat (first | (refine pre_pure (v := ?_) (a' := ?_) rfl rfl rfl ?_ ?_ ?_; rotate_left 2; (focus (intro w'; go_simp; with_reducible rfl)); (focus (simp only [Act.put, List.setIfInBounds_toArray, List.set_cons_zero, List.set_cons_succ]; rfl))) | (refine pre_load (v := ?_) (a' := ?_) rfl rfl rfl ?_ ?_ ?_; rotate_left 2; (focus (intro w' hw'; obtain ⟨q0, q1⟩ := hw'.out; clear hw'; go_simp; with_reducible rfl)); (focus (simp only [Act.put, List.setIfInBounds_toArray, List.set_cons_zero, List.set_cons_succ]; rfl))) | (refine pre_skip rfl rfl (by decide +kernel) (by simp only [Act.put, List.setIfInBounds_toArray, List.set_cons_zero, List.set_cons_succ]; rfl) ?_))
  refine pre_done ?_
  refine lf_name (fun A0 hA0 => ?_)
  have hlk : ∀ w', (MapC mb kL vF s.files).ok w' → (Instr.lookup 92 (.map (some mb)) (.string (ofL (dirL q))) true).run Tryd.prog w' = .ok (.tuple #[.agg #[.string (ofL f.text), .int .i64 f.time, .bool f.dir], .bool ok]) w' := fun w' hw' => by
    exact (MapC.lookup K Tryd.underlying92 (zeroF w') hw' (dirL q) true).trans (congrArg (fun v => Result.ok v w') hr)
  clear hr
  refine lf_via (α := Unit) (k' := 2) (done' := [9, 8, 7, 6, 10, 5, 4, 3, 2, 1, 0]) (fun _ W' => W' = W.alloc (.cells #[.string ⟨#[]⟩, .int .i64 0, .bool false] 98))
    (fun _ => (((((A0.put (some 13) (.string (ofL (dirL q)))).put (some 14) (.tuple #[.agg #[.string (ofL f.text), .int .i64 f.time, .bool f.dir], .bool ok])).put (some 7) (.tuple #[.agg #[.string (ofL f.text), .int .i64 f.time, .bool f.dir], .bool ok])).put (some 15) (.agg #[.string (ofL f.text), .int .i64 f.time, .bool f.dir])).put (some 16) (.bool ok)).put (some 5) (.pointer (some ⟨W.heap.size, 0, none⟩))) (fun H => ?_) (fun x W' hW' => ?_)
  · have hA2 := hA0.out
    subst hA2
    have H2 := H () _ rfl
    simp only [Act.put, List.setIfInBounds_toArray, List.set_cons_zero, List.set_cons_succ] at H2
    have H' := Lib.hid H2
    clear H H2
    refine lf_two 5 10 (by kernel_rfl) rfl rfl (fun K' hK => ?_) (fun K' hK => ?_)
    · have hDw := hD W
      go_wp2_with fail
      refine hDw.mono ?_
      rintro e w2 ⟨rfl, rfl⟩
      go_wp2_with fail
      refine hK _ _ (fun _ h => h) ?_
      clear hK hDw
      refine lf_pre [(.load, 6), (.pure, 7), (.pure, 8), (.pure, 9)] [9, 8, 7, 6, 5, 4, 3, 2, 1, 0] 3 rfl (by kernel_rfl) (fun _ _ _ _ _ h => h) hS0 ?_
      refine pre_load (v := .tuple #[.agg #[.string (ofL f.text), .int .i64 f.time, .bool f.dir], .bool ok]) (a' := ?_) rfl rfl rfl ?_ ?_ ?_; rotate_left 1
      · intro w' hw'
        have hl := hlk w' hw'.out.2
        go_simp
      · simp only [Act.put, List.setIfInBounds_toArray, List.set_cons_zero, List.set_cons_succ]; rfl
      repeat (first | (refine pre_pure (v := ?_) (a' := ?_) rfl rfl rfl ?_ ?_ ?_; rotate_left 2; (focus (intro w'; go_simp; with_reducible rfl)); (focus (simp only [Act.put, List.setIfInBounds_toArray, List.set_cons_zero, List.set_cons_succ]; rfl))) | (refine pre_load (v := ?_) (a' := ?_) rfl rfl rfl ?_ ?_ ?_; rotate_left 2; (focus (intro w' hw'; obtain ⟨q0, q1⟩ := hw'.out; clear hw'; go_simp; with_reducible rfl)); (focus (simp only [Act.put, List.setIfInBounds_toArray, List.set_cons_zero, List.set_cons_succ]; rfl))) | (refine pre_skip rfl rfl (by decide +kernel) (by simp only [Act.put, List.setIfInBounds_toArray, List.set_cons_zero, List.set_cons_succ]; rfl) ?_))
      refine pre_done ?_
      refine lf_one 10 (by kernel_rfl) rfl (fun K' hK => ?_)
      go_wp2_with fail
      refine hK _ _ (fun _ _ => hSa) ?_
      refine lf_same (done' := [9, 8, 7, 6, 10, 5, 4, 3, 2, 1, 0]) (by kernel_rfl) ?_
      exact H'.out
    · go_wp2_with fail
      refine hK _ _ (fun _ _ => hSa) ?_
      clear hK
      refine lf_one 5 (by kernel_rfl) rfl (fun K' hK => ?_)
      have hDw := hD (W.alloc (.cells #[.string ⟨#[]⟩, .int .i64 0, .bool false] 98))
      have h1 := Lib.hid hSa
      generalize W.alloc _ = W2 at *
      go_wp2_with fail
      refine hDw.mono ?_
      rintro e w2 ⟨rfl, rfl⟩
      go_wp2_with fail
      refine hK _ _ (fun _ h => h) ?_
      clear hK hDw
      refine lf_pre [(.load, 6), (.pure, 7), (.pure, 8), (.pure, 9)] [9, 8, 7, 6, 5, 10, 4, 3, 2, 1, 0] 2 rfl (by kernel_rfl) (fun _ _ _ _ _ h => h) hSa ?_
      refine pre_load (v := .tuple #[.agg #[.string (ofL f.text), .int .i64 f.time, .bool f.dir], .bool ok]) (a' := ?_) rfl rfl rfl ?_ ?_ ?_; rotate_left 1
      · intro w' hw'
        have hl := hlk w' hw'.out.2
        go_simp
      · simp only [Act.put, List.setIfInBounds_toArray, List.set_cons_zero, List.set_cons_succ]; rfl
      repeat (first | (refine pre_pure (v := ?_) (a' := ?_) rfl rfl rfl ?_ ?_ ?_; rotate_left 2; (focus (intro w'; go_simp; with_reducible rfl)); (focus (simp only [Act.put, List.setIfInBounds_toArray, List.set_cons_zero, List.set_cons_succ]; rfl))) | (refine pre_load (v := ?_) (a' := ?_) rfl rfl rfl ?_ ?_ ?_; rotate_left 2; (focus (intro w' hw'; obtain ⟨q0, q1⟩ := hw'.out; clear hw'; go_simp; with_reducible rfl)); (focus (simp only [Act.put, List.setIfInBounds_toArray, List.set_cons_zero, List.set_cons_succ]; rfl))) | (refine pre_skip rfl rfl (by decide +kernel) (by simp only [Act.put, List.setIfInBounds_toArray, List.set_cons_zero, List.set_cons_succ]; rfl) ?_))
      refine pre_done ?_
      refine lf_same (done' := [9, 8, 7, 6, 10, 5, 4, 3, 2, 1, 0]) (by kernel_rfl) ?_
      exact H'.out
  · have hA2 := hA0.out
    subst hA2
    subst hW'
    simp only [Act.put, List.setIfInBounds_toArray, List.set_cons_zero, List.set_cons_succ]
    have HM1 := HM0.fbox f
    have HM1' := Lib.hid HM1
    clear HM1
    refine lf_one 11 (by kernel_rfl) rfl (fun K' hK => ?_)
    go_wp2_with fail
    refine hK _ _ (fun h => by cases h) ?_
    clear hK
    have HM2 := HM1'.out
    clear HM1' hSa hS0 hlk hD HM0 h0
    have a2 := FBlk.g2 (HM2.at_ 0 rfl)
    generalize W.heap.size = nb at *
    generalize W.alloc _ = W2 at *
    have HM3 := HM2.sel [] (by decide)
    clear HM2
    refine lf_one 12 (by kernel_rfl) rfl (fun K' hK => ?_)
    go_wp2_with fail
    refine hK _ _ (fun _ h => h) ?_
    clear hK
    refine lf_end (by kernel_rfl) ?_
    cases ok with
    | false =>
      have HE : Hid (R = 6) := by unfold Hid; rw [HR.out]; rfl
      clear HR
      go_wp2_with fail
      go_ret
      exact ⟨by rw [HE.out]; rfl, HM3⟩
    | true =>
      obtain ⟨d, hd⟩ : ∃ d, f.dir = d := ⟨_, rfl⟩
      rw [hd] at a2 HR
      cases d with
      | false =>
        have HE : Hid (R = 8) := by unfold Hid; rw [HR.out]; rfl
        clear HR
        go_wp2_with fail
        go_ret
        exact ⟨by rw [HE.out]; rfl, HM3⟩
      | true =>
        have HE : Hid (R = 0) := by unfold Hid; rw [HR.out]; rfl
        clear HR
        go_wp2_with fail
        go_ret
        exact ⟨by rw [HE.out]; rfl, HM3⟩
end
end Go.Proofs.YtnpehlkdfbmnkaaDoor
