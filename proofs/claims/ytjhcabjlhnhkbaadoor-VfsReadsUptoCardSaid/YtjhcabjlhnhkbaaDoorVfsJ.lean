/-
  The store's calls: drop, Remove, Mkdir.
-/
import Derived.Test.YtjhcabjlhnhkbaaDoorVfsI
set_option linter.unusedVariables false
set_option linter.unusedSimpArgs false
set_option maxRecDepth 20000
namespace Go.Proofs.YtjhcabjlhnhkbaaDoor
open Go.RowKit

section
variable {sb mb : Nat} {nv : Value} {s : St} {w : World}
set_option maxHeartbeats 4000000 in
theorem drop_calls (h : (StoreC sb mb nv s).ok w) (hG : GoodS s) (q : List UInt8) :
    Calls Tryd.prog 40 #[ptr sb, .string (ofL q)] w fun e w' => e = .returned (.tuple #[]) ∧ Mem (StoreC sb mb nv s).fp w [StoreC sb mb nv (dropS s q)] w' := by
  have g1 := hG.used
  have g2 := hG.fits
  have g3 := hG.room1
  have K := keyL (P := Tryd.prog) Tryd.underlying9
  have ht : (txtS s q).length ≤ 1048576 := by
    unfold txtS
    cases hm : mget s.files q with
    | none => exact Nat.zero_le _
    | some g => have := sum_ge hm; rw [Option.getD_some]; omega
  have hlr : (if false = true then Value.tuple #[((mget s.files q).map vF).getD (vF VF.zero), .bool (mhas s.files q)] else ((mget s.files q).map vF).getD (vF VF.zero)) = .agg #[.string (ofL (txtS s q)), .int .i64 ((mget s.files q).getD VF.zero).time, .bool ((mget s.files q).getD VF.zero).dir] := by
    rw [if_neg (by decide)]
    unfold txtS
    cases mget s.files q <;> rfl
  generalize ((mget s.files q).getD VF.zero).time = ot at *
  generalize ((mget s.files q).getD VF.zero).dir = od at *
  have hlk : ∀ w', (MapC mb kL vF s.files).ok w' → (Instr.lookup 51 (.map (some mb)) (.string (ofL q)) false).run Tryd.prog w' = .ok (.agg #[.string (ofL (txtS s q)), .int .i64 ot, .bool od]) w' := fun w' hw' =>
    (MapC.lookup K Tryd.underlying51 (zeroF w') hw' q false).trans (congrArg (fun v => Result.ok v w') hlr)
  clear hlr
  have hP : Hid (dropS s q = { s with used := s.used - ((txtS s q).length : Int), files := mdel s.files q }) := rfl
  obtain ⟨s', hs'⟩ : ∃ s', dropS s q = s' := ⟨_, rfl⟩
  rw [hs'] at hP ⊢
  clear hs'
  obtain ⟨T, hT⟩ : ∃ T, txtS s q = T := ⟨_, rfl⟩
  rw [hT] at hP ht hlk
  clear hT
  have zT := ofL_size T
  have HM0 := (StoreC.mem h).drew
  have c1 := Blk.cell_ (HM0.at_ 0 rfl) 1
  have c3 := Blk.cell_ (HM0.at_ 0 rfl) 3
  have z1 := Blk.frozen (HM0.at_ 0 rfl) 1
  simp only [List.getElem?_toArray, List.getElem?_cons_succ, List.getElem?_cons_zero] at c1 c3
  have hl := hlk _ (HM0.at_ 1 rfl)
  have g5 : 0 ≤ s.used := by omega
  have g6 : s.used ≤ 1048576 := by omega
  have w2 : IntKind.i64.wrap (s.used - (T.length : Int)) = s.used - (T.length : Int) := IntWalk.i64_in _ (by omega)
  clear g1 g2 g3 hG K h
  go_enter Tryd.func40, Tryd.ntmps40
  go_wp2_with fail
  refine wp_plan [15] (S := fun w' => w' = World.drew _) [(.pure, 0), (.pure, 1), (.pure, 2), (.load, 3), (.pure, 4), (.pure, 5), (.pure, 6), (.load, 7), (.pure, 8), (.load, 9), (.pure, 10), (.pure, 11), (.pure, 12), (.pure, 13), (.pure, 14), (.tail, 15)] (by kernel_rfl) rfl (by kernel_rfl) rfl (fun _ _ _ _ _ h => h) rfl ?_
  generalize World.drew _ = W at *
  repeat (first | (refine plan_pure (v := ?_) (a' := ?_) rfl rfl rfl ?_ ?_ ?_; rotate_left 2; (focus (intro w'; go_simp; with_reducible rfl)); (focus (simp only [Act.put, List.setIfInBounds_toArray, List.set_cons_zero, List.set_cons_succ]; rfl))) | (refine plan_load (v := ?_) (a' := ?_) rfl rfl rfl ?_ ?_ ?_; rotate_left 2; (focus (intro w' hw'; rw [hw']; go_simp; with_reducible rfl)); (focus (simp only [Act.put, List.setIfInBounds_toArray, List.set_cons_zero, List.set_cons_succ]; rfl))) | (refine plan_skip rfl rfl (by decide +kernel) (by simp only [Act.put, List.setIfInBounds_toArray, List.set_cons_zero, List.set_cons_succ]; rfl) ?_))
  have hfd := field_text (ofL T) ot od
  repeat (first | (refine plan_pure (v := ?_) (a' := ?_) rfl rfl rfl ?_ ?_ ?_; rotate_left 2; (focus (intro w'; go_simp; with_reducible rfl)); (focus (simp only [Act.put, List.setIfInBounds_toArray, List.set_cons_zero, List.set_cons_succ]; rfl))) | (refine plan_load (v := ?_) (a' := ?_) rfl rfl rfl ?_ ?_ ?_; rotate_left 2; (focus (intro w' hw'; rw [hw']; go_simp; with_reducible rfl)); (focus (simp only [Act.put, List.setIfInBounds_toArray, List.set_cons_zero, List.set_cons_succ]; rfl))) | (refine plan_skip rfl rfl (by decide +kernel) (by simp only [Act.put, List.setIfInBounds_toArray, List.set_cons_zero, List.set_cons_succ]; rfl) ?_))
  refine plan_tail rfl (fun K hK => ?_)
  go_wp2
  refine plan_done ?_
  have HM7 := HM0.blkSet 1 (.int .i64 (s.used - (T.length : Int)))
  clear HM0 c1 z1 hl w2 hfd c3
  generalize World.setCell _ _ _ = W4 at *
  simp only [List.setIfInBounds_toArray, List.set_cons_zero, List.set_cons_succ] at HM7
  have HM8 : Mem (StoreC sb mb nv s).fp w (MapC mb kL vF s.files :: [Blk sb 58 #[.int .i64 s.room, .int .i64 (s.used - (T.length : Int)), .int .i64 s.clock, .map (some mb), .bool s.noting, nv], NRow nv s.notes]) W4 := HM7.sel [1, 0, 2] (by decide)
  have c3 := Blk.cell_ (HM8.at_ 1 rfl) 3
  simp only [List.getElem?_toArray, List.getElem?_cons_succ, List.getElem?_cons_zero] at c3
  clear HM7
  go_wp2_with (at_delete; refine wpList_delM (keyL Tryd.underlying9) Tryd.underlying51 rfl _ _ _ rfl HM8 rfl q rfl ?_; intro w6 HM9 HU)
  go_end0
  refine ⟨rfl, ?_⟩
  have HM10 : Mem (StoreC sb mb nv s).fp w (StoreF sb mb nv s') w6 := by
    rw [hP.out]
    exact HM9.sel [1, 0, 2] (by decide)
  exact Mem.shut_ (F := []) (cs := StoreF sb mb nv s') (by simpa using HM10)
theorem noteS_good2 {s : St} (h : GoodS s) (k : Int) (q : List UInt8) : GoodS (noteS s k q) := noteS_good h k q
set_option maxHeartbeats 8000000 in
theorem remove_calls (h : (StoreC sb mb nv s).ok w) {k : Int} (hO : OkS s k) (hck : s.clock ≤ 4611686018427387904) (p : List UInt8) (hp : p.length ≤ 140000) :
    Calls Tryd.prog 25 #[ptr sb, .string (ofL p)] w fun e w' => e = .returned (.int .i64 (removeS s p).2) ∧ ∃ nv', Mem (StoreC sb mb nv s).fp w [StoreC sb mb nv' (removeS s p).1] w' := by
  have hF := find_calls h p (by omega)
  have hG := Lib.hid hO
  have hc0 := hO.good.clock
  have hql : (findS s p).1.length ≤ 150000 := by
    by_cases h1 : (findS s p).2.2 = 1
    · unfold findS at h1 ⊢
      cases hw : whereL p with
      | none => exact Nat.zero_le _
      | some q => rw [hw] at h1; simp only at h1; cases hm : mget s.files q <;> rw [hm] at h1 <;> simp at h1
    · have hw := find_where h1
      unfold whereL at hw
      split at hw
      · have := clean_len (47 :: p)
        rw [List.length_cons] at this
        have e := Option.some.inj hw
        rw [← e]
        omega
      · cases hw
  have hL := fun wx (hx : (StoreC sb mb nv s).ok wx) => list_calls hx hO.good (findS s p).1 hql
  have hN := fun wx (hx : (StoreC sb mb nv s).ok wx) => note_calls hx hO.good 3 (findS s p).1
  have hD1 := fun nv' wx (hx : (StoreC sb mb nv' s).ok wx) => drop_calls hx hO.good (findS s p).1
  have hD2 := fun nv' wx (hx : (StoreC sb mb nv' (noteS s 3 (findS s p).1)).ok wx) => drop_calls hx (noteS_good hO.good 3 (findS s p).1) (findS s p).1
  obtain ⟨⟨s', e'⟩, hW⟩ : ∃ R, removeS s p = R := ⟨_, rfl⟩
  rw [hW]
  unfold removeS at hW
  clear hO hql
  generalize findS s p = F at *
  obtain ⟨Fq, Ff, Fe⟩ := F
  obtain ⟨ft, fm, fd⟩ := Ff
  simp only at hF hW hL hN hD1 hD2 ⊢
  have HW := Lib.hid hW
  clear hW
  unfold vF at hF
  simp only at hF
  go_enter Tryd.func25, Tryd.ntmps25
  go_wp2_with fail
  refine hF.mono ?_
  rintro e w1 ⟨rfl, HM1⟩
  clear hF
  have HM2 := Lib.hid (HM1.fbox ⟨ft, fm, fd⟩)
  have a2 := FBlk.g2 (HM2.out.at_ 0 rfl)
  have hC := Pure.chunk HM2.out.mu h
  simp only at a2 hC
  have HA : Mem (StoreC sb mb nv s).fp w [StoreC sb mb nv s] _ := ((Mem.from h).got HM2.out).sel [1] (by decide)
  clear HM1
  by_cases he : Fe = 0
  · have qe : ((Fe : Int) != 0) = false := by rw [bne_eq_false_iff_eq]; omega
    cases fd with
    | true =>
      have hL1 := hL _ hC
      have HW1 : Hid ((if Fq = rootS ∨ 0 < (listS s Fq).1.length then (s, 9) else (tickS (dropS s Fq), 0)) = (s', e')) := by
        have h1 := HW.out
        rw [if_neg (by omega)] at h1
        first | rw [if_pos trivial] at h1 | rw [if_pos rfl] at h1
        exact h1
      clear HW hL hN hD2 HM2
      generalize (listS s Fq).2 = le at *
      generalize (listS s Fq).1 = L at *
      go_wp2_with fail
      refine hL1.mono ?_
      rintro e w2 ⟨v, rfl, HM3⟩
      have HM4 := HA.got HM3
      simp only [List.cons_append, List.nil_append] at HM4
      clear hL1 HA HM3 a2
      obtain ⟨A, c, rfl, _, _⟩ := Row.any_ (HM4.at_ 0 rfl)
      by_cases hb : Fq = rootS ∨ 0 < L.length
      · have qb : (decide (Fq = rootS) || decide (0 < L.length)) = true := by
          rcases hb with hb | hb
          · rw [decide_eq_true hb]; rfl
          · rw [decide_eq_true hb, Bool.or_true]
        have h1 := HW1.out
        rw [if_pos hb] at h1
        have hs : (s, 9) = (s', e') := h1
        cases hs
        have HM5 := HM4.sel [1] (by decide)
        clear HW1 h1 hD1
        by_cases hk : Fq = rootS
        · have qk : (ofL Fq).toList = [47] := by rw [tl_of]; exact hk
          have HK := Lib.hid hk
          clear hk hb qb
          go_wp2_with fail
          go_ret
          exact ⟨rfl, nv, HM5⟩
        · have qk : ¬ (ofL Fq).toList = [47] := by rw [tl_of]; exact hk
          have qk2 : ((ofL Fq).toList == [47]) = false := by rw [tl_of]; simpa using hk
          have hl : 0 < L.length := hb.resolve_left hk
          have ql : decide ((0 : Int) < (L.length : Int)) = true := decide_eq_true (by omega)
          have ql' : decide (0 < L.length) = true := decide_eq_true hl
          clear hk hb qb
          go_wp2_with fail
          go_ret
          exact ⟨rfl, nv, HM5⟩
      · have hk : ¬ Fq = rootS := fun e => hb (.inl e)
        have qk : ¬ (ofL Fq).toList = [47] := by rw [tl_of]; exact hk
        have qk2 : ((ofL Fq).toList == [47]) = false := by rw [tl_of]; simpa using hk
        have hl : ¬ 0 < L.length := fun e => hb (.inr e)
        have ql : decide ((0 : Int) < (L.length : Int)) = false := decide_eq_false (by omega)
        have ql' : decide (0 < L.length) = false := decide_eq_false hl
        have HW2 : Hid ((tickS (dropS s Fq), 0) = (s', e')) := by
          have h1 := HW1.out
          rw [if_neg hb] at h1
          exact h1
        have HM5 : Mem (StoreC sb mb nv s).fp w [StoreC sb mb nv s] w2 := HM4.sel [1] (by decide)
        have hD := hD1 nv w2 (HM5.at_ 0 rfl)
        clear HW1 hD1 HM4 hk hl hb
        go_wp2_with fail
        refine hD.mono ?_
        rintro e w3 ⟨rfl, HM6⟩
        have HM7 := Mem.call1 HM5 HM6
        simp only [List.append_nil] at HM7
        clear hD HM5 HM6
        have hC7 : (StoreC sb mb nv (dropS s Fq)).ok w3 := HM7.at_ 0 rfl
        have c2 : w3.cell? ⟨sb, 2, none⟩ = some (.int .i64 s.clock) := StoreC.c2 (s := dropS s Fq) hC7
        have hA := add_calls sb 2 s.clock 1 (s.clock + 1) _ c2 (Blk.frozen (StoreC.blk hC7) 2) (IntWalk.i64_in _ (by omega))
        clear c2 hC7
        go_wp2_with fail
        refine hA.mono ?_
        rintro e w4 ⟨rfl, rfl⟩
        have HM8 := HM7.tick (s.clock + 1)
        clear hA HM7
        generalize World.setCell _ _ _ = W4 at *
        go_wp2_with fail
        go_ret
        have h1 := HW2.out
        cases h1
        exact ⟨rfl, nv, HM8⟩
    | false =>
      have HW1 : Hid ((tickS (dropS (noteS s 3 Fq) Fq), 0) = (s', e')) := by
        have h1 := HW.out
        rw [if_neg (by omega), if_neg (by decide)] at h1
        exact h1
      have hN1 := hN _ hC
      clear HW hL hN hD1 HM2
      go_wp2_with fail
      refine hN1.mono ?_
      rintro e w2 ⟨rfl, nv', HM3⟩
      have HM4 := Mem.call1 HA HM3
      simp only [List.append_nil] at HM4
      have hD := hD2 nv' w2 (HM4.at_ 0 rfl)
      clear hN1 HM3 HA hD2 a2
      go_wp2_with fail
      refine hD.mono ?_
      rintro e w3 ⟨rfl, HM6⟩
      have HM7 := Mem.call1 HM4 HM6
      simp only [List.append_nil] at HM7
      clear hD HM4 HM6
      have hcl : (dropS (noteS s 3 Fq) Fq).clock = s.clock := (noteS_clock s 3 Fq).1
      have c2 := StoreC.c2 (HM7.at_ 0 rfl)
      rw [hcl] at c2
      have hA := add_calls sb 2 s.clock 1 (s.clock + 1) _ c2 (Blk.frozen (StoreC.blk (HM7.at_ 0 rfl)) 2) (IntWalk.i64_in _ (by omega))
      go_wp2_with fail
      refine hA.mono ?_
      rintro e w4 ⟨rfl, rfl⟩
      have HM8 := HM7.tick (s.clock + 1)
      have HW2 : Hid (({ dropS (noteS s 3 Fq) Fq with clock := s.clock + 1 }, 0) = (s', e')) := by
        unfold Hid
        rw [← HW1.out]
        unfold tickS
        rw [hcl]
      clear hA HM7 HW1 c2
      generalize World.setCell _ _ _ = W4 at *
      go_wp2_with fail
      go_ret
      have h1 := HW2.out
      cases h1
      exact ⟨rfl, nv', HM8⟩
  · have qe : ((Fe : Int) != 0) = true := by rw [bne_iff_ne]; omega
    go_wp2_with fail
    go_ret
    have h1 := HW.out
    rw [if_pos he] at h1
    cases h1
    exact ⟨rfl, nv, HA⟩
set_option maxHeartbeats 8000000 in
theorem mkdir_calls (h : (StoreC sb mb nv s).ok w) (hG : GoodS s) (hck : s.clock ≤ 4611686018427387904) (p : List UInt8) (hp : p.length ≤ 150000) :
    Calls Tryd.prog 27 #[ptr sb, .string (ofL p)] w fun e w' => e = .returned (.int .i64 (mkdirS s p).2) ∧ ∃ nv', Mem (StoreC sb mb nv s).fp w [StoreC sb mb nv' (mkdirS s p).1] w' := by
  have hF := find_calls h p (by omega)
  have hQl : whereL p = some (findS s p).1 → (findS s p).1.length ≤ 1100003 := fun e => whereL_len e (by omega)
  have hE := find_e s p
  have hQ : (findS s p).2.2 ≠ 1 → (findS s p).1.length ≤ 1100003 := fun e => hQl (find_where e)
  have hgl := hG.len
  have hgood := Lib.hid hG
  obtain ⟨⟨s', e'⟩, hW⟩ : ∃ R, mkdirS s p = R := ⟨_, rfl⟩
  rw [hW]
  unfold mkdirS at hW
  clear hQl hG
  generalize findS s p = F at *
  obtain ⟨Fq, Ff, Fe⟩ := F
  obtain ⟨ft, fm, fd⟩ := Ff
  simp only at hF hW hE hQ ⊢
  have HW := Lib.hid hW
  clear hW
  unfold vF at hF
  simp only at hF
  go_enter Tryd.func27, Tryd.ntmps27
  go_wp2_with fail
  refine hF.mono ?_
  rintro e w1 ⟨rfl, HM1⟩
  clear hF
  have HM2 := Lib.hid (HM1.fbox ⟨ft, fm, fd⟩)
  have a0 := FBlk.g0 (HM2.out.at_ 0 rfl)
  have hC := Pure.chunk HM2.out.mu h
  simp only at hC
  have HA : Mem (StoreC sb mb nv s).fp w [StoreC sb mb nv s] _ := ((Mem.from h).got HM2.out).sel [1] (by decide)
  clear HM1 a0 HM2
  rcases hE with he | he | he
  · subst he
    go_wp2_with fail
    go_ret
    have h1 := HW.out
    first | rw [if_pos trivial] at h1 | rw [if_pos rfl] at h1
    cases h1
    exact ⟨rfl, nv, HA⟩
  · subst he
    go_wp2_with fail
    go_ret
    have h1 := HW.out
    rw [if_neg (by decide), if_pos (by decide)] at h1
    cases h1
    exact ⟨rfl, nv, HA⟩
  · subst he
    have hQ' := hQ (by decide)
    have HW1 : Hid ((if homeS s Fq ≠ 0 then (s, homeS s Fq) else if 512 ≤ s.files.length then (s, 9) else (putS s Fq ⟨[], 0, true⟩, 0)) = (s', e')) := by
      have h1 := HW.out
      rw [if_neg (by decide), if_neg (by decide)] at h1
      exact h1
    have hH := fun wx (hx : (StoreC sb mb nv s).ok wx) => home_calls hx Fq (by omega)
    have hP := fun wx (hx : (StoreC sb mb nv s).ok wx) => put_calls hx hgood.out hck Fq ⟨[], 0, true⟩ (Nat.zero_le _)
    unfold vF at hP
    simp only at hP
    clear HW hQ
    have hH1 := hH _ hC
    go_wp2_with fail
    refine hH1.mono ?_
    rintro e w2 ⟨rfl, HM4⟩
    have HM5 := HA.got HM4
    simp only [List.nil_append] at HM5
    clear hH1 hH HA HM4
    by_cases hh : homeS s Fq = 0
    · rw [hh] at HW1 ⊢
      have hC5 := HM5.at_ 0 rfl
      have c3 := StoreC.c3 hC5
      have hmp := StoreC.map_ hC5
      have hP1 := hP _ hC5
      clear hP hh
      by_cases hln : 512 ≤ s.files.length
      · have dl : decide (512 ≤ (s.files.length : Int)) = true := decide_eq_true (by omega)
        go_wp2_with (at_len; refine wpList_lenM Tryd.underlying51 rfl _ rfl hmp rfl ?_)
        go_ret
        have h1 := HW1.out
        rw [if_neg (by decide), if_pos hln] at h1
        cases h1
        exact ⟨rfl, nv, HM5⟩
      · have dl : decide (512 ≤ (s.files.length : Int)) = false := decide_eq_false (by omega)
        go_wp2_with (at_len; refine wpList_lenM Tryd.underlying51 rfl _ rfl hmp rfl ?_)
        refine hP1.mono ?_
        rintro e w3 ⟨rfl, HM6⟩
        have HM7 := Mem.call1 HM5 HM6
        simp only [List.append_nil] at HM7
        clear hP1 HM5 HM6
        go_wp2_with fail
        go_ret
        have h1 := HW1.out
        rw [if_neg (by decide), if_neg hln] at h1
        cases h1
        exact ⟨rfl, nv, HM7⟩
    · have qe : ((homeS s Fq : Int) != 0) = true := by rw [bne_iff_ne]; omega
      go_wp2_with fail
      go_ret
      have h1 := HW1.out
      rw [if_pos hh] at h1
      cases h1
      exact ⟨rfl, nv, HM5⟩
end
end Go.Proofs.YtjhcabjlhnhkbaaDoor
