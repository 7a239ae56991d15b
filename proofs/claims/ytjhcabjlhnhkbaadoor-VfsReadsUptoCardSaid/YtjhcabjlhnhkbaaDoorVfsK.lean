/-
  The store's calls: Move, Copy.
-/
import Derived.Test.YtjhcabjlhnhkbaaDoorVfsJ
import Derived.Shelf.SlMaps.Clone
set_option linter.unusedVariables false
set_option linter.unusedSimpArgs false
set_option maxRecDepth 20000
namespace Go.Proofs.YtjhcabjlhnhkbaaDoor
open Go.RowKit

section
variable {sb mb : Nat} {nv : Value} {s : St} {w : World}
set_option maxHeartbeats 16000000 in
theorem move_calls (h : (StoreC sb mb nv s).ok w) {k : Int} (hO : OkS s k) (hck : s.clock ≤ 4611686018427387904) (p1 p2 : List UInt8) (hp1 : p1.length ≤ 130000) (hp2 : p2.length ≤ 130000) :
    Calls Tryd.prog 26 #[ptr sb, .string (ofL p1), .string (ofL p2)] w fun e w' => e = .returned (.int .i64 (moveS s p1 p2).2) ∧ ∃ nv', Mem (StoreC sb mb nv s).fp w [StoreC sb mb nv' (moveS s p1 p2).1] w' := by
  have hF := find_calls h p1 (by omega)
  have hG := fun wx (hx : (StoreC sb mb nv s).ok wx) => find_calls hx p2 (by omega)
  have hc0 := hO.good.clock
  have hE1 := find_e s p1
  have hE2 := find_e s p2
  have hq2 : (findS s p2).2.2 ≠ 1 → (findS s p2).1.length ≤ 1100003 := fun e => whereL_len (find_where e) (by omega)
  have hft := (find_text hO p1).1
  have hPO := fun z1 n2 => (move_put_ok hO p1 p2 (by omega) z1 n2).good
  have hPG := (dropS_ok hO (findS s p1).1).good
  have hD := fun wx (hx : (StoreC sb mb nv s).ok wx) => drop_calls hx hO.good (findS s p1).1
  obtain ⟨⟨s', e'⟩, hW⟩ : ∃ R, moveS s p1 p2 = R := ⟨_, rfl⟩
  rw [hW]
  unfold moveS at hW
  clear hO
  generalize findS s p1 = F at *
  generalize findS s p2 = G at *
  obtain ⟨Fq, Ff, Fe⟩ := F
  obtain ⟨ft, fm, fd⟩ := Ff
  obtain ⟨Gq, Gf, Ge⟩ := G
  obtain ⟨gt, gm, gd⟩ := Gf
  simp only at hF hG hW hE1 hE2 hq2 hft hPO hPG hD ⊢
  have HW := Lib.hid hW
  have HPO := Lib.hid hPO
  have HPG := Lib.hid hPG
  clear hW hPO hPG
  unfold vF at hF hG
  simp only at hF hG
  go_enter Tryd.func26, Tryd.ntmps26
  go_wp2_with fail
  refine hF.mono ?_
  rintro e w1 ⟨rfl, HM1⟩
  clear hF
  have HM2 := Lib.hid (HM1.fbox ⟨ft, fm, fd⟩)
  have a2 := FBlk.g2 (HM2.out.at_ 0 rfl)
  have hC := Pure.chunk HM2.out.mu h
  simp only at a2 hC
  clear HM1
  have hG1 := hG _ hC
  clear hG hC
  go_wp2_with fail
  have HM2' := HM2.out
  try simp only at HM2'
  clear HM2 a2
  generalize World.alloc _ _ = W1 at *
  generalize w1.heap.size = b1 at *
  refine hG1.mono ?_
  rintro e w2 ⟨rfl, HM3⟩
  have HM4 := HM2'.got HM3
  simp only [List.nil_append] at HM4
  clear hG1 HM2' HM3
  have HM5 := Lib.hid (HM4.fbox ⟨gt, gm, gd⟩)
  have HM6 := Lib.hid ((HM5.out).lit 24 1 2 [.int .i64 Fe, .int .i64 Ge] rfl (by unfold maxLen; omega))
  go_wp2_with fail
  have HM7 := HM6.out
  clear HM5 HM6 HM4
  have er : (w2.alloc (.cells #[.string (ofL gt), .int .i64 gm, .bool gd] 50)).heap.size = w2.heap.size + 1 := by simp
  simp only [er] at HM7
  clear er
  generalize World.alloc (World.alloc w2 _) _ = W3 at *
  generalize w2.heap.size + 1 = b3 at *
  generalize w2.heap.size = b2 at *
  have hr : ∀ (j : Nat) u, ([.int .i64 Fe, .int .i64 Ge] : List Value)[j]? = some u → W3.cell? ⟨b3, 0 + j, none⟩ = some u := by
    obtain ⟨A', c', e', _, _, _, h4⟩ := Row.sl (HM7.at_ 0 rfl)
    cases e'
    obtain ⟨b', o', e2, hcells⟩ := h4.resolve_left (by omega)
    cases e2
    exact hcells
  have r0 : W3.cell? ⟨b3, 0, none⟩ = some (.int .i64 Fe) := hr 0 _ rfl
  have r1 : W3.cell? ⟨b3, 1, none⟩ = some (.int .i64 Ge) := hr 1 _ rfl
  have HM8 : Mem none_ w [FBlk b2 ⟨gt, gm, gd⟩, FBlk b1 ⟨ft, fm, fd⟩] W3 := HM7.sel [1, 2] (by decide)
  have HMk : Hid (Mem (StoreC sb mb nv s).fp w [StoreC sb mb nv s, FBlk b2 ⟨gt, gm, gd⟩, FBlk b1 ⟨ft, fm, fd⟩] W3) := ((Mem.from h).got HM8).sel [2, 0, 1] (by decide)
  clear hr HM7 HM8
  go_loop [14, 34] (fun v14 v34 => ∃ k : Nat, k ≤ 2 ∧ v34 = .int .i64 k ∧ (1 ≤ k → Fe ≠ 1) ∧ (2 ≤ k → Ge ≠ 1)) (fun _ v => 2 - (intOf v).toNat)
  case atStart => exact ⟨0, by omega, rfl, fun h => by omega, fun h => by omega⟩
  case round =>
    obtain ⟨k, hk, rfl, h1, h2⟩ := hrel
    by_cases hlt : k < 2
    · have hlt' : decide ((k : Int) < 2) = true := decide_eq_true (by omega)
      have hltN : decide (k < 2) = true := decide_eq_true hlt
      obtain ⟨x, x0, hx, hx1, hx2⟩ : ∃ x : Nat, W3.cell? ⟨b3, k, none⟩ = some (.int .i64 x) ∧ (x = 0 ∨ x = 1 ∨ x = 6) ∧ Hid (x = 1 → (s, 1) = (s', e')) ∧ Hid (x ≠ 1 → (1 ≤ k + 1 → Fe ≠ 1) ∧ (2 ≤ k + 1 → Ge ≠ 1)) := by
        rcases (by omega : k = 0 ∨ k = 1) with rfl | rfl
        · refine ⟨Fe, r0, hE1, fun e => ?_, fun e => ⟨fun _ => e, fun h => by omega⟩⟩
          have h1 := HW.out
          rw [if_pos ⟨by omega, by omega⟩, e] at h1
          exact h1
        · refine ⟨Ge, r1, hE2, fun e => ?_, fun e => ⟨fun _ => h1 (by omega), fun _ => e⟩⟩
          have n1 := h1 (by omega)
          have h1 := HW.out
          rw [if_neg (by omega), if_pos ⟨by omega, by omega⟩, e] at h1
          exact h1
      have hx3 := hx2.out
      clear h1 h2 r0 r1 HW hE1 hE2 hx2
      rcases hx with rfl | rfl | rfl
      · have hx4 := hx3 (by decide)
        clear hx3
        go_wp2_with fail
        go_round
        case rel => exact ⟨k + 1, by omega, by go_num, hx4.1, hx4.2⟩
        case measure => simp [intOf]; omega
      · clear hx3
        go_wp2_with fail
        go_ret
        have h1 := hx1.out (by first | rfl | trivial)
        cases h1
        exact ⟨rfl, nv, HMk.out.sel [0] (by decide)⟩
      · have hx4 := hx3 (by decide)
        clear hx3
        go_wp2_with fail
        go_round
        case rel => exact ⟨k + 1, by omega, by go_num, hx4.1, hx4.2⟩
        case measure => simp [intOf]; omega
    · have hlt' : decide ((k : Int) < 2) = false := decide_eq_false (by omega)
      have hltN : decide (k < 2) = false := decide_eq_false hlt
      have hk2 : k = 2 := by omega
      subst hk2
      have n1 := h1 (by omega)
      have n2 := h2 (by omega)
      clear h1 h2 r0 r1
      have HW1 : Hid ((if Fe = 6 ∨ homeS s Gq = 6 then (s, 6) else if fd = true ∨ gd = true ∨ homeS s Gq ≠ 0 then (s, 8) else if Fq = Gq then (tickS s, 0)
          else (noteS (noteS (putS (dropS s Fq) Gq ⟨ft, 0, false⟩) 3 Fq) 2 Gq, 0)) = (s', e')) := by
        have h1 := HW.out
        rw [if_neg (by omega), if_neg (by omega)] at h1
        exact h1
      have hH := home_calls (HMk.out.at_ 0 rfl) Gq (by have := hq2 n2; omega)
      have hhe := homeS_e s Gq
      have hgq := hq2 n2
      have HP1 : Hid (Fe = 0 → GoodS (putS (dropS s Fq) Gq ⟨ft, 0, false⟩)) := fun z => HPO.out z n2
      have hF0 : Fe = 0 ∨ Fe = 6 := by omega
      clear HW hq2 HPO hE1 hE2 n1 n2
      go_wp2_with fail
      refine hH.mono ?_
      rintro e w4 ⟨rfl, HM1⟩
      have HM5 := HMk.out.got HM1
      simp only [List.nil_append] at HM5
      clear hH HMk HM1
      generalize homeS s Gq = H at *
      have HMs : Hid (Mem (StoreC sb mb nv s).fp w [StoreC sb mb nv s] w4) := HM5.sel [0] (by decide)
      rcases hF0 with rfl | rfl
      · rcases hhe with rfl | rfl | rfl
        · have f2 := FBlk.g2 (HM5.at_ 2 rfl)
          have f0 := FBlk.g0 (HM5.at_ 2 rfl)
          have g2 := FBlk.g2 (HM5.at_ 1 rfl)
          simp only at f2 f0 g2
          cases fd with
          | true =>
            go_wp2_with fail
            go_ret
            have h1 := HW1.out
            rw [if_neg (by omega), if_pos (by simp)] at h1
            cases h1
            exact ⟨rfl, nv, HMs.out⟩
          | false =>
            cases gd with
            | true =>
              go_wp2_with fail
              go_ret
              have h1 := HW1.out
              rw [if_neg (by omega), if_pos (by simp)] at h1
              cases h1
              exact ⟨rfl, nv, HMs.out⟩
            | false =>
              have qd := str_eq Fq Gq
              have HW2 : Hid ((if Fq = Gq then (tickS s, 0) else (noteS (noteS (putS (dropS s Fq) Gq ⟨ft, 0, false⟩) 3 Fq) 2 Gq, 0)) = (s', e')) := by
                have h1 := HW1.out
                rw [if_neg (by omega), if_neg (by simp)] at h1
                exact h1
              clear HW1
              by_cases hq : Fq = Gq
              · rw [decide_eq_true hq] at qd
                have qd2 : (ofL Fq).toList = (ofL Gq).toList := by rw [hq]
                have HW3 : Hid ((tickS s, 0) = (s', e')) := by
                  have h1 := HW2.out
                  rw [if_pos hq] at h1
                  exact h1
                clear hq HW2
                have hC7 := HMs.out.at_ 0 rfl
                have hA := add_calls sb 2 s.clock 1 (s.clock + 1) _ (StoreC.c2 (s := s) hC7) (Blk.frozen (StoreC.blk hC7) 2) (IntWalk.i64_in _ (by omega))
                clear hC7
                go_wp2_with fail
                refine hA.mono ?_
                rintro e w5 ⟨rfl, rfl⟩
                clear f2 f0 g2 HM5
                have HM8 := HMs.out.tick (s.clock + 1)
                clear hA HMs
                generalize World.setCell _ _ _ = W5 at *
                go_wp2_with fail
                go_ret
                have h1 := HW3.out
                cases h1
                exact ⟨rfl, nv, HM8⟩
              · rw [decide_eq_false hq] at qd
                have qd2 : ¬ (ofL Fq).toList = (ofL Gq).toList := by rw [tl_of, tl_of]; exact hq
                have HW3 : Hid ((noteS (noteS (putS (dropS s Fq) Gq ⟨ft, 0, false⟩) 3 Fq) 2 Gq, 0) = (s', e')) := by
                  have h1 := HW2.out
                  rw [if_neg hq] at h1
                  exact h1
                clear hq HW2
                have hD1 := hD _ (HM5.at_ 0 rfl)
                have HP2 := Lib.hid (HP1.out rfl)
                clear hD HP1 HMs
                go_wp2_with fail
                refine hD1.mono ?_
                rintro e w5 ⟨rfl, HM6⟩
                have HM7 := Mem.call1 HM5 HM6
                simp only [List.cons_append, List.nil_append] at HM7
                clear hD1 HM5 HM6 f2 f0 g2
                have f0 := FBlk.g0 (HM7.at_ 2 rfl)
                simp only at f0
                have hPu := put_calls (s := dropS s Fq) (HM7.at_ 0 rfl) HPG.out hck Gq ⟨ft, 0, false⟩ hft
                unfold vF at hPu
                simp only at hPu
                go_wp2_with fail
                refine hPu.mono ?_
                rintro e w6 ⟨rfl, HM8⟩
                have HM9 := Mem.call1 HM7 HM8
                simp only [List.cons_append, List.nil_append] at HM9
                clear hPu HM7 HM8 f0
                have hN1 := note_calls (HM9.at_ 0 rfl) HP2.out 3 Fq
                go_wp2_with fail
                refine hN1.mono ?_
                rintro e w7 ⟨rfl, nv1, HMa⟩
                have HMb := Mem.call1 HM9 HMa
                simp only [List.cons_append, List.nil_append] at HMb
                clear hN1 HM9 HMa
                have hN2 := note_calls (HMb.at_ 0 rfl) (noteS_good HP2.out 3 Fq) 2 Gq
                go_wp2_with fail
                refine hN2.mono ?_
                rintro e w8 ⟨rfl, nv2, HMc⟩
                have HMd := (Mem.call1 HMb HMc).sel [0] (by decide)
                clear hN2 HMb HMc
                go_wp2_with fail
                go_ret
                have h1 := HW3.out
                cases h1
                exact ⟨rfl, nv2, HMd⟩
        · clear HM5
          go_wp2_with fail
          go_ret
          have h1 := HW1.out
          rw [if_pos (by simp)] at h1
          cases h1
          exact ⟨rfl, nv, HMs.out⟩
        · have f2 := FBlk.g2 (HM5.at_ 2 rfl)
          have g2 := FBlk.g2 (HM5.at_ 1 rfl)
          simp only at f2 g2
          clear HM5
          cases fd with
          | true =>
            go_wp2_with fail
            go_ret
            have h1 := HW1.out
            rw [if_neg (by omega), if_pos (by simp)] at h1
            cases h1
            exact ⟨rfl, nv, HMs.out⟩
          | false =>
            cases gd with
            | true =>
              go_wp2_with fail
              go_ret
              have h1 := HW1.out
              rw [if_neg (by omega), if_pos (by simp)] at h1
              cases h1
              exact ⟨rfl, nv, HMs.out⟩
            | false =>
              go_wp2_with fail
              go_ret
              have h1 := HW1.out
              rw [if_neg (by omega), if_pos (by simp)] at h1
              cases h1
              exact ⟨rfl, nv, HMs.out⟩
      · clear HM5
        go_wp2_with fail
        go_ret
        have h1 := HW1.out
        rw [if_pos (by simp)] at h1
        cases h1
        exact ⟨rfl, nv, HMs.out⟩
theorem MapC.cloned {fp : Nat → Prop} {w0 w : World} {F : List Chunk} {b : Nat} {m : List (List UInt8 × VF)} (h : Mem fp w0 F w) (hm : (MapC b kL vF m).ok w) : ∃ es clk, w.heap[b]? = some (.map es clk) ∧ Mem fp w0 (MapC w.heap.size kL vF m :: F) (w.alloc (.map es clk)) := by
  obtain ⟨es, clk, h1, h2, h3, h4⟩ := hm
  exact ⟨es, clk, h1, h.new ((Mut.refl _ _).alloc _) ⟨es, clk, heap_alloc_new w _, h2, h3, h4⟩ (fun b hb => Nat.le_of_eq hb.symm)⟩
theorem mclone_calls (b : Nat) (m : List (List UInt8 × VF)) (w : World) (hm : (MapC b kL vF m).ok w) :
    Calls Tryd.prog 34 #[.map (some b)] w fun e w' => ∃ nb, e = .returned (.map (some nb)) ∧ Mem none_ w [MapC nb kL vF m] w' := by
  obtain ⟨es, clk, hb, HM⟩ := MapC.cloned (Mem.start (fp := none_) w) hm
  have hq := fun w => run_eql_map_nil_sl (P := Tryd.prog) w 51 _ _ (some b) Tryd.underlying51
  go_enter Tryd.func34, Tryd.ntmps34
  go_wp2_with fail
  rw [run_callFunc_extern Tryd.func50 (by kernel_rfl) (by kernel_rfl) (by kernel_rfl) (e := Extern.MapsClone.clone) (by kernel_rfl), run_maps_clone_sl w 51 hb]
  simp only [Result.andThen]
  rw [Oper.upon_value]
  go_wp2
  rw [run_typeAssert_map_sl _ 51 20 _ _ _ Tryd.underlying51]
  simp only [Result.andThen]
  rw [Oper.upon_value]
  go_wp2
  go_ret
  exact ⟨_, rfl, HM⟩
theorem store_calls (b o : Nat) (x y : Int) (w : World) (hc : w.cell? ⟨b, o, none⟩ = some (.int .i64 x)) (hz : w.frozen? ⟨b, o, none⟩ = false) :
    Calls Tryd.prog 35 #[.pointer (some ⟨b, o, none⟩), .int .i64 y] w fun e w' => e = .returned (.tuple #[]) ∧ w.setCell ⟨b, o, none⟩ (.int .i64 y) = w' := by
  have hd : (callFunc 51 #[.pointer (some ⟨b, o, none⟩), .int .i64 y]).run Tryd.prog w = .ok (.value (.tuple #[])) (w.setCell ⟨b, o, none⟩ (.int .i64 y)) :=
    run_call_store Tryd.func51 (by kernel_rfl) (by kernel_rfl) (by kernel_rfl) (by kernel_rfl) hc hz
  clear hc hz
  go_enter Tryd.func35, Tryd.ntmps35
  go_wp2
  go_end0
  exact ⟨rfl, rfl⟩
/-- A copy, as a store: nothing is noted. -/
def copyS (s : St) : St := { s with noting := false, notes := [] }
set_option maxHeartbeats 8000000 in
theorem copy_calls (h : (StoreC sb mb nv s).ok w) :
    Calls Tryd.prog 15 #[ptr sb] w fun e w' => ∃ sb' mb', e = .returned (ptr sb') ∧ Mem none_ w [StoreC sb' mb' (.slice none 0 0) (copyS s)] w' := by
  have hO := ok_calls h
  have HM0 := (Mem.start (fp := none_) w).drew
  have h0 := Pure.chunk HM0.mu h
  have c0 := StoreC.c0 h0
  have c1 := StoreC.c1 h0
  have c2 := StoreC.c2 h0
  have c3 := StoreC.c3 h0
  have hmp := mclone_calls mb s.files _ (StoreC.map_ h0)
  have hL := fun wx (hx : Pure w wx) => load_calls sb 2 s.clock wx (StoreC.c2 (Pure.chunk hx h))
  clear h h0
  go_enter Tryd.func15, Tryd.ntmps15
  go_wp2_with fail
  refine hO.mono ?_
  rintro e w1 ⟨rfl, rfl⟩
  clear hO
  go_wp2_with fail
  refine wp_plan [] (S := fun w' => Hid (w'.cell? ⟨sb, 0, none⟩ = some (.int .i64 s.room) ∧ w'.cell? ⟨sb, 1, none⟩ = some (.int .i64 s.used) ∧ w'.cell? ⟨sb, 3, none⟩ = some (.map (some mb)))) [(.pure, 0), (.pure, 1), (.pure, 2), (.load, 3), (.pure, 4), (.pure, 5), (.pure, 6), (.load, 7), (.pure, 8), (.pure, 9), (.pure, 10), (.load, 11), (.eff, 12), (.pure, 13), (.eff, 14), (.pure, 15)] (by kernel_rfl) rfl (by kernel_rfl) rfl (fun _ _ _ _ _ h => h) (Lib.hid (And.intro c0 (And.intro c1 c3))) ?_
  generalize World.drew _ = W at *
  have HS := Lib.hid (And.intro c0 (And.intro c1 c3))
  clear c0 c1 c3
  repeat (first | (refine plan_pure (v := ?_) (a' := ?_) rfl rfl rfl ?_ ?_ ?_; rotate_left 2; (focus (intro w'; go_simp; with_reducible rfl)); (focus (simp only [Act.put, List.setIfInBounds_toArray, List.set_cons_zero, List.set_cons_succ]; rfl))) | (refine plan_load (v := ?_) (a' := ?_) rfl rfl rfl ?_ ?_ ?_; rotate_left 2; (focus (intro w' hw'; obtain ⟨q0, q1, q2⟩ := hw'.out; clear hw'; go_simp; with_reducible rfl)); (focus (simp only [Act.put, List.setIfInBounds_toArray, List.set_cons_zero, List.set_cons_succ]; rfl))) | (refine plan_skip rfl rfl (by decide +kernel) (by simp only [Act.put, List.setIfInBounds_toArray, List.set_cons_zero, List.set_cons_succ]; rfl) ?_))
  refine plan_eff rfl (fun K hK => ?_)
  go_wp2_with fail
  refine hmp.mono ?_
  rintro e w1 ⟨nb, rfl, HM1⟩
  have HM2 := HM0.got HM1
  simp only [List.append_nil] at HM2
  obtain ⟨c0, c1, c3⟩ := HS.out
  have hS2 := Lib.hid (And.intro (HM1.mu.cell c0 (fun h => h)) (And.intro (HM1.mu.cell c1 (fun h => h)) (HM1.mu.cell c3 (fun h => h))))
  have HS2 := hS2
  clear hmp HM0 HM1 HS c0 c1 c3 c2
  go_wp2_with fail
  refine hK _ _ hS2 ?_
  clear hK hS2
  repeat (first | (refine plan_pure (v := ?_) (a' := ?_) rfl rfl rfl ?_ ?_ ?_; rotate_left 2; (focus (intro w'; go_simp; with_reducible rfl)); (focus (simp only [Act.put, List.setIfInBounds_toArray, List.set_cons_zero, List.set_cons_succ]; rfl))) | (refine plan_load (v := ?_) (a' := ?_) rfl rfl rfl ?_ ?_ ?_; rotate_left 2; (focus (intro w' hw'; obtain ⟨q0, q1, q2⟩ := hw'.out; clear hw'; go_simp; with_reducible rfl)); (focus (simp only [Act.put, List.setIfInBounds_toArray, List.set_cons_zero, List.set_cons_succ]; rfl))) | (refine plan_skip rfl rfl (by decide +kernel) (by simp only [Act.put, List.setIfInBounds_toArray, List.set_cons_zero, List.set_cons_succ]; rfl) ?_))
  refine plan_eff rfl (fun K hK => ?_)
  go_wp2_with fail
  have HMb := HM2.box #[.int .i64 s.room, .int .i64 s.used, .int .i64 0, .map (some nb), .bool false, .slice none 0 0] 58
  obtain ⟨c0, c1, c3⟩ := HS2.out
  have hp1 : Pure w1 (w1.alloc (.cells #[.int .i64 s.room, .int .i64 s.used, .int .i64 0, .map (some nb), .bool false, .slice none 0 0] 58)) := (Mut.refl _ _).alloc _
  refine hK _ _ (Lib.hid (And.intro (Pure.cell hp1 c0) (And.intro (Pure.cell hp1 c1) (Pure.cell hp1 c3)))) ?_
  clear hK hp1 HM2 HS2 c0 c1 c3
  generalize World.alloc _ _ = W1 at *
  generalize w1.heap.size = cb at *
  repeat (first | (refine plan_pure (v := ?_) (a' := ?_) rfl rfl rfl ?_ ?_ ?_; rotate_left 2; (focus (intro w'; go_simp; with_reducible rfl)); (focus (simp only [Act.put, List.setIfInBounds_toArray, List.set_cons_zero, List.set_cons_succ]; rfl))) | (refine plan_load (v := ?_) (a' := ?_) rfl rfl rfl ?_ ?_ ?_; rotate_left 2; (focus (intro w' hw'; obtain ⟨q0, q1, q2⟩ := hw'.out; clear hw'; go_simp; with_reducible rfl)); (focus (simp only [Act.put, List.setIfInBounds_toArray, List.set_cons_zero, List.set_cons_succ]; rfl))) | (refine plan_skip rfl rfl (by decide +kernel) (by simp only [Act.put, List.setIfInBounds_toArray, List.set_cons_zero, List.set_cons_succ]; rfl) ?_))
  refine plan_done ?_
  have HMd := HMb.drew
  have hL1 := hL _ HMd.mu
  have b2 := Blk.cell_ (HMd.at_ 0 rfl) 2
  have z2 := Blk.frozen (HMd.at_ 0 rfl) 2
  simp only [List.getElem?_toArray, List.getElem?_cons_succ, List.getElem?_cons_zero] at b2
  have hSt := store_calls cb 2 0 s.clock _ b2 z2
  clear hL HMb
  go_wp2_with fail
  refine wp_plan [] (S := fun w' => Hid True) [(.pure, 0), (.pure, 1), (.pure, 2), (.pure, 3), (.pure, 4), (.pure, 5), (.eff, 6), (.eff, 7)] (by kernel_rfl) rfl (by kernel_rfl) rfl (fun _ _ _ _ _ h => h) (Lib.hid True.intro) ?_
  generalize World.drew _ = W2 at *
  repeat (first | (refine plan_pure (v := ?_) (a' := ?_) rfl rfl rfl ?_ ?_ ?_; rotate_left 2; (focus (intro w'; go_simp; with_reducible rfl)); (focus (simp only [Act.put, List.setIfInBounds_toArray, List.set_cons_zero, List.set_cons_succ]; rfl))) | (refine plan_load (v := ?_) (a' := ?_) rfl rfl rfl ?_ ?_ ?_; rotate_left 2; (focus (intro w' hw'; rw [hw']; go_simp; with_reducible rfl)); (focus (simp only [Act.put, List.setIfInBounds_toArray, List.set_cons_zero, List.set_cons_succ]; rfl))) | (refine plan_skip rfl rfl (by decide +kernel) (by simp only [Act.put, List.setIfInBounds_toArray, List.set_cons_zero, List.set_cons_succ]; rfl) ?_))
  refine plan_eff rfl (fun K hK => ?_)
  go_wp2_with fail
  refine hL1.mono ?_
  rintro e w2 ⟨rfl, rfl⟩
  clear hL1
  go_wp2_with fail
  refine hK _ _ (Lib.hid True.intro) ?_
  clear hK
  repeat (first | (refine plan_pure (v := ?_) (a' := ?_) rfl rfl rfl ?_ ?_ ?_; rotate_left 2; (focus (intro w'; go_simp; with_reducible rfl)); (focus (simp only [Act.put, List.setIfInBounds_toArray, List.set_cons_zero, List.set_cons_succ]; rfl))) | (refine plan_load (v := ?_) (a' := ?_) rfl rfl rfl ?_ ?_ ?_; rotate_left 2; (focus (intro w' hw'; rw [hw']; go_simp; with_reducible rfl)); (focus (simp only [Act.put, List.setIfInBounds_toArray, List.set_cons_zero, List.set_cons_succ]; rfl))) | (refine plan_skip rfl rfl (by decide +kernel) (by simp only [Act.put, List.setIfInBounds_toArray, List.set_cons_zero, List.set_cons_succ]; rfl) ?_))
  refine plan_eff rfl (fun K hK => ?_)
  go_wp2_with fail
  refine hSt.mono ?_
  rintro e w2 ⟨rfl, rfl⟩
  have HMe := HMd.blkSet 2 (.int .i64 s.clock)
  simp only [List.setIfInBounds_toArray, List.set_cons_zero, List.set_cons_succ] at HMe
  clear hSt HMd b2 z2
  generalize World.setCell _ _ _ = W3 at *
  go_wp2_with fail
  refine hK _ _ (Lib.hid True.intro) ?_
  clear hK
  refine plan_done ?_
  go_wp2_with fail
  go_ret
  refine ⟨cb, nb, rfl, ?_⟩
  have HMf := Mem.nilN HMe
  exact Mem.shut_ (F := []) (cs := StoreF cb nb (.slice none 0 0) (copyS s)) (HMf.sel [1, 2, 0] (by decide))
end
end Go.Proofs.YtjhcabjlhnhkbaaDoor
