/-
  The store's calls: find, Stat, home.
-/
import Derived.Test.YtnpehlkdfbmnkaaDoorVfsA
set_option linter.unusedVariables false
set_option linter.unusedSimpArgs false
set_option maxRecDepth 20000
namespace Go.Proofs.YtnpehlkdfbmnkaaDoor
open Go.RowKit

def fcs (f : VF) : Array Value := #[.string (ofL f.text), .int .i64 f.time, .bool f.dir]
abbrev FBlk (b : Nat) (f : VF) : Chunk := Blk b 98 (fcs f)
theorem FBlk.g0 {b : Nat} {f : VF} {w : World} (h : (FBlk b f).ok w) : w.cell? ⟨b, 0, none⟩ = some (.string (ofL f.text)) := by rw [Blk.cell_ h]; rfl
theorem FBlk.g1 {b : Nat} {f : VF} {w : World} (h : (FBlk b f).ok w) : w.cell? ⟨b, 1, none⟩ = some (.int .i64 f.time) := by rw [Blk.cell_ h]; rfl
theorem FBlk.g2 {b : Nat} {f : VF} {w : World} (h : (FBlk b f).ok w) : w.cell? ⟨b, 2, none⟩ = some (.bool f.dir) := by rw [Blk.cell_ h]; rfl
theorem Mem.fset {fp : Nat → Prop} {w0 w : World} {F : List Chunk} {b : Nat} {f : VF} (h : Mem fp w0 (FBlk b f :: F) w) (g : VF) :
    Mem fp w0 (FBlk b g :: F) (((w.setCell ⟨b, 0, none⟩ (.string (ofL g.text))).setCell ⟨b, 1, none⟩ (.int .i64 g.time)).setCell ⟨b, 2, none⟩ (.bool g.dir)) :=
  ((h.blkSet 0 _).blkSet 1 _).blkSet 2 _
theorem Mem.fbox {fp : Nat → Prop} {w0 w : World} {F : List Chunk} (h : Mem fp w0 F w) (f : VF) : Mem fp w0 (FBlk w.heap.size f :: F) (w.alloc (.cells #[.string (ofL f.text), .int .i64 f.time, .bool f.dir] 98)) := h.box _ _
theorem zeroF (w : World) : (zeroValue 98).run Tryd.prog w = .ok (vF VF.zero) w := Tryd.zeroValue98 w

section
variable {sb mb : Nat} {nv : Value} {s : St} {w : World}
set_option maxHeartbeats 4000000 in
theorem find_calls (h : (StoreC sb mb nv s).ok w) (p : List UInt8) (hp : p.length ≤ 150000) :
    Calls Tryd.prog 45 #[ptr sb, .string (ofL p)] w fun e w' =>
      e = .returned (.tuple #[.string (ofL (findS s p).1), vF (findS s p).2.1, .int .i64 (findS s p).2.2]) ∧ Mem none_ w [] w' := by
  have HM0 := (Mem.start (fp := none_) w).fbox VF.zero
  have hW := fun wx (hx : (StoreC sb mb nv s).ok wx) => where_calls hx p hp
  obtain ⟨⟨Rq, Rf, Re⟩, hR⟩ : ∃ R, findS s p = R := ⟨_, rfl⟩
  rw [hR]
  have HR := Lib.hid hR
  clear hR
  have hmap := StoreC.map_ h
  have hc3 := StoreC.c3 h
  have K := keyL (P := Tryd.prog) Tryd.underlying9
  go_enter Tryd.func45, Tryd.ntmps45
  go_wp2_with fail
  have hW1 := hW _ (Pure.chunk HM0.mu h)
  clear hW
  have hWe : w.alloc (.cells #[.string (ofL VF.zero.text), .int .i64 VF.zero.time, .bool VF.zero.dir] 98) = w.alloc (.cells #[.string ⟨#[]⟩, .int .i64 0, .bool false] 98) := rfl
  rw [hWe] at HM0 hW1
  generalize w.alloc _ = W1 at *
  refine hW1.mono ?_
  rintro e w1 ⟨rfl, HM1⟩
  have HM2 := HM0.got HM1
  simp only [List.nil_append] at HM2
  have hC := Pure.chunk HM2.mu h
  clear hW1 HM1 HM0 hWe
  cases hq : whereL p with
  | none =>
    have g0 := FBlk.g0 (HM2.at_ 0 rfl)
    have g1 := FBlk.g1 (HM2.at_ 0 rfl)
    have g2 := FBlk.g2 (HM2.at_ 0 rfl)
    have z0 := Blk.frozen (HM2.at_ 0 rfl) 0
    have z1 := Blk.frozen (HM2.at_ 0 rfl) 1
    have z2 := Blk.frozen (HM2.at_ 0 rfl) 2
    have e1 : whereE p = 1 := by unfold whereE; rw [hq]; rfl
    have HE : Hid ((Rq, Rf, Re) = ([], VF.zero, 1)) := by unfold Hid; rw [← HR.out]; unfold findS; rw [hq]
    rw [e1]
    clear hmap hc3 HR e1 hC h
    go_wp2_with fail
    clear g0 g1 g2 z0 z1 z2
    have HM3 := (HM2.fset VF.zero)
    have g0 := FBlk.g0 (HM3.at_ 0 rfl)
    have g1 := FBlk.g1 (HM3.at_ 0 rfl)
    have g2 := FBlk.g2 (HM3.at_ 0 rfl)
    have HM4 := HM3.sel [] (by decide)
    clear HM2 HM3
    have hWe : ((w1.setCell ⟨w.heap.size, 0, none⟩ (.string (ofL VF.zero.text))).setCell ⟨w.heap.size, 1, none⟩ (.int .i64 VF.zero.time)).setCell ⟨w.heap.size, 2, none⟩ (.bool VF.zero.dir) = ((w1.setCell ⟨w.heap.size, 0, none⟩ (.string ⟨#[]⟩)).setCell ⟨w.heap.size, 1, none⟩ (.int .i64 0)).setCell ⟨w.heap.size, 2, none⟩ (.bool false) := rfl
    rw [hWe] at g0 g1 g2 HM4
    generalize World.setCell _ _ _ = W2 at *
    have q := HE.out
    simp only [Prod.mk.injEq] at q
    obtain ⟨q1, q2, q3⟩ := q
    subst q1 q2 q3
    exact bodyPost_ret (v := .tuple #[.string ⟨#[]⟩, vF VF.zero, .int .i64 1]) (by simp [results, Tryd.results45, go_sem, g0, g1, g2, vF]) rfl ⟨rfl, HM4⟩
  | some q =>
    have e1 : whereE p = 0 := by unfold whereE; rw [hq]; rfl
    have e2 : whereQ p = q := by unfold whereQ; rw [hq]; rfl
    have HE : Hid ((Rq, Rf, Re) = match mget s.files q with | none => (q, VF.zero, 6) | some f => (q, f, 0)) := by unfold Hid; rw [← HR.out]; unfold findS; rw [hq]; rfl
    rw [e1, e2]
    have hmap := StoreC.map_ hC
    have hc3 := StoreC.c3 hC
    clear HR e1 e2 h hC
    obtain ⟨f, hf⟩ : ∃ f, (mget s.files q).getD VF.zero = f := ⟨_, rfl⟩
    have Hf := Lib.hid hf
    obtain ⟨ok, hok⟩ : ∃ ok, mhas s.files q = ok := ⟨_, rfl⟩
    have Hok := Lib.hid hok
    have hr : (if true = true then Value.tuple #[((mget s.files q).map vF).getD (vF VF.zero), .bool (mhas s.files q)] else ((mget s.files q).map vF).getD (vF VF.zero)) = .tuple #[.agg #[.string (ofL f.text), .int .i64 f.time, .bool f.dir], .bool ok] := by
      rw [if_pos rfl, hok, ← hf]
      cases mget s.files q <;> rfl
    clear hf hok
    have HM4 := ((HM2.fbox f).sel [1, 0] (by decide))
    simp only [List.filterMap_cons, List.filterMap_nil, List.getElem?_cons_succ, List.getElem?_cons_zero] at HM4
    have HM4' := Lib.hid HM4
    have a0 := FBlk.g0 (HM4.at_ 0 rfl)
    have a1 := FBlk.g1 (HM4.at_ 0 rfl)
    have a2 := FBlk.g2 (HM4.at_ 0 rfl)
    have b0 := Blk.frozen (HM4.at_ 0 rfl) 0
    have b1 := Blk.frozen (HM4.at_ 0 rfl) 1
    have b2 := Blk.frozen (HM4.at_ 0 rfl) 2
    clear HM4
    have HE2 : Hid (Rq = q ∧ ((ok = true ∧ Rf = f ∧ Re = 0) ∨ (ok = false ∧ Rf = VF.zero ∧ Re = 6))) := by
      unfold Hid
      have := HE.out
      rw [← Hok.out, ← Hf.out]
      unfold mhas
      cases hm : mget s.files q with
      | none => rw [hm] at this; simp only [Prod.mk.injEq] at this; exact ⟨this.1, .inr ⟨rfl, this.2⟩⟩
      | some f => rw [hm] at this; simp only [Prod.mk.injEq] at this; exact ⟨this.1, .inl ⟨rfl, this.2⟩⟩
    clear HE Hok Hf
    cases ok with
    | false =>
      go_wp2_with (at_lookup; refine wpList_get K Tryd.underlying92 zeroF rfl _ _ true rfl hmap rfl q rfl _ hr ?_)
      have HM5 := HM4'.out.fset VF.zero
      have g0 := FBlk.g0 (HM5.at_ 0 rfl)
      have g1 := FBlk.g1 (HM5.at_ 0 rfl)
      have g2 := FBlk.g2 (HM5.at_ 0 rfl)
      have HM6 := HM5.sel [] (by decide)
      clear HM5 HM4' a0 a1 a2 b0 b1 b2
      have ez : (.string (ofL VF.zero.text) : Value) = .string ⟨#[]⟩ := rfl
      have ez1 : VF.zero.time = 0 := rfl
      have ez2 : VF.zero.dir = false := rfl
      rw [ez, ez1, ez2] at g0 g1 g2 HM6
      generalize World.setCell _ _ _ = W2 at *
      obtain ⟨q1, q2⟩ := HE2.out
      obtain ⟨q2, q3, q4⟩ := q2.resolve_left (by rintro ⟨e, _⟩; cases e)
      subst q1 q3 q4
      exact bodyPost_ret (v := .tuple #[.string (ofL Rq), vF VF.zero, .int .i64 6]) (by simp [results, Tryd.results45, go_sem, g0, g1, g2, vF, ez1, ez2]; rfl) rfl ⟨rfl, HM6⟩
    | true =>
      go_wp2_with (at_lookup; refine wpList_get K Tryd.underlying92 zeroF rfl _ _ true rfl hmap rfl q rfl _ hr ?_)
      have HM5 := HM4'.out.drew
      clear HM4' a0 a1 a2 b0 b1 b2 hr hmap hc3
      have a0 := FBlk.g0 (HM5.at_ 0 rfl)
      have a1 := FBlk.g1 (HM5.at_ 0 rfl)
      have a2 := FBlk.g2 (HM5.at_ 0 rfl)
      have b0 := Blk.frozen (HM5.at_ 0 rfl) 0
      have b1 := Blk.frozen (HM5.at_ 0 rfl) 1
      have b2 := Blk.frozen (HM5.at_ 0 rfl) 2
      have d0 := FBlk.g0 (HM5.at_ 1 rfl)
      have d1 := FBlk.g1 (HM5.at_ 1 rfl)
      have d2 := FBlk.g2 (HM5.at_ 1 rfl)
      refine wp_plan [3] (S := fun w' => w' = World.drew _) [(.pure, 0), (.load, 1), (.pure, 2), (.tail, 3), (.pure, 4)] (by kernel_rfl) rfl (by kernel_rfl) rfl (fun _ _ _ _ _ h => h) rfl ?_
      generalize World.drew _ = W at *
      repeat (first | (refine plan_pure (v := ?_) (a' := ?_) rfl rfl rfl ?_ ?_ ?_; rotate_left 2; (focus (intro w'; go_simp; with_reducible rfl)); (focus (simp only [Act.put, List.setIfInBounds_toArray, List.set_cons_zero, List.set_cons_succ]; rfl))) | (refine plan_load (v := ?_) (a' := ?_) rfl rfl rfl ?_ ?_ ?_; rotate_left 2; (focus (intro w' hw'; rw [hw']; go_simp; with_reducible rfl)); (focus (simp only [Act.put, List.setIfInBounds_toArray, List.set_cons_zero, List.set_cons_succ]; rfl))) | (refine plan_skip rfl rfl (by decide +kernel) (by simp only [Act.put, List.setIfInBounds_toArray, List.set_cons_zero, List.set_cons_succ]; rfl) ?_))
      refine plan_tail rfl (fun K hK => ?_)
      go_wp2
      clear a0 a1 a2 b0 b1 b2 d0 d1 d2
      have HM6 := HM5.fset f
      have g0 := FBlk.g0 (HM6.at_ 0 rfl)
      have g1 := FBlk.g1 (HM6.at_ 0 rfl)
      have g2 := FBlk.g2 (HM6.at_ 0 rfl)
      have HM7 := HM6.sel [] (by decide)
      clear HM5 HM6
      generalize World.setCell _ _ _ = W2 at *
      repeat (first | (refine plan_pure (v := ?_) (a' := ?_) rfl rfl rfl ?_ ?_ ?_; rotate_left 2; (focus (intro w'; go_simp; with_reducible rfl)); (focus (simp only [Act.put, List.setIfInBounds_toArray, List.set_cons_zero, List.set_cons_succ]; rfl))) | (refine plan_load (v := ?_) (a' := ?_) rfl rfl rfl ?_ ?_ ?_; rotate_left 2; (focus (intro w' hw'; rw [hw']; go_simp; with_reducible rfl)); (focus (simp only [Act.put, List.setIfInBounds_toArray, List.set_cons_zero, List.set_cons_succ]; rfl))) | (refine plan_skip rfl rfl (by decide +kernel) (by simp only [Act.put, List.setIfInBounds_toArray, List.set_cons_zero, List.set_cons_succ]; rfl) ?_))
      refine plan_done ?_
      obtain ⟨q1, q2⟩ := HE2.out
      obtain ⟨q2, q3, q4⟩ := q2.resolve_right (by rintro ⟨e, _⟩; cases e)
      subst q1 q3 q4
      go_wp2_with fail
      exact bodyPost_ret (v := .tuple #[.string (ofL Rq), vF Rf, .int .i64 0]) (by simp [results, Tryd.results45, go_sem, g0, g1, g2, vF]) rfl ⟨rfl, HM7⟩
set_option maxHeartbeats 2000000 in
theorem stat_calls (h : (StoreC sb mb nv s).ok w) (p : List UInt8) (hp : p.length ≤ 150000) :
    Calls Tryd.prog 41 #[ptr sb, .string (ofL p)] w fun e w' =>
      e = .returned (.tuple #[.int .i64 (findS s p).2.1.time, .bool (findS s p).2.1.dir, .int .i64 (findS s p).2.2]) ∧ Mem none_ w [] w' := by
  have hF := find_calls h p hp
  generalize findS s p = R at *
  obtain ⟨Rq, Rf, Re⟩ := R
  simp only at hF ⊢
  unfold vF at hF
  clear h
  go_enter Tryd.func41, Tryd.ntmps41
  go_wp2_with fail
  refine hF.mono ?_
  rintro e w1 ⟨rfl, HM1⟩
  clear hF
  have HM2 := (HM1.fbox Rf)
  have HM3 := Lib.hid HM2
  go_wp2_with fail
  have HM4 := HM3.out.drew
  clear HM2 HM3
  have a0 := FBlk.g0 (HM4.at_ 0 rfl)
  have a1 := FBlk.g1 (HM4.at_ 0 rfl)
  have a2 := FBlk.g2 (HM4.at_ 0 rfl)
  refine wp_plan [] (S := fun w' => w' = World.drew _) [(.pure, 0), (.load, 1), (.pure, 2), (.load, 3), (.pure, 4), (.pure, 5), (.pure, 6), (.pure, 7)] (by kernel_rfl) rfl (by kernel_rfl) rfl (fun _ _ _ _ _ h => h) rfl ?_
  generalize World.drew _ = W at *
  repeat (first | (refine plan_pure (v := ?_) (a' := ?_) rfl rfl rfl ?_ ?_ ?_; rotate_left 2; (focus (intro w'; go_simp; with_reducible rfl)); (focus (simp only [Act.put, List.setIfInBounds_toArray, List.set_cons_zero, List.set_cons_succ]; rfl))) | (refine plan_load (v := ?_) (a' := ?_) rfl rfl rfl ?_ ?_ ?_; rotate_left 2; (focus (intro w' hw'; rw [hw']; go_simp; with_reducible rfl)); (focus (simp only [Act.put, List.setIfInBounds_toArray, List.set_cons_zero, List.set_cons_succ]; rfl))) | (refine plan_skip rfl rfl (by decide +kernel) (by simp only [Act.put, List.setIfInBounds_toArray, List.set_cons_zero, List.set_cons_succ]; rfl) ?_))
  refine plan_done ?_
  go_wp2_with fail
  exact bodyPost_ret (v := .tuple #[.int .i64 Rf.time, .bool Rf.dir, .int .i64 Re]) (by simp [results, Tryd.results41, go_sem]) rfl ⟨rfl, HM4.sel [] (by decide)⟩
end
end Go.Proofs.YtnpehlkdfbmnkaaDoor
