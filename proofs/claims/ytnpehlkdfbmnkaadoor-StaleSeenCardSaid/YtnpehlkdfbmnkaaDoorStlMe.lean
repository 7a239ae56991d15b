/-
  Layer 18 (stale): what is seen: much, ours, Touches, Same.
-/
import Derived.Test.YtnpehlkdfbmnkaaDoorStlY
set_option linter.unusedVariables false
set_option linter.unusedSimpArgs false
set_option maxRecDepth 20000
namespace Go.Proofs.YtnpehlkdfbmnkaaDoor
open Go.RowKit

theorem tou_neq (k k' : Int) (p p' : List UInt8) (w : World) : (binOp .neq 106 (.agg #[.int .i64 k, .string (ofL p)]) (.agg #[.int .i64 k', .string (ofL p')])).run Tryd.prog w = .ok (.bool (!decide ((k, p) = (k', p')))) w := by
  have hs := str_eq p p'
  go_simp
  by_cases h1 : k = k' <;> by_cases h2 : p = p' <;> simp [h1, h2]
theorem flt_eql (k k' a a' : Int) (w : World) : (binOp .eql 60 (.agg #[.int .i64 k, .int .i64 a]) (.agg #[.int .i64 k', .int .i64 a'])).run Tryd.prog w = .ok (.bool (decide ((k, a) = (k', a')))) w := by
  go_simp
  by_cases h1 : k = k' <;> by_cases h2 : a = a' <;> simp [h1, h2]
/-- A slice of touches. -/
abbrev Tous (w : World) (v : Value) (l : List Tou) : Prop := Sl w v 2 l.length (tch l)
theorem tch_get : ∀ {l : List Tou} {k : Nat} (h : k < l.length), (tch l)[k * 2]? = some (.int .i64 l[k].1) ∧ (tch l)[k * 2 + 1]? = some (.string (ofL l[k].2))
  | [], k, h => by simp at h
  | x :: l, 0, h => ⟨rfl, rfl⟩
  | x :: l, k + 1, h => by
    have h' : k < l.length := by simpa using h
    obtain ⟨a, b⟩ := tch_get h'
    have e : tch (x :: l) = [.int .i64 x.1, .string (ofL x.2)] ++ tch l := rfl
    have e0 : (k + 1) * 2 = 2 + k * 2 := by omega
    rw [e, e0]
    simp only [List.getElem_cons_succ]
    refine ⟨?_, ?_⟩
    · rw [List.getElem?_append_right (by simp)]; simpa using a
    · rw [List.getElem?_append_right (by simp; omega)]; simpa [Nat.add_assoc] using b
/-- Not too much. -/
structure Small (cs : List (List UInt8)) (ts : List Tou) : Prop where
  c : cs.length ≤ 300
  t : ts.length ≤ 300
  cl : ∀ x, x ∈ cs → x.length ≤ 2000
  tl : ∀ x, x ∈ ts → x.2.length ≤ 2000

set_option maxHeartbeats 4000000 in
theorem much_calls (CV TV : Value) (cs : List (List UInt8)) (ts : List Tou) (w : World) (hC : Txts w CV cs) (hT : Tous w TV ts) (hs : ∀ x, x ∈ cs → x.length ≤ 140737488351232) (ht : ∀ x, x ∈ ts → x.2.length ≤ 140737488351232) :
    Calls Tryd.prog 25 #[.agg #[CV, TV]] w fun e w' => ∃ b, e = .returned (.bool b) ∧ (b = false → Small cs ts) ∧ Mem none_ w [] w' := by
  obtain ⟨A, c, rfl, g1, g2, g3, g4⟩ := hC
  obtain ⟨A2, c2, rfl, k1, k2, k3, k4⟩ := hT
  unfold maxLen at g2 k2
  have HM0 := (Mem.start (fp := none_) w).box #[.slice A cs.length c, .slice A2 ts.length c2] 52
  have z0 := Blk.cell_ (HM0.at_ 0 rfl) 0
  have z1 := Blk.cell_ (HM0.at_ 0 rfl) 1
  simp only [List.getElem?_toArray, List.getElem?_cons_succ, List.getElem?_cons_zero] at z0 z1
  have HMe := Lib.hid (HM0.sel [] (by decide))
  have Hs := Lib.hid hs
  have Ht := Lib.hid ht
  clear hs ht g3 k3
  go_enter Tryd.func25, Tryd.ntmps25
  by_cases h1 : 300 < cs.length
  · have d1 : decide ((300 : Int) < (cs.length : Int)) = true := decide_eq_true (by omega)
    have d1' : decide (300 < cs.length) = true := decide_eq_true h1
    go_wp2_with fail
    go_ret
    exact ⟨true, rfl, (fun e => by cases e), HMe.out⟩
  · have d1 : decide ((300 : Int) < (cs.length : Int)) = false := decide_eq_false (by omega)
    have d1' : decide (300 < cs.length) = false := decide_eq_false h1
    by_cases h2 : 300 < ts.length
    · have d2 : decide ((300 : Int) < (ts.length : Int)) = true := decide_eq_true (by omega)
      have d2' : decide (300 < ts.length) = true := decide_eq_true h2
      go_wp2_with fail
      go_ret
      exact ⟨true, rfl, (fun e => by cases e), HMe.out⟩
    · have d2 : decide ((300 : Int) < (ts.length : Int)) = false := decide_eq_false (by omega)
      have d2' : decide (300 < ts.length) = false := decide_eq_false h2
      have HM0' := Lib.hid HM0
      clear HM0
      go_wp2_with fail
      have HM0 := HM0'.out
      clear HM0' z0 z1 HMe
      generalize hnb : w.heap.size = nb at *
      generalize w.alloc _ = W0 at *
      go_loop [3, 5, 21] (fun v3 v5 v21 => ∃ (k m : Nat), k ≤ cs.length ∧ v21 = .int .i64 k ∧ v3 = .int .i64 m ∧ m ≤ 140737488351232 ∧ ∀ x, x ∈ cs.take k → x.length ≤ m) (fun _ _ v => cs.length - (intOf v).toNat)
      case atStart => exact ⟨0, 0, Nat.zero_le _, rfl, rfl, by omega, fun x hx => by cases hx⟩
      case round =>
        obtain ⟨k, m, hk, rfl, rfl, hm, hall⟩ := hrel
        by_cases hlt : k < cs.length
        · have hlt' : decide ((k : Int) < (cs.length : Int)) = true := decide_eq_true (by omega)
          have hltN : decide (k < cs.length) = true := decide_eq_true hlt
          obtain ⟨b, o, rfl, hcells⟩ := g4.resolve_left (by omega)
          have hx0 : W0.cell? ⟨b, o + k, none⟩ = some (.string (ofL cs[k])) := HM0.mu.cell (hcells k _ (tx_get hlt)) (fun h => h)
          have hxs := ofL_size cs[k]
          have hxb := Hs.out cs[k] (List.getElem_mem hlt)
          have HS : Hid (cs.take (k + 1) = cs.take k ++ [cs[k]]) := List.take_succ_eq_append_getElem hlt
          have Hall := Lib.hid hall
          clear hcells g4 hall
          generalize cs[k] = x at *
          have emx : max (m : Int) (x.length : Int) = ((max m x.length : Nat) : Int) := by omega
          go_wp2_with fail
          go_round
          case rel =>
            refine ⟨k + 1, max m x.length, by omega, by go_num, by rw [← emx], by omega, fun y hy => ?_⟩
            rw [HS.out] at hy
            rcases List.mem_append.1 hy with hy | hy
            · have := Hall.out y hy; omega
            · rw [List.mem_singleton.1 hy]; omega
          case measure => simp [intOf]; omega
        · have e : k = cs.length := by omega
          subst e
          rw [List.take_length] at hall
          have Hall := Lib.hid hall
          have y1 := Blk.cell_ (HM0.at_ 0 rfl) 1
          simp only [List.getElem?_toArray, List.getElem?_cons_succ, List.getElem?_cons_zero] at y1
          clear hall
          go_wp2_with fail
          clear y1
          go_loopw [3, 7, 33] (fun v3 v7 v33 wr => ∃ (k m : Nat), k ≤ ts.length ∧ v33 = .int .i64 k ∧ v3 = .int .i64 m ∧ m ≤ 140737488351232 ∧ Hid ((∀ x, x ∈ cs → x.length ≤ m) ∧ ∀ x, x ∈ ts.take k → x.2.length ≤ m) ∧ Mem none_ w [] wr) (fun _ _ v _ => ts.length - (intOf v).toNat)
          case atStart => exact ⟨0, m, Nat.zero_le _, rfl, rfl, hm, Lib.hid ⟨Hall.out, fun x hx => by cases hx⟩, HM0.sel [] (by decide)⟩
          case round =>
            clear HM0 Hall hm
            obtain ⟨k, m, hk, rfl, rfl, hm, Hm, HM⟩ := hrel
            by_cases hlt : k < ts.length
            · have hlt' : decide ((k : Int) < (ts.length : Int)) = true := decide_eq_true (by omega)
              have hltN : decide (k < ts.length) = true := decide_eq_true hlt
              obtain ⟨b, o, rfl, hcells⟩ := k4.resolve_left (by omega)
              have pg := tch_get hlt
              have hx0 : wr.cell? ⟨b, o + k * 2, none⟩ = some (.int .i64 ts[k].1) := Pure.cell HM.mu (hcells _ _ pg.1)
              have hx1 : wr.cell? ⟨b, o + k * 2 + 1, none⟩ = some (.string (ofL ts[k].2)) := Pure.cell HM.mu (hcells _ _ pg.2)
              have hxs := ofL_size ts[k].2
              have hxb := Ht.out ts[k] (List.getElem_mem hlt)
              have HS : Hid (ts.take (k + 1) = ts.take k ++ [ts[k]]) := List.take_succ_eq_append_getElem hlt
              clear hcells k4 pg
              generalize ts[k] = x at *
              obtain ⟨xk, xp⟩ := x
              simp only at hx0 hx1 hxs hxb
              have HMx := HM.box #[.int .i64 0, .string ⟨#[]⟩] 106
              have HMy := Lib.hid (HM.box #[.int .i64 xk, .string (ofL xp)] 106)
              have z0 := Blk.cell_ (HMx.at_ 0 rfl) 0
              have z1 := Blk.cell_ (HMx.at_ 0 rfl) 1
              have f0 := Blk.frozen (HMx.at_ 0 rfl) 0
              have f1 := Blk.frozen (HMx.at_ 0 rfl) 1
              have y1 := Blk.cell_ (HMy.out.at_ 0 rfl) 1
              simp only [List.getElem?_toArray, List.getElem?_cons_succ, List.getElem?_cons_zero] at z0 z1 y1
              have emx : max (m : Int) (xp.length : Int) = ((max m xp.length : Nat) : Int) := by omega
              clear HMx HM
              go_wp2_with fail
              go_roundw
              case rel =>
                refine ⟨k + 1, max m xp.length, by omega, by go_num, by rw [← emx], by omega, Lib.hid ⟨fun y hy => ?_, fun y hy => ?_⟩, HMy.out.sel [] (by decide)⟩
                · have := Hm.out.1 y hy; omega
                · rw [HS.out] at hy
                  rcases List.mem_append.1 hy with hy | hy
                  · have := Hm.out.2 y hy; omega
                  · rw [List.mem_singleton.1 hy]; show xp.length ≤ _; omega
              case measure => simp [intOf]; omega
            · have e : k = ts.length := by omega
              subst e
              rw [List.take_length] at Hm
              go_wp2_with fail
              go_ret
              refine ⟨_, rfl, fun hb => ?_, HM⟩
              have hb' : ¬ (2000 : Int) < (m : Int) := by
                intro h
                have := of_decide_eq_false hb
                omega
              exact ⟨by omega, by omega, fun x hx => by have := Hm.out.1 x hx; omega, fun x hx => by have := Hm.out.2 x hx; omega⟩
theorem ours_calls (CV TV : Value) (w : World) (hC : ∃ A k c, CV = .slice A k c) (hT : ∃ A k c, TV = .slice A k c) :
    Calls Tryd.prog 31 #[.agg #[CV, TV]] w fun e w' => e = .returned (.agg #[CV, TV]) ∧ Mem none_ w [] w' := by
  obtain ⟨A, k, c, rfl⟩ := hC
  obtain ⟨A2, k2, c2, rfl⟩ := hT
  have HM0 := ((Mem.start (fp := none_) w).box #[.slice A k c, .slice A2 k2 c2] 56)
  have HM1 := HM0.box #[.slice none 0 0, .slice none 0 0] 52
  have HM2 := Lib.hid (HM0.box #[.slice A k c, .slice A2 k2 c2] 52)
  have e1 : (w.alloc (.cells #[.slice A k c, .slice A2 k2 c2] 56)).heap.size = w.heap.size + 1 := by simp
  rw [e1] at HM1
  have a0 := Blk.cell_ (HM1.at_ 1 rfl) 0
  have a1 := Blk.cell_ (HM1.at_ 1 rfl) 1
  have b0 := Blk.cell_ (HM1.at_ 0 rfl) 0
  have b1 := Blk.cell_ (HM1.at_ 0 rfl) 1
  have f0 := Blk.frozen (HM1.at_ 0 rfl) 0
  have f1 := Blk.frozen (HM1.at_ 0 rfl) 1
  simp only [List.getElem?_toArray, List.getElem?_cons_succ, List.getElem?_cons_zero] at a0 a1 b0 b1
  go_enter Tryd.func31, Tryd.ntmps31
  go_wp2_with fail
  clear a0 a1 b0 b1 f0 f1 HM1
  have HM3 := HM2.out
  rw [e1] at HM3
  clear HM2 e1
  have b0 := Blk.cell_ (HM3.at_ 0 rfl) 0
  have b1 := Blk.cell_ (HM3.at_ 0 rfl) 1
  simp only [List.getElem?_toArray, List.getElem?_cons_succ, List.getElem?_cons_zero] at b0 b1
  generalize World.alloc _ _ = W at *
  exact bodyPost_ret (v := .agg #[.slice A k c, .slice A2 k2 c2]) (by simp [results, Tryd.results31, go_sem, b0, b1]) rfl ⟨rfl, HM3.sel [] (by decide)⟩
set_option maxHeartbeats 4000000 in
theorem tsame_calls (V U : Value) (l m : List Tou) (w : World) (hV : Tous w V l) (hU : Tous w U m) :
    Calls Tryd.prog 32 #[V, U] w fun e w' => e = .returned (.bool (decide (l = m))) ∧ Mem none_ w [] w' := by
  obtain ⟨A, c, rfl, g1, g2, g3, g4⟩ := hV
  obtain ⟨A2, c2, rfl, k1, k2, k3, k4⟩ := hU
  unfold maxLen at g2 k2
  obtain ⟨R, hR⟩ : ∃ R, decide (l = m) = R := ⟨_, rfl⟩
  rw [hR]
  have HR := Lib.hid hR
  clear hR g3 k3
  go_enter Tryd.func32, Tryd.ntmps32
  by_cases hlen : l.length = m.length
  · have d1 : ((l.length : Int) != (m.length : Int)) = false := by rw [bne_eq_false_iff_eq]; omega
    have hle1 : l.length ≤ m.length := by omega
    have hle2 : m.length ≤ l.length := by omega
    have Hlen := Lib.hid hlen
    clear hlen
    go_wp2_with fail
    go_loopw [5] (fun v5 wr => ∃ k : Nat, k ≤ l.length ∧ v5 = .int .i64 k ∧ Hid (l.take k = m.take k) ∧ Mem none_ w [] wr) (fun v _ => l.length - (intOf v).toNat)
    case atStart => exact ⟨0, Nat.zero_le _, rfl, rfl, Mem.start w⟩
    case round =>
      obtain ⟨k, hk, rfl, Hk, HM⟩ := hrel
      by_cases hlt : k < l.length
      · have hlt' : decide ((k : Int) < (l.length : Int)) = true := decide_eq_true (by omega)
        have hltN : decide (k < l.length) = true := decide_eq_true hlt
        have hlm : k < m.length := by omega
        obtain ⟨b, o, rfl, hcells⟩ := g4.resolve_left (by omega)
        obtain ⟨b2, o2, rfl, hcells2⟩ := k4.resolve_left (by omega)
        have pg := tch_get hlt
        have pg2 := tch_get hlm
        have HMd := HM.drew
        have x0 : wr.drew.cell? ⟨b, o + k * 2, none⟩ = some (.int .i64 l[k].1) := Pure.cell HMd.mu (hcells _ _ pg.1)
        have x1 : wr.drew.cell? ⟨b, o + k * 2 + 1, none⟩ = some (.string (ofL l[k].2)) := Pure.cell HMd.mu (hcells _ _ pg.2)
        have y0 : wr.drew.cell? ⟨b2, o2 + k * 2, none⟩ = some (.int .i64 m[k].1) := Pure.cell HMd.mu (hcells2 _ _ pg2.1)
        have y1 : wr.drew.cell? ⟨b2, o2 + k * 2 + 1, none⟩ = some (.string (ofL m[k].2)) := Pure.cell HMd.mu (hcells2 _ _ pg2.2)
        have HS1 : Hid (l.take (k + 1) = l.take k ++ [l[k]]) := List.take_succ_eq_append_getElem hlt
        have HS2 : Hid (m.take (k + 1) = m.take k ++ [m[k]]) := List.take_succ_eq_append_getElem hlm
        have HQ : Hid (l[k] ≠ m[k] → R = false) := fun hne => by
          rw [← HR.out]; refine decide_eq_false fun e => hne ?_
          have := congrArg (fun z => z[k]?) e
          simp only [List.getElem?_eq_getElem hlt, List.getElem?_eq_getElem hlm, Option.some.injEq] at this
          exact this
        have hne := tou_neq l[k].1 m[k].1 l[k].2 m[k].2
        clear hcells hcells2 g4 k4 pg pg2 HM
        generalize l[k] = x at *
        generalize m[k] = y at *
        obtain ⟨xk, xp⟩ := x
        obtain ⟨yk, yp⟩ := y
        simp only at x0 x1 y0 y1 hne
        obtain ⟨E, hE⟩ : ∃ E, decide ((xk, xp) = (yk, yp)) = E := ⟨_, rfl⟩
        rw [hE] at hne
        have He := Lib.hid hE
        clear hE
        go_wp2_with fail
        refine wp_plan [] (S := fun w' => w' = World.drew wr) [(.pure, 0), (.pure, 1), (.pure, 2), (.load, 3), (.pure, 4), (.pure, 5), (.pure, 6), (.load, 7), (.pure, 8)] (by kernel_rfl) rfl (by kernel_rfl) rfl (fun _ _ _ _ _ h => h) rfl ?_
        generalize World.drew wr = W at *
        repeat (first | (refine plan_pure (v := ?_) (a' := ?_) rfl rfl rfl ?_ ?_ ?_; rotate_left 2; (focus (intro w'; go_simp; with_reducible rfl)); (focus (simp only [Act.put, List.setIfInBounds_toArray, List.set_cons_zero, List.set_cons_succ]; rfl))) | (refine plan_load (v := ?_) (a' := ?_) rfl rfl rfl ?_ ?_ ?_; rotate_left 2; (focus (intro w' hw'; rw [hw']; go_simp; with_reducible rfl)); (focus (simp only [Act.put, List.setIfInBounds_toArray, List.set_cons_zero, List.set_cons_succ]; rfl))) | (refine plan_skip rfl rfl (by decide +kernel) (by simp only [Act.put, List.setIfInBounds_toArray, List.set_cons_zero, List.set_cons_succ]; rfl) ?_))
        refine plan_done ?_
        cases E with
        | true =>
          clear hne
          go_wp2_with fail
          go_roundw
          case rel => exact ⟨k + 1, by omega, by go_num, by unfold Hid; rw [HS1.out, HS2.out, Hk.out, of_decide_eq_true He.out], HMd⟩
          case measure => simp [intOf]; omega
        | false =>
          have HE := Lib.hid (HQ.out (of_decide_eq_false He.out))
          clear hne
          go_wp2_with fail
          go_ret
          exact ⟨by rw [HE.out]; rfl, HMd⟩
      · have hlt' : decide ((k : Int) < (l.length : Int)) = false := decide_eq_false (by omega)
        have hltN : decide (k < l.length) = false := decide_eq_false hlt
        have e : k = l.length := by omega
        have HE : Hid (R = true) := by
          have := Hk.out
          rw [e, List.take_length, Hlen.out, List.take_length] at this
          unfold Hid; rw [← HR.out]; exact decide_eq_true this
        clear e
        go_wp2_with fail
        go_ret
        exact ⟨by rw [HE.out]; rfl, HM⟩
  · have d1 : ((l.length : Int) != (m.length : Int)) = true := by rw [bne_iff_ne]; omega
    have HE : Hid (R = false) := by unfold Hid; rw [← HR.out]; exact decide_eq_false (fun e => hlen (by rw [e]))
    clear hlen
    go_wp2_with fail
    go_ret
    exact ⟨by rw [HE.out]; rfl, Mem.start w⟩
theorem rsame_calls (CV TV DV UV : Value) (cs ds : List (List UInt8)) (ts us : List Tou) (w : World) (hC : Txts w CV cs) (hT : Tous w TV ts) (hD : Txts w DV ds) (hU : Tous w UV us) :
    Calls Tryd.prog 30 #[.agg #[CV, TV], .agg #[DV, UV]] w fun e w' => e = .returned (.bool (decide (cs = ds) && decide (ts = us))) ∧ Mem none_ w [] w' := by
  have HM0 := ((Mem.start (fp := none_) w).box #[CV, TV] 52)
  have HM1 := HM0.box #[DV, UV] 52
  have e1 : (w.alloc (.cells #[CV, TV] 52)).heap.size = w.heap.size + 1 := by simp
  rw [e1] at HM1
  have a0 := Blk.cell_ (HM1.at_ 1 rfl) 0
  have b0 := Blk.cell_ (HM1.at_ 0 rfl) 0
  simp only [List.getElem?_toArray, List.getElem?_cons_succ, List.getElem?_cons_zero] at a0 b0
  have hS := sameT_calls CV DV cs ds _ (hC.pure HM1.mu) (hD.pure HM1.mu)
  have hT' := fun wx (hx : Pure w wx) => tsame_calls TV UV ts us wx (hT.pure hx) (hU.pure hx)
  obtain ⟨A, c, rfl, _⟩ := hC
  obtain ⟨A2, c2, rfl, _⟩ := hT
  obtain ⟨A3, c3, rfl, _⟩ := hD
  obtain ⟨A4, c4, rfl, _⟩ := hU
  obtain ⟨E, hE⟩ : ∃ E, decide (cs = ds) = E := ⟨_, rfl⟩
  obtain ⟨G, hG⟩ : ∃ G, decide (ts = us) = G := ⟨_, rfl⟩
  rw [hE] at hS ⊢
  rw [hG] at hT' ⊢
  clear hE hG HM0 e1
  go_enter Tryd.func30, Tryd.ntmps30
  go_wp2_with fail
  clear a0 b0
  generalize World.alloc _ _ = W at *
  refine hS.mono ?_
  rintro e w1 ⟨rfl, HM2⟩
  have HM3 := HM1.got HM2
  simp only [List.nil_append] at HM3
  have a1 := Blk.cell_ (HM3.at_ 1 rfl) 1
  have b1 := Blk.cell_ (HM3.at_ 0 rfl) 1
  simp only [List.getElem?_toArray, List.getElem?_cons_succ, List.getElem?_cons_zero] at a1 b1
  have hT1 := hT' w1 HM3.mu
  clear hS HM1 HM2 hT'
  cases E with
  | true =>
    go_wp2_with fail
    refine hT1.mono ?_
    rintro e w2 ⟨rfl, HM4⟩
    have HM5 := (HM3.got HM4).sel [] (by decide)
    clear hT1 HM3 HM4 a1 b1
    go_wp2_with fail
    go_ret
    exact ⟨rfl, HM5⟩
  | false =>
    have HM5 := HM3.sel [] (by decide)
    clear hT1 HM3
    go_wp2_with fail
    go_ret
    exact ⟨rfl, HM5⟩
end Go.Proofs.YtnpehlkdfbmnkaaDoor
