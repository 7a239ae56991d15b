/-
  Layer 18 (stale): StaleMade.
-/
import Derived.Test.YtnpehlkdfbmnkaaDoorStlWy
set_option linter.unusedVariables false
set_option linter.unusedSimpArgs false
set_option maxRecDepth 20000
namespace Go.Proofs.YtnpehlkdfbmnkaaDoor
open Go.RowKit

theorem made_newer (s : St) (n : NdS) {x : List UInt8} (h : x ∈ n.src) : x ∈ newerS s n [x] := by
  unfold newerS
  rw [List.mem_filter]
  refine ⟨h, ?_⟩
  unfold newerB
  simp
theorem made_why (s : St) (n : NdS) {x : List UInt8} (h : x ∈ n.src) (hc : n.cmds ≠ 0) : whyS s n [x] ≠ 0 := by
  have hn : newerS s n [x] ≠ [] := by
    intro e
    have := made_newer s n h
    rw [e] at this; cases this
  have hs : n.src ≠ [] := by intro e; rw [e] at h; cases h
  unfold whyS
  rw [if_neg hc]
  split
  · decide
  · split
    · decide
    · rw [if_neg (fun e => hs e.2)]
      first | decide | (rw [if_pos hn]; decide)
theorem rem_run (a b : Nat) (hb : 0 < b) (ha : a ≤ 1000000000) (w : World) : (binOp .rem 3 (.int .i64 (a : Int)) (.int .i64 (b : Int))).run Tryd.prog w = .ok (.int .i64 ((a % b : Nat) : Int)) w := by
  have h0 : ¬ ((b : Int) = 0) := by omega
  have h2 : ((b : Int) == 0) = false := by rw [beq_eq_false_iff_ne]; omega
  have h1 : ((a : Int).tmod (b : Int)) = ((a % b : Nat) : Int) := by
    rw [Int.tmod_eq_emod_of_nonneg (by omega)]; rfl
  have hlt : a % b < b := Nat.mod_lt _ hb
  have hle : a % b ≤ a := Nat.mod_le _ _
  have hw : IntKind.i64.wrap (((a % b : Nat) : Int)) = ((a % b : Nat) : Int) := IntWalk.i64_in _ (by omega)
  generalize a % b = m at *
  go_simp
  omega
theorem bare_why (s : St) (n : NdS) (made : List (List UInt8)) (h : n.cmds = 0) : whyS s n made = 0 := by
  unfold whyS; rw [if_pos h]
set_option maxHeartbeats 8000000 in
theorem made_calls (n : NdS) (SV CV AV : Value) (im : ByteArray) (b1 b2 b3 : Bool) (FV : Value) (l : List (List UInt8 × List UInt8)) (u : Nat) (w : World) (hm : MaxV w) (o : NodeO w n SV CV AV)
    (hF : FilesR w FV l) (hlz : l.length ≤ 140737488351232) (hl : ∀ x, x ∈ l → x.1.length ≤ 140737488351232 ∧ x.2.length ≤ 140737488351232) (hu : u < 256) :
    Calls Tryd.prog 3 #[.agg (ndC n SV CV AV im b1 b2 b3), FV, .int .u8 (u : Int)] w fun e w' => e = .returned (.bool true) ∧ Mem none_ w [] w' := by
  have hA := fun wx (hx : Pure w wx) => alive_calls wx (MaxV.pure hx hm)
  have HM0 := (Mem.start (fp := none_) w).box (ndC n SV CV AV im b1 b2 b3) 24
  have hFar := far_calls n SV CV AV FV (.slice none 0 0) im b1 b2 b3 l [] _ (o.pure HM0.mu) (hF.pure HM0.mu) (nilTx _) hl
  have hSt := fun wx (hx : Pure w wx) (h : Near n l []) => stores_calls FV l wx (hF.pure hx) (by have := h.hl; omega) (fun x hx => by have := h.hll x hx; have := hl x hx; omega)
  have O := Lib.hid o
  obtain ⟨⟨A, c, rfl, g1, g2, g3, g4⟩, ⟨A1, c1, rfl, _⟩, ⟨A2, k2, c2, rfl⟩, hnl, hsl⟩ := o
  obtain ⟨A4, c4, rfl, _⟩ := hF
  obtain ⟨nn, nk, ns, nc, nph⟩ := n
  simp only at O hFar HM0 hSt g1 g3 g4 ⊢
  unfold ndC at HM0 hFar ⊢
  simp only at HM0 hFar ⊢
  unfold maxLen at g2
  have z0 := Blk.cell_ (HM0.at_ 0 rfl) 0
  have z1 := Blk.cell_ (HM0.at_ 0 rfl) 1
  have z2 := Blk.cell_ (HM0.at_ 0 rfl) 2
  have z3 := Blk.cell_ (HM0.at_ 0 rfl) 3
  have z4 := Blk.cell_ (HM0.at_ 0 rfl) 4
  have z5 := Blk.cell_ (HM0.at_ 0 rfl) 5
  have z6 := Blk.cell_ (HM0.at_ 0 rfl) 6
  have z7 := Blk.cell_ (HM0.at_ 0 rfl) 7
  have z8 := Blk.cell_ (HM0.at_ 0 rfl) 8
  have z9 := Blk.cell_ (HM0.at_ 0 rfl) 9
  simp only [List.getElem?_toArray, List.getElem?_cons_succ, List.getElem?_cons_zero] at z0 z1 z2 z3 z4 z5 z6 z7 z8 z9
  clear hlz hl hnl hsl g3
  go_enter Tryd.func3, Tryd.ntmps3
  go_wp2_with fail
  generalize World.alloc _ _ = W0 at *
  generalize w.heap.size = nb at *
  refine hFar.mono ?_
  rintro e w1 ⟨b, rfl, hb, HM1⟩
  have HM2 := HM0.got HM1
  simp only [List.nil_append] at HM2
  clear hFar HM0 HM1 z0 z1 z2 z3 z4 z5 z6 z7 z8 z9
  cases b with
  | true =>
    have hA1 := hA w1 HM2.mu
    go_wp2_with fail
    refine hA1.mono ?_
    rintro e wz ⟨rfl, HMz⟩
    have HMy := (HM2.got HMz).sel [] (by decide)
    clear hA1 HM2 HMz 
    go_wp2_with fail
    go_ret
    exact ⟨rfl, HMy⟩
  | false =>
    have hN := hb rfl
    have hS1 := hSt w1 HM2.mu hN
    obtain ⟨n1, n2, n3, n4, n5, n6⟩ := hN
    simp only at n1 n4 n5
    have N5 := Lib.hid n5
    clear hSt hb n5 n6
    generalize storeS l = s at *
    go_wp2_with fail
    refine hS1.mono ?_
    rintro e w2 ⟨sb, mb, nv, rb, lv, rn, rfl, HM3⟩
    have HM4 := (HM2.got HM3).sel [0, 2] (by decide)
    simp only [List.cons_append, List.nil_append, List.filterMap_cons, List.filterMap_nil, List.getElem?_cons_succ, List.getElem?_cons_zero] at HM4
    clear hS1 HM2 HM3
    have z0 := Blk.cell_ (HM4.at_ 1 rfl) 0
    have z1 := Blk.cell_ (HM4.at_ 1 rfl) 1
    have z2 := Blk.cell_ (HM4.at_ 1 rfl) 2
    have z3 := Blk.cell_ (HM4.at_ 1 rfl) 3
    have z4 := Blk.cell_ (HM4.at_ 1 rfl) 4
    have z5 := Blk.cell_ (HM4.at_ 1 rfl) 5
    have z6 := Blk.cell_ (HM4.at_ 1 rfl) 6
    have z7 := Blk.cell_ (HM4.at_ 1 rfl) 7
    have z8 := Blk.cell_ (HM4.at_ 1 rfl) 8
    have z9 := Blk.cell_ (HM4.at_ 1 rfl) 9
    simp only [List.getElem?_toArray, List.getElem?_cons_succ, List.getElem?_cons_zero] at z0 z1 z2 z3 z4 z5 z6 z7 z8 z9
    have hTh := fun wx (hx : Pure w wx) => theirs_calls ⟨nn, nk, ns, nc, nph⟩ (.slice A ns.length c) (.slice A1 nc c1) (.slice A2 k2 c2) im b1 b2 b3 wx (O.out.pure hx)
    unfold ndC at hTh
    simp only at hTh
    have hT1 := hTh w2 HM4.mu
    go_wp2_with fail
    refine hT1.mono ?_
    rintro e w3 ⟨rfl, HM5⟩
    have HM6 := HM4.got HM5
    simp only [List.nil_append] at HM6
    clear hT1 HM4 HM5 z0 z1 z2 z3 z4 z5 z6 z7 z8 z9
    have HMz := HM6.box #[.string ⟨#[]⟩, .int .i64 0, .slice none 0 0, .slice none 0 0, .slice none 0 0, .string ⟨#[]⟩, .bool false, .bool false, .bool false, .bool false] 32
    have HMb := HM6.box #[.string (ofL nn), .int .i64 nk, .slice A ns.length c, .slice none 0 0, .slice none 0 0, .string ⟨#[]⟩, .bool nph, .bool false, .bool false, .bool false] 32
    have z0 := Blk.cell_ (HMz.at_ 0 rfl) 0
    have z1 := Blk.cell_ (HMz.at_ 0 rfl) 1
    have z2 := Blk.cell_ (HMz.at_ 0 rfl) 2
    have z3 := Blk.cell_ (HMz.at_ 0 rfl) 3
    have z4 := Blk.cell_ (HMz.at_ 0 rfl) 4
    have z5 := Blk.cell_ (HMz.at_ 0 rfl) 5
    have z6 := Blk.cell_ (HMz.at_ 0 rfl) 6
    have z7 := Blk.cell_ (HMz.at_ 0 rfl) 7
    have z8 := Blk.cell_ (HMz.at_ 0 rfl) 8
    have z9 := Blk.cell_ (HMz.at_ 0 rfl) 9
    simp only [List.getElem?_toArray, List.getElem?_cons_succ, List.getElem?_cons_zero] at z0 z1 z2 z3 z4 z5 z6 z7 z8 z9
    have f0 := Blk.frozen (HMz.at_ 0 rfl) 0
    have f1 := Blk.frozen (HMz.at_ 0 rfl) 1
    have f2 := Blk.frozen (HMz.at_ 0 rfl) 2
    have f3 := Blk.frozen (HMz.at_ 0 rfl) 3
    have f4 := Blk.frozen (HMz.at_ 0 rfl) 4
    have f5 := Blk.frozen (HMz.at_ 0 rfl) 5
    have f6 := Blk.frozen (HMz.at_ 0 rfl) 6
    have f7 := Blk.frozen (HMz.at_ 0 rfl) 7
    have f8 := Blk.frozen (HMz.at_ 0 rfl) 8
    have f9 := Blk.frozen (HMz.at_ 0 rfl) 9
    have y0 := Blk.cell_ (HMb.at_ 0 rfl) 0
    have y1 := Blk.cell_ (HMb.at_ 0 rfl) 1
    have y2 := Blk.cell_ (HMb.at_ 0 rfl) 2
    have y3 := Blk.cell_ (HMb.at_ 0 rfl) 3
    have y4 := Blk.cell_ (HMb.at_ 0 rfl) 4
    have y5 := Blk.cell_ (HMb.at_ 0 rfl) 5
    have y6 := Blk.cell_ (HMb.at_ 0 rfl) 6
    have y7 := Blk.cell_ (HMb.at_ 0 rfl) 7
    have y8 := Blk.cell_ (HMb.at_ 0 rfl) 8
    have y9 := Blk.cell_ (HMb.at_ 0 rfl) 9
    simp only [List.getElem?_toArray, List.getElem?_cons_succ, List.getElem?_cons_zero] at y0 y1 y2 y3 y4 y5 y6 y7 y8 y9
    have x2 := Blk.cell_ (HMb.at_ 2 rfl) 2
    simp only [List.getElem?_toArray, List.getElem?_cons_succ, List.getElem?_cons_zero] at x2
    have hW1 := why_calls (HMb.at_ 1 rfl) ⟨nn, nk, ns, 0, nph⟩ (.slice A ns.length c) (.slice none 0 0) (.slice none 0 0) (.slice A ns.length c) ⟨#[]⟩ false false false ns (O.out.s.pure HMb.mu) (O.out.s.pure HMb.mu) (by show nn.length ≤ _; omega) (fun x hx => by have := N5.out x hx; omega) (by show ns.length ≤ _; omega) (by omega) ⟨_, _, rfl⟩ ⟨_, _, _, rfl⟩
    rw [bare_why _ _ _ rfl] at hW1
    unfold ndC at hW1
    simp only at hW1
    have HMb' := Lib.hid HMb
    clear HMz HMb HM6
    go_wp2_with fail
    clear z0 z1 z2 z3 z4 z5 z6 z7 z8 z9 f0 y0 f1 y1 f2 y2 f3 y3 f4 y4 f5 y5 f6 y6 f7 y7 f8 y8 f9 y9 x2
    have HMb := HMb'.out
    clear HMb'
    generalize World.alloc _ _ = W4 at *
    generalize w3.heap.size = bb at *
    refine hW1.mono ?_
    rintro e w5 ⟨rfl, HM7⟩
    have HM8 := (HMb.got HM7).sel [1, 2] (by decide)
    simp only [List.cons_append, List.nil_append, List.filterMap_cons, List.filterMap_nil, List.getElem?_cons_succ, List.getElem?_cons_zero] at HM8
    clear hW1 HMb HM7
    have z0 := Blk.cell_ (HM8.at_ 1 rfl) 0
    have z1 := Blk.cell_ (HM8.at_ 1 rfl) 1
    have z2 := Blk.cell_ (HM8.at_ 1 rfl) 2
    have z3 := Blk.cell_ (HM8.at_ 1 rfl) 3
    have z4 := Blk.cell_ (HM8.at_ 1 rfl) 4
    have z5 := Blk.cell_ (HM8.at_ 1 rfl) 5
    have z6 := Blk.cell_ (HM8.at_ 1 rfl) 6
    have z7 := Blk.cell_ (HM8.at_ 1 rfl) 7
    have z8 := Blk.cell_ (HM8.at_ 1 rfl) 8
    have z9 := Blk.cell_ (HM8.at_ 1 rfl) 9
    simp only [List.getElem?_toArray, List.getElem?_cons_succ, List.getElem?_cons_zero] at z0 z1 z2 z3 z4 z5 z6 z7 z8 z9
    by_cases hs0 : ns.length = 0
    · have q1 : ((ns.length : Int) == 0) = true := by rw [beq_iff_eq]; omega
      clear hs0
      have hA1 := hA w5 HM8.mu
      go_wp2_with fail
      refine hA1.mono ?_
      rintro e wz ⟨rfl, HMz⟩
      have HMy := (HM8.got HMz).sel [] (by decide)
      clear hA1 HM8 HMz z0 z1 z2 z3 z4 z5 z6 z7 z8 z9
      go_wp2_with fail
      go_ret
      exact ⟨rfl, HMy⟩
    · have q1 : ((ns.length : Int) == 0) = false := by rw [beq_eq_false_iff_ne]; omega
      by_cases hc0 : nc = 0
      · have q2 : ((nc : Int) == 0) = true := by rw [beq_iff_eq]; omega
        clear hs0 hc0
        have hA1 := hA w5 HM8.mu
        go_wp2_with fail
        refine hA1.mono ?_
        rintro e wz ⟨rfl, HMz⟩
        have HMy := (HM8.got HMz).sel [] (by decide)
        clear hA1 HM8 HMz z0 z1 z2 z3 z4 z5 z6 z7 z8 z9
        go_wp2_with fail
        go_ret
        exact ⟨rfl, HMy⟩
      · have q2 : ((nc : Int) == 0) = false := by rw [beq_eq_false_iff_ne]; omega
        have hi : u % ns.length < ns.length := Nat.mod_lt _ (by omega)
        obtain ⟨ba, oa, rfl, hcells⟩ := g4.resolve_left (by omega)
        have HMd := HM8.drew
        have hx0 : w5.drew.cell? ⟨ba, oa + u % ns.length, none⟩ = some (.string (ofL ns[u % ns.length])) := HMd.mu.cell (hcells _ _ (tx_get hi)) (fun h => h)
        have hmem : ns[u % ns.length] ∈ ns := List.getElem_mem hi
        have hwy := made_why s ⟨nn, nk, ns, nc, nph⟩ hmem hc0
        have hnw := made_newer s ⟨nn, nk, ns, nc, nph⟩ hmem
        have Hnc := Lib.hid hc0
        have him : ((u : Int).tmod (ns.length : Int)) = ((u % ns.length : Nat) : Int) := by
          rw [Int.tmod_eq_emod_of_nonneg (by omega)]; rfl
        have hwi : IntKind.i64.wrap (((u % ns.length : Nat) : Int)) = ((u % ns.length : Nat) : Int) := IntWalk.i64_in _ (by omega)
        have hsn : ¬ ns = [] := fun e => hs0 (by rw [e]; rfl)
        have hs0' : ¬ ns.length = 0 := hs0
        have hwu : IntKind.i64.wrap (u : Int) = (u : Int) := IntWalk.i64_in _ (by omega)
        have hxl := N5.out _ hmem
        have hsz : ¬ ((ns.length : Int) = 0) := by omega
        clear g4 hcells hmem hc0 hs0
        generalize ns[u % ns.length] = x at *
        generalize u % ns.length = i at *
        have hiI : (i : Int) < (ns.length : Int) := by omega
        go_wp2_with fail
        clear z0 z1 z3 z4 z5 z6 z7 z8 z9
        have z0 := Blk.cell_ (HMd.at_ 1 rfl) 0
        have z1 := Blk.cell_ (HMd.at_ 1 rfl) 1
        have z2 := Blk.cell_ (HMd.at_ 1 rfl) 2
        have z3 := Blk.cell_ (HMd.at_ 1 rfl) 3
        have z4 := Blk.cell_ (HMd.at_ 1 rfl) 4
        have z5 := Blk.cell_ (HMd.at_ 1 rfl) 5
        have z6 := Blk.cell_ (HMd.at_ 1 rfl) 6
        have z7 := Blk.cell_ (HMd.at_ 1 rfl) 7
        have z8 := Blk.cell_ (HMd.at_ 1 rfl) 8
        have z9 := Blk.cell_ (HMd.at_ 1 rfl) 9
        simp only [List.getElem?_toArray, List.getElem?_cons_succ, List.getElem?_cons_zero] at z0 z1 z2 z3 z4 z5 z6 z7 z8 z9
        refine wp_plan [] (S := fun w' => w' = World.drew _) [(.pure, 0), (.load, 1), (.pure, 2), (.pure, 3), (.pure, 4), (.load, 5), (.pure, 6), (.pure, 7), (.pure, 8), (.load, 9), (.pure, 10)] (by kernel_rfl) rfl (by kernel_rfl) rfl (fun _ _ _ _ _ h => h) rfl ?_
        generalize World.drew _ = W at *
        repeat (first | (refine plan_pure (v := ?_) (a' := ?_) rfl rfl rfl ?_ ?_ ?_; rotate_left 2; (focus (intro w'; go_simp; with_reducible rfl)); (focus (simp only [Act.put, List.setIfInBounds_toArray, List.set_cons_zero, List.set_cons_succ]; rfl))) | (refine plan_load (v := ?_) (a' := ?_) rfl rfl rfl ?_ ?_ ?_; rotate_left 2; (focus (intro w' hw'; rw [hw']; go_simp; with_reducible rfl)); (focus (simp only [Act.put, List.setIfInBounds_toArray, List.set_cons_zero, List.set_cons_succ]; rfl))) | (refine plan_skip rfl rfl (by decide +kernel) (by simp only [Act.put, List.setIfInBounds_toArray, List.set_cons_zero, List.set_cons_succ]; rfl) ?_))
        refine plan_done ?_
        clear z0 z1 z2 z3 z4 z5 z6 z7 z8 z9
        have z0 := Blk.cell_ (HMd.at_ 1 rfl) 0
        have z1 := Blk.cell_ (HMd.at_ 1 rfl) 1
        have z2 := Blk.cell_ (HMd.at_ 1 rfl) 2
        have z3 := Blk.cell_ (HMd.at_ 1 rfl) 3
        have z4 := Blk.cell_ (HMd.at_ 1 rfl) 4
        have z5 := Blk.cell_ (HMd.at_ 1 rfl) 5
        have z6 := Blk.cell_ (HMd.at_ 1 rfl) 6
        have z7 := Blk.cell_ (HMd.at_ 1 rfl) 7
        have z8 := Blk.cell_ (HMd.at_ 1 rfl) 8
        have z9 := Blk.cell_ (HMd.at_ 1 rfl) 9
        simp only [List.getElem?_toArray, List.getElem?_cons_succ, List.getElem?_cons_zero] at z0 z1 z2 z3 z4 z5 z6 z7 z8 z9
        have hT1 := hTh W HMd.mu
        go_wp2_with fail
        refine hT1.mono ?_
        rintro e w6 ⟨rfl, HM5⟩
        have HM6 := HMd.got HM5
        simp only [List.nil_append] at HM6
        clear hT1 HMd HM5 hx0 z0 z1 z2 z3 z4 z5 z6 z7 z8 z9
        have HM7 := HM6.lit 9 1 1 (strs ([x].map ofL)) rfl (by unfold maxLen; omega)
        have e1 : (strs ([x].map ofL)).toArray = #[.string (ofL x)] := rfl
        rw [e1] at HM7
        clear e1
        have hN1 := newer_calls (HM7.at_ 1 rfl) ⟨nn, nk, ns, nc, nph⟩ (.slice (some ⟨ba, oa, none⟩) ns.length c) (.slice A1 nc c1) (.slice none 0 0) (.slice (some ⟨w6.heap.size, 0, none⟩) 1 1) ⟨#[]⟩ false false false [x] (O.out.s.pure HM7.mu) (Row.sl (HM7.at_ 0 rfl)) (by show nn.length ≤ _; omega) (fun x hx => by have := N5.out x hx; omega) (by show ns.length ≤ _; omega) (by simp) ⟨_, _, _, rfl⟩ ⟨_, _, _, rfl⟩
        unfold ndC at hN1
        simp only at hN1
        obtain ⟨L, hL⟩ : ∃ L, newerS s ⟨nn, nk, ns, nc, nph⟩ [x] = L := ⟨_, rfl⟩
        rw [hL] at hN1 hnw
        clear hL HM6
        go_wp2_with fail
        generalize World.alloc _ _ = W7 at *
        refine hN1.mono ?_
        rintro e w7 ⟨vn, rfl, HM8⟩
        have HM9 := (HM7.got HM8).sel [0, 2, 3] (by decide)
        simp only [List.cons_append, List.nil_append, List.filterMap_cons, List.filterMap_nil, List.getElem?_cons_succ, List.getElem?_cons_zero] at HM9
        obtain ⟨A9, c9, rfl, _, _⟩ := Row.any_ (HM9.at_ 0 rfl)
        clear hN1 HM7 HM8
        have z0 := Blk.cell_ (HM9.at_ 2 rfl) 0
        have z1 := Blk.cell_ (HM9.at_ 2 rfl) 1
        have z2 := Blk.cell_ (HM9.at_ 2 rfl) 2
        have z3 := Blk.cell_ (HM9.at_ 2 rfl) 3
        have z4 := Blk.cell_ (HM9.at_ 2 rfl) 4
        have z5 := Blk.cell_ (HM9.at_ 2 rfl) 5
        have z6 := Blk.cell_ (HM9.at_ 2 rfl) 6
        have z7 := Blk.cell_ (HM9.at_ 2 rfl) 7
        have z8 := Blk.cell_ (HM9.at_ 2 rfl) 8
        have z9 := Blk.cell_ (HM9.at_ 2 rfl) 9
        simp only [List.getElem?_toArray, List.getElem?_cons_succ, List.getElem?_cons_zero] at z0 z1 z2 z3 z4 z5 z6 z7 z8 z9
        have hT1 := hTh w7 HM9.mu
        go_wp2_with fail
        refine hT1.mono ?_
        rintro e w8 ⟨rfl, HM5⟩
        have HM6 := HM9.got HM5
        simp only [List.nil_append] at HM6
        clear hT1 HM9 HM5 z0 z1 z2 z3 z4 z5 z6 z7 z8 z9
        have HM7 := HM6.lit 9 1 1 (strs ([x].map ofL)) rfl (by unfold maxLen; omega)
        have e1 : (strs ([x].map ofL)).toArray = #[.string (ofL x)] := rfl
        rw [e1] at HM7
        clear e1
        have hW1 := why_calls (HM7.at_ 2 rfl) ⟨nn, nk, ns, nc, nph⟩ (.slice (some ⟨ba, oa, none⟩) ns.length c) (.slice A1 nc c1) (.slice none 0 0) (.slice (some ⟨w8.heap.size, 0, none⟩) 1 1) ⟨#[]⟩ false false false [x] (O.out.s.pure HM7.mu) (Row.sl (HM7.at_ 0 rfl)) (by show nn.length ≤ _; omega) (fun x hx => by have := N5.out x hx; omega) (by show ns.length ≤ _; omega) (by simp) ⟨_, _, rfl⟩ ⟨_, _, _, rfl⟩
        unfold ndC at hW1
        simp only at hW1
        have qE : ((whyS s ⟨nn, nk, ns, nc, nph⟩ [x]) != 0) = true := by rw [bne_iff_ne]; exact hwy
        clear hwy
        generalize whyS s ⟨nn, nk, ns, nc, nph⟩ [x] = E at *
        clear HM6
        go_wp2_with fail
        generalize World.alloc _ _ = W8 at *
        refine hW1.mono ?_
        rintro e w9 ⟨rfl, HM8⟩
        have HM9 := (HM7.got HM8).sel [1] (by decide)
        simp only [List.cons_append, List.nil_append, List.filterMap_cons, List.filterMap_nil, List.getElem?_cons_succ, List.getElem?_cons_zero] at HM9
        have hH := has_calls (.slice A9 L.length c9) L x w9 (Row.sl (HM9.at_ 0 rfl))
        rw [decide_eq_true hnw] at hH
        clear hW1 HM7 HM8
        go_wp2_with fail
        refine hH.mono ?_
        rintro e wx ⟨rfl, rfl⟩
        clear hH
        have hA1 := hA w9 HM9.mu
        go_wp2_with fail
        refine hA1.mono ?_
        rintro e wz ⟨rfl, HMz⟩
        have HMy := (HM9.got HMz).sel [] (by decide)
        clear hA1 HM9 HMz
        go_wp2_with fail
        go_ret
        exact ⟨rfl, HMy⟩
end Go.Proofs.YtnpehlkdfbmnkaaDoor
