/-
  Layer 18 (stale): StaleSeen.
-/
import Derived.Test.YtnpehlkdfbmnkaaDoorStlCh
import Derived.Test.YtnpehlkdfbmnkaaDoorStlFr
import Derived.Test.YtnpehlkdfbmnkaaDoorStlWy
import Derived.Test.YtnpehlkdfbmnkaaDoorStlBk
set_option linter.unusedVariables false
set_option linter.unusedSimpArgs false
set_option maxRecDepth 20000
namespace Go.Proofs.YtnpehlkdfbmnkaaDoor
open Go.RowKit

/-- What is asked. -/
structure AskO (w : World) (KV : Value) (ks : List (List UInt8)) (nm : List UInt8) : Prop where
  c : Txts w KV ks
  n : nm.length ≤ 140737488351232
theorem zero_node (w : World) : NodeO w ⟨[], 0, [], 0, false⟩ (.slice none 0 0) (.slice none 0 0) (.slice none 0 0) := ⟨nilTx w, ⟨_, _, rfl, Nat.zero_le _⟩, ⟨_, _, _, rfl⟩, Nat.zero_le _, fun x hx => by cases hx⟩
set_option maxHeartbeats 8000000 in
theorem seen_calls (CV TV : Value) (cs : List (List UInt8)) (ts : List Tou) (FV : Value) (l : List (List UInt8 × List UInt8)) (KV : Value) (ks : List (List UInt8)) (at_ : Int) (nm : List UInt8) (w : World) (hm : MaxV w) (o : MetaO w CV TV cs ts)
    (hF : FilesR w FV l) (hlz : l.length ≤ 140737488351232) (hl : ∀ x, x ∈ l → x.1.length ≤ 140737488351232 ∧ x.2.length ≤ 140737488351232) (k : AskO w KV ks nm) :
    Calls Tryd.prog 9 #[.agg #[CV, TV], FV, .agg #[KV, .int .i64 at_, .string (ofL nm)]] w fun e w' => e = .returned (.bool true) ∧ Mem none_ w [] w' := by
  have hA := fun wx (hx : Pure w wx) => alive_calls wx (MaxV.pure hx hm)
  obtain ⟨hC, hT, hcl, htl⟩ := o
  obtain ⟨hK, hnm⟩ := k
  have hz := ofL_size nm
  have HM0 := ((Mem.start (fp := none_) w).box #[CV, TV] 52).box #[KV, .int .i64 at_, .string (ofL nm)] 69
  have e1 : (w.alloc (.cells #[CV, TV] 52)).heap.size = w.heap.size + 1 := by simp
  rw [e1] at HM0
  clear e1
  have hMu := much_calls CV TV cs ts _ (hC.pure HM0.mu) (hT.pure HM0.mu) hcl htl
  have hFar := fun wx (hx : Pure w wx) => far_calls ⟨[], 0, [], 0, false⟩ (.slice none 0 0) (.slice none 0 0) (.slice none 0 0) FV (.slice none 0 0) ⟨#[]⟩ false false false l [] wx (zero_node wx) (hF.pure hx) (nilTx wx) hl
  have hSt := fun wx (hx : Pure w wx) (h : Near ⟨[], 0, [], 0, false⟩ l []) => stores_calls FV l wx (hF.pure hx) (by have := h.hl; omega) (fun x hx => by have := h.hll x hx; have := hl x hx; omega)
  have hSe := fun wx (hx : Pure w wx) (hs : Small cs ts) => sseen_calls TV ts wx (hT.pure hx) (by have := hs.t; omega)
  have hSr := fun wx (hx : Pure w wx) (hs : Small cs ts) => rseen_calls TV ts wx (hT.pure hx) (by have := hs.t; omega)
  have hCs := Lib.hid (fun wx (hx : Pure w wx) (hs : Small cs ts) sb mb nv s (h : (StoreC sb mb nv s).ok wx) => schg_calls h CV TV KV cs ks ts at_ (hC.pure hx) (hT.pure hx) (hK.pure hx) (by have := hs.t; omega) (fun x hx => by have := hs.tl x hx; omega) (by have := hs.c; omega))
  have hCr := Lib.hid (fun wx (hx : Pure w wx) (hs : Small cs ts) rb lv rn s (h : (RefC rb lv rn s).ok wx) (hlen : s.files.length ≤ 512) => rchg_calls h hlen CV TV KV cs ks ts at_ (hC.pure hx) (hT.pure hx) (hK.pure hx) (by have := hs.t; omega) (fun x hx => by have := hs.tl x hx; omega))
  obtain ⟨A, c, rfl, _⟩ := hC
  obtain ⟨A2, c2, rfl, _⟩ := hT
  obtain ⟨A3, c3, rfl, _⟩ := hK
  obtain ⟨A4, c4, rfl, _⟩ := hF
  have a0 := Blk.cell_ (HM0.at_ 1 rfl) 0
  have a1 := Blk.cell_ (HM0.at_ 1 rfl) 1
  simp only [List.getElem?_toArray, List.getElem?_cons_succ, List.getElem?_cons_zero] at a0 a1
  have d0 := Blk.cell_ (HM0.at_ 0 rfl) 0
  have d1 := Blk.cell_ (HM0.at_ 0 rfl) 1
  have d2 := Blk.cell_ (HM0.at_ 0 rfl) 2
  simp only [List.getElem?_toArray, List.getElem?_cons_succ, List.getElem?_cons_zero] at d0 d1 d2
  clear hcl htl hlz hl
  unfold ndC at hFar
  go_enter Tryd.func9, Tryd.ntmps9
  go_wp2_with fail
  generalize World.alloc _ _ = W0 at *
  generalize w.heap.size + 1 = n5 at *
  generalize w.heap.size = n3 at *
  refine hMu.mono ?_
  rintro e w1 ⟨b, rfl, hb, HM1⟩
  have HM2 := HM0.got HM1
  simp only [List.nil_append] at HM2
  clear hMu HM0 HM1 a0 a1 d0 d1 d2
  have d0 := Blk.cell_ (HM2.at_ 0 rfl) 0
  have d1 := Blk.cell_ (HM2.at_ 0 rfl) 1
  have d2 := Blk.cell_ (HM2.at_ 0 rfl) 2
  simp only [List.getElem?_toArray, List.getElem?_cons_succ, List.getElem?_cons_zero] at d0 d1 d2
  cases b with
  | true =>
    have hA1 := hA w1 HM2.mu
    go_wp2_with fail
    refine hA1.mono ?_
    rintro e wz ⟨rfl, HMz⟩
    have HMy := (HM2.got HMz).sel [] (by decide)
    clear hA1 HM2 HMz
    go_wp2_with fail
    go_ret
    exact ⟨rfl, HMy⟩
  | false =>
    have hS := hb rfl
    have hF1 := hFar w1 HM2.mu
    clear hFar hb
    go_wp2_with fail
    refine hF1.mono ?_
    rintro e w1' ⟨b, rfl, hb, HM1⟩
    have HM3 := HM2.got HM1
    simp only [List.nil_append] at HM3
    clear hF1 HM1 HM2 d0 d1 d2
    have d0 := Blk.cell_ (HM3.at_ 0 rfl) 0
    have d1 := Blk.cell_ (HM3.at_ 0 rfl) 1
    have d2 := Blk.cell_ (HM3.at_ 0 rfl) 2
    simp only [List.getElem?_toArray, List.getElem?_cons_succ, List.getElem?_cons_zero] at d0 d1 d2
    cases b with
    | true =>
      have hA1 := hA w1' HM3.mu
      go_wp2_with fail
      refine hA1.mono ?_
      rintro e wz ⟨rfl, HMz⟩
      have HMy := (HM3.got HMz).sel [] (by decide)
      clear hA1 HM3 HMz
      go_wp2_with fail
      go_ret
      exact ⟨rfl, HMy⟩
    | false =>
      have hN := hb rfl
      have hS1 := hSt w1' HM3.mu hN
      obtain ⟨m1, m2, m3, m4, m5, m6⟩ := hN
      obtain ⟨hG, hck, hno⟩ := storeS_good (l := l) (fun x hx => by have := m6 x hx; omega)
      have hlen := hG.len
      clear hSt hb hck hno hG m1 m2 m3 m4 m5 m6
      generalize storeS l = s at *
      by_cases hbig : 1000 < nm.length
      · have q1 : decide ((1000 : Int) < (nm.length : Int)) = true := decide_eq_true (by omega)
        have q1' : decide (1000 < nm.length) = true := decide_eq_true hbig
        clear hS1 hlen hS
        have hA1 := hA w1' HM3.mu
        go_wp2_with fail
        refine hA1.mono ?_
        rintro e wz ⟨rfl, HMz⟩
        have HMy := (HM3.got HMz).sel [] (by decide)
        clear hA1 HM3 HMz
        go_wp2_with fail
        go_ret
        exact ⟨rfl, HMy⟩
      · have q1 : decide ((1000 : Int) < (nm.length : Int)) = false := decide_eq_false (by omega)
        have q1' : decide (1000 < nm.length) = false := decide_eq_false hbig
        have hFs : ∀ wx, Pure w wx → Calls Tryd.prog 24 #[.string (ofL nm)] wx fun e w' => e = .returned (.string (ofL (fileL nm))) ∧ Mem none_ wx [] w' := fun wx hx => (file_calls nm wx (MaxV.pure hx hm) (by omega)).mono fun e w' h => ⟨h.1, (Mem.start (fp := none_) wx).keep h.2⟩
        have hFr := fun wx => rfile_calls nm wx (by omega)
        go_wp2_with fail
        refine hS1.mono ?_
        rintro e w2 ⟨sb, mb, nv, rb, lv, rn, rfl, HM4⟩
        have HM5 := HM3.got HM4
        simp only [List.cons_append, List.nil_append] at HM5
        clear hS1 HM3 HM4 d0 d1 d2
        have a0 := Blk.cell_ (HM5.at_ 3 rfl) 0
        have a1 := Blk.cell_ (HM5.at_ 3 rfl) 1
        simp only [List.getElem?_toArray, List.getElem?_cons_succ, List.getElem?_cons_zero] at a0 a1
        have HMb := HM5.box #[.slice none 0 0, .slice none 0 0] 56
        have HMc := HM5.box #[.slice A cs.length c, .slice A2 ts.length c2] 56
        have b0 := Blk.cell_ (HMb.at_ 0 rfl) 0
        have b1 := Blk.cell_ (HMb.at_ 0 rfl) 1
        simp only [List.getElem?_toArray, List.getElem?_cons_succ, List.getElem?_cons_zero] at b0 b1
        have fb0 := Blk.frozen (HMb.at_ 0 rfl) 0
        have fb1 := Blk.frozen (HMb.at_ 0 rfl) 1
        clear HMb HM5
        have HMc' := Lib.hid HMc.drew
        clear HMc
        go_wp2_with fail
        clear a0 a1 b0 b1 fb0 fb1
        have HMc := HMc'.out
        clear HMc'
        generalize World.alloc _ _ = W5 at *
        generalize w2.heap.size = n9 at *
        have a0 := Blk.cell_ (HMc.at_ 4 rfl) 0
        have a1 := Blk.cell_ (HMc.at_ 4 rfl) 1
        simp only [List.getElem?_toArray, List.getElem?_cons_succ, List.getElem?_cons_zero] at a0 a1
        have d0 := Blk.cell_ (HMc.at_ 3 rfl) 0
        have d1 := Blk.cell_ (HMc.at_ 3 rfl) 1
        have d2 := Blk.cell_ (HMc.at_ 3 rfl) 2
        simp only [List.getElem?_toArray, List.getElem?_cons_succ, List.getElem?_cons_zero] at d0 d1 d2
        have b0 := Blk.cell_ (HMc.at_ 0 rfl) 0
        have b1 := Blk.cell_ (HMc.at_ 0 rfl) 1
        simp only [List.getElem?_toArray, List.getElem?_cons_succ, List.getElem?_cons_zero] at b0 b1
        have z0 := a0
        have z1 := a1
        have z2 := d0
        have z3 := d1
        have z4 := d2
        have z5 := b0
        have z6 := b1
        clear a0 a1 d0 d1 d2 b0 b1
        obtain ⟨E, hE⟩ : ∃ E, chgB cs ks ts at_ s = E := ⟨_, rfl⟩
        have hC1 := Lib.hid (fun wx hx h => hCs.out wx hx hS sb mb nv s h)
        have hC2 := Lib.hid (fun wx hx h => hCr.out wx hx hS rb lv rn s h hlen)
        rw [hE] at hC1 hC2
        have hSe1 := fun wx hx => hSe wx hx hS
        have hSr1 := fun wx hx => hSr wx hx hS
        clear hCs hCr hE hSe hSr hS hlen hbig
        generalize seenL ts = L at *
        generalize fileL nm = T at *
        have qE : (E == E) = true := beq_self_eq_true E
        have qT : ((ofL T).toList == (ofL T).toList) = true := by rw [str_eq]; exact decide_eq_true rfl
        refine wp_plan [] (S := fun w' => Hid (w'.cell? ⟨n3, 0, none⟩ = some (.slice A cs.length c) ∧ w'.cell? ⟨n3, 1, none⟩ = some (.slice A2 ts.length c2) ∧ w'.cell? ⟨n5, 0, none⟩ = some (.slice A3 ks.length c3) ∧ w'.cell? ⟨n5, 1, none⟩ = some (.int .i64 at_) ∧ w'.cell? ⟨n5, 2, none⟩ = some (.string (ofL nm)) ∧ w'.cell? ⟨n9, 0, none⟩ = some (.slice A cs.length c) ∧ w'.cell? ⟨n9, 1, none⟩ = some (.slice A2 ts.length c2))) [(.pure, 0), (.pure, 3), (.load, 1), (.load, 4), (.eff, 2), (.eff, 5), (.eff, 6), (.pure, 7), (.load, 8), (.pure, 9), (.pure, 11), (.pure, 13), (.load, 15), (.pure, 16), (.pure, 18), (.pure, 20), (.load, 10), (.load, 12), (.load, 17), (.load, 19), (.eff, 14), (.eff, 21), (.pure, 22), (.pure, 23), (.pure, 24), (.pure, 25), (.pure, 28), (.load, 26), (.load, 29), (.eff, 27), (.eff, 30), (.pure, 31), (.pure, 32), (.pure, 33), (.eff, 34), (.pure, 35), (.pure, 36)] (by kernel_rfl) rfl (by kernel_rfl) rfl (fun _ _ _ _ _ h => h) (Lib.hid (And.intro (z0) (And.intro (z1) (And.intro (z2) (And.intro (z3) (And.intro (z4) (And.intro (z5) (z6)))))))) ?_
        generalize World.drew _ = W at *
        have HZ := Lib.hid (And.intro (z0) (And.intro (z1) (And.intro (z2) (And.intro (z3) (And.intro (z4) (And.intro (z5) (z6)))))))
        clear z0 z1 z2 z3 z4 z5 z6
        repeat (first | (refine plan_pure (v := ?_) (a' := ?_) rfl rfl rfl ?_ ?_ ?_; rotate_left 2; (focus (intro w'; go_simp; with_reducible rfl)); (focus (simp only [Act.put, List.setIfInBounds_toArray, List.set_cons_zero, List.set_cons_succ]; rfl))) | (refine plan_load (v := ?_) (a' := ?_) rfl rfl rfl ?_ ?_ ?_; rotate_left 2; (focus (intro w' hw'; obtain ⟨q0, q1, q2, q3, q4, q5, q6⟩ := hw'.out; clear hw'; go_simp; with_reducible rfl)); (focus (simp only [Act.put, List.setIfInBounds_toArray, List.set_cons_zero, List.set_cons_succ]; rfl))) | (refine plan_skip rfl rfl (by decide +kernel) (by simp only [Act.put, List.setIfInBounds_toArray, List.set_cons_zero, List.set_cons_succ]; rfl) ?_))
        have hc1 := hSe1 W HMc.mu
        refine plan_eff rfl (fun K hK => ?_)
        go_wp2_with fail
        refine hc1.mono ?_
        rintro e u1w ⟨v1, rfl, HC1⟩
        have HN1 := HMc.got HC1
        simp only [List.cons_append, List.nil_append] at HN1
        obtain ⟨z0, z1, z2, z3, z4, z5, z6⟩ := HZ.out
        have HZ1 := Lib.hid (And.intro (HC1.mu.cell z0 (fun h => h)) (And.intro (HC1.mu.cell z1 (fun h => h)) (And.intro (HC1.mu.cell z2 (fun h => h)) (And.intro (HC1.mu.cell z3 (fun h => h)) (And.intro (HC1.mu.cell z4 (fun h => h)) (And.intro (HC1.mu.cell z5 (fun h => h)) (HC1.mu.cell z6 (fun h => h))))))))
        clear hc1 HZ HMc HC1 z0 z1 z2 z3 z4 z5 z6
        have HZ := HZ1
        obtain ⟨A8, c8, rfl, _, _⟩ := Row.any_ (HN1.at_ 0 rfl)
        go_wp2_with fail
        refine hK _ _ HZ1 ?_
        clear hK HZ1
        repeat (first | (refine plan_pure (v := ?_) (a' := ?_) rfl rfl rfl ?_ ?_ ?_; rotate_left 2; (focus (intro w'; go_simp; with_reducible rfl)); (focus (simp only [Act.put, List.setIfInBounds_toArray, List.set_cons_zero, List.set_cons_succ]; rfl))) | (refine plan_load (v := ?_) (a' := ?_) rfl rfl rfl ?_ ?_ ?_; rotate_left 2; (focus (intro w' hw'; obtain ⟨q0, q1, q2, q3, q4, q5, q6⟩ := hw'.out; clear hw'; go_simp; with_reducible rfl)); (focus (simp only [Act.put, List.setIfInBounds_toArray, List.set_cons_zero, List.set_cons_succ]; rfl))) | (refine plan_skip rfl rfl (by decide +kernel) (by simp only [Act.put, List.setIfInBounds_toArray, List.set_cons_zero, List.set_cons_succ]; rfl) ?_))
        have hc2 := hSr1 u1w HN1.mu
        refine plan_eff rfl (fun K hK => ?_)
        go_wp2_with fail
        refine hc2.mono ?_
        rintro e u2w ⟨v2, rfl, HC2⟩
        have HN2 := HN1.got HC2
        simp only [List.cons_append, List.nil_append] at HN2
        obtain ⟨z0, z1, z2, z3, z4, z5, z6⟩ := HZ.out
        have HZ2 := Lib.hid (And.intro (HC2.mu.cell z0 (fun h => h)) (And.intro (HC2.mu.cell z1 (fun h => h)) (And.intro (HC2.mu.cell z2 (fun h => h)) (And.intro (HC2.mu.cell z3 (fun h => h)) (And.intro (HC2.mu.cell z4 (fun h => h)) (And.intro (HC2.mu.cell z5 (fun h => h)) (HC2.mu.cell z6 (fun h => h))))))))
        clear hc2 HZ HN1 HC2 z0 z1 z2 z3 z4 z5 z6
        have HZ := HZ2
        obtain ⟨A9, c9, rfl, _, _⟩ := Row.any_ (HN2.at_ 0 rfl)
        go_wp2_with fail
        refine hK _ _ HZ2 ?_
        clear hK HZ2
        repeat (first | (refine plan_pure (v := ?_) (a' := ?_) rfl rfl rfl ?_ ?_ ?_; rotate_left 2; (focus (intro w'; go_simp; with_reducible rfl)); (focus (simp only [Act.put, List.setIfInBounds_toArray, List.set_cons_zero, List.set_cons_succ]; rfl))) | (refine plan_load (v := ?_) (a' := ?_) rfl rfl rfl ?_ ?_ ?_; rotate_left 2; (focus (intro w' hw'; obtain ⟨q0, q1, q2, q3, q4, q5, q6⟩ := hw'.out; clear hw'; go_simp; with_reducible rfl)); (focus (simp only [Act.put, List.setIfInBounds_toArray, List.set_cons_zero, List.set_cons_succ]; rfl))) | (refine plan_skip rfl rfl (by decide +kernel) (by simp only [Act.put, List.setIfInBounds_toArray, List.set_cons_zero, List.set_cons_succ]; rfl) ?_))
        have hTs := tsame_calls (.slice A8 L.length c8) (.slice A9 L.length c9) L L u2w (Row.sl (HN2.at_ 1 rfl)) (Row.sl (HN2.at_ 0 rfl))
        rw [show decide (L = L) = true from decide_eq_true rfl] at hTs
        have hc3 := hTs
        refine plan_eff rfl (fun K hK => ?_)
        go_wp2_with fail
        refine hc3.mono ?_
        rintro e u3w ⟨rfl, HC3⟩
        have HN3 := HN2.got HC3
        simp only [List.cons_append, List.nil_append] at HN3
        obtain ⟨z0, z1, z2, z3, z4, z5, z6⟩ := HZ.out
        have HZ3 := Lib.hid (And.intro (HC3.mu.cell z0 (fun h => h)) (And.intro (HC3.mu.cell z1 (fun h => h)) (And.intro (HC3.mu.cell z2 (fun h => h)) (And.intro (HC3.mu.cell z3 (fun h => h)) (And.intro (HC3.mu.cell z4 (fun h => h)) (And.intro (HC3.mu.cell z5 (fun h => h)) (HC3.mu.cell z6 (fun h => h))))))))
        clear hc3 HZ HN2 HC3 z0 z1 z2 z3 z4 z5 z6
        have HZ := HZ3
        go_wp2_with fail
        refine hK _ _ HZ3 ?_
        clear hK HZ3
        repeat (first | (refine plan_pure (v := ?_) (a' := ?_) rfl rfl rfl ?_ ?_ ?_; rotate_left 2; (focus (intro w'; go_simp; with_reducible rfl)); (focus (simp only [Act.put, List.setIfInBounds_toArray, List.set_cons_zero, List.set_cons_succ]; rfl))) | (refine plan_load (v := ?_) (a' := ?_) rfl rfl rfl ?_ ?_ ?_; rotate_left 2; (focus (intro w' hw'; obtain ⟨q0, q1, q2, q3, q4, q5, q6⟩ := hw'.out; clear hw'; go_simp; with_reducible rfl)); (focus (simp only [Act.put, List.setIfInBounds_toArray, List.set_cons_zero, List.set_cons_succ]; rfl))) | (refine plan_skip rfl rfl (by decide +kernel) (by simp only [Act.put, List.setIfInBounds_toArray, List.set_cons_zero, List.set_cons_succ]; rfl) ?_))
        clear hTs hSe1 hSr1
        have hc4 := hC1.out u3w HN3.mu (HN3.at_ 3 rfl)
        refine plan_eff rfl (fun K hK => ?_)
        go_wp2_with fail
        refine hc4.mono ?_
        rintro e u4w ⟨rfl, HC4⟩
        have HN4 := HN3.got HC4
        simp only [List.cons_append, List.nil_append] at HN4
        obtain ⟨z0, z1, z2, z3, z4, z5, z6⟩ := HZ.out
        have HZ4 := Lib.hid (And.intro (HC4.mu.cell z0 (fun h => h)) (And.intro (HC4.mu.cell z1 (fun h => h)) (And.intro (HC4.mu.cell z2 (fun h => h)) (And.intro (HC4.mu.cell z3 (fun h => h)) (And.intro (HC4.mu.cell z4 (fun h => h)) (And.intro (HC4.mu.cell z5 (fun h => h)) (HC4.mu.cell z6 (fun h => h))))))))
        clear hc4 HZ HN3 HC4 z0 z1 z2 z3 z4 z5 z6
        have HZ := HZ4
        go_wp2_with fail
        refine hK _ _ HZ4 ?_
        clear hK HZ4
        repeat (first | (refine plan_pure (v := ?_) (a' := ?_) rfl rfl rfl ?_ ?_ ?_; rotate_left 2; (focus (intro w'; go_simp; with_reducible rfl)); (focus (simp only [Act.put, List.setIfInBounds_toArray, List.set_cons_zero, List.set_cons_succ]; rfl))) | (refine plan_load (v := ?_) (a' := ?_) rfl rfl rfl ?_ ?_ ?_; rotate_left 2; (focus (intro w' hw'; obtain ⟨q0, q1, q2, q3, q4, q5, q6⟩ := hw'.out; clear hw'; go_simp; with_reducible rfl)); (focus (simp only [Act.put, List.setIfInBounds_toArray, List.set_cons_zero, List.set_cons_succ]; rfl))) | (refine plan_skip rfl rfl (by decide +kernel) (by simp only [Act.put, List.setIfInBounds_toArray, List.set_cons_zero, List.set_cons_succ]; rfl) ?_))
        have hc5 := hC2.out u4w HN4.mu (HN4.at_ 4 rfl)
        refine plan_eff rfl (fun K hK => ?_)
        go_wp2_with fail
        refine hc5.mono ?_
        rintro e u5w ⟨rfl, HC5⟩
        have HN5 := HN4.got HC5
        simp only [List.cons_append, List.nil_append] at HN5
        obtain ⟨z0, z1, z2, z3, z4, z5, z6⟩ := HZ.out
        have HZ5 := Lib.hid (And.intro (HC5.mu.cell z0 (fun h => h)) (And.intro (HC5.mu.cell z1 (fun h => h)) (And.intro (HC5.mu.cell z2 (fun h => h)) (And.intro (HC5.mu.cell z3 (fun h => h)) (And.intro (HC5.mu.cell z4 (fun h => h)) (And.intro (HC5.mu.cell z5 (fun h => h)) (HC5.mu.cell z6 (fun h => h))))))))
        clear hc5 HZ HN4 HC5 z0 z1 z2 z3 z4 z5 z6
        have HZ := HZ5
        go_wp2_with fail
        refine hK _ _ HZ5 ?_
        clear hK HZ5
        repeat (first | (refine plan_pure (v := ?_) (a' := ?_) rfl rfl rfl ?_ ?_ ?_; rotate_left 2; (focus (intro w'; go_simp; with_reducible rfl)); (focus (simp only [Act.put, List.setIfInBounds_toArray, List.set_cons_zero, List.set_cons_succ]; rfl))) | (refine plan_load (v := ?_) (a' := ?_) rfl rfl rfl ?_ ?_ ?_; rotate_left 2; (focus (intro w' hw'; obtain ⟨q0, q1, q2, q3, q4, q5, q6⟩ := hw'.out; clear hw'; go_simp; with_reducible rfl)); (focus (simp only [Act.put, List.setIfInBounds_toArray, List.set_cons_zero, List.set_cons_succ]; rfl))) | (refine plan_skip rfl rfl (by decide +kernel) (by simp only [Act.put, List.setIfInBounds_toArray, List.set_cons_zero, List.set_cons_succ]; rfl) ?_))
        clear hC1 hC2
        have hc6 := hFs u5w HN5.mu
        refine plan_eff rfl (fun K hK => ?_)
        go_wp2_with fail
        refine hc6.mono ?_
        rintro e u6w ⟨rfl, HC6⟩
        have HN6 := HN5.got HC6
        simp only [List.cons_append, List.nil_append] at HN6
        obtain ⟨z0, z1, z2, z3, z4, z5, z6⟩ := HZ.out
        have HZ6 := Lib.hid (And.intro (HC6.mu.cell z0 (fun h => h)) (And.intro (HC6.mu.cell z1 (fun h => h)) (And.intro (HC6.mu.cell z2 (fun h => h)) (And.intro (HC6.mu.cell z3 (fun h => h)) (And.intro (HC6.mu.cell z4 (fun h => h)) (And.intro (HC6.mu.cell z5 (fun h => h)) (HC6.mu.cell z6 (fun h => h))))))))
        clear hc6 HZ HN5 HC6 z0 z1 z2 z3 z4 z5 z6
        have HZ := HZ6
        go_wp2_with fail
        refine hK _ _ HZ6 ?_
        clear hK HZ6
        repeat (first | (refine plan_pure (v := ?_) (a' := ?_) rfl rfl rfl ?_ ?_ ?_; rotate_left 2; (focus (intro w'; go_simp; with_reducible rfl)); (focus (simp only [Act.put, List.setIfInBounds_toArray, List.set_cons_zero, List.set_cons_succ]; rfl))) | (refine plan_load (v := ?_) (a' := ?_) rfl rfl rfl ?_ ?_ ?_; rotate_left 2; (focus (intro w' hw'; obtain ⟨q0, q1, q2, q3, q4, q5, q6⟩ := hw'.out; clear hw'; go_simp; with_reducible rfl)); (focus (simp only [Act.put, List.setIfInBounds_toArray, List.set_cons_zero, List.set_cons_succ]; rfl))) | (refine plan_skip rfl rfl (by decide +kernel) (by simp only [Act.put, List.setIfInBounds_toArray, List.set_cons_zero, List.set_cons_succ]; rfl) ?_))
        have hc7 := hFr u6w
        refine plan_eff rfl (fun K hK => ?_)
        go_wp2_with fail
        refine hc7.mono ?_
        rintro e u7w ⟨rfl, HC7⟩
        have HN7 := HN6.got HC7
        simp only [List.cons_append, List.nil_append] at HN7
        obtain ⟨z0, z1, z2, z3, z4, z5, z6⟩ := HZ.out
        have HZ7 := Lib.hid (And.intro (HC7.mu.cell z0 (fun h => h)) (And.intro (HC7.mu.cell z1 (fun h => h)) (And.intro (HC7.mu.cell z2 (fun h => h)) (And.intro (HC7.mu.cell z3 (fun h => h)) (And.intro (HC7.mu.cell z4 (fun h => h)) (And.intro (HC7.mu.cell z5 (fun h => h)) (HC7.mu.cell z6 (fun h => h))))))))
        clear hc7 HZ HN6 HC7 z0 z1 z2 z3 z4 z5 z6
        have HZ := HZ7
        go_wp2_with fail
        refine hK _ _ HZ7 ?_
        clear hK HZ7
        repeat (first | (refine plan_pure (v := ?_) (a' := ?_) rfl rfl rfl ?_ ?_ ?_; rotate_left 2; (focus (intro w'; go_simp; with_reducible rfl)); (focus (simp only [Act.put, List.setIfInBounds_toArray, List.set_cons_zero, List.set_cons_succ]; rfl))) | (refine plan_load (v := ?_) (a' := ?_) rfl rfl rfl ?_ ?_ ?_; rotate_left 2; (focus (intro w' hw'; obtain ⟨q0, q1, q2, q3, q4, q5, q6⟩ := hw'.out; clear hw'; go_simp; with_reducible rfl)); (focus (simp only [Act.put, List.setIfInBounds_toArray, List.set_cons_zero, List.set_cons_succ]; rfl))) | (refine plan_skip rfl rfl (by decide +kernel) (by simp only [Act.put, List.setIfInBounds_toArray, List.set_cons_zero, List.set_cons_succ]; rfl) ?_))
        have hc8 := hA u7w HN7.mu
        refine plan_eff rfl (fun K hK => ?_)
        go_wp2_with fail
        refine hc8.mono ?_
        rintro e u8w ⟨rfl, HC8⟩
        have HN8 := HN7.got HC8
        simp only [List.cons_append, List.nil_append] at HN8
        obtain ⟨z0, z1, z2, z3, z4, z5, z6⟩ := HZ.out
        have HZ8 := Lib.hid (And.intro (HC8.mu.cell z0 (fun h => h)) (And.intro (HC8.mu.cell z1 (fun h => h)) (And.intro (HC8.mu.cell z2 (fun h => h)) (And.intro (HC8.mu.cell z3 (fun h => h)) (And.intro (HC8.mu.cell z4 (fun h => h)) (And.intro (HC8.mu.cell z5 (fun h => h)) (HC8.mu.cell z6 (fun h => h))))))))
        clear hc8 HZ HN7 HC8 z0 z1 z2 z3 z4 z5 z6
        have HZ := HZ8
        go_wp2_with fail
        refine hK _ _ HZ8 ?_
        clear hK HZ8
        repeat (first | (refine plan_pure (v := ?_) (a' := ?_) rfl rfl rfl ?_ ?_ ?_; rotate_left 2; (focus (intro w'; go_simp; with_reducible rfl)); (focus (simp only [Act.put, List.setIfInBounds_toArray, List.set_cons_zero, List.set_cons_succ]; rfl))) | (refine plan_load (v := ?_) (a' := ?_) rfl rfl rfl ?_ ?_ ?_; rotate_left 2; (focus (intro w' hw'; obtain ⟨q0, q1, q2, q3, q4, q5, q6⟩ := hw'.out; clear hw'; go_simp; with_reducible rfl)); (focus (simp only [Act.put, List.setIfInBounds_toArray, List.set_cons_zero, List.set_cons_succ]; rfl))) | (refine plan_skip rfl rfl (by decide +kernel) (by simp only [Act.put, List.setIfInBounds_toArray, List.set_cons_zero, List.set_cons_succ]; rfl) ?_))
        refine plan_done ?_
        have HMf := HN8.sel [] (by decide)
        simp only [List.filterMap_nil] at HMf
        clear HN8 HZ
        go_wp2_with fail
        go_ret
        exact ⟨rfl, HMf⟩
end Go.Proofs.YtnpehlkdfbmnkaaDoor
