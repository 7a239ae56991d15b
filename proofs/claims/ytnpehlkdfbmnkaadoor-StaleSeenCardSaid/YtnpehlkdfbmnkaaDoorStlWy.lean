/-
  Layer 18 (stale): StaleWhy.
-/
import Derived.Test.YtnpehlkdfbmnkaaDoorStlFa
set_option linter.unusedVariables false
set_option linter.unusedSimpArgs false
set_option maxRecDepth 20000
namespace Go.Proofs.YtnpehlkdfbmnkaaDoor
open Go.RowKit

theorem storeS_good {l : List (List UInt8 × List UInt8)} (h : ∀ x, x ∈ l → x.1.length ≤ 150000) : GoodS (storeS l) ∧ (storeS l).clock ≤ l.length ∧ (storeS l).noting = false := by
  obtain ⟨a, b, c⟩ := runS_good (l := l) (s := newS 100000) (newS_good (by omega) (by omega)) h
  exact ⟨a, by have e : (newS 100000).clock = 0 := rfl; unfold storeS; omega, c⟩
set_option maxHeartbeats 8000000 in
theorem swhy_calls (n : NdS) (SV CV AV : Value) (im : ByteArray) (b1 b2 b3 : Bool) (FV : Value) (l : List (List UInt8 × List UInt8)) (MV : Value) (made : List (List UInt8)) (w : World) (hm : MaxV w) (o : NodeO w n SV CV AV)
    (hF : FilesR w FV l) (hlz : l.length ≤ 140737488351232) (hl : ∀ x, x ∈ l → x.1.length ≤ 140737488351232 ∧ x.2.length ≤ 140737488351232) (hM : Txts w MV made) (hmz : made.length ≤ 140737488351232) :
    Calls Tryd.prog 4 #[.agg (ndC n SV CV AV im b1 b2 b3), FV, MV] w fun e w' => e = .returned (.bool true) ∧ Mem none_ w [] w' := by
  have hA := fun wx (hx : Pure w wx) => alive_calls wx (MaxV.pure hx hm)
  have HM0 := (Mem.start (fp := none_) w).box (ndC n SV CV AV im b1 b2 b3) 24
  have hFar := far_calls n SV CV AV FV MV im b1 b2 b3 l made _ (o.pure HM0.mu) (hF.pure HM0.mu) (hM.pure HM0.mu) hl
  have hSt := fun wx (hx : Pure w wx) (h : Near n l made) => stores_calls FV l wx (hF.pure hx) (by have := h.hl; omega) (fun x hx => by have := h.hll x hx; have := hl x hx; omega)
  have O := Lib.hid o
  have HMd := Lib.hid hM
  obtain ⟨⟨A, c, rfl, _⟩, ⟨A1, c1, rfl, _⟩, ⟨A2, k2, c2, rfl⟩, hnl, hsl⟩ := o
  obtain ⟨A3, c3, rfl, _⟩ := hM
  obtain ⟨A4, c4, rfl, _⟩ := hF
  obtain ⟨nn, nk, ns, nc, nph⟩ := n
  simp only at O hFar HM0 hSt ⊢
  unfold ndC at HM0 hFar ⊢
  simp only at HM0 hFar ⊢
  have z0 := Blk.cell_ (HM0.at_ 0 rfl) 0
  have z1 := Blk.cell_ (HM0.at_ 0 rfl) 1
  have z2 := Blk.cell_ (HM0.at_ 0 rfl) 2
  have z3 := Blk.cell_ (HM0.at_ 0 rfl) 3
  have z4 := Blk.cell_ (HM0.at_ 0 rfl) 4
  have z5 := Blk.cell_ (HM0.at_ 0 rfl) 5
  have z6 := Blk.cell_ (HM0.at_ 0 rfl) 6
  have z7 := Blk.cell_ (HM0.at_ 0 rfl) 7
  have z8 := Blk.cell_ (HM0.at_ 0 rfl) 8
  have z9 := Blk.cell_ (HM0.at_ 0 rfl) 9
  simp only [List.getElem?_toArray, List.getElem?_cons_succ, List.getElem?_cons_zero] at z0 z1 z2 z3 z4 z5 z6 z7 z8 z9
  clear hlz hl hmz hnl hsl
  go_enter Tryd.func4, Tryd.ntmps4
  go_wp2_with fail
  generalize World.alloc _ _ = W0 at *
  generalize w.heap.size = nb at *
  refine hFar.mono ?_
  rintro e w1 ⟨b, rfl, hb, HM1⟩
  have HM2 := HM0.got HM1
  simp only [List.nil_append] at HM2
  clear hFar HM0 HM1 z0 z1 z2 z3 z4 z5 z6 z7 z8 z9
  cases b with
  | true =>
    have hA1 := hA w1 HM2.mu
    go_wp2_with fail
    refine hA1.mono ?_
    rintro e wz ⟨rfl, HMz⟩
    have HMy := (HM2.got HMz).sel [] (by decide)
    clear hA1 HM2 HMz
    go_wp2_with fail
    go_ret
    exact ⟨rfl, HMy⟩
  | false =>
    have hN := hb rfl
    have hS1 := hSt w1 HM2.mu hN
    obtain ⟨n1, n2, n3, n4, n5, n6⟩ := hN
    simp only at n1 n4 n5
    obtain ⟨hG, hck, hno⟩ := storeS_good (l := l) (fun x hx => by have := n6 x hx; omega)
    have hlen := hG.len
    clear hSt hb hck hno hG
    have N5 := Lib.hid n5
    clear n5 n6
    generalize storeS l = s at *
    go_wp2_with fail
    refine hS1.mono ?_
    rintro e w2 ⟨sb, mb, nv, rb, lv, rn, rfl, HM3⟩
    have HM4 := HM2.got HM3
    simp only [List.cons_append, List.nil_append] at HM4
    clear hS1 HM2 HM3
    have hNo := notes_calls (HM4.at_ 0 rfl) true
    go_wp2_with fail
    refine hNo.mono ?_
    rintro e w3 ⟨rfl, HM5⟩
    have HM6 := Mem.call1 HM4 HM5
    simp only [List.cons_append, List.nil_append] at HM6
    clear hNo HM4 HM5
    have eS : (notesS s true).1.notes = [] := rfl
    have eFi : ∀ p, findS (notesS s true).1 p = findS s p := fun p => rfl
    have eW : ∀ n made, whyS (notesS s true).1 n made = whyS s n made := fun _ _ => rfl
    have eN : ∀ n made, newerS (notesS s true).1 n made = newerS s n made := fun _ _ => rfl
    go_wp2_with fail
    have HMx := HM6.drew
    have HMe := HMx.sel [3, 0, 2] (by decide)
    simp only [List.filterMap_cons, List.filterMap_nil, List.getElem?_cons_succ, List.getElem?_cons_zero] at HMe
    clear HM6 HMx
    have z0 := Blk.cell_ (HMe.at_ 0 rfl) 0
    have z1 := Blk.cell_ (HMe.at_ 0 rfl) 1
    have z2 := Blk.cell_ (HMe.at_ 0 rfl) 2
    have z3 := Blk.cell_ (HMe.at_ 0 rfl) 3
    have z4 := Blk.cell_ (HMe.at_ 0 rfl) 4
    have z5 := Blk.cell_ (HMe.at_ 0 rfl) 5
    have z6 := Blk.cell_ (HMe.at_ 0 rfl) 6
    have z7 := Blk.cell_ (HMe.at_ 0 rfl) 7
    have z8 := Blk.cell_ (HMe.at_ 0 rfl) 8
    have z9 := Blk.cell_ (HMe.at_ 0 rfl) 9
    simp only [List.getElem?_toArray, List.getElem?_cons_succ, List.getElem?_cons_zero] at z0 z1 z2 z3 z4 z5 z6 z7 z8 z9
    have hTh := fun wx (hx : Pure w wx) => theirs_calls ⟨nn, nk, ns, nc, nph⟩ (.slice A ns.length c) (.slice A1 nc c1) (.slice A2 k2 c2) im b1 b2 b3 wx (O.out.pure hx)
    have hWy := fun wx (hx : Pure w wx) (h : (StoreC sb mb (.slice none 0 0) (notesS s true).1).ok wx) => why_calls h ⟨nn, nk, ns, nc, nph⟩ (.slice A ns.length c) (.slice A1 nc c1) (.slice none 0 0) (.slice A3 made.length c3) ⟨#[]⟩ false false false made (O.out.s.pure hx) (HMd.out.pure hx) (by show nn.length ≤ _; omega) (fun x hx => by have := N5.out x hx; omega) (by show ns.length ≤ _; omega) (by omega) ⟨_, _, rfl⟩ ⟨_, _, _, rfl⟩
    have hWr := fun wx (hx : Pure w wx) (h : (RefC rb lv rn s).ok wx) => rwhy_calls h hlen ⟨nn, nk, ns, nc, nph⟩ (.slice A ns.length c) (.slice A1 nc c1) (.slice A2 k2 c2) (.slice A3 made.length c3) im b1 b2 b3 made (O.out.s.pure hx) (HMd.out.pure hx) (by show nn.length ≤ _; omega) (fun x hx => by have := N5.out x hx; omega) (by show ns.length ≤ _; omega) (by omega) ⟨_, _, rfl⟩ ⟨_, _, _, rfl⟩
    have hNe := fun wx (hx : Pure w wx) (h : (StoreC sb mb (.slice none 0 0) (notesS s true).1).ok wx) => newer_calls h ⟨nn, nk, ns, nc, nph⟩ (.slice A ns.length c) (.slice A1 nc c1) (.slice none 0 0) (.slice A3 made.length c3) ⟨#[]⟩ false false false made (O.out.s.pure hx) (HMd.out.pure hx) (by show nn.length ≤ _; omega) (fun x hx => by have := N5.out x hx; omega) (by show ns.length ≤ _; omega) (by omega) ⟨_, _, _, rfl⟩ ⟨_, _, _, rfl⟩
    have hNr := fun wx (hx : Pure w wx) (h : (RefC rb lv rn s).ok wx) => rnewer_calls h hlen ⟨nn, nk, ns, nc, nph⟩ (.slice A ns.length c) (.slice A1 nc c1) (.slice A2 k2 c2) (.slice A3 made.length c3) im b1 b2 b3 made (O.out.s.pure hx) (HMd.out.pure hx) (by show nn.length ≤ _; omega) (fun x hx => by have := N5.out x hx; omega) (by show ns.length ≤ _; omega) (by omega) ⟨_, _, _, rfl⟩ ⟨_, _, _, rfl⟩
    unfold ndC at hTh hWy hWr hNe hNr
    simp only [eW, eN] at hTh hWy hWr hNe hNr
    clear eFi eW eN
    generalize whyS s ⟨nn, nk, ns, nc, nph⟩ made = E at *
    generalize newerS s ⟨nn, nk, ns, nc, nph⟩ made = L at *
    have qE : (E == E) = true := beq_self_eq_true E
    refine wp_plan [] (S := fun w' => Hid (w'.cell? ⟨nb, 0, none⟩ = some (.string (ofL nn)) ∧ w'.cell? ⟨nb, 1, none⟩ = some (.int .i64 nk) ∧ w'.cell? ⟨nb, 2, none⟩ = some (.slice A ns.length c) ∧ w'.cell? ⟨nb, 3, none⟩ = some (.slice A1 nc c1) ∧ w'.cell? ⟨nb, 4, none⟩ = some (.slice A2 k2 c2) ∧ w'.cell? ⟨nb, 5, none⟩ = some (.string im) ∧ w'.cell? ⟨nb, 6, none⟩ = some (.bool nph) ∧ w'.cell? ⟨nb, 7, none⟩ = some (.bool b1) ∧ w'.cell? ⟨nb, 8, none⟩ = some (.bool b2) ∧ w'.cell? ⟨nb, 9, none⟩ = some (.bool b3))) [(.load, 0), (.pure, 2), (.pure, 3), (.load, 5), (.pure, 6), (.pure, 7), (.eff, 1), (.eff, 4), (.eff, 8), (.pure, 9), (.pure, 10), (.load, 11), (.pure, 13), (.pure, 14), (.load, 16), (.pure, 17), (.pure, 18), (.eff, 12), (.eff, 15), (.eff, 19), (.eff, 20), (.pure, 21), (.pure, 22)] (by kernel_rfl) rfl (by kernel_rfl) rfl (fun _ _ _ _ _ h => h) (Lib.hid (And.intro (z0) (And.intro (z1) (And.intro (z2) (And.intro (z3) (And.intro (z4) (And.intro (z5) (And.intro (z6) (And.intro (z7) (And.intro (z8) (z9))))))))))) ?_
    generalize World.drew _ = W at *
    have HZ := Lib.hid (And.intro (z0) (And.intro (z1) (And.intro (z2) (And.intro (z3) (And.intro (z4) (And.intro (z5) (And.intro (z6) (And.intro (z7) (And.intro (z8) (z9))))))))))
    clear z0 z1 z2 z3 z4 z5 z6 z7 z8 z9
    repeat (first | (refine plan_pure (v := ?_) (a' := ?_) rfl rfl rfl ?_ ?_ ?_; rotate_left 2; (focus (intro w'; go_simp; with_reducible rfl)); (focus (simp only [Act.put, List.setIfInBounds_toArray, List.set_cons_zero, List.set_cons_succ]; rfl))) | (refine plan_load (v := ?_) (a' := ?_) rfl rfl rfl ?_ ?_ ?_; rotate_left 2; (focus (intro w' hw'; obtain ⟨q0, q1, q2, q3, q4, q5, q6, q7, q8, q9⟩ := hw'.out; clear hw'; go_simp; with_reducible rfl)); (focus (simp only [Act.put, List.setIfInBounds_toArray, List.set_cons_zero, List.set_cons_succ]; rfl))) | (refine plan_skip rfl rfl (by decide +kernel) (by simp only [Act.put, List.setIfInBounds_toArray, List.set_cons_zero, List.set_cons_succ]; rfl) ?_))
    have hc1 := hTh W HMe.mu
    refine plan_eff rfl (fun K hK => ?_)
    go_wp2_with fail
    refine hc1.mono ?_
    rintro e u1w ⟨rfl, HC1⟩
    have HN1 := HMe.got HC1
    simp only [List.cons_append, List.nil_append] at HN1
    obtain ⟨z0, z1, z2, z3, z4, z5, z6, z7, z8, z9⟩ := HZ.out
    have HZ1 := Lib.hid (And.intro (HC1.mu.cell z0 (fun h => h)) (And.intro (HC1.mu.cell z1 (fun h => h)) (And.intro (HC1.mu.cell z2 (fun h => h)) (And.intro (HC1.mu.cell z3 (fun h => h)) (And.intro (HC1.mu.cell z4 (fun h => h)) (And.intro (HC1.mu.cell z5 (fun h => h)) (And.intro (HC1.mu.cell z6 (fun h => h)) (And.intro (HC1.mu.cell z7 (fun h => h)) (And.intro (HC1.mu.cell z8 (fun h => h)) (HC1.mu.cell z9 (fun h => h)))))))))))
    clear hc1 HZ HMe HC1 z0 z1 z2 z3 z4 z5 z6 z7 z8 z9
    have HZ := HZ1
    go_wp2_with fail
    refine hK _ _ HZ1 ?_
    clear hK HZ1
    repeat (first | (refine plan_pure (v := ?_) (a' := ?_) rfl rfl rfl ?_ ?_ ?_; rotate_left 2; (focus (intro w'; go_simp; with_reducible rfl)); (focus (simp only [Act.put, List.setIfInBounds_toArray, List.set_cons_zero, List.set_cons_succ]; rfl))) | (refine plan_load (v := ?_) (a' := ?_) rfl rfl rfl ?_ ?_ ?_; rotate_left 2; (focus (intro w' hw'; obtain ⟨q0, q1, q2, q3, q4, q5, q6, q7, q8, q9⟩ := hw'.out; clear hw'; go_simp; with_reducible rfl)); (focus (simp only [Act.put, List.setIfInBounds_toArray, List.set_cons_zero, List.set_cons_succ]; rfl))) | (refine plan_skip rfl rfl (by decide +kernel) (by simp only [Act.put, List.setIfInBounds_toArray, List.set_cons_zero, List.set_cons_succ]; rfl) ?_))
    have hc2 := hWy u1w HN1.mu (HN1.at_ 1 rfl)
    refine plan_eff rfl (fun K hK => ?_)
    go_wp2_with fail
    refine hc2.mono ?_
    rintro e u2w ⟨rfl, HC2⟩
    have HN2 := HN1.got HC2
    simp only [List.cons_append, List.nil_append] at HN2
    obtain ⟨z0, z1, z2, z3, z4, z5, z6, z7, z8, z9⟩ := HZ.out
    have HZ2 := Lib.hid (And.intro (HC2.mu.cell z0 (fun h => h)) (And.intro (HC2.mu.cell z1 (fun h => h)) (And.intro (HC2.mu.cell z2 (fun h => h)) (And.intro (HC2.mu.cell z3 (fun h => h)) (And.intro (HC2.mu.cell z4 (fun h => h)) (And.intro (HC2.mu.cell z5 (fun h => h)) (And.intro (HC2.mu.cell z6 (fun h => h)) (And.intro (HC2.mu.cell z7 (fun h => h)) (And.intro (HC2.mu.cell z8 (fun h => h)) (HC2.mu.cell z9 (fun h => h)))))))))))
    clear hc2 HZ HN1 HC2 z0 z1 z2 z3 z4 z5 z6 z7 z8 z9
    have HZ := HZ2
    go_wp2_with fail
    refine hK _ _ HZ2 ?_
    clear hK HZ2
    repeat (first | (refine plan_pure (v := ?_) (a' := ?_) rfl rfl rfl ?_ ?_ ?_; rotate_left 2; (focus (intro w'; go_simp; with_reducible rfl)); (focus (simp only [Act.put, List.setIfInBounds_toArray, List.set_cons_zero, List.set_cons_succ]; rfl))) | (refine plan_load (v := ?_) (a' := ?_) rfl rfl rfl ?_ ?_ ?_; rotate_left 2; (focus (intro w' hw'; obtain ⟨q0, q1, q2, q3, q4, q5, q6, q7, q8, q9⟩ := hw'.out; clear hw'; go_simp; with_reducible rfl)); (focus (simp only [Act.put, List.setIfInBounds_toArray, List.set_cons_zero, List.set_cons_succ]; rfl))) | (refine plan_skip rfl rfl (by decide +kernel) (by simp only [Act.put, List.setIfInBounds_toArray, List.set_cons_zero, List.set_cons_succ]; rfl) ?_))
    have hc3 := hWr u2w HN2.mu (HN2.at_ 2 rfl)
    refine plan_eff rfl (fun K hK => ?_)
    go_wp2_with fail
    refine hc3.mono ?_
    rintro e u3w ⟨rfl, HC3⟩
    have HN3 := HN2.got HC3
    simp only [List.cons_append, List.nil_append] at HN3
    obtain ⟨z0, z1, z2, z3, z4, z5, z6, z7, z8, z9⟩ := HZ.out
    have HZ3 := Lib.hid (And.intro (HC3.mu.cell z0 (fun h => h)) (And.intro (HC3.mu.cell z1 (fun h => h)) (And.intro (HC3.mu.cell z2 (fun h => h)) (And.intro (HC3.mu.cell z3 (fun h => h)) (And.intro (HC3.mu.cell z4 (fun h => h)) (And.intro (HC3.mu.cell z5 (fun h => h)) (And.intro (HC3.mu.cell z6 (fun h => h)) (And.intro (HC3.mu.cell z7 (fun h => h)) (And.intro (HC3.mu.cell z8 (fun h => h)) (HC3.mu.cell z9 (fun h => h)))))))))))
    clear hc3 HZ HN2 HC3 z0 z1 z2 z3 z4 z5 z6 z7 z8 z9
    have HZ := HZ3
    go_wp2_with fail
    refine hK _ _ HZ3 ?_
    clear hK HZ3
    repeat (first | (refine plan_pure (v := ?_) (a' := ?_) rfl rfl rfl ?_ ?_ ?_; rotate_left 2; (focus (intro w'; go_simp; with_reducible rfl)); (focus (simp only [Act.put, List.setIfInBounds_toArray, List.set_cons_zero, List.set_cons_succ]; rfl))) | (refine plan_load (v := ?_) (a' := ?_) rfl rfl rfl ?_ ?_ ?_; rotate_left 2; (focus (intro w' hw'; obtain ⟨q0, q1, q2, q3, q4, q5, q6, q7, q8, q9⟩ := hw'.out; clear hw'; go_simp; with_reducible rfl)); (focus (simp only [Act.put, List.setIfInBounds_toArray, List.set_cons_zero, List.set_cons_succ]; rfl))) | (refine plan_skip rfl rfl (by decide +kernel) (by simp only [Act.put, List.setIfInBounds_toArray, List.set_cons_zero, List.set_cons_succ]; rfl) ?_))
    have hc4 := hTh u3w HN3.mu
    refine plan_eff rfl (fun K hK => ?_)
    go_wp2_with fail
    refine hc4.mono ?_
    rintro e u4w ⟨rfl, HC4⟩
    have HN4 := HN3.got HC4
    simp only [List.cons_append, List.nil_append] at HN4
    obtain ⟨z0, z1, z2, z3, z4, z5, z6, z7, z8, z9⟩ := HZ.out
    have HZ4 := Lib.hid (And.intro (HC4.mu.cell z0 (fun h => h)) (And.intro (HC4.mu.cell z1 (fun h => h)) (And.intro (HC4.mu.cell z2 (fun h => h)) (And.intro (HC4.mu.cell z3 (fun h => h)) (And.intro (HC4.mu.cell z4 (fun h => h)) (And.intro (HC4.mu.cell z5 (fun h => h)) (And.intro (HC4.mu.cell z6 (fun h => h)) (And.intro (HC4.mu.cell z7 (fun h => h)) (And.intro (HC4.mu.cell z8 (fun h => h)) (HC4.mu.cell z9 (fun h => h)))))))))))
    clear hc4 HZ HN3 HC4 z0 z1 z2 z3 z4 z5 z6 z7 z8 z9
    have HZ := HZ4
    go_wp2_with fail
    refine hK _ _ HZ4 ?_
    clear hK HZ4
    repeat (first | (refine plan_pure (v := ?_) (a' := ?_) rfl rfl rfl ?_ ?_ ?_; rotate_left 2; (focus (intro w'; go_simp; with_reducible rfl)); (focus (simp only [Act.put, List.setIfInBounds_toArray, List.set_cons_zero, List.set_cons_succ]; rfl))) | (refine plan_load (v := ?_) (a' := ?_) rfl rfl rfl ?_ ?_ ?_; rotate_left 2; (focus (intro w' hw'; obtain ⟨q0, q1, q2, q3, q4, q5, q6, q7, q8, q9⟩ := hw'.out; clear hw'; go_simp; with_reducible rfl)); (focus (simp only [Act.put, List.setIfInBounds_toArray, List.set_cons_zero, List.set_cons_succ]; rfl))) | (refine plan_skip rfl rfl (by decide +kernel) (by simp only [Act.put, List.setIfInBounds_toArray, List.set_cons_zero, List.set_cons_succ]; rfl) ?_))
    have hc5 := hNe u4w HN4.mu (HN4.at_ 1 rfl)
    refine plan_eff rfl (fun K hK => ?_)
    go_wp2_with fail
    refine hc5.mono ?_
    rintro e u5w ⟨vn, rfl, HC5⟩
    have HN5 := HN4.got HC5
    simp only [List.cons_append, List.nil_append] at HN5
    obtain ⟨z0, z1, z2, z3, z4, z5, z6, z7, z8, z9⟩ := HZ.out
    have HZ5 := Lib.hid (And.intro (HC5.mu.cell z0 (fun h => h)) (And.intro (HC5.mu.cell z1 (fun h => h)) (And.intro (HC5.mu.cell z2 (fun h => h)) (And.intro (HC5.mu.cell z3 (fun h => h)) (And.intro (HC5.mu.cell z4 (fun h => h)) (And.intro (HC5.mu.cell z5 (fun h => h)) (And.intro (HC5.mu.cell z6 (fun h => h)) (And.intro (HC5.mu.cell z7 (fun h => h)) (And.intro (HC5.mu.cell z8 (fun h => h)) (HC5.mu.cell z9 (fun h => h)))))))))))
    clear hc5 HZ HN4 HC5 z0 z1 z2 z3 z4 z5 z6 z7 z8 z9
    have HZ := HZ5
    obtain ⟨A8, c8, rfl, _, _⟩ := Row.any_ (HN5.at_ 0 rfl)
    go_wp2_with fail
    refine hK _ _ HZ5 ?_
    clear hK HZ5
    repeat (first | (refine plan_pure (v := ?_) (a' := ?_) rfl rfl rfl ?_ ?_ ?_; rotate_left 2; (focus (intro w'; go_simp; with_reducible rfl)); (focus (simp only [Act.put, List.setIfInBounds_toArray, List.set_cons_zero, List.set_cons_succ]; rfl))) | (refine plan_load (v := ?_) (a' := ?_) rfl rfl rfl ?_ ?_ ?_; rotate_left 2; (focus (intro w' hw'; obtain ⟨q0, q1, q2, q3, q4, q5, q6, q7, q8, q9⟩ := hw'.out; clear hw'; go_simp; with_reducible rfl)); (focus (simp only [Act.put, List.setIfInBounds_toArray, List.set_cons_zero, List.set_cons_succ]; rfl))) | (refine plan_skip rfl rfl (by decide +kernel) (by simp only [Act.put, List.setIfInBounds_toArray, List.set_cons_zero, List.set_cons_succ]; rfl) ?_))
    have hc6 := hNr u5w HN5.mu (HN5.at_ 3 rfl)
    refine plan_eff rfl (fun K hK => ?_)
    go_wp2_with fail
    refine hc6.mono ?_
    rintro e u6w ⟨vr, rfl, HC6⟩
    have HN6 := HN5.got HC6
    simp only [List.cons_append, List.nil_append] at HN6
    obtain ⟨z0, z1, z2, z3, z4, z5, z6, z7, z8, z9⟩ := HZ.out
    have HZ6 := Lib.hid (And.intro (HC6.mu.cell z0 (fun h => h)) (And.intro (HC6.mu.cell z1 (fun h => h)) (And.intro (HC6.mu.cell z2 (fun h => h)) (And.intro (HC6.mu.cell z3 (fun h => h)) (And.intro (HC6.mu.cell z4 (fun h => h)) (And.intro (HC6.mu.cell z5 (fun h => h)) (And.intro (HC6.mu.cell z6 (fun h => h)) (And.intro (HC6.mu.cell z7 (fun h => h)) (And.intro (HC6.mu.cell z8 (fun h => h)) (HC6.mu.cell z9 (fun h => h)))))))))))
    clear hc6 HZ HN5 HC6 z0 z1 z2 z3 z4 z5 z6 z7 z8 z9
    have HZ := HZ6
    obtain ⟨A9, c9, rfl, _, _⟩ := Row.any_ (HN6.at_ 0 rfl)
    go_wp2_with fail
    refine hK _ _ HZ6 ?_
    clear hK HZ6
    repeat (first | (refine plan_pure (v := ?_) (a' := ?_) rfl rfl rfl ?_ ?_ ?_; rotate_left 2; (focus (intro w'; go_simp; with_reducible rfl)); (focus (simp only [Act.put, List.setIfInBounds_toArray, List.set_cons_zero, List.set_cons_succ]; rfl))) | (refine plan_load (v := ?_) (a' := ?_) rfl rfl rfl ?_ ?_ ?_; rotate_left 2; (focus (intro w' hw'; obtain ⟨q0, q1, q2, q3, q4, q5, q6, q7, q8, q9⟩ := hw'.out; clear hw'; go_simp; with_reducible rfl)); (focus (simp only [Act.put, List.setIfInBounds_toArray, List.set_cons_zero, List.set_cons_succ]; rfl))) | (refine plan_skip rfl rfl (by decide +kernel) (by simp only [Act.put, List.setIfInBounds_toArray, List.set_cons_zero, List.set_cons_succ]; rfl) ?_))
    have hSm0 := sameT_calls (.slice A8 L.length c8) (.slice A9 L.length c9) L L u6w (Row.sl (HN6.at_ 1 rfl)) (Row.sl (HN6.at_ 0 rfl))
    rw [show decide (L = L) = true from decide_eq_true rfl] at hSm0
    have hc7 := hSm0
    refine plan_eff rfl (fun K hK => ?_)
    go_wp2_with fail
    refine hc7.mono ?_
    rintro e u7w ⟨rfl, HC7⟩
    have HN7 := HN6.got HC7
    simp only [List.cons_append, List.nil_append] at HN7
    obtain ⟨z0, z1, z2, z3, z4, z5, z6, z7, z8, z9⟩ := HZ.out
    have HZ7 := Lib.hid (And.intro (HC7.mu.cell z0 (fun h => h)) (And.intro (HC7.mu.cell z1 (fun h => h)) (And.intro (HC7.mu.cell z2 (fun h => h)) (And.intro (HC7.mu.cell z3 (fun h => h)) (And.intro (HC7.mu.cell z4 (fun h => h)) (And.intro (HC7.mu.cell z5 (fun h => h)) (And.intro (HC7.mu.cell z6 (fun h => h)) (And.intro (HC7.mu.cell z7 (fun h => h)) (And.intro (HC7.mu.cell z8 (fun h => h)) (HC7.mu.cell z9 (fun h => h)))))))))))
    clear hc7 HZ HN6 HC7 z0 z1 z2 z3 z4 z5 z6 z7 z8 z9
    have HZ := HZ7
    go_wp2_with fail
    refine hK _ _ HZ7 ?_
    clear hK HZ7
    repeat (first | (refine plan_pure (v := ?_) (a' := ?_) rfl rfl rfl ?_ ?_ ?_; rotate_left 2; (focus (intro w'; go_simp; with_reducible rfl)); (focus (simp only [Act.put, List.setIfInBounds_toArray, List.set_cons_zero, List.set_cons_succ]; rfl))) | (refine plan_load (v := ?_) (a' := ?_) rfl rfl rfl ?_ ?_ ?_; rotate_left 2; (focus (intro w' hw'; obtain ⟨q0, q1, q2, q3, q4, q5, q6, q7, q8, q9⟩ := hw'.out; clear hw'; go_simp; with_reducible rfl)); (focus (simp only [Act.put, List.setIfInBounds_toArray, List.set_cons_zero, List.set_cons_succ]; rfl))) | (refine plan_skip rfl rfl (by decide +kernel) (by simp only [Act.put, List.setIfInBounds_toArray, List.set_cons_zero, List.set_cons_succ]; rfl) ?_))
    refine plan_done ?_
    have HMf := HN7.sel [3] (by decide)
    simp only [List.filterMap_cons, List.filterMap_nil, List.getElem?_cons_succ, List.getElem?_cons_zero] at HMf
    clear HN7 HZ hTh hWy hWr hNe hNr hSm0 qE
    have hNo := notes_calls (HMf.at_ 0 rfl) false
    go_wp2_with fail
    refine hNo.mono ?_
    rintro e w9 ⟨rfl, HM5⟩
    have HM6 := (Mem.call1 HMf HM5).sel [] (by decide)
    simp only [List.filterMap_nil] at HM6
    clear hNo HMf HM5
    have hA1 := hA w9 HM6.mu
    go_wp2_with fail
    refine hA1.mono ?_
    rintro e wz ⟨rfl, HMz⟩
    have HMy := (HM6.got HMz)
    clear hA1 HM6 HMz
    go_wp2_with fail
    go_ret
    exact ⟨rfl, HMy⟩
end Go.Proofs.YtnpehlkdfbmnkaaDoor
