/-
  Layer 18 (stale): Newer, both sides.
  Layer 18 (stale): Why, the code's.
-/
import Derived.Test.YtnpehlkdfbmnkaaDoorStlA
set_option linter.unusedVariables false
set_option linter.unusedSimpArgs false
namespace Go.Proofs.YtnpehlkdfbmnkaaDoor
section
set_option maxRecDepth 20000
open Go.RowKit

/-- A node's cells. -/
def ndC (n : NdS) (SV CV AV : Value) (im : ByteArray) (b1 b2 b3 : Bool) : Array Value := #[.string (ofL n.name), .int .i64 n.kind, SV, CV, AV, .string im, .bool n.phony, .bool b1, .bool b2, .bool b3]
theorem newer_take (s : St) (n : NdS) (made : List (List UInt8)) (k : Nat) (h : k < n.src.length) :
    (n.src.take (k + 1)).filter (newerB s n made) = (n.src.take k).filter (newerB s n made) ++ if newerB s n made n.src[k] then [n.src[k]] else [] := by
  rw [List.take_succ_eq_append_getElem h, List.filter_append]
  congr 1
  cases hb : newerB s n made n.src[k] <;> simp [hb]

section
variable {sb mb : Nat} {nv : Value} {s : St} {w : World}
set_option maxHeartbeats 8000000 in
theorem newer_calls (h : (StoreC sb mb nv s).ok w) (n : NdS) (SV CV AV MV : Value) (im : ByteArray) (b1 b2 b3 : Bool) (made : List (List UInt8)) (hS : Txts w SV n.src) (hM : Txts w MV made)
    (hn : n.name.length ≤ 150000) (hs : ∀ x, x ∈ n.src → x.length ≤ 150000) (hl : n.src.length ≤ 1000) (hm : made.length ≤ 1000) (hC : ∃ A k c, CV = .slice A k c) (hA : ∃ A k c, AV = .slice A k c) :
    Calls Tryd.prog 15 #[.agg (ndC n SV CV AV im b1 b2 b3), ptr sb, MV] w fun e w' => ∃ v, e = .returned v ∧ Mem none_ w [TRow v (newerS s n made)] w' := by
  obtain ⟨A, c, rfl, g1, g2, g3, g4⟩ := hS
  obtain ⟨A1, k1, c1, rfl⟩ := hC
  obtain ⟨A2, k2, c2, rfl⟩ := hA
  have hMa := hM
  obtain ⟨A3, c3, rfl, m1, m2, m3, m4⟩ := hM
  unfold maxLen at g2 m2
  have HM0 := (Mem.start (fp := none_) w).box (ndC n (.slice A n.src.length c) (.slice A1 k1 c1) (.slice A2 k2 c2) im b1 b2 b3) 32
  unfold ndC at HM0 ⊢
  have y0 := Blk.cell_ (HM0.at_ 0 rfl) 0
  have y2 := Blk.cell_ (HM0.at_ 0 rfl) 2
  simp only [List.getElem?_toArray, List.getElem?_cons_succ, List.getElem?_cons_zero] at y0 y2
  have hF := stat_calls (Pure.chunk HM0.mu h) n.name hn
  go_enter Tryd.func15, Tryd.ntmps15
  go_wp2_with fail
  refine hF.mono ?_
  rintro e w1 ⟨rfl, HM1⟩
  have HMq := HM0.got HM1
  have y2' := Blk.cell_ (HMq.at_ 0 rfl) 2
  simp only [List.getElem?_toArray, List.getElem?_cons_succ, List.getElem?_cons_zero] at y2'
  have HM2 := (HMq.sel [] (by decide)).nilT
  have hst := fun wx (hx : Pure w wx) (x : List UInt8) (hxl : x.length ≤ 150000) => stat_calls (Pure.chunk hx h) x hxl
  have Hst := Lib.hid hst
  clear hF HM0 HM1 HMq y0 h hst
  obtain ⟨G, hG⟩ : ∃ G, (findS s n.name).2.2 = G := ⟨_, rfl⟩
  obtain ⟨T0, hT0⟩ : ∃ T0, (findS s n.name).2.1.time = T0 := ⟨_, rfl⟩
  rw [hG, hT0]
  have HG := Lib.hid hG
  have HT0 := Lib.hid hT0
  have Hs := Lib.hid hs
  have HMa := Lib.hid hMa
  clear hG hT0 hs hMa
  clear y2
  go_wp2_with fail
  go_loopw [10, 12, 13, 14, 15, 27] (fun v10 v12 v13 v14 v15 v27 wr => ∃ k : Nat, k ≤ n.src.length ∧ v27 = .int .i64 k ∧ Mem none_ w [TRow v10 ((n.src.take k).filter (newerB s n made))] wr) (fun _ _ _ _ _ v _ => n.src.length - (intOf v).toNat)
  case atStart => exact ⟨0, Nat.zero_le _, rfl, HM2⟩
  case round =>
    clear HM2
    obtain ⟨k, hk, rfl, HM⟩ := hrel
    by_cases hlt : k < n.src.length
    · have hlt' : decide ((k : Int) < (n.src.length : Int)) = true := decide_eq_true (by omega)
      obtain ⟨b, o, rfl, hcells⟩ := g4.resolve_left (by omega)
      have hx0 : wr.cell? ⟨b, o + k, none⟩ = some (.string (ofL n.src[k])) := Pure.cell HM.mu (hcells _ _ (tx_get hlt))
      have hStx := Hst.out wr HM.mu n.src[k] (Hs.out _ (List.getElem_mem hlt))
      have Hsn := Lib.hid (newer_take s n made k hlt)
      have hlf : ((n.src.take k).filter (newerB s n made)).length ≤ 1000 := by
        have := List.length_filter_le (newerB s n made) (n.src.take k)
        rw [List.length_take] at this
        omega
      clear hcells g4 g3
      generalize n.src[k] = x at *
      have Hb : Hid (newerB s n made x = (decide (G ≠ 0) || decide ((findS s x).2.2 ≠ 0) || decide (T0 < (findS s x).2.1.time) || decide (x ∈ made))) := by
        unfold Hid newerB; rw [HG.out, HT0.out]
      generalize (findS s x).2.2 = E at *
      generalize (findS s x).2.1.time = T at *
      go_wp2_with fail
      refine hStx.mono ?_
      rintro e w2 ⟨rfl, HMs⟩
      have HM3 := HM.got HMs
      simp only [List.nil_append] at HM3
      clear hStx HMs HM
      by_cases hG0 : G = 0
      · have d1 : (((G : Nat) : Int) != 0) = false := by rw [bne_eq_false_iff_eq]; omega
        by_cases hE0 : E = 0
        · have d2 : (((E : Nat) : Int) != 0) = false := by rw [bne_eq_false_iff_eq]; omega
          by_cases hT : T0 < T
          · have d3 : decide (T0 < T) = true := decide_eq_true hT
            have HB : Hid (newerB s n made x = true) := by unfold Hid; rw [Hb.out, d3]; simp
            clear Hb hG0 hE0
            go_wp2_with (at_builtin; refine wpList_appT strE rfl _ _ rfl HM3 rfl x _ rfl ?hnb ?hb ?_; (case hnb => simp); (case hb => omega); intro v' w' HM4 HU4)
            go_roundw
            case rel =>
              refine ⟨k + 1, by omega, by go_num, ?_⟩
              rw [Hsn.out, if_pos (HB.out)]
              exact HM4
            case measure => simp [intOf]; omega
          · have d3 : decide (T0 < T) = false := decide_eq_false hT
            have hCo := contains_calls (.slice A3 made.length c3) made x w2 (Sl.pure HM3.mu HMa.out) (by omega)
            have Hb2 : Hid (newerB s n made x = decide (x ∈ made)) := by unfold Hid; rw [Hb.out, d3]; simp [hG0, hE0]
            clear Hb hG0 hE0
            obtain ⟨mq, hmq⟩ : ∃ mq, decide (x ∈ made) = mq := ⟨_, rfl⟩
            rw [hmq] at hCo Hb2
            clear hmq
            go_wp2_with fail
            refine hCo.mono ?_
            rintro e w3 ⟨rfl, rfl⟩
            clear hCo
            cases mq with
            | true =>
              have HB := Hb2
              go_wp2_with (at_builtin; refine wpList_appT strE rfl _ _ rfl HM3 rfl x _ rfl ?hnb ?hb ?_; (case hnb => simp); (case hb => omega); intro v' w' HM4 HU4)
              go_roundw
              case rel =>
                refine ⟨k + 1, by omega, by go_num, ?_⟩
                rw [Hsn.out, if_pos (HB.out)]
                exact HM4
              case measure => simp [intOf]; omega
            | false =>
              go_wp2_with fail
              go_roundw
              case rel =>
                refine ⟨k + 1, by omega, by go_num, ?_⟩
                rw [Hsn.out, if_neg (by rw [Hb2.out]; decide), List.append_nil]
                exact HM3
              case measure => simp [intOf]; omega
        · have d2 : (((E : Nat) : Int) != 0) = true := by rw [bne_iff_ne]; omega
          have HB : Hid (newerB s n made x = true) := by unfold Hid; rw [Hb.out]; simp [hE0]
          clear Hb hG0 hE0
          go_wp2_with (at_builtin; refine wpList_appT strE rfl _ _ rfl HM3 rfl x _ rfl ?hnb ?hb ?_; (case hnb => simp); (case hb => omega); intro v' w' HM4 HU4)
          go_roundw
          case rel =>
            refine ⟨k + 1, by omega, by go_num, ?_⟩
            rw [Hsn.out, if_pos (HB.out)]
            exact HM4
          case measure => simp [intOf]; omega
      · have d1 : (((G : Nat) : Int) != 0) = true := by rw [bne_iff_ne]; omega
        have HB : Hid (newerB s n made x = true) := by unfold Hid; rw [Hb.out]; simp [hG0]
        clear Hb hG0
        go_wp2_with (at_builtin; refine wpList_appT strE rfl _ _ rfl HM3 rfl x _ rfl ?hnb ?hb ?_; (case hnb => simp); (case hb => omega); intro v' w' HM4 HU4)
        go_roundw
        case rel =>
          refine ⟨k + 1, by omega, by go_num, ?_⟩
          rw [Hsn.out, if_pos (HB.out)]
          exact HM4
        case measure => simp [intOf]; omega
    · have hlt' : decide ((k : Int) < (n.src.length : Int)) = false := decide_eq_false (by omega)
      have e : k = n.src.length := by omega
      rw [e, List.take_length] at HM
      clear e
      go_wp2_with fail
      go_ret
      exact ⟨_, rfl, HM⟩
end
end
section
set_option maxRecDepth 20000
open Go.RowKit

section
variable {sb mb : Nat} {nv : Value} {s : St} {w : World}
set_option maxHeartbeats 8000000 in
theorem why_calls (h : (StoreC sb mb nv s).ok w) (n : NdS) (SV CV AV MV : Value) (im : ByteArray) (b1 b2 b3 : Bool) (made : List (List UInt8)) (hS : Txts w SV n.src) (hM : Txts w MV made)
    (hn : n.name.length ≤ 150000) (hs : ∀ x, x ∈ n.src → x.length ≤ 150000) (hl : n.src.length ≤ 1000) (hm : made.length ≤ 1000) (hC : ∃ A c, CV = .slice A n.cmds c) (hA : ∃ A k c, AV = .slice A k c) :
    Calls Tryd.prog 14 #[.agg (ndC n SV CV AV im b1 b2 b3), ptr sb, MV] w fun e w' => e = .returned (.int .i64 (whyS s n made)) ∧ Mem none_ w [] w' := by
  obtain ⟨A1, c1, rfl⟩ := hC
  obtain ⟨A2, k2, c2, rfl⟩ := hA
  have hS' := hS
  obtain ⟨A, c, rfl, g1, g2, g3, g4⟩ := hS
  have hM' := hM
  obtain ⟨A3, c3, rfl, m1, m2, m3, m4⟩ := hM
  unfold maxLen at g2 m2
  obtain ⟨R, hR⟩ : ∃ R, whyS s n made = R := ⟨_, rfl⟩
  rw [hR]
  unfold whyS at hR
  have HR := Lib.hid hR
  clear hR
  obtain ⟨nn, nk, ns, nc, nph⟩ := n
  simp only at hn hs hl g1 g3 g4 hS' HR ⊢
  have HM0 := (Mem.start (fp := none_) w).box (ndC ⟨nn, nk, ns, nc, nph⟩ (.slice A ns.length c) (.slice A1 nc c1) (.slice A2 k2 c2) im b1 b2 b3) 32
  unfold ndC at HM0 ⊢
  simp only at HM0 ⊢
  have y0 := Blk.cell_ (HM0.at_ 0 rfl) 0
  have y1 := Blk.cell_ (HM0.at_ 0 rfl) 1
  have y2 := Blk.cell_ (HM0.at_ 0 rfl) 2
  have y3 := Blk.cell_ (HM0.at_ 0 rfl) 3
  have y6 := Blk.cell_ (HM0.at_ 0 rfl) 6
  simp only [List.getElem?_toArray, List.getElem?_cons_succ, List.getElem?_cons_zero] at y0 y1 y2 y3 y6
  have HMe := Lib.hid (HM0.sel [] (by decide))
  have hF := stat_calls (Pure.chunk HM0.mu h) nn hn
  go_enter Tryd.func14, Tryd.ntmps14
  by_cases hc : nc = 0
  · have HE : Hid (R = 0) := by unfold Hid; rw [← HR.out, if_pos hc]
    have dc : ((nc : Int) == 0) = true := by rw [beq_iff_eq]; omega
    clear hc
    go_wp2_with fail
    go_ret
    exact ⟨by rw [HE.out]; rfl, HMe.out⟩
  · have dc : ((nc : Int) == 0) = false := by rw [beq_eq_false_iff_ne]; omega
    have HR2 := Lib.hid ((if_neg hc).symm.trans HR.out)
    clear hc HR
    cases nph with
    | true =>
      have HE : Hid (R = 2) := by unfold Hid; rw [← HR2.out, if_pos (.inl rfl)]
      go_wp2_with fail
      go_ret
      exact ⟨by rw [HE.out]; rfl, HMe.out⟩
    | false =>
      by_cases hk : nk = 2
      · have HE : Hid (R = 2) := by unfold Hid; rw [← HR2.out, if_pos (.inr hk)]
        have dk : (nk == 2) = true := by rw [beq_iff_eq]; exact hk
        clear hk
        go_wp2_with fail
        go_ret
        exact ⟨by rw [HE.out]; rfl, HMe.out⟩
      · have dk : (nk == 2) = false := by rw [beq_eq_false_iff_ne]; exact hk
        have HR3 : Hid ((if (findS s nn).2.2 ≠ 0 then 3 else if nk = 3 ∧ ns = [] then 4 else if newerS s ⟨nn, nk, ns, nc, false⟩ made ≠ [] then 5 else 0) = R) := by
          unfold Hid; rw [← HR2.out, if_neg (show ¬ (false = true ∨ nk = 2) from fun h => h.elim (fun e => by cases e) hk)]
        clear hk HR2
        have Hn := Lib.hid (fun wx (hx : Pure w wx) => newer_calls (Pure.chunk hx h) ⟨nn, nk, ns, nc, false⟩ (.slice A ns.length c) (.slice A1 nc c1) (.slice A2 k2 c2) (.slice A3 made.length c3) im b1 b2 b3 made (Sl.pure hx hS') (Sl.pure hx hM') hn hs hl hm ⟨_, _, _, rfl⟩ ⟨_, _, _, rfl⟩)
        clear hs hS' hM' g3 g4 m3 m4 hn h
        go_wp2_with fail
        refine hF.mono ?_
        rintro e w1 ⟨rfl, HM1⟩
        have HMq := HM0.got HM1
        simp only [List.nil_append] at HMq
        have HMe2 := Lib.hid (HMq.sel [] (by decide))
        clear hF HM0 HM1 y0 y1 y2 y3 y6 HMe
        have z0 := Blk.cell_ (HMq.at_ 0 rfl) 0
        have z1 := Blk.cell_ (HMq.at_ 0 rfl) 1
        have z2 := Blk.cell_ (HMq.at_ 0 rfl) 2
        have z3 := Blk.cell_ (HMq.at_ 0 rfl) 3
        have z4 := Blk.cell_ (HMq.at_ 0 rfl) 4
        have z5 := Blk.cell_ (HMq.at_ 0 rfl) 5
        have z6 := Blk.cell_ (HMq.at_ 0 rfl) 6
        have z7 := Blk.cell_ (HMq.at_ 0 rfl) 7
        have z8 := Blk.cell_ (HMq.at_ 0 rfl) 8
        have z9 := Blk.cell_ (HMq.at_ 0 rfl) 9
        simp only [List.getElem?_toArray, List.getElem?_cons_succ, List.getElem?_cons_zero] at z0 z1 z2 z3 z4 z5 z6 z7 z8 z9
        by_cases hg : (findS s nn).2.2 = 0
        · have dg : ((((findS s nn).2.2 : Nat) : Int) != 0) = false := by rw [bne_eq_false_iff_eq]; omega
          have HR4 : Hid ((if nk = 3 ∧ ns = [] then 4 else if newerS s ⟨nn, nk, ns, nc, false⟩ made ≠ [] then 5 else 0) = R) := by
            exact (if_neg (fun e => e hg)).symm.trans HR3.out
          clear hg HR3
          have Hn1 := Hn.out w1 HMq.mu
          unfold ndC at Hn1
          simp only at Hn1
          clear Hn HMq
          by_cases hk : nk = 3
          · have dk3 : (nk == 3) = true := by rw [beq_iff_eq]; exact hk
            by_cases hs0 : ns.length = 0
            · have HE : Hid (R = 4) := by unfold Hid; rw [← HR4.out, if_pos ⟨hk, List.length_eq_zero_iff.1 hs0⟩]
              have ds : ((ns.length : Int) == 0) = true := by rw [beq_iff_eq]; omega
              clear hk hs0 HR4 Hn1
              go_wp2_with fail
              go_ret
              exact ⟨by rw [HE.out]; rfl, HMe2.out⟩
            · have ds : ((ns.length : Int) == 0) = false := by rw [beq_eq_false_iff_ne]; omega
              have HE : Hid ((if newerS s ⟨nn, nk, ns, nc, false⟩ made ≠ [] then 5 else 0) = R) := by exact (if_neg (fun e => hs0 (by rw [e.2]; rfl))).symm.trans HR4.out
              clear hk hs0 HR4
              go_wp2_with fail
              refine Hn1.mono ?_
              rintro e w2 ⟨v, rfl, HM2⟩
              obtain ⟨AN, cN, rfl, _, _⟩ := Row.any_ (HM2.at_ 0 rfl)
              have HMf := Lib.hid ((HMe2.out.got HM2).sel [] (by decide))
              clear Hn1 HM2 HMe2 z0 z1 z2 z3 z4 z5 z6 z7 z8 z9
              generalize newerS s ⟨nn, nk, ns, nc, false⟩ made = L at *
              by_cases hL : L.length = 0
              · have dL : decide ((0 : Int) < (L.length : Int)) = false := decide_eq_false (by omega)
                have dL' : decide (0 < L.length) = false := decide_eq_false (by omega)
                have HE2 : Hid (R = 0) := by unfold Hid; rw [← HE.out, if_neg (fun e => e (List.length_eq_zero_iff.1 hL))]
                clear hL HE
                go_wp2_with fail
                go_ret
                exact ⟨by rw [HE2.out]; rfl, HMf.out⟩
              · have dL : decide ((0 : Int) < (L.length : Int)) = true := decide_eq_true (by omega)
                have dL' : decide (0 < L.length) = true := decide_eq_true (by omega)
                have HE2 : Hid (R = 5) := by unfold Hid; rw [← HE.out, if_pos (fun e => hL (by rw [e]; rfl))]
                clear hL HE
                go_wp2_with fail
                go_ret
                exact ⟨by rw [HE2.out]; rfl, HMf.out⟩
          · have dk3 : (nk == 3) = false := by rw [beq_eq_false_iff_ne]; exact hk
            have HE : Hid ((if newerS s ⟨nn, nk, ns, nc, false⟩ made ≠ [] then 5 else 0) = R) := by exact (if_neg (fun e => hk e.1)).symm.trans HR4.out
            clear hk HR4
            go_wp2_with fail
            refine Hn1.mono ?_
            rintro e w2 ⟨v, rfl, HM2⟩
            obtain ⟨AN, cN, rfl, _, _⟩ := Row.any_ (HM2.at_ 0 rfl)
            have HMf := Lib.hid ((HMe2.out.got HM2).sel [] (by decide))
            clear Hn1 HM2 HMe2 z0 z1 z2 z3 z4 z5 z6 z7 z8 z9
            generalize newerS s ⟨nn, nk, ns, nc, false⟩ made = L at *
            by_cases hL : L.length = 0
            · have dL : decide ((0 : Int) < (L.length : Int)) = false := decide_eq_false (by omega)
              have dL' : decide (0 < L.length) = false := decide_eq_false (by omega)
              have HE2 : Hid (R = 0) := by unfold Hid; rw [← HE.out, if_neg (fun e => e (List.length_eq_zero_iff.1 hL))]
              clear hL HE
              go_wp2_with fail
              go_ret
              exact ⟨by rw [HE2.out]; rfl, HMf.out⟩
            · have dL : decide ((0 : Int) < (L.length : Int)) = true := decide_eq_true (by omega)
              have dL' : decide (0 < L.length) = true := decide_eq_true (by omega)
              have HE2 : Hid (R = 5) := by unfold Hid; rw [← HE.out, if_pos (fun e => hL (by rw [e]; rfl))]
              clear hL HE
              go_wp2_with fail
              go_ret
              exact ⟨by rw [HE2.out]; rfl, HMf.out⟩
        · have dg : ((((findS s nn).2.2 : Nat) : Int) != 0) = true := by rw [bne_iff_ne]; omega
          have HE : Hid (R = 3) := by unfold Hid; rw [← HR3.out, if_pos hg]
          clear hg HR3 HMq Hn
          go_wp2_with fail
          go_ret
          exact ⟨by rw [HE.out]; rfl, HMe2.out⟩
end
end
end Go.Proofs.YtnpehlkdfbmnkaaDoor
