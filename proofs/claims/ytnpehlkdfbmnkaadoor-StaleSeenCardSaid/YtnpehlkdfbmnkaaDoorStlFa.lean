/-
  Layer 18 (stale): nodes as arguments; far, theirs.
-/
import Derived.Test.YtnpehlkdfbmnkaaDoorStlY
import Derived.Test.YtnpehlkdfbmnkaaDoorStlF
set_option linter.unusedVariables false
set_option linter.unusedSimpArgs false
set_option maxRecDepth 20000
namespace Go.Proofs.YtnpehlkdfbmnkaaDoor
open Go.RowKit

/-- What an argument of the type Node reads as. -/
structure NodeO (w : World) (n : NdS) (SV CV AV : Value) : Prop where
  s : Txts w SV n.src
  c : ∃ A c, CV = .slice A n.cmds c ∧ n.cmds ≤ 140737488351232
  a : ∃ A k c, AV = .slice A k c
  nl : n.name.length ≤ 140737488351232
  sl : ∀ x, x ∈ n.src → x.length ≤ 140737488351232
theorem NodeO.pure {w w' : World} {n : NdS} {SV CV AV : Value} (h : NodeO w n SV CV AV) (hp : Pure w w') : NodeO w' n SV CV AV := ⟨h.s.pure hp, h.c, h.a, h.nl, h.sl⟩
/-- Neither the node nor the files are too much. -/
structure Near (n : NdS) (l : List (List UInt8 × List UInt8)) (made : List (List UInt8)) : Prop where
  hs : n.src.length ≤ 60
  hl : l.length ≤ 40
  hm : made.length ≤ 60
  hn : n.name.length ≤ 500
  hsl : ∀ x, x ∈ n.src → x.length ≤ 500
  hll : ∀ x, x ∈ l → x.1.length ≤ 500 ∧ x.2.length ≤ 1000
/-- How far ends. -/
def FarP (n : NdS) (l : List (List UInt8 × List UInt8)) (made : List (List UInt8)) (w : World) (e : Ending) (w' : World) : Prop := ∃ b, e = .returned (.bool b) ∧ (b = false → Near n l made) ∧ Mem none_ w [] w'
theorem FarP.of {n : NdS} {l : List (List UInt8 × List UInt8)} {made : List (List UInt8)} {w : World} {e : Ending} {w' : World} (b : Bool) (he : e = .returned (.bool b)) (h : b = false → Near n l made) (hM : Mem none_ w [] w') : FarP n l made w e w' := ⟨b, he, h, hM⟩
set_option maxHeartbeats 8000000 in
theorem far_calls (n : NdS) (SV CV AV FV MV : Value) (im : ByteArray) (b1 b2 b3 : Bool) (l : List (List UInt8 × List UInt8)) (made : List (List UInt8)) (w : World) (o : NodeO w n SV CV AV) (hF : FilesR w FV l) (hM : Txts w MV made)
    (hl : ∀ x, x ∈ l → x.1.length ≤ 140737488351232 ∧ x.2.length ≤ 140737488351232) :
    Calls Tryd.prog 10 #[.agg (ndC n SV CV AV im b1 b2 b3), FV, MV] w (FarP n l made w) := by
  obtain ⟨⟨A, c, rfl, g1, g2, g3, g4⟩, ⟨A1, c1, rfl, _⟩, ⟨A2, k2, c2, rfl⟩, hnl, hsl⟩ := o
  obtain ⟨A3, c3, rfl, m1, m2, m3, m4⟩ := hM
  obtain ⟨A4, c4, rfl, f1, f2, f3, f4⟩ := hF
  unfold maxLen at g2 m2 f2
  obtain ⟨nn, nk, ns, nc, nph⟩ := n
  simp only at g1 g3 g4 hnl hsl ⊢
  have hz := ofL_size nn
  have HM0 := (Mem.start (fp := none_) w).box #[.string (ofL nn), .int .i64 nk, .slice A ns.length c, .slice A1 nc c1, .slice A2 k2 c2, .string im, .bool nph, .bool b1, .bool b2, .bool b3] 24
  unfold ndC
  simp only
  have z0 := Blk.cell_ (HM0.at_ 0 rfl) 0
  have z2 := Blk.cell_ (HM0.at_ 0 rfl) 2
  simp only [List.getElem?_toArray, List.getElem?_cons_succ, List.getElem?_cons_zero] at z0 z2
  have HMe := Lib.hid (HM0.sel [] (by decide))
  have Hs := Lib.hid hsl
  have Hl := Lib.hid hl
  clear hsl hl g3 m3 m4 f3
  go_enter Tryd.func10, Tryd.ntmps10
  by_cases h1 : 60 < ns.length
  · have d1 : decide ((60 : Int) < (ns.length : Int)) = true := decide_eq_true (by omega)
    have d1' : decide (60 < ns.length) = true := decide_eq_true (by omega)
    go_wp2_with fail
    go_ret
    exact FarP.of true rfl (fun e => by cases e) HMe.out
  · have d1 : decide ((60 : Int) < (ns.length : Int)) = false := decide_eq_false (by omega)
    have d1' : decide (60 < ns.length) = false := decide_eq_false (by omega)
    by_cases h2 : 40 < l.length
    · have d2 : decide ((40 : Int) < (l.length : Int)) = true := decide_eq_true (by omega)
      have d2' : decide (40 < l.length) = true := decide_eq_true (by omega)
      go_wp2_with fail
      go_ret
      exact FarP.of true rfl (fun e => by cases e) HMe.out
    · have d2 : decide ((40 : Int) < (l.length : Int)) = false := decide_eq_false (by omega)
      have d2' : decide (40 < l.length) = false := decide_eq_false (by omega)
      by_cases h3 : 60 < made.length
      · have d3 : decide ((60 : Int) < (made.length : Int)) = true := decide_eq_true (by omega)
        have d3' : decide (60 < made.length) = true := decide_eq_true (by omega)
        go_wp2_with fail
        go_ret
        exact FarP.of true rfl (fun e => by cases e) HMe.out
      · have d3 : decide ((60 : Int) < (made.length : Int)) = false := decide_eq_false (by omega)
        have d3' : decide (60 < made.length) = false := decide_eq_false (by omega)
        by_cases h4 : 500 < nn.length
        · have d4 : decide ((500 : Int) < (nn.length : Int)) = true := decide_eq_true (by omega)
          have d4' : decide (500 < nn.length) = true := decide_eq_true (by omega)
          go_wp2_with fail
          go_ret
          exact FarP.of true rfl (fun e => by cases e) HMe.out
        · have d4 : decide ((500 : Int) < (nn.length : Int)) = false := decide_eq_false (by omega)
          have d4' : decide (500 < nn.length) = false := decide_eq_false (by omega)
          have HM0' := Lib.hid HM0
          clear HM0
          go_wp2_with fail
          have HM0 := HM0'.out
          clear HM0' z0 z2 HMe
          have HMs := HM0.sel [] (by decide)
          have Hpu := HM0.mu
          clear HM0
          generalize w.alloc _ = W0 at *
          go_loop [8, 34] (fun v8 v34 => ∃ k : Nat, k ≤ ns.length ∧ v34 = .int .i64 k ∧ ∀ x, x ∈ ns.take k → x.length ≤ 500) (fun _ v => ns.length - (intOf v).toNat)
          case atStart => exact ⟨0, Nat.zero_le _, rfl, fun x hx => by cases hx⟩
          case round =>
            obtain ⟨k, hk, rfl, hall⟩ := hrel
            by_cases hlt : k < ns.length
            · have hlt' : decide ((k : Int) < (ns.length : Int)) = true := decide_eq_true (by omega)
              have hltN : decide (k < ns.length) = true := decide_eq_true hlt
              obtain ⟨b, o, rfl, hcells⟩ := g4.resolve_left (by omega)
              have hx0 : W0.cell? ⟨b, o + k, none⟩ = some (.string (ofL ns[k])) := Hpu.cell (hcells k _ (tx_get hlt)) (fun h => h)
              have hxs := ofL_size ns[k]
              have hxb := Hs.out ns[k] (List.getElem_mem hlt)
              have HS : Hid (ns.take (k + 1) = ns.take k ++ [ns[k]]) := List.take_succ_eq_append_getElem hlt
              have Hall := Lib.hid hall
              clear hcells g4 hall
              generalize ns[k] = x at *
              by_cases hx : 500 < x.length
              · have dx : decide ((500 : Int) < (x.length : Int)) = true := decide_eq_true (by omega)
                have dx' : decide (500 < x.length) = true := decide_eq_true (by omega)
                go_wp2_with fail
                go_ret
                exact FarP.of true rfl (fun e => by cases e) HMs
              · have dx : decide ((500 : Int) < (x.length : Int)) = false := decide_eq_false (by omega)
                have dx' : decide (500 < x.length) = false := decide_eq_false (by omega)
                go_wp2_with fail
                go_round
                case rel =>
                  refine ⟨k + 1, by omega, by go_num, fun y hy => ?_⟩
                  rw [HS.out] at hy
                  rcases List.mem_append.1 hy with hy | hy
                  · exact Hall.out y hy
                  · rw [List.mem_singleton.1 hy]; omega
                case measure => simp [intOf]; omega
            · have e : k = ns.length := by omega
              subst e
              rw [List.take_length] at hall
              have Hall := Lib.hid hall
              clear hall
              go_wp2_with fail
              go_loopw [10, 44] (fun v10 v44 wr => ∃ k : Nat, k ≤ l.length ∧ v44 = .int .i64 k ∧ Hid (∀ x, x ∈ l.take k → x.1.length ≤ 500 ∧ x.2.length ≤ 1000) ∧ Mem none_ w [] wr) (fun _ v _ => l.length - (intOf v).toNat)
              case atStart => exact ⟨0, Nat.zero_le _, rfl, (fun x hx => by cases hx), HMs⟩
              case round =>
                clear HMs Hpu
                obtain ⟨k, hk, rfl, Hm, HM⟩ := hrel
                by_cases hlt : k < l.length
                · have hlt' : decide ((k : Int) < (l.length : Int)) = true := decide_eq_true (by omega)
                  have hltN : decide (k < l.length) = true := decide_eq_true hlt
                  obtain ⟨b, o, rfl, hcells⟩ := f4.resolve_left (by omega)
                  have pg := prf_get hlt
                  have hx0 : wr.cell? ⟨b, o + k * 2, none⟩ = some (.string (ofL l[k].1)) := HM.mu.cell (hcells _ _ pg.1) (fun h => h)
                  have hx1 : wr.cell? ⟨b, o + k * 2 + 1, none⟩ = some (.string (ofL l[k].2)) := HM.mu.cell (hcells _ _ pg.2) (fun h => h)
                  have hxs := ofL_size l[k].1
                  have hys := ofL_size l[k].2
                  have hxb := Hl.out l[k] (List.getElem_mem hlt)
                  have HS : Hid (l.take (k + 1) = l.take k ++ [l[k]]) := List.take_succ_eq_append_getElem hlt
                  clear hcells f4 pg
                  generalize l[k] = x at *
                  obtain ⟨xp, xt⟩ := x
                  simp only at hx0 hx1 hxs hys hxb
                  have HMx := HM.box #[.string ⟨#[]⟩, .string ⟨#[]⟩] 76
                  have HMy := Lib.hid (HM.box #[.string (ofL xp), .string (ofL xt)] 76)
                  have z0 := Blk.cell_ (HMx.at_ 0 rfl) 0
                  have z1 := Blk.cell_ (HMx.at_ 0 rfl) 1
                  simp only [List.getElem?_toArray, List.getElem?_cons_succ, List.getElem?_cons_zero] at z0 z1
                  have fz0 := Blk.frozen (HMx.at_ 0 rfl) 0
                  have fz1 := Blk.frozen (HMx.at_ 0 rfl) 1
                  have y0 := Blk.cell_ (HMy.out.at_ 0 rfl) 0
                  have y1 := Blk.cell_ (HMy.out.at_ 0 rfl) 1
                  simp only [List.getElem?_toArray, List.getElem?_cons_succ, List.getElem?_cons_zero] at y0 y1
                  clear HMx HM
                  have hxb1 := hxb.1
                  have hxb2 := hxb.2
                  by_cases hx : 500 < xp.length
                  · have dx : decide ((500 : Int) < (xp.length : Int)) = true := decide_eq_true (by omega)
                    have dx' : decide (500 < xp.length) = true := decide_eq_true (by omega)
                    go_wp2_with fail
                    go_ret
                    exact FarP.of true rfl (fun e => by cases e) (HMy.out.sel [] (by decide))
                  · have dx : decide ((500 : Int) < (xp.length : Int)) = false := decide_eq_false (by omega)
                    have dx' : decide (500 < xp.length) = false := decide_eq_false (by omega)
                    by_cases hy : 1000 < xt.length
                    · have dy : decide ((1000 : Int) < (xt.length : Int)) = true := decide_eq_true (by omega)
                      have dy' : decide (1000 < xt.length) = true := decide_eq_true (by omega)
                      go_wp2_with fail
                      go_ret
                      exact FarP.of true rfl (fun e => by cases e) (HMy.out.sel [] (by decide))
                    · have dy : decide ((1000 : Int) < (xt.length : Int)) = false := decide_eq_false (by omega)
                      have dy' : decide (1000 < xt.length) = false := decide_eq_false (by omega)
                      go_wp2_with fail
                      go_roundw
                      case rel =>
                        refine ⟨k + 1, by omega, by go_num, fun y hy => ?_, HMy.out.sel [] (by decide)⟩
                        rw [HS.out] at hy
                        rcases List.mem_append.1 hy with hy | hy
                        · exact Hm.out y hy
                        · rw [List.mem_singleton.1 hy]; exact ⟨by show xp.length ≤ _; omega, by show xt.length ≤ _; omega⟩
                      case measure => simp [intOf]; omega
                · have e : k = l.length := by omega
                  subst e
                  rw [List.take_length] at Hm
                  go_wp2_with fail
                  go_ret
                  exact FarP.of false rfl (fun _ => ⟨by show ns.length ≤ _; omega, by omega, by omega, by show nn.length ≤ _; omega, Hall.out, Hm.out⟩) HM
set_option maxHeartbeats 4000000 in
theorem theirs_calls (n : NdS) (SV CV AV : Value) (im : ByteArray) (b1 b2 b3 : Bool) (w : World) (o : NodeO w n SV CV AV) :
    Calls Tryd.prog 13 #[.agg (ndC n SV CV AV im b1 b2 b3)] w fun e w' => e = .returned (.agg (ndC n SV CV (.slice none 0 0) ⟨#[]⟩ false false false)) ∧ Mem none_ w [] w' := by
  obtain ⟨⟨A, c, rfl, g1, g2, g3, g4⟩, ⟨A1, c1, rfl, _⟩, ⟨A2, k2, c2, rfl⟩, hnl, hsl⟩ := o
  obtain ⟨nn, nk, ns, nc, nph⟩ := n
  clear hnl hsl g1 g2 g3 g4
  unfold ndC
  simp only
  have HM0 := (Mem.start (fp := none_) w).box #[.string (ofL nn), .int .i64 nk, .slice A ns.length c, .slice A1 nc c1, .slice A2 k2 c2, .string im, .bool nph, .bool b1, .bool b2, .bool b3] 24
  have HM1 := HM0.box #[.string ⟨#[]⟩, .int .i64 0, .slice none 0 0, .slice none 0 0, .slice none 0 0, .string ⟨#[]⟩, .bool false, .bool false, .bool false, .bool false] 32
  have HM2 := HM0.box #[.string (ofL nn), .int .i64 nk, .slice A ns.length c, .slice A1 nc c1, .slice none 0 0, .string ⟨#[]⟩, .bool nph, .bool false, .bool false, .bool false] 32
  have e1 : (w.alloc (.cells #[.string (ofL nn), .int .i64 nk, .slice A ns.length c, .slice A1 nc c1, .slice A2 k2 c2, .string im, .bool nph, .bool b1, .bool b2, .bool b3] 24)).heap.size = w.heap.size + 1 := by simp
  rw [e1] at HM1 HM2
  have y0 := Blk.cell_ (HM1.at_ 1 rfl) 0
  have y1 := Blk.cell_ (HM1.at_ 1 rfl) 1
  have y2 := Blk.cell_ (HM1.at_ 1 rfl) 2
  have y3 := Blk.cell_ (HM1.at_ 1 rfl) 3
  have y6 := Blk.cell_ (HM1.at_ 1 rfl) 6
  simp only [List.getElem?_toArray, List.getElem?_cons_succ, List.getElem?_cons_zero] at y0 y1 y2 y3 y6
  have z0 := Blk.cell_ (HM1.at_ 0 rfl) 0
  have z1 := Blk.cell_ (HM1.at_ 0 rfl) 1
  have z2 := Blk.cell_ (HM1.at_ 0 rfl) 2
  have z3 := Blk.cell_ (HM1.at_ 0 rfl) 3
  have z4 := Blk.cell_ (HM1.at_ 0 rfl) 4
  have z5 := Blk.cell_ (HM1.at_ 0 rfl) 5
  have z6 := Blk.cell_ (HM1.at_ 0 rfl) 6
  have z7 := Blk.cell_ (HM1.at_ 0 rfl) 7
  have z8 := Blk.cell_ (HM1.at_ 0 rfl) 8
  have z9 := Blk.cell_ (HM1.at_ 0 rfl) 9
  simp only [List.getElem?_toArray, List.getElem?_cons_succ, List.getElem?_cons_zero] at z0 z1 z2 z3 z4 z5 z6 z7 z8 z9
  have f0 := Blk.frozen (HM1.at_ 0 rfl) 0
  have f1 := Blk.frozen (HM1.at_ 0 rfl) 1
  have f2 := Blk.frozen (HM1.at_ 0 rfl) 2
  have f3 := Blk.frozen (HM1.at_ 0 rfl) 3
  have f4 := Blk.frozen (HM1.at_ 0 rfl) 4
  have f5 := Blk.frozen (HM1.at_ 0 rfl) 5
  have f6 := Blk.frozen (HM1.at_ 0 rfl) 6
  have f7 := Blk.frozen (HM1.at_ 0 rfl) 7
  have f8 := Blk.frozen (HM1.at_ 0 rfl) 8
  have f9 := Blk.frozen (HM1.at_ 0 rfl) 9
  have HM2' := Lib.hid HM2
  clear HM2 HM1 HM0 e1
  go_enter Tryd.func13, Tryd.ntmps13
  go_wp2_with fail
  clear y0 y1 y2 y3 y6 z0 f0 z1 f1 z2 f2 z3 f3 z4 f4 z5 f5 z6 f6 z7 f7 z8 f8 z9 f9
  have HM3 := HM2'.out
  clear HM2'
  have z0 := Blk.cell_ (HM3.at_ 0 rfl) 0
  have z1 := Blk.cell_ (HM3.at_ 0 rfl) 1
  have z2 := Blk.cell_ (HM3.at_ 0 rfl) 2
  have z3 := Blk.cell_ (HM3.at_ 0 rfl) 3
  have z4 := Blk.cell_ (HM3.at_ 0 rfl) 4
  have z5 := Blk.cell_ (HM3.at_ 0 rfl) 5
  have z6 := Blk.cell_ (HM3.at_ 0 rfl) 6
  have z7 := Blk.cell_ (HM3.at_ 0 rfl) 7
  have z8 := Blk.cell_ (HM3.at_ 0 rfl) 8
  have z9 := Blk.cell_ (HM3.at_ 0 rfl) 9
  simp only [List.getElem?_toArray, List.getElem?_cons_succ, List.getElem?_cons_zero] at z0 z1 z2 z3 z4 z5 z6 z7 z8 z9
  generalize World.alloc _ _ = W at *
  exact bodyPost_ret (v := .agg #[.string (ofL nn), .int .i64 nk, .slice A ns.length c, .slice A1 nc c1, .slice none 0 0, .string ⟨#[]⟩, .bool nph, .bool false, .bool false, .bool false]) (by simp [results, Tryd.results13, go_sem, z0, z1, z2, z3, z4, z5, z6, z7, z8, z9]) rfl ⟨rfl, HM3.sel [] (by decide)⟩
end Go.Proofs.YtnpehlkdfbmnkaaDoor
