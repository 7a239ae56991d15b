/-
  Layer 03 (vfs): VfsRefused.
-/
import Derived.Test.YtjhcabjlhnhkbaaDoorVfsN
set_option linter.unusedVariables false
set_option linter.unusedSimpArgs false
set_option maxRecDepth 20000
namespace Go.Proofs.YtjhcabjlhnhkbaaDoor
open Go.RowKit

theorem copyS_ok {s : St} {k : Int} (h : OkS s k) : OkS (copyS s) k := by
  obtain ⟨g, c, m, sh⟩ := h
  exact ⟨⟨g.room0, g.room1, g.used, g.fits, g.keys, g.len, g.clock, Nat.zero_le _, g.text, g.time, g.path⟩, c, m, sh⟩
theorem copyS_same (s : St) : SameS s (copyS s) := ⟨rfl, rfl, rfl, rfl⟩
theorem readS_good {s : St} (h : GoodS s) (p : List UInt8) : GoodS (readS s p).1 := by
  unfold readS
  split
  · exact h
  split
  · exact h
  · exact noteS_good h _ _
theorem all_short {s : St} {k : Int} (h : OkS s k) : ∀ r, r ∈ allS s → r.length ≤ 140000 := fun r hr => by
  obtain ⟨f, hf, _⟩ := allS_mem hr
  exact h.short _ hf
set_option maxHeartbeats 16000000 in
theorem refused_calls (room : Int) (V : Value) (l : List ActS) (ask : ActS) (w : World) (hV : ScrO w V l) (hK : ActO ask ∧ ask.p.length ≤ 140737488351232 ∧ ask.q.length ≤ 140737488351232) :
    Calls Tryd.prog 5 #[.int .i64 room, V, .agg (actC ask)] w fun e w' => e = .returned (.bool true) ∧ Mem none_ w [] w' := by
  have hA := fun wx => valive_calls wx
  have hLg := fun wx (hx : Pure w wx) => long_calls V l wx ⟨hV.r.pure hx, hV.o, hV.p⟩
  obtain ⟨⟨A, c, rfl, g1, g2, g3, g4⟩, hV2, hV3⟩ := hV
  obtain ⟨hKo, hKp, hKq⟩ := hK
  unfold maxLen at g2
  clear hV2 hV3
  have hDk := fun (hp : ask.p.length ≤ 130000) (hq : ask.q.length ≤ 130000) sb mb nv s (hO : OkS s 700) wx (hx : (StoreC sb mb nv s).ok wx) => does_calls hx hO (by omega) ask ⟨hKo, hp, hq⟩
  have hGk := fun (hp : ask.p.length ≤ 130000) (hq : ask.q.length ≤ 130000) s (hO : OkS s 700) => (doesS_goes hO (by omega) ask hp hq).refused
  obtain ⟨kk, kp, kq, kt, kn⟩ := ask
  unfold actC at hDk ⊢
  simp only at hKp hKq hDk hGk ⊢
  have zp := ofL_size kp
  have zq := ofL_size kq
  have HM0 := (Mem.start (fp := none_) w).box #[.int .u8 kk, .string (ofL kp), .string (ofL kq), .string (ofL kt), .int .i64 kn] 30
  by_cases hb : room < 0 ∨ 1048576 < room
  · clear hLg hDk hGk
    have hN := fun wx => newbad_calls room wx hb
    go_enter Tryd.func5, Tryd.ntmps5
    go_wp2_with fail
    generalize World.alloc _ _ = W0 at *
    have hN1 := hN W0
    refine hN1.mono ?_
    rintro e w1 ⟨rfl, rfl⟩
    clear hN hN1
    have hA1 := hA W0
    go_wp2_with fail
    refine hA1.mono ?_
    rintro e wz ⟨rfl, HMz⟩
    have HMy := (HM0.got HMz).sel [] (by decide)
    clear hA1 HM0 HMz
    go_wp2_with fail
    go_ret
    exact ⟨rfl, HMy⟩
  · have hN := fun wx => new_calls room wx (by omega) (by omega)
    have HO0 : Hid (OkS (newS room) 0) := newS_ok (by omega) (by omega)
    clear hb
    have z0 := Blk.cell_ (HM0.at_ 0 rfl) 0
    have z1 := Blk.cell_ (HM0.at_ 0 rfl) 1
    have z2 := Blk.cell_ (HM0.at_ 0 rfl) 2
    have z3 := Blk.cell_ (HM0.at_ 0 rfl) 3
    have z4 := Blk.cell_ (HM0.at_ 0 rfl) 4
    simp only [List.getElem?_toArray, List.getElem?_cons_succ, List.getElem?_cons_zero] at z0 z1 z2 z3 z4
    go_enter Tryd.func5, Tryd.ntmps5
    go_wp2_with fail
    generalize World.alloc _ _ = W0 at *
    generalize w.heap.size = kb at *
    have hN1 := hN W0
    refine hN1.mono ?_
    rintro e w1 ⟨sb, mb, rfl, HM1⟩
    have HM2 := HM0.got HM1
    simp only [List.cons_append, List.nil_append] at HM2
    have hL1 := hLg w1 HM2.mu
    clear hN hN1 hLg HM0 HM1 z0 z1 z2 z3 z4
    go_wp2_with fail
    refine hL1.mono ?_
    rintro e w2 ⟨b, rfl, hbl, HMa⟩
    have HM3 := HM2.got HMa
    simp only [List.nil_append] at HM3
    clear hL1 HM2 HMa
    cases b with
    | true =>
      have hA1 := hA w2
      go_wp2_with fail
      refine hA1.mono ?_
      rintro e wz ⟨rfl, HMz⟩
      have HMy := (HM3.got HMz).sel [] (by decide)
      clear hA1 HM3 HMz
      go_wp2_with fail
      go_ret
      exact ⟨rfl, HMy⟩
    | false =>
      obtain ⟨hlen, hn⟩ := hbl rfl
      have HN := Lib.hid hn
      clear hbl hn
      have z0 := Blk.cell_ (HM3.at_ 1 rfl) 0
      have z1 := Blk.cell_ (HM3.at_ 1 rfl) 1
      have z2 := Blk.cell_ (HM3.at_ 1 rfl) 2
      have z3 := Blk.cell_ (HM3.at_ 1 rfl) 3
      have z4 := Blk.cell_ (HM3.at_ 1 rfl) 4
      simp only [List.getElem?_toArray, List.getElem?_cons_succ, List.getElem?_cons_zero] at z0 z1 z2 z3 z4
      have wz : IntKind.i64.wrap ((kp.length : Int) + (kq.length : Int)) = (kp.length : Int) + (kq.length : Int) := IntWalk.i64_in _ (by omega)
      by_cases hbig : 3000 < kp.length + kq.length
      · have d1 : decide ((3000 : Int) < (kp.length : Int) + (kq.length : Int)) = true := decide_eq_true (by omega)
        have d1' : decide (3000 < kp.length + kq.length) = true := decide_eq_true hbig
        have hA1 := hA w2
        go_wp2_with fail
        refine hA1.mono ?_
        rintro e wz ⟨rfl, HMz⟩
        have HMy := (HM3.got HMz).sel [] (by decide)
        clear hA1 HM3 HMz
        go_wp2_with fail
        go_ret
        exact ⟨rfl, HMy⟩
      · have d1 : decide ((3000 : Int) < (kp.length : Int) + (kq.length : Int)) = false := decide_eq_false (by omega)
        have d1' : decide (3000 < kp.length + kq.length) = false := decide_eq_false hbig
        have hA1 := hA w2
        have hDk1 := hDk (by omega) (by omega)
        have hGk1 := hGk (by omega) (by omega)
        clear hA hDk hGk hbig
        have HDk := Lib.hid hDk1
        have HGk := Lib.hid hGk1
        clear hDk1 hGk1
        go_wp2_with fail
        refine hA1.mono ?_
        rintro e w3 ⟨rfl, HM4⟩
        have HM5 := HM3.got HM4
        simp only [List.nil_append] at HM5
        clear hA1 HM3 HM4 z0 z1 z2 z3 z4 d1 d1' wz
        go_wp2_with fail
        go_loopw [56] (fun v56 wr => ∃ (k : Nat) (nv : Value), k ≤ l.length ∧ v56 = .int .i64 k ∧ Mem none_ w [StoreC sb mb nv (runA (newS room) (l.take k)), Blk kb 30 #[.int .u8 kk, .string (ofL kp), .string (ofL kq), .string (ofL kt), .int .i64 kn]] wr) (fun v _ => l.length - (intOf v).toNat)
        case atStart => exact ⟨0, _, Nat.zero_le _, rfl, HM5⟩
        case round =>
          clear HM5
          obtain ⟨k, nv, hk, rfl, HM⟩ := hrel
          by_cases hlt : k < l.length
          · have hlt' : decide ((k : Int) < (l.length : Int)) = true := decide_eq_true (by omega)
            have hltN : decide (k < l.length) = true := decide_eq_true hlt
            obtain ⟨b, o, rfl, hcells⟩ := g4.resolve_left (by omega)
            obtain ⟨p0, p1, p2, p3, p4⟩ := acs_get hlt
            have x0 : wr.cell? ⟨b, o + k * 5, none⟩ = some (.int .u8 l[k].kind) := Pure.cell HM.mu (hcells _ _ p0)
            have x1 : wr.cell? ⟨b, o + k * 5 + 1, none⟩ = some (.string (ofL l[k].p)) := Pure.cell HM.mu (hcells _ _ p1)
            have x2 : wr.cell? ⟨b, o + k * 5 + 2, none⟩ = some (.string (ofL l[k].q)) := Pure.cell HM.mu (hcells _ _ p2)
            have x3 : wr.cell? ⟨b, o + k * 5 + 3, none⟩ = some (.string (ofL l[k].t)) := Pure.cell HM.mu (hcells _ _ p3)
            have x4 : wr.cell? ⟨b, o + k * 5 + 4, none⟩ = some (.int .i64 l[k].n) := Pure.cell HM.mu (hcells _ _ p4)
            have hOk : OkS (runA (newS room) (l.take k)) (0 + k) := (runA_ok (l := l.take k) HO0.out (by omega) (fun a ha => ⟨(HN.out a (List.mem_of_mem_take ha)).p, (HN.out a (List.mem_of_mem_take ha)).q⟩)).more (by rw [List.length_take]; omega)
            have Hsn := Lib.hid (runA_snoc (newS room) l k hlt)
            have hna := HN.out _ (List.getElem_mem hlt)
            clear hcells p0 p1 p2 p3 p4 g4
            generalize runA (newS room) (l.take k) = s_ at *
            generalize l[k] = a_ at *
            have hDo := fun wx nvx (hx : (StoreC sb mb nvx s_).ok wx) => does_calls hx hOk (by omega) a_ hna
            obtain ⟨kd, p, q, t, n⟩ := a_
            unfold actC at hDo
            simp only at x0 x1 x2 x3 x4 hDo Hsn
            generalize (doesS s_ ⟨kd, p, q, t, n⟩).2 = e_ at *
            generalize (doesS s_ ⟨kd, p, q, t, n⟩).1 = s2_ at *
            have HMx := HM.box #[.int .u8 kd, .string (ofL p), .string (ofL q), .string (ofL t), .int .i64 n] 30
            have y0 := Blk.cell_ (HMx.at_ 0 rfl) 0
            have y1 := Blk.cell_ (HMx.at_ 0 rfl) 1
            have y2 := Blk.cell_ (HMx.at_ 0 rfl) 2
            have y3 := Blk.cell_ (HMx.at_ 0 rfl) 3
            have y4 := Blk.cell_ (HMx.at_ 0 rfl) 4
            simp only [List.getElem?_toArray, List.getElem?_cons_succ, List.getElem?_cons_zero] at y0 y1 y2 y3 y4
            have hD1 := hDo _ _ (HMx.at_ 1 rfl)
            have HMk := Lib.hid (HMx.sel [1, 2] (by decide))
            clear HM HMx hDo hOk hna
            go_wp2_with fail
            refine hD1.mono ?_
            rintro e w6 ⟨rfl, nv2, HM6⟩
            have HM7 := Mem.call1 HMk.out HM6
            simp only [List.cons_append, List.nil_append] at HM7
            clear hD1 HM6 HMk x0 x1 x2 x3 x4 y0 y1 y2 y3 y4
            go_wp2_with fail
            go_roundw
            case rel => exact ⟨k + 1, nv2, by omega, by go_num, by rw [Hsn.out]; exact HM7⟩
            case measure => simp [intOf]; omega
          · have hlt' : decide ((k : Int) < (l.length : Int)) = false := decide_eq_false (by omega)
            have hltN : decide (k < l.length) = false := decide_eq_false hlt
            have ek : k = l.length := by omega
            subst ek
            rw [List.take_length] at HM
            clear g4
            have hOk : OkS (runA (newS room) l) 700 := (runA_ok (l := l) HO0.out (Int.le_refl _) (fun a ha => ⟨(HN.out a ha).p, (HN.out a ha).q⟩)).more (by omega)
            generalize runA (newS room) l = s at *
            have hDo := HDk.out sb mb nv s hOk
            have hRf := HGk.out s hOk
            clear HDk HGk HO0 HN
            have hCp := copy_calls (HM.at_ 0 rfl)
            go_wp2_with fail
            refine hCp.mono ?_
            rintro e w4 ⟨cb, cm, rfl, HMa⟩
            have HMb := (HM.got HMa).sel [1, 0, 2] (by decide)
            simp only [List.cons_append, List.nil_append, List.filterMap_cons, List.filterMap_nil, List.getElem?_cons_succ, List.getElem?_cons_zero] at HMb
            clear hCp HM HMa
            have z0 := Blk.cell_ (HMb.at_ 2 rfl) 0
            have z1 := Blk.cell_ (HMb.at_ 2 rfl) 1
            have z2 := Blk.cell_ (HMb.at_ 2 rfl) 2
            have z3 := Blk.cell_ (HMb.at_ 2 rfl) 3
            have z4 := Blk.cell_ (HMb.at_ 2 rfl) 4
            simp only [List.getElem?_toArray, List.getElem?_cons_succ, List.getElem?_cons_zero] at z0 z1 z2 z3 z4
            have hD1 := hDo _ (HMb.at_ 0 rfl)
            obtain ⟨⟨s', e'⟩, hR⟩ : ∃ R, doesS s ⟨kk, kp, kq, kt, kn⟩ = R := ⟨_, rfl⟩
            rw [hR] at hD1 hRf
            simp only at hD1 hRf
            clear hDo hR
            go_wp2_with fail
            refine hD1.mono ?_
            rintro e w5 ⟨rfl, nv2, HMc⟩
            have HMd := Mem.call1 HMb HMc
            simp only [List.cons_append, List.nil_append] at HMd
            clear hD1 HMb HMc z0 z1 z2 z3 z4
            by_cases he : e' = 0
            · have qe : ((e' : Int) == 0) = true := by rw [beq_iff_eq]; omega
              go_wp2_with fail
              go_ret
              exact ⟨rfl, HMd.sel [] (by decide)⟩
            · have qe : ((e' : Int) == 0) = false := by rw [beq_eq_false_iff_ne]; omega
              have hs := hRf he
              subst hs
              clear he hRf
              have hcO := copyS_ok hOk
              have eA : allS (copyS s') = allS s' := rfl
              have eC : (copyS s').clock = s'.clock := rfl
              have eU : (copyS s').used = s'.used := rfl
              have hAl := fun wx nvx (hx : (StoreC sb mb nvx s').ok wx) => all_calls hx hOk.good
              have hAc := fun wx (hx : (StoreC cb cm (.slice none 0 0) (copyS s')).ok wx) => all_calls hx hcO.good
              rw [eA] at hAc
              have HSh := Lib.hid (all_short hOk)
              have HMd0 : Mem none_ w [StoreC sb mb nv2 s', StoreC cb cm (.slice none 0 0) (copyS s')] _ := HMd.sel [0, 1] (by decide)
              clear HMd
              have hAl1 := hAl _ _ (HMd0.at_ 0 rfl)
              generalize hLL : allS s' = L at *
              clear hLL
              go_wp2_with fail
              refine hAl1.mono ?_
              rintro e wa ⟨v1, rfl, HMx⟩
              have HMe := HMd0.got HMx
              simp only [List.cons_append, List.nil_append] at HMe
              clear hAl1 HMd0 HMx
              obtain ⟨AL, cL, rfl, _, _⟩ := Row.any_ (HMe.at_ 0 rfl)
              have hAc1 := hAc _ (HMe.at_ 2 rfl)
              go_wp2_with fail
              refine hAc1.mono ?_
              rintro e wb ⟨v2, rfl, HMx⟩
              have HMf := HMe.got HMx
              simp only [List.cons_append, List.nil_append] at HMf
              clear hAc1 HMe HMx hAc
              obtain ⟨AM, cM, rfl, _, _⟩ := Row.any_ (HMf.at_ 0 rfl)
              have hSm := sameT_calls (.slice AL L.length cL) (.slice AM L.length cM) L L wb (Row.sl (HMf.at_ 1 rfl)) (Row.sl (HMf.at_ 0 rfl))
              rw [show decide (L = L) = true from decide_eq_true rfl] at hSm
              go_wp2_with fail
              refine hSm.mono ?_
              rintro e wc ⟨rfl, HMx⟩
              have HMg : Mem none_ w [StoreC sb mb nv2 s', StoreC cb cm (.slice none 0 0) (copyS s')] wc := (HMf.got HMx).sel [2, 3] (by decide)
              clear hSm HMf HMx
              have hk1 := clock_calls (HMg.at_ 0 rfl)
              have hk2 := clock_calls (HMg.at_ 1 rfl)
              have hu1 := used_calls (HMg.at_ 0 rfl)
              have hu2 := used_calls (HMg.at_ 1 rfl)
              rw [eC] at hk2
              rw [eU] at hu2
              go_wp2_with fail
              refine hk1.mono ?_
              rintro e wd ⟨rfl, rfl⟩
              clear hk1
              go_wp2_with fail
              refine hk2.mono ?_
              rintro e wd ⟨rfl, rfl⟩
              clear hk2
              go_wp2_with fail
              refine hu1.mono ?_
              rintro e wd ⟨rfl, rfl⟩
              clear hu1
              go_wp2_with fail
              refine hu2.mono ?_
              rintro e wd ⟨rfl, rfl⟩
              clear hu2
              have hAl1 := hAl _ _ (HMg.at_ 0 rfl)
              go_wp2_with fail
              refine hAl1.mono ?_
              rintro e wa ⟨v1, rfl, HMx⟩
              have HMe : Mem none_ w [TRow v1 L, StoreC sb mb nv2 s', StoreC cb cm (.slice none 0 0) (copyS s')] wa := HMg.got HMx
              clear hAl1 HMg HMx hAl
              obtain ⟨AL2, cL2, rfl, z1, z2⟩ := Row.any_ (HMe.at_ 0 rfl)
              unfold maxLen at z2
              have HG1 := Lib.hid hOk.good
              have HG2 := Lib.hid hcO.good
              clear hOk hcO
              go_wp2_with fail
              go_loopw [99] (fun vi wr => ∃ (j : Nat) (n1 n2 : Value) (s1 s2 : St), j ≤ L.length ∧ vi = .int .i64 j ∧ Hid (s1.files = s'.files ∧ GoodS s1) ∧ Hid (s2.files = s'.files ∧ GoodS s2) ∧ Mem none_ w [TRow (.slice AL2 L.length cL2) L, StoreC sb mb n1 s1, StoreC cb cm n2 s2] wr) (fun v _ => L.length - (intOf v).toNat)
              case atStart => exact ⟨0, _, _, s', (copyS s'), Nat.zero_le _, rfl, ⟨rfl, HG1.out⟩, ⟨(SameS.refl _).fi, HG2.out⟩, HMe⟩
              case round =>
                clear HMe HG1 HG2
                obtain ⟨j, n1, n2, s1, s2, hj, rfl, HG1, HG2, HMe⟩ := hrel
                by_cases hjl : j < L.length
                · have hjl' : decide ((j : Int) < (L.length : Int)) = true := decide_eq_true (by omega)
                  have hjlN : decide (j < L.length) = true := decide_eq_true hjl
                  obtain ⟨A', c', e3, _, _, _, h4⟩ := Row.sl (HMe.at_ 0 rfl)
                  cases e3
                  obtain ⟨b2, o2, rfl, hcells⟩ := h4.resolve_left (by omega)
                  have r0 := hcells j _ (tx_get hjl)
                  have hrl := HSh.out _ (List.getElem_mem hjl)
                  clear hcells h4
                  generalize L[j] = r at *
                  have hR1 := read_calls (HMe.at_ 1 rfl) HG1.out.2 r (by omega)
                  rw [(readS_files HG1.out.1 r).1] at hR1
                  have HG3 : Hid ((readS s1 r).1.files = s'.files ∧ GoodS (readS s1 r).1) := ⟨(readS_files HG1.out.1 r).2, readS_good HG1.out.2 r⟩
                  have hR2 := fun wx (hx : (StoreC cb cm n2 s2).ok wx) => read_calls hx HG2.out.2 r (by omega)
                  rw [(readS_files HG2.out.1 r).1] at hR2
                  have HG4 : Hid ((readS s2 r).1.files = s'.files ∧ GoodS (readS s2 r).1) := ⟨(readS_files HG2.out.1 r).2, readS_good HG2.out.2 r⟩
                  generalize (readS s1 r).1 = s3 at *
                  generalize (readS s2 r).1 = s4 at *
                  generalize (readS s' r).2.1 = RT at *
                  generalize (readS s' r).2.2 = RE at *
                  have hS3 := fun nvx wx (hx : (StoreC sb mb nvx s3).ok wx) => stat_calls hx r (by omega)
                  have hS4 := fun nvx wx (hx : (StoreC cb cm nvx s4).ok wx) => stat_calls hx r (by omega)
                  rw [findS_files HG3.out.1] at hS3
                  rw [findS_files HG4.out.1] at hS4
                  generalize findS s' r = FF at *
                  obtain ⟨Fq, Ff, Fe⟩ := FF
                  obtain ⟨ft, fm, fd⟩ := Ff
                  simp only at hS3 hS4
                  have qT : ((ofL RT).toList == (ofL RT).toList) = true := by rw [str_eq]; exact decide_eq_true rfl
                  have HMf : Mem none_ w [StoreC sb mb n1 s1, StoreC cb cm n2 s2, TRow (.slice (some ⟨b2, o2, none⟩) L.length cL2) L] _ := HMe.sel [1, 2, 0] (by decide)
                  clear HMe
                  go_wp2_with fail
                  refine hR1.mono ?_
                  rintro e u1w ⟨rfl, n3, HMx⟩
                  have HMg : Mem none_ w [StoreC cb cm n2 s2, StoreC sb mb n3 s3, TRow (.slice (some ⟨b2, o2, none⟩) L.length cL2) L] _ := (Mem.call1 HMf HMx).sel [1, 0, 2] (by decide)
                  have hR3 := hR2 _ (HMg.at_ 0 rfl)
                  clear hR1 hR2 HMf HMx r0
                  go_wp2_with fail
                  refine hR3.mono ?_
                  rintro e u2w ⟨rfl, n4, HMx⟩
                  have HMh : Mem none_ w [TRow (.slice (some ⟨b2, o2, none⟩) L.length cL2) L, StoreC sb mb n3 s3, StoreC cb cm n4 s4] _ := (Mem.call1 HMg HMx).sel [2, 1, 0] (by decide)
                  clear hR3 HMg HMx
                  have hT3 := hS3 _ _ (HMh.at_ 1 rfl)
                  clear hS3
                  go_wp2_with fail
                  refine hT3.mono ?_
                  rintro e u3w ⟨rfl, HMq⟩
                  have HMi := HMh.got HMq
                  simp only [List.nil_append, List.cons_append] at HMi
                  clear hT3 HMh HMq 
                  have hT4 := hS4 _ _ (HMi.at_ 2 rfl)
                  clear hS4
                  go_wp2_with fail
                  refine hT4.mono ?_
                  rintro e u4w ⟨rfl, HMq⟩
                  have HMj := HMi.got HMq
                  simp only [List.nil_append, List.cons_append] at HMj
                  clear hT4 HMi HMq 
                  go_wp2_with fail
                  go_roundw
                  case rel => exact ⟨j + 1, _, _, _, _, by omega, by go_num, HG3, HG4, HMj⟩
                  case measure => simp [intOf]; omega
                · have hjl' : decide ((j : Int) < (L.length : Int)) = false := decide_eq_false (by omega)
                  have hjlN : decide (j < L.length) = false := decide_eq_false hjl
                  have HMr := HMe.sel [] (by decide)
                  clear HMe
                  go_wp2_with fail
                  go_ret
                  exact ⟨rfl, HMr⟩
end Go.Proofs.YtjhcabjlhnhkbaaDoor
