/-
  Layer 03 (vfs): VfsCopies.
-/
import Derived.Test.YtjhcabjlhnhkbaaDoorVfsRe
set_option linter.unusedVariables false
set_option linter.unusedSimpArgs false
set_option maxRecDepth 20000
namespace Go.Proofs.YtjhcabjlhnhkbaaDoor
open Go.RowKit

theorem notes_ok {s : St} {k : Int} (h : OkS s k) (b : Bool) : OkS (notesS s b).1 k := by
  obtain ⟨g, c, m, sh⟩ := h
  exact ⟨⟨g.room0, g.room1, g.used, g.fits, g.keys, g.len, g.clock, Nat.zero_le _, g.text, g.time, g.path⟩, c, m, sh⟩
set_option maxHeartbeats 16000000 in
theorem copies_calls (room : Int) (V : Value) (l : List ActS) (U : Value) (m : List ActS) (w : World) (hV : ScrO w V l) (hU : ScrO w U m) :
    Calls Tryd.prog 6 #[.int .i64 room, V, U] w fun e w' => e = .returned (.bool true) ∧ Mem none_ w [] w' := by
  have hA := fun wx => valive_calls wx
  have hLg := fun wx (hx : Pure w wx) => long_calls V l wx ⟨hV.r.pure hx, hV.o, hV.p⟩
  have hLm := fun wx (hx : Pure w wx) => long_calls U m wx ⟨hU.r.pure hx, hU.o, hU.p⟩
  obtain ⟨⟨A, c, rfl, g1, g2, g3, g4⟩, hV2, hV3⟩ := hV
  obtain ⟨⟨A2, c2, rfl, k1, k2, k3, k4⟩, hU2, hU3⟩ := hU
  unfold maxLen at g2 k2
  clear hV2 hV3 hU2 hU3
  by_cases hb : room < 0 ∨ 1048576 < room
  · clear hLg hLm
    have hN := newbad_calls room w hb
    go_enter Tryd.func6, Tryd.ntmps6
    go_wp2_with fail
    refine hN.mono ?_
    rintro e w1 ⟨rfl, rfl⟩
    clear hN
    have hA1 := hA w
    go_wp2_with fail
    refine hA1.mono ?_
    rintro e wz ⟨rfl, HMz⟩
    have HMy := ((Mem.start (fp := none_) w).got HMz).sel [] (by decide)
    clear hA1 HMz
    go_wp2_with fail
    go_ret
    exact ⟨rfl, HMy⟩
  · have hN := new_calls room w (by omega) (by omega)
    have HO0 : Hid (OkS (newS room) 0) := newS_ok (by omega) (by omega)
    clear hb
    go_enter Tryd.func6, Tryd.ntmps6
    go_wp2_with fail
    refine hN.mono ?_
    rintro e w1 ⟨sb, mb, rfl, HM1⟩
    have hL1 := hLg w1 HM1.mu
    clear hN hLg
    go_wp2_with fail
    refine hL1.mono ?_
    rintro e w2 ⟨b, rfl, hbl, HMa⟩
    have HM3 := HM1.got HMa
    simp only [List.nil_append] at HM3
    clear hL1 HM1 HMa
    cases b with
    | true =>
      have hA1 := hA w2
      go_wp2_with fail
      refine hA1.mono ?_
      rintro e wz ⟨rfl, HMz⟩
      have HMy := (HM3.got HMz).sel [] (by decide)
      clear hA1 HM3 HMz
      go_wp2_with fail
      go_ret
      exact ⟨rfl, HMy⟩
    | false =>
      obtain ⟨hlen, hn⟩ := hbl rfl
      have HN := Lib.hid hn
      have hL1 := hLm w2 HM3.mu
      clear hbl hn hLm
      go_wp2_with fail
      refine hL1.mono ?_
      rintro e w3 ⟨b, rfl, hbl, HMa⟩
      have HM4 := HM3.got HMa
      simp only [List.nil_append] at HM4
      clear hL1 HM3 HMa
      cases b with
      | true =>
        have hA1 := hA w3
        go_wp2_with fail
        refine hA1.mono ?_
        rintro e wz ⟨rfl, HMz⟩
        have HMy := (HM4.got HMz).sel [] (by decide)
        clear hA1 HM4 HMz
        go_wp2_with fail
        go_ret
        exact ⟨rfl, HMy⟩
      | false =>
        obtain ⟨hlem, hn⟩ := hbl rfl
        have HNm := Lib.hid hn
        have hA1 := hA w3
        clear hA hbl hn
        go_wp2_with fail
        refine hA1.mono ?_
        rintro e w4 ⟨rfl, HMa⟩
        have HM5 := HM4.got HMa
        simp only [List.nil_append] at HM5
        clear hA1 HM4 HMa
        go_wp2_with fail
        go_loopw [49] (fun v49 wr => ∃ (k : Nat) (nv : Value), k ≤ l.length ∧ v49 = .int .i64 k ∧ Mem none_ w [StoreC sb mb nv (runA (newS room) (l.take k))] wr) (fun v _ => l.length - (intOf v).toNat)
        case atStart => exact ⟨0, _, Nat.zero_le _, rfl, HM5⟩
        case round =>
          clear HM5
          obtain ⟨k, nv, hk, rfl, HM⟩ := hrel
          by_cases hlt : k < l.length
          · have hlt' : decide ((k : Int) < (l.length : Int)) = true := decide_eq_true (by omega)
            have hltN : decide (k < l.length) = true := decide_eq_true hlt
            obtain ⟨b, o, rfl, hcells⟩ := g4.resolve_left (by omega)
            obtain ⟨p0, p1, p2, p3, p4⟩ := acs_get hlt
            have x0 : wr.cell? ⟨b, o + k * 5, none⟩ = some (.int .u8 l[k].kind) := Pure.cell HM.mu (hcells _ _ p0)
            have x1 : wr.cell? ⟨b, o + k * 5 + 1, none⟩ = some (.string (ofL l[k].p)) := Pure.cell HM.mu (hcells _ _ p1)
            have x2 : wr.cell? ⟨b, o + k * 5 + 2, none⟩ = some (.string (ofL l[k].q)) := Pure.cell HM.mu (hcells _ _ p2)
            have x3 : wr.cell? ⟨b, o + k * 5 + 3, none⟩ = some (.string (ofL l[k].t)) := Pure.cell HM.mu (hcells _ _ p3)
            have x4 : wr.cell? ⟨b, o + k * 5 + 4, none⟩ = some (.int .i64 l[k].n) := Pure.cell HM.mu (hcells _ _ p4)
            have hOk : OkS (runA (newS room) (l.take k)) (0 + k) := (runA_ok (l := l.take k) HO0.out (by omega) (fun a ha => ⟨(HN.out a (List.mem_of_mem_take ha)).p, (HN.out a (List.mem_of_mem_take ha)).q⟩)).more (by rw [List.length_take]; omega)
            have Hsn := Lib.hid (runA_snoc (newS room) l k hlt)
            have hna := HN.out _ (List.getElem_mem hlt)
            clear hcells p0 p1 p2 p3 p4 g4
            generalize runA (newS room) (l.take k) = s_ at *
            generalize l[k] = a_ at *
            have hDo := fun wx nvx (hx : (StoreC sb mb nvx s_).ok wx) => does_calls hx hOk (by omega) a_ hna
            obtain ⟨kd, p, q, t, n⟩ := a_
            unfold actC at hDo
            simp only at x0 x1 x2 x3 x4 hDo Hsn
            generalize (doesS s_ ⟨kd, p, q, t, n⟩).2 = e_ at *
            generalize (doesS s_ ⟨kd, p, q, t, n⟩).1 = s2_ at *
            have HMx := HM.box #[.int .u8 kd, .string (ofL p), .string (ofL q), .string (ofL t), .int .i64 n] 30
            have y0 := Blk.cell_ (HMx.at_ 0 rfl) 0
            have y1 := Blk.cell_ (HMx.at_ 0 rfl) 1
            have y2 := Blk.cell_ (HMx.at_ 0 rfl) 2
            have y3 := Blk.cell_ (HMx.at_ 0 rfl) 3
            have y4 := Blk.cell_ (HMx.at_ 0 rfl) 4
            simp only [List.getElem?_toArray, List.getElem?_cons_succ, List.getElem?_cons_zero] at y0 y1 y2 y3 y4
            have hD1 := hDo _ _ (HMx.at_ 1 rfl)
            have HMk := Lib.hid (HMx.sel [1] (by decide))
            clear HM HMx hDo hOk hna
            go_wp2_with fail
            refine hD1.mono ?_
            rintro e w6 ⟨rfl, nv2, HM6⟩
            have HM7 := Mem.call1 HMk.out HM6
            simp only [List.cons_append, List.nil_append] at HM7
            clear hD1 HM6 HMk x0 x1 x2 x3 x4 y0 y1 y2 y3 y4
            go_wp2_with fail
            go_roundw
            case rel => exact ⟨k + 1, nv2, by omega, by go_num, by rw [Hsn.out]; exact HM7⟩
            case measure => simp [intOf]; omega
          · have hlt' : decide ((k : Int) < (l.length : Int)) = false := decide_eq_false (by omega)
            have hltN : decide (k < l.length) = false := decide_eq_false hlt
            have ek : k = l.length := by omega
            subst ek
            rw [List.take_length] at HM
            clear g4
            have hOk : OkS (runA (newS room) l) 700 := (runA_ok (l := l) HO0.out (Int.le_refl _) (fun a ha => ⟨(HN.out a ha).p, (HN.out a ha).q⟩)).more (by omega)
            generalize runA (newS room) l = s0 at *
            clear HO0 HN
            have HOk := Lib.hid hOk
            have HOc := Lib.hid (copyS_ok hOk)
            clear hOk
            have hCp := copy_calls (HM.at_ 0 rfl)
            go_wp2_with fail
            refine hCp.mono ?_
            rintro e w5 ⟨cb, cm, rfl, HMa⟩
            have HMb := HM.got HMa
            simp only [List.cons_append, List.nil_append] at HMb
            clear hCp HM HMa
            have hCp := copy_calls (HMb.at_ 1 rfl)
            go_wp2_with fail
            refine hCp.mono ?_
            rintro e w6 ⟨db, dm, rfl, HMa⟩
            have HM5 := (HMb.got HMa).sel [2, 1, 0] (by decide)
            simp only [List.cons_append, List.nil_append, List.filterMap_cons, List.filterMap_nil, List.getElem?_cons_succ, List.getElem?_cons_zero] at HM5
            clear hCp HMb HMa
            go_wp2_with fail
            go_loopw [69] (fun v69 wr => ∃ (k : Nat) (nv : Value), k ≤ m.length ∧ v69 = .int .i64 k ∧ Mem none_ w [StoreC sb mb nv (runA s0 (m.take k)), StoreC cb cm (.slice none 0 0) (copyS s0), StoreC db dm (.slice none 0 0) (copyS s0)] wr) (fun v _ => m.length - (intOf v).toNat)
            case atStart => exact ⟨0, _, Nat.zero_le _, rfl, HM5⟩
            case round =>
              clear HM5
              obtain ⟨k, nv, hk, rfl, HM⟩ := hrel
              by_cases hlt : k < m.length
              · have hlt' : decide ((k : Int) < (m.length : Int)) = true := decide_eq_true (by omega)
                have hltN : decide (k < m.length) = true := decide_eq_true hlt
                obtain ⟨b, o, rfl, hcells⟩ := k4.resolve_left (by omega)
                obtain ⟨p0, p1, p2, p3, p4⟩ := acs_get hlt
                have x0 : wr.cell? ⟨b, o + k * 5, none⟩ = some (.int .u8 m[k].kind) := Pure.cell HM.mu (hcells _ _ p0)
                have x1 : wr.cell? ⟨b, o + k * 5 + 1, none⟩ = some (.string (ofL m[k].p)) := Pure.cell HM.mu (hcells _ _ p1)
                have x2 : wr.cell? ⟨b, o + k * 5 + 2, none⟩ = some (.string (ofL m[k].q)) := Pure.cell HM.mu (hcells _ _ p2)
                have x3 : wr.cell? ⟨b, o + k * 5 + 3, none⟩ = some (.string (ofL m[k].t)) := Pure.cell HM.mu (hcells _ _ p3)
                have x4 : wr.cell? ⟨b, o + k * 5 + 4, none⟩ = some (.int .i64 m[k].n) := Pure.cell HM.mu (hcells _ _ p4)
                have hOk : OkS (runA s0 (m.take k)) (700 + k) := (runA_ok (l := m.take k) HOk.out (by omega) (fun a ha => ⟨(HNm.out a (List.mem_of_mem_take ha)).p, (HNm.out a (List.mem_of_mem_take ha)).q⟩)).more (by rw [List.length_take]; omega)
                have Hsn := Lib.hid (runA_snoc s0 m k hlt)
                have hna := HNm.out _ (List.getElem_mem hlt)
                clear hcells p0 p1 p2 p3 p4 k4
                generalize runA s0 (m.take k) = s_ at *
                generalize m[k] = a_ at *
                have hDo := fun wx nvx (hx : (StoreC sb mb nvx s_).ok wx) => does_calls hx hOk (by omega) a_ hna
                obtain ⟨kd, p, q, t, n⟩ := a_
                unfold actC at hDo
                simp only at x0 x1 x2 x3 x4 hDo Hsn
                generalize (doesS s_ ⟨kd, p, q, t, n⟩).2 = e_ at *
                generalize (doesS s_ ⟨kd, p, q, t, n⟩).1 = s2_ at *
                have HMx := HM.box #[.int .u8 kd, .string (ofL p), .string (ofL q), .string (ofL t), .int .i64 n] 30
                have y0 := Blk.cell_ (HMx.at_ 0 rfl) 0
                have y1 := Blk.cell_ (HMx.at_ 0 rfl) 1
                have y2 := Blk.cell_ (HMx.at_ 0 rfl) 2
                have y3 := Blk.cell_ (HMx.at_ 0 rfl) 3
                have y4 := Blk.cell_ (HMx.at_ 0 rfl) 4
                simp only [List.getElem?_toArray, List.getElem?_cons_succ, List.getElem?_cons_zero] at y0 y1 y2 y3 y4
                have hD1 := hDo _ _ (HMx.at_ 1 rfl)
                have HMk := Lib.hid (HMx.sel [1, 2, 3] (by decide))
                clear HM HMx hDo hOk hna
                go_wp2_with fail
                refine hD1.mono ?_
                rintro e w6 ⟨rfl, nv2, HM6⟩
                have HM7 := Mem.call1 HMk.out HM6
                simp only [List.cons_append, List.nil_append] at HM7
                clear hD1 HM6 HMk x0 x1 x2 x3 x4 y0 y1 y2 y3 y4
                go_wp2_with fail
                go_roundw
                case rel => exact ⟨k + 1, nv2, by omega, by go_num, by rw [Hsn.out]; exact HM7⟩
                case measure => simp [intOf]; omega
              · have hlt' : decide ((k : Int) < (m.length : Int)) = false := decide_eq_false (by omega)
                have hltN : decide (k < m.length) = false := decide_eq_false hlt
                have ek : k = m.length := by omega
                subst ek
                rw [List.take_length] at HM
                have hAc := fun b1 m1 nvx wx (hx : (StoreC b1 m1 nvx (copyS s0)).ok wx) => all_calls hx HOc.out.good
                generalize allS (copyS s0) = LC at *
                have hAc1 := hAc cb cm _ _ (HM.at_ 1 rfl)
                go_wp2_with fail
                refine hAc1.mono ?_
                rintro e wa ⟨v1, rfl, HMx⟩
                have HMe := HM.got HMx
                simp only [List.cons_append, List.nil_append] at HMe
                clear hAc1 HM HMx
                obtain ⟨AL, cL, rfl, _, _⟩ := Row.any_ (HMe.at_ 0 rfl)
                have hAc1 := hAc db dm _ _ (HMe.at_ 3 rfl)
                go_wp2_with fail
                refine hAc1.mono ?_
                rintro e wb ⟨v2, rfl, HMx⟩
                have HMf := HMe.got HMx
                simp only [List.cons_append, List.nil_append] at HMf
                clear hAc1 hAc HMe HMx
                obtain ⟨AM, cM, rfl, _, _⟩ := Row.any_ (HMf.at_ 0 rfl)
                have hSm := sameT_calls (.slice AL LC.length cL) (.slice AM LC.length cM) LC LC wb (Row.sl (HMf.at_ 1 rfl)) (Row.sl (HMf.at_ 0 rfl))
                rw [show decide (LC = LC) = true from decide_eq_true rfl] at hSm
                go_wp2_with fail
                refine hSm.mono ?_
                rintro e wc ⟨rfl, HMx⟩
                have HMg := (HMf.got HMx).sel [3, 2, 4] (by decide)
                simp only [List.cons_append, List.nil_append, List.filterMap_cons, List.filterMap_nil, List.getElem?_cons_succ, List.getElem?_cons_zero] at HMg
                clear hSm HMf HMx
                have hk1 := clock_calls (HMg.at_ 0 rfl)
                have hk2 := clock_calls (HMg.at_ 2 rfl)
                go_wp2_with fail
                refine hk1.mono ?_
                rintro e wd ⟨rfl, rfl⟩
                clear hk1
                go_wp2_with fail
                refine hk2.mono ?_
                rintro e wd ⟨rfl, rfl⟩
                clear hk2
                have hNo := notes_calls (HMg.at_ 0 rfl) false
                go_wp2_with fail
                refine hNo.mono ?_
                rintro e we ⟨rfl, HMx⟩
                have HM5 := (Mem.call1 HMg HMx).sel [0, 2] (by decide)
                simp only [List.cons_append, List.nil_append, List.filterMap_cons, List.filterMap_nil, List.getElem?_cons_succ, List.getElem?_cons_zero] at HM5
                clear hNo HMg HMx
                have HOn := Lib.hid (notes_ok HOc.out false)
                have HSa : Hid (SameS s0 (notesS (copyS s0) false).1) := ⟨rfl, rfl, rfl, rfl⟩
                generalize (notesS (copyS s0) false).1 = c0 at *
                clear HOc
                have HOs : Hid (OkS (runA s0 m) 1400) := (runA_ok (l := m) HOk.out (by omega) (fun a ha => ⟨(HNm.out a ha).p, (HNm.out a ha).q⟩)).more (by omega)
                have HSb := Lib.hid (HSa.out.run m)
                have HOe : Hid (OkS (runA c0 m) 1400) := (runA_ok (l := m) HOn.out (by omega) (fun a ha => ⟨(HNm.out a ha).p, (HNm.out a ha).q⟩)).more (by omega)
                clear HOk HSa
                generalize runA s0 m = s' at *
                go_wp2_with fail
                go_loopw [98] (fun v98 wr => ∃ (k : Nat) (nv_ : Value), k ≤ m.length ∧ v98 = .int .i64 k ∧ Mem none_ w [StoreC cb cm nv_ (runA c0 (m.take k)), StoreC sb mb nv s'] wr) (fun v _ => m.length - (intOf v).toNat)
                case atStart => exact ⟨0, _, Nat.zero_le _, rfl, HM5⟩
                case round =>
                  clear HM5
                  obtain ⟨k, nv_, hk, rfl, HM⟩ := hrel
                  by_cases hlt : k < m.length
                  · have hlt' : decide ((k : Int) < (m.length : Int)) = true := decide_eq_true (by omega)
                    have hltN : decide (k < m.length) = true := decide_eq_true hlt
                    obtain ⟨b, o, rfl, hcells⟩ := k4.resolve_left (by omega)
                    obtain ⟨p0, p1, p2, p3, p4⟩ := acs_get hlt
                    have x0 : wr.cell? ⟨b, o + k * 5, none⟩ = some (.int .u8 m[k].kind) := Pure.cell HM.mu (hcells _ _ p0)
                    have x1 : wr.cell? ⟨b, o + k * 5 + 1, none⟩ = some (.string (ofL m[k].p)) := Pure.cell HM.mu (hcells _ _ p1)
                    have x2 : wr.cell? ⟨b, o + k * 5 + 2, none⟩ = some (.string (ofL m[k].q)) := Pure.cell HM.mu (hcells _ _ p2)
                    have x3 : wr.cell? ⟨b, o + k * 5 + 3, none⟩ = some (.string (ofL m[k].t)) := Pure.cell HM.mu (hcells _ _ p3)
                    have x4 : wr.cell? ⟨b, o + k * 5 + 4, none⟩ = some (.int .i64 m[k].n) := Pure.cell HM.mu (hcells _ _ p4)
                    have hOk : OkS (runA c0 (m.take k)) (700 + k) := (runA_ok (l := m.take k) HOn.out (by omega) (fun a ha => ⟨(HNm.out a (List.mem_of_mem_take ha)).p, (HNm.out a (List.mem_of_mem_take ha)).q⟩)).more (by rw [List.length_take]; omega)
                    have Hsn := Lib.hid (runA_snoc c0 m k hlt)
                    have hna := HNm.out _ (List.getElem_mem hlt)
                    clear hcells p0 p1 p2 p3 p4 k4
                    generalize runA c0 (m.take k) = s_ at *
                    generalize m[k] = a_ at *
                    have hDo := fun wx nvx (hx : (StoreC cb cm nvx s_).ok wx) => does_calls hx hOk (by omega) a_ hna
                    obtain ⟨kd, p, q, t, n⟩ := a_
                    unfold actC at hDo
                    simp only at x0 x1 x2 x3 x4 hDo Hsn
                    generalize (doesS s_ ⟨kd, p, q, t, n⟩).2 = e_ at *
                    generalize (doesS s_ ⟨kd, p, q, t, n⟩).1 = s2_ at *
                    have HMx := HM.box #[.int .u8 kd, .string (ofL p), .string (ofL q), .string (ofL t), .int .i64 n] 30
                    have y0 := Blk.cell_ (HMx.at_ 0 rfl) 0
                    have y1 := Blk.cell_ (HMx.at_ 0 rfl) 1
                    have y2 := Blk.cell_ (HMx.at_ 0 rfl) 2
                    have y3 := Blk.cell_ (HMx.at_ 0 rfl) 3
                    have y4 := Blk.cell_ (HMx.at_ 0 rfl) 4
                    simp only [List.getElem?_toArray, List.getElem?_cons_succ, List.getElem?_cons_zero] at y0 y1 y2 y3 y4
                    have hD1 := hDo _ _ (HMx.at_ 1 rfl)
                    have HMk := Lib.hid (HMx.sel [1, 2] (by decide))
                    clear HM HMx hDo hOk hna
                    go_wp2_with fail
                    refine hD1.mono ?_
                    rintro e w6 ⟨rfl, nv2, HM6⟩
                    have HM7 := Mem.call1 HMk.out HM6
                    simp only [List.cons_append, List.nil_append] at HM7
                    clear hD1 HM6 HMk x0 x1 x2 x3 x4 y0 y1 y2 y3 y4
                    go_wp2_with fail
                    go_roundw
                    case rel => exact ⟨k + 1, nv2, by omega, by go_num, by rw [Hsn.out]; exact HM7⟩
                    case measure => simp [intOf]; omega
                  · have hlt' : decide ((k : Int) < (m.length : Int)) = false := decide_eq_false (by omega)
                    have hltN : decide (k < m.length) = false := decide_eq_false hlt
                    have ek : k = m.length := by omega
                    subst ek
                    rw [List.take_length] at HM
                    clear k4
                    clear HOn HNm
                    generalize runA c0 m = c' at *
                    have hOk := HOs.out
                    have hcO := HOe.out
                    have eA : allS c' = allS s' := allS_files HSb.out.fi
                    have eC := HSb.out.ck
                    have eU := HSb.out.us
                    have HMd := HM.sel [1, 0] (by decide)
                    simp only [List.filterMap_cons, List.filterMap_nil, List.getElem?_cons_succ, List.getElem?_cons_zero] at HMd
                    clear HM
                    have hAl := fun wx nvx (hx : (StoreC sb mb nvx s').ok wx) => all_calls hx hOk.good
                    have hAc := fun wx (hx : (StoreC cb cm nv_ c').ok wx) => all_calls hx hcO.good
                    rw [eA] at hAc
                    have HSh := Lib.hid (all_short hOk)
                    clear HOs HOe eA
                    have HMd0 : Mem none_ w [StoreC sb mb nv s', StoreC cb cm nv_ c'] _ := HMd.sel [0, 1] (by decide)
                    clear HMd
                    have hAl1 := hAl _ _ (HMd0.at_ 0 rfl)
                    generalize hLL : allS s' = L at *
                    clear hLL
                    go_wp2_with fail
                    refine hAl1.mono ?_
                    rintro e wa ⟨v1, rfl, HMx⟩
                    have HMe := HMd0.got HMx
                    simp only [List.cons_append, List.nil_append] at HMe
                    clear hAl1 HMd0 HMx
                    obtain ⟨AL, cL, rfl, _, _⟩ := Row.any_ (HMe.at_ 0 rfl)
                    have hAc1 := hAc _ (HMe.at_ 2 rfl)
                    go_wp2_with fail
                    refine hAc1.mono ?_
                    rintro e wb ⟨v2, rfl, HMx⟩
                    have HMf := HMe.got HMx
                    simp only [List.cons_append, List.nil_append] at HMf
                    clear hAc1 HMe HMx hAc
                    obtain ⟨AM, cM, rfl, _, _⟩ := Row.any_ (HMf.at_ 0 rfl)
                    have hSm := sameT_calls (.slice AL L.length cL) (.slice AM L.length cM) L L wb (Row.sl (HMf.at_ 1 rfl)) (Row.sl (HMf.at_ 0 rfl))
                    rw [show decide (L = L) = true from decide_eq_true rfl] at hSm
                    go_wp2_with fail
                    refine hSm.mono ?_
                    rintro e wc ⟨rfl, HMx⟩
                    have HMg : Mem none_ w [StoreC sb mb nv s', StoreC cb cm nv_ c'] wc := (HMf.got HMx).sel [2, 3] (by decide)
                    clear hSm HMf HMx
                    have hk1 := clock_calls (HMg.at_ 0 rfl)
                    have hk2 := clock_calls (HMg.at_ 1 rfl)
                    have hu1 := used_calls (HMg.at_ 0 rfl)
                    have hu2 := used_calls (HMg.at_ 1 rfl)
                    rw [eC] at hk2
                    rw [eU] at hu2
                    go_wp2_with fail
                    refine hk1.mono ?_
                    rintro e wd ⟨rfl, rfl⟩
                    clear hk1
                    go_wp2_with fail
                    refine hk2.mono ?_
                    rintro e wd ⟨rfl, rfl⟩
                    clear hk2
                    go_wp2_with fail
                    refine hu1.mono ?_
                    rintro e wd ⟨rfl, rfl⟩
                    clear hu1
                    go_wp2_with fail
                    refine hu2.mono ?_
                    rintro e wd ⟨rfl, rfl⟩
                    clear hu2
                    have hAl1 := hAl _ _ (HMg.at_ 0 rfl)
                    go_wp2_with fail
                    refine hAl1.mono ?_
                    rintro e wa ⟨v1, rfl, HMx⟩
                    have HMe : Mem none_ w [TRow v1 L, StoreC sb mb nv s', StoreC cb cm nv_ c'] wa := HMg.got HMx
                    clear hAl1 HMg HMx hAl
                    obtain ⟨AL2, cL2, rfl, z1, z2⟩ := Row.any_ (HMe.at_ 0 rfl)
                    unfold maxLen at z2
                    have HG1 := Lib.hid hOk.good
                    have HG2 := Lib.hid hcO.good
                    clear hOk hcO
                    go_wp2_with fail
                    go_loopw [129] (fun vi wr => ∃ (j : Nat) (n1 n2 : Value) (s1 s2 : St), j ≤ L.length ∧ vi = .int .i64 j ∧ Hid (s1.files = s'.files ∧ GoodS s1) ∧ Hid (s2.files = s'.files ∧ GoodS s2) ∧ Mem none_ w [TRow (.slice AL2 L.length cL2) L, StoreC sb mb n1 s1, StoreC cb cm n2 s2] wr) (fun v _ => L.length - (intOf v).toNat)
                    case atStart => exact ⟨0, _, _, s', c', Nat.zero_le _, rfl, ⟨rfl, HG1.out⟩, ⟨(HSb.out).fi, HG2.out⟩, HMe⟩
                    case round =>
                      clear HMe HG1 HG2
                      obtain ⟨j, n1, n2, s1, s2, hj, rfl, HG1, HG2, HMe⟩ := hrel
                      by_cases hjl : j < L.length
                      · have hjl' : decide ((j : Int) < (L.length : Int)) = true := decide_eq_true (by omega)
                        have hjlN : decide (j < L.length) = true := decide_eq_true hjl
                        obtain ⟨A', c', e3, _, _, _, h4⟩ := Row.sl (HMe.at_ 0 rfl)
                        cases e3
                        obtain ⟨b2, o2, rfl, hcells⟩ := h4.resolve_left (by omega)
                        have r0 := hcells j _ (tx_get hjl)
                        have hrl := HSh.out _ (List.getElem_mem hjl)
                        clear hcells h4
                        generalize L[j] = r at *
                        have hR1 := read_calls (HMe.at_ 1 rfl) HG1.out.2 r (by omega)
                        rw [(readS_files HG1.out.1 r).1] at hR1
                        have HG3 : Hid ((readS s1 r).1.files = s'.files ∧ GoodS (readS s1 r).1) := ⟨(readS_files HG1.out.1 r).2, readS_good HG1.out.2 r⟩
                        have hR2 := fun wx (hx : (StoreC cb cm n2 s2).ok wx) => read_calls hx HG2.out.2 r (by omega)
                        rw [(readS_files HG2.out.1 r).1] at hR2
                        have HG4 : Hid ((readS s2 r).1.files = s'.files ∧ GoodS (readS s2 r).1) := ⟨(readS_files HG2.out.1 r).2, readS_good HG2.out.2 r⟩
                        generalize (readS s1 r).1 = s3 at *
                        generalize (readS s2 r).1 = s4 at *
                        generalize (readS s' r).2.1 = RT at *
                        generalize (readS s' r).2.2 = RE at *
                        have qT : ((ofL RT).toList == (ofL RT).toList) = true := by rw [str_eq]; exact decide_eq_true rfl
                        have HMf : Mem none_ w [StoreC sb mb n1 s1, StoreC cb cm n2 s2, TRow (.slice (some ⟨b2, o2, none⟩) L.length cL2) L] _ := HMe.sel [1, 2, 0] (by decide)
                        clear HMe
                        go_wp2_with fail
                        refine hR1.mono ?_
                        rintro e u1w ⟨rfl, n3, HMx⟩
                        have HMg : Mem none_ w [StoreC cb cm n2 s2, StoreC sb mb n3 s3, TRow (.slice (some ⟨b2, o2, none⟩) L.length cL2) L] _ := (Mem.call1 HMf HMx).sel [1, 0, 2] (by decide)
                        have hR3 := hR2 _ (HMg.at_ 0 rfl)
                        clear hR1 hR2 HMf HMx r0
                        go_wp2_with fail
                        refine hR3.mono ?_
                        rintro e u2w ⟨rfl, n4, HMx⟩
                        have HMh : Mem none_ w [TRow (.slice (some ⟨b2, o2, none⟩) L.length cL2) L, StoreC sb mb n3 s3, StoreC cb cm n4 s4] _ := (Mem.call1 HMg HMx).sel [2, 1, 0] (by decide)
                        clear hR3 HMg HMx
                        go_wp2_with fail
                        go_roundw
                        case rel => exact ⟨j + 1, _, _, _, _, by omega, by go_num, HG3, HG4, HMh⟩
                        case measure => simp [intOf]; omega
                      · have hjl' : decide ((j : Int) < (L.length : Int)) = false := decide_eq_false (by omega)
                        have hjlN : decide (j < L.length) = false := decide_eq_false hjl
                        have HMr := HMe.sel [] (by decide)
                        clear HMe
                        go_wp2_with fail
                        go_ret
                        exact ⟨rfl, HMr⟩
end Go.Proofs.YtjhcabjlhnhkbaaDoor
