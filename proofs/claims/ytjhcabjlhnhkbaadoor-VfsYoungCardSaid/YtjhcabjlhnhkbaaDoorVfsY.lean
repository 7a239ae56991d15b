/-
  Layer 03 (vfs): VfsYoung.
-/
import Derived.Test.YtjhcabjlhnhkbaaDoorVfsN
set_option linter.unusedVariables false
set_option linter.unusedSimpArgs false
set_option maxRecDepth 20000
namespace Go.Proofs.YtjhcabjlhnhkbaaDoor
open Go.RowKit

set_option maxHeartbeats 16000000 in
theorem young_calls (room : Int) (V : Value) (l : List ActS) (w : World) (hV : ScrO w V l) :
    Calls Tryd.prog 3 #[.int .i64 room, V] w fun e w' => e = .returned (.bool true) ∧ Mem none_ w [] w' := by
  have hA := fun wx => valive_calls wx
  have hLg := fun wx (hx : Pure w wx) => long_calls V l wx ⟨hV.r.pure hx, hV.o, hV.p⟩
  obtain ⟨⟨A, c, rfl, g1, g2, g3, g4⟩, hV2, hV3⟩ := hV
  unfold maxLen at g2
  clear hV2 hV3
  by_cases hb : room < 0 ∨ 1048576 < room
  · clear hLg
    have hN := newbad_calls room w hb
    go_enter Tryd.func3, Tryd.ntmps3
    go_wp2_with fail
    refine hN.mono ?_
    rintro e w1 ⟨rfl, rfl⟩
    clear hN
    have hA1 := hA w
    go_wp2_with fail
    refine hA1.mono ?_
    rintro e wz ⟨rfl, HMz⟩
    have HMy := ((Mem.start (fp := none_) w).got HMz).sel [] (by decide)
    clear hA1 HMz
    go_wp2_with fail
    go_ret
    exact ⟨rfl, HMy⟩
  · have hN := new_calls room w (by omega) (by omega)
    have hO0 : OkS (newS room) 0 := newS_ok (by omega) (by omega)
    clear hb
    go_enter Tryd.func3, Tryd.ntmps3
    go_wp2_with fail
    refine hN.mono ?_
    rintro e w1 ⟨sb, mb, rfl, HM1⟩
    have hL1 := hLg w1 HM1.mu
    clear hN hLg
    go_wp2_with fail
    refine hL1.mono ?_
    rintro e w2 ⟨b, rfl, hbl, HM2⟩
    have HM3 := HM1.got HM2
    simp only [List.nil_append] at HM3
    clear hL1 HM1 HM2
    cases b with
    | true =>
      have hA1 := hA w2
      go_wp2_with fail
      refine hA1.mono ?_
      rintro e wz ⟨rfl, HMz⟩
      have HMy := (HM3.got HMz).sel [] (by decide)
      clear hA1 HM3 HMz
      go_wp2_with fail
      go_ret
      exact ⟨rfl, HMy⟩
    | false =>
      obtain ⟨hlen, hn⟩ := hbl rfl
      have HN := Lib.hid hn
      have HO0 := Lib.hid hO0
      have hA1 := hA w2
      clear hbl hA hn hO0
      go_wp2_with fail
      refine hA1.mono ?_
      rintro e w3 ⟨rfl, HM4⟩
      have HM5 := HM3.got HM4
      simp only [List.nil_append] at HM5
      clear hA1 HM3 HM4
      go_wp2_with fail
      go_loopw [45] (fun v45 wr => ∃ (k : Nat) (nv : Value), k ≤ l.length ∧ v45 = .int .i64 k ∧ Mem none_ w [StoreC sb mb nv (runA (newS room) (l.take k))] wr) (fun v _ => l.length - (intOf v).toNat)
      case atStart => exact ⟨0, _, Nat.zero_le _, rfl, HM5⟩
      case round =>
        clear HM5
        obtain ⟨k, nv, hk, rfl, HM⟩ := hrel
        by_cases hlt : k < l.length
        · have hlt' : decide ((k : Int) < (l.length : Int)) = true := decide_eq_true (by omega)
          have hltN : decide (k < l.length) = true := decide_eq_true hlt
          obtain ⟨b, o, rfl, hcells⟩ := g4.resolve_left (by omega)
          obtain ⟨p0, p1, p2, p3, p4⟩ := acs_get hlt
          have x0 : wr.cell? ⟨b, o + k * 5, none⟩ = some (.int .u8 l[k].kind) := Pure.cell HM.mu (hcells _ _ p0)
          have x1 : wr.cell? ⟨b, o + k * 5 + 1, none⟩ = some (.string (ofL l[k].p)) := Pure.cell HM.mu (hcells _ _ p1)
          have x2 : wr.cell? ⟨b, o + k * 5 + 2, none⟩ = some (.string (ofL l[k].q)) := Pure.cell HM.mu (hcells _ _ p2)
          have x3 : wr.cell? ⟨b, o + k * 5 + 3, none⟩ = some (.string (ofL l[k].t)) := Pure.cell HM.mu (hcells _ _ p3)
          have x4 : wr.cell? ⟨b, o + k * 5 + 4, none⟩ = some (.int .i64 l[k].n) := Pure.cell HM.mu (hcells _ _ p4)
          have hOk : OkS (runA (newS room) (l.take k)) k := (runA_ok (l := l.take k) HO0.out (Int.le_refl _) (fun a ha => ⟨(HN.out a (List.mem_of_mem_take ha)).p, (HN.out a (List.mem_of_mem_take ha)).q⟩)).more (by rw [List.length_take]; omega)
          have Hsn := Lib.hid (runA_snoc (newS room) l k hlt)
          have hna := HN.out _ (List.getElem_mem hlt)
          clear hcells p0 p1 p2 p3 p4 g4
          generalize runA (newS room) (l.take k) = s at *
          generalize l[k] = a at *
          have hGo := doesS_goes hOk (by omega) a hna.p hna.q
          have hYo := fun he hd q hm hne => does_young hOk (by omega) a hna.p hna.q he hd (q := q) hm hne
          have hCk1 := fun wx nvx (hx : (StoreC sb mb nvx s).ok wx) => clock_calls hx
          have hDo := fun wx nvx (hx : (StoreC sb mb nvx s).ok wx) => does_calls hx hOk (by omega) a hna
          obtain ⟨hr1, hr2⟩ : a.p.length ≤ 130000 ∧ a.q.length ≤ 130000 := ⟨hna.p, hna.q⟩
          have hkd := hna.o.k
          obtain ⟨⟨s', e'⟩, hR⟩ : ∃ R, doesS s a = R := ⟨_, rfl⟩
          rw [hR] at hGo hYo hDo Hsn
          obtain ⟨hOk', hmono, href⟩ := hGo
          clear hOk hR hna
          obtain ⟨kd, p, q, t, n⟩ := a
          unfold actC at hDo
          simp only at x0 x1 x2 x3 x4 hDo hYo Hsn hOk' hmono href hr1 hr2 hkd
          have HYo := Lib.hid hYo
          have HRf := Lib.hid href
          have HOk' := Lib.hid hOk'
          clear hYo href hOk'
          have HMx := HM.box #[.int .u8 kd, .string (ofL p), .string (ofL q), .string (ofL t), .int .i64 n] 30
          have y0 := Blk.cell_ (HMx.at_ 0 rfl) 0
          have y1 := Blk.cell_ (HMx.at_ 0 rfl) 1
          have y2 := Blk.cell_ (HMx.at_ 0 rfl) 2
          have y3 := Blk.cell_ (HMx.at_ 0 rfl) 3
          have y4 := Blk.cell_ (HMx.at_ 0 rfl) 4
          simp only [List.getElem?_toArray, List.getElem?_cons_succ, List.getElem?_cons_zero] at y0 y1 y2 y3 y4
          have HMk := Lib.hid HMx
          clear HM HMx
          go_wp2_with fail
          have hC1 := hCk1 _ _ (HMk.out.at_ 1 rfl)
          have hD1 := hDo _ _ (HMk.out.at_ 1 rfl)
          clear hDo hCk1 x0 x1 x2 x3 x4
          generalize World.alloc _ _ = W1 at *
          generalize wr.heap.size = ab at *
          refine hC1.mono ?_
          rintro e w5 ⟨rfl, rfl⟩
          clear hC1
          go_wp2_with fail
          refine hD1.mono ?_
          rintro e w6 ⟨rfl, nv2, HM6⟩
          have HM7 := Mem.call1 (HMk.out.sel [1, 0] (by decide)) HM6
          simp only [List.cons_append, List.nil_append] at HM7
          clear hD1 HM6 HMk y0 y1 y2 y3 y4
          have hC2 := clock_calls (HM7.at_ 0 rfl)
          have y0 := Blk.cell_ (HM7.at_ 1 rfl) 0
          have y1 := Blk.cell_ (HM7.at_ 1 rfl) 1
          have y2 := Blk.cell_ (HM7.at_ 1 rfl) 2
          have y3 := Blk.cell_ (HM7.at_ 1 rfl) 3
          have y4 := Blk.cell_ (HM7.at_ 1 rfl) 4
          simp only [List.getElem?_toArray, List.getElem?_cons_succ, List.getElem?_cons_zero] at y0 y1 y2 y3 y4
          go_wp2_with fail
          refine hC2.mono ?_
          rintro e w7 ⟨rfl, rfl⟩
          have d1 : decide (s'.clock < s.clock) = false := decide_eq_false (by omega)
          by_cases he : e' = 0
          · subst he
            clear hC2
            rcases (by omega : kd % 10 = 0 ∨ kd % 10 = 1 ∨ kd % 10 = 2 ∨ kd % 10 = 3 ∨ kd % 10 = 4 ∨ kd % 10 = 5 ∨ kd % 10 = 6 ∨ kd % 10 = 7 ∨ kd % 10 = 8 ∨ kd % 10 = 9) with hm | hm | hm | hm | hm | hm | hm | hm | hm | hm
            · have hmi : (kd : Int) % 10 = 0 := by omega
              have hS := stat_calls (HM7.at_ 0 rfl) p (by omega)
              have hWh := fun wx => rwhere_calls p wx (by omega)
              have hAl := fun wx nvx (hx : (StoreC sb mb nvx s').ok wx) => all_calls hx HOk'.out.good
              have hSt := fun wx nvx (hx : (StoreC sb mb nvx s').ok wx) r (hr : r.length ≤ 140000) => stat_calls hx r (by omega)
              have HSh : Hid (∀ r, r ∈ allS s' → r.length ≤ 140000) := fun r hr => by
                obtain ⟨f, hf, _⟩ := allS_mem hr
                exact HOk'.out.short _ hf
              have HYm : Hid (∀ r, r ∈ allS s' → r ≠ whereQ p → (findS s' r).2.1.time < (findS s' p).2.1.time) := fun r hm2 hne => HYo.out rfl (by omega) r hm2 hne
              clear HYo HRf HOk' hkd hm
              generalize (findS s' p).2.1.time = mine at *
              go_wp2_with fail
              refine hS.mono ?_
              rintro e w8 ⟨rfl, HM8⟩
              have HM9 := HM7.got HM8
              simp only [List.nil_append] at HM9
              have hWh1 := hWh w8
              clear hS HM7 HM8 hWh y0 y1 y2 y3 y4
              go_wp2_with fail
              refine hWh1.mono ?_
              rintro e w9 ⟨rfl, HMa⟩
              have HMb := HM9.got HMa
              simp only [List.nil_append] at HMb
              have hAl1 := hAl w9 _ (HMb.at_ 0 rfl)
              clear hWh1 HM9 HMa hAl
              generalize whereQ p = Q at *
              generalize (whereL p).isSome = Qs at *
              go_wp2_with fail
              refine hAl1.mono ?_
              rintro e wa ⟨v, rfl, HMc⟩
              have HMd : Mem none_ w [TRow v (allS s'), StoreC sb mb nv2 s'] wa := (HMb.got HMc).sel [0, 1] (by decide)
              clear hAl1 HMb HMc
              generalize allS s' = L at *
              obtain ⟨AL, cL, rfl, z1, z2⟩ := Row.any_ (HMd.at_ 0 rfl)
              unfold maxLen at z2
              go_wp2_with fail
              go_loopw [106] (fun v106 wr => ∃ (j : Nat), j ≤ L.length ∧ v106 = .int .i64 j ∧ Mem none_ w [TRow (.slice AL L.length cL) L, StoreC sb mb nv2 s'] wr) (fun v _ => L.length - (intOf v).toNat)
              case atStart => exact ⟨0, Nat.zero_le _, rfl, HMd⟩
              case round =>
                clear HMd
                obtain ⟨j, hj, rfl, HMe⟩ := hrel
                by_cases hjl : j < L.length
                · have hjl' : decide ((j : Int) < (L.length : Int)) = true := decide_eq_true (by omega)
                  have hjlN : decide (j < L.length) = true := decide_eq_true hjl
                  obtain ⟨A', c', e3, _, _, _, h4⟩ := Row.sl (HMe.at_ 0 rfl)
                  cases e3
                  obtain ⟨b2, o2, rfl, hcells⟩ := h4.resolve_left (by omega)
                  have r0 := hcells j _ (tx_get hjl)
                  have hrl := HSh.out _ (List.getElem_mem hjl)
                  have hry : Hid (L[j] ≠ Q → (findS s' L[j]).2.1.time < mine) := HYm.out _ (List.getElem_mem hjl)
                  have hS2 := hSt _ _ (HMe.at_ 1 rfl) L[j] hrl
                  clear hcells h4
                  generalize L[j] = r at *
                  generalize (findS s' r).2.1.time = tm at *
                  generalize (findS s' r).2.1.dir = dm at *
                  generalize (findS s' r).2.2 = em at *
                  go_wp2_with fail
                  refine hS2.mono ?_
                  rintro e wc ⟨rfl, HMf⟩
                  have HMg := Lib.hid (HMe.got HMf)
                  clear hS2 HMe HMf r0
                  by_cases hqa : r = Q
                  · have qa : (ofL r).toList = (ofL Q).toList := by rw [hqa]
                    have qa2 : ((ofL r).toList == (ofL Q).toList) = true := by rw [str_eq]; exact decide_eq_true hqa
                    clear hqa
                    go_wp2_with fail
                    go_roundw
                    case rel => exact ⟨j + 1, by omega, by go_num, HMg.out⟩
                    case measure => simp [intOf]; omega
                  · have qa : ¬ (ofL r).toList = (ofL Q).toList := by rw [tl_of, tl_of]; exact hqa
                    have qa2 : (!(ofL r).toList == (ofL Q).toList) = true := by rw [str_eq, decide_eq_false hqa]; rfl
                    have hlt2 : decide (mine ≤ tm) = false := decide_eq_false (by have := hry.out hqa; omega)
                    clear hqa
                    go_wp2_with fail
                    go_roundw
                    case rel => exact ⟨j + 1, by omega, by go_num, HMg.out⟩
                    case measure => simp [intOf]; omega
                · have hjl' : decide ((j : Int) < (L.length : Int)) = false := decide_eq_false (by omega)
                  have hjlN : decide (j < L.length) = false := decide_eq_false hjl
                  have HMr := Lib.hid (HMe.sel [1] (by decide))
                  clear HMe
                  go_wp2_with fail
                  go_roundw
                  case rel => exact ⟨k + 1, nv2, by omega, by go_num, by rw [Hsn.out]; exact HMr.out⟩
                  case measure => simp [intOf]; omega
            · have hmi : (kd : Int) % 10 = 1 := by omega
              have hS := stat_calls (HM7.at_ 0 rfl) p (by omega)
              have hWh := fun wx => rwhere_calls p wx (by omega)
              have hAl := fun wx nvx (hx : (StoreC sb mb nvx s').ok wx) => all_calls hx HOk'.out.good
              have hSt := fun wx nvx (hx : (StoreC sb mb nvx s').ok wx) r (hr : r.length ≤ 140000) => stat_calls hx r (by omega)
              have HSh : Hid (∀ r, r ∈ allS s' → r.length ≤ 140000) := fun r hr => by
                obtain ⟨f, hf, _⟩ := allS_mem hr
                exact HOk'.out.short _ hf
              have HYm : Hid (∀ r, r ∈ allS s' → r ≠ whereQ p → (findS s' r).2.1.time < (findS s' p).2.1.time) := fun r hm2 hne => HYo.out rfl (by omega) r hm2 hne
              clear HYo HRf HOk' hkd hm
              generalize (findS s' p).2.1.time = mine at *
              go_wp2_with fail
              refine hS.mono ?_
              rintro e w8 ⟨rfl, HM8⟩
              have HM9 := HM7.got HM8
              simp only [List.nil_append] at HM9
              have hWh1 := hWh w8
              clear hS HM7 HM8 hWh y0 y1 y2 y3 y4
              go_wp2_with fail
              refine hWh1.mono ?_
              rintro e w9 ⟨rfl, HMa⟩
              have HMb := HM9.got HMa
              simp only [List.nil_append] at HMb
              have hAl1 := hAl w9 _ (HMb.at_ 0 rfl)
              clear hWh1 HM9 HMa hAl
              generalize whereQ p = Q at *
              generalize (whereL p).isSome = Qs at *
              go_wp2_with fail
              refine hAl1.mono ?_
              rintro e wa ⟨v, rfl, HMc⟩
              have HMd : Mem none_ w [TRow v (allS s'), StoreC sb mb nv2 s'] wa := (HMb.got HMc).sel [0, 1] (by decide)
              clear hAl1 HMb HMc
              generalize allS s' = L at *
              obtain ⟨AL, cL, rfl, z1, z2⟩ := Row.any_ (HMd.at_ 0 rfl)
              unfold maxLen at z2
              go_wp2_with fail
              go_loopw [106] (fun v106 wr => ∃ (j : Nat), j ≤ L.length ∧ v106 = .int .i64 j ∧ Mem none_ w [TRow (.slice AL L.length cL) L, StoreC sb mb nv2 s'] wr) (fun v _ => L.length - (intOf v).toNat)
              case atStart => exact ⟨0, Nat.zero_le _, rfl, HMd⟩
              case round =>
                clear HMd
                obtain ⟨j, hj, rfl, HMe⟩ := hrel
                by_cases hjl : j < L.length
                · have hjl' : decide ((j : Int) < (L.length : Int)) = true := decide_eq_true (by omega)
                  have hjlN : decide (j < L.length) = true := decide_eq_true hjl
                  obtain ⟨A', c', e3, _, _, _, h4⟩ := Row.sl (HMe.at_ 0 rfl)
                  cases e3
                  obtain ⟨b2, o2, rfl, hcells⟩ := h4.resolve_left (by omega)
                  have r0 := hcells j _ (tx_get hjl)
                  have hrl := HSh.out _ (List.getElem_mem hjl)
                  have hry : Hid (L[j] ≠ Q → (findS s' L[j]).2.1.time < mine) := HYm.out _ (List.getElem_mem hjl)
                  have hS2 := hSt _ _ (HMe.at_ 1 rfl) L[j] hrl
                  clear hcells h4
                  generalize L[j] = r at *
                  generalize (findS s' r).2.1.time = tm at *
                  generalize (findS s' r).2.1.dir = dm at *
                  generalize (findS s' r).2.2 = em at *
                  go_wp2_with fail
                  refine hS2.mono ?_
                  rintro e wc ⟨rfl, HMf⟩
                  have HMg := Lib.hid (HMe.got HMf)
                  clear hS2 HMe HMf r0
                  by_cases hqa : r = Q
                  · have qa : (ofL r).toList = (ofL Q).toList := by rw [hqa]
                    have qa2 : ((ofL r).toList == (ofL Q).toList) = true := by rw [str_eq]; exact decide_eq_true hqa
                    clear hqa
                    go_wp2_with fail
                    go_roundw
                    case rel => exact ⟨j + 1, by omega, by go_num, HMg.out⟩
                    case measure => simp [intOf]; omega
                  · have qa : ¬ (ofL r).toList = (ofL Q).toList := by rw [tl_of, tl_of]; exact hqa
                    have qa2 : (!(ofL r).toList == (ofL Q).toList) = true := by rw [str_eq, decide_eq_false hqa]; rfl
                    have hlt2 : decide (mine ≤ tm) = false := decide_eq_false (by have := hry.out hqa; omega)
                    clear hqa
                    go_wp2_with fail
                    go_roundw
                    case rel => exact ⟨j + 1, by omega, by go_num, HMg.out⟩
                    case measure => simp [intOf]; omega
                · have hjl' : decide ((j : Int) < (L.length : Int)) = false := decide_eq_false (by omega)
                  have hjlN : decide (j < L.length) = false := decide_eq_false hjl
                  have HMr := Lib.hid (HMe.sel [1] (by decide))
                  clear HMe
                  go_wp2_with fail
                  go_roundw
                  case rel => exact ⟨k + 1, nv2, by omega, by go_num, by rw [Hsn.out]; exact HMr.out⟩
                  case measure => simp [intOf]; omega
            · have hmi : (kd : Int) % 10 = 2 := by omega
              have HMr : Hid (Mem none_ w [StoreC sb mb nv2 s'] w6) := HM7.sel [0] (by decide)
              clear HM7 HYo HRf HOk' hkd hm
              go_wp2_with fail
              go_roundw
              case rel => exact ⟨k + 1, nv2, by omega, by go_num, by rw [Hsn.out]; exact HMr.out⟩
              case measure => simp [intOf]; omega
            · have hmi : (kd : Int) % 10 = 3 := by omega
              have HMr : Hid (Mem none_ w [StoreC sb mb nv2 s'] w6) := HM7.sel [0] (by decide)
              clear HM7 HYo HRf HOk' hkd hm
              go_wp2_with fail
              go_roundw
              case rel => exact ⟨k + 1, nv2, by omega, by go_num, by rw [Hsn.out]; exact HMr.out⟩
              case measure => simp [intOf]; omega
            · have hmi : (kd : Int) % 10 = 4 := by omega
              have hS := stat_calls (HM7.at_ 0 rfl) q (by omega)
              have hWh := fun wx => rwhere_calls q wx (by omega)
              have hAl := fun wx nvx (hx : (StoreC sb mb nvx s').ok wx) => all_calls hx HOk'.out.good
              have hSt := fun wx nvx (hx : (StoreC sb mb nvx s').ok wx) r (hr : r.length ≤ 140000) => stat_calls hx r (by omega)
              have HSh : Hid (∀ r, r ∈ allS s' → r.length ≤ 140000) := fun r hr => by
                obtain ⟨f, hf, _⟩ := allS_mem hr
                exact HOk'.out.short _ hf
              clear HYo HRf HOk' hkd hm
              generalize (findS s' q).2.1.time = mine at *
              go_wp2_with fail
              refine hS.mono ?_
              rintro e w8 ⟨rfl, HM8⟩
              have HM9 := HM7.got HM8
              simp only [List.nil_append] at HM9
              have hWh1 := hWh w8
              clear hS HM7 HM8 hWh y0 y1 y2 y3 y4
              go_wp2_with fail
              refine hWh1.mono ?_
              rintro e w9 ⟨rfl, HMa⟩
              have HMb := HM9.got HMa
              simp only [List.nil_append] at HMb
              have hAl1 := hAl w9 _ (HMb.at_ 0 rfl)
              clear hWh1 HM9 HMa hAl
              generalize whereQ q = Q at *
              generalize (whereL q).isSome = Qs at *
              go_wp2_with fail
              refine hAl1.mono ?_
              rintro e wa ⟨v, rfl, HMc⟩
              have HMd : Mem none_ w [TRow v (allS s'), StoreC sb mb nv2 s'] wa := (HMb.got HMc).sel [0, 1] (by decide)
              clear hAl1 HMb HMc
              generalize allS s' = L at *
              obtain ⟨AL, cL, rfl, z1, z2⟩ := Row.any_ (HMd.at_ 0 rfl)
              unfold maxLen at z2
              go_wp2_with fail
              go_loopw [106] (fun v106 wr => ∃ (j : Nat), j ≤ L.length ∧ v106 = .int .i64 j ∧ Mem none_ w [TRow (.slice AL L.length cL) L, StoreC sb mb nv2 s'] wr) (fun v _ => L.length - (intOf v).toNat)
              case atStart => exact ⟨0, Nat.zero_le _, rfl, HMd⟩
              case round =>
                clear HMd
                obtain ⟨j, hj, rfl, HMe⟩ := hrel
                by_cases hjl : j < L.length
                · have hjl' : decide ((j : Int) < (L.length : Int)) = true := decide_eq_true (by omega)
                  have hjlN : decide (j < L.length) = true := decide_eq_true hjl
                  obtain ⟨A', c', e3, _, _, _, h4⟩ := Row.sl (HMe.at_ 0 rfl)
                  cases e3
                  obtain ⟨b2, o2, rfl, hcells⟩ := h4.resolve_left (by omega)
                  have r0 := hcells j _ (tx_get hjl)
                  have hrl := HSh.out _ (List.getElem_mem hjl)
                  have hS2 := hSt _ _ (HMe.at_ 1 rfl) L[j] hrl
                  clear hcells h4
                  generalize L[j] = r at *
                  generalize (findS s' r).2.1.time = tm at *
                  generalize (findS s' r).2.1.dir = dm at *
                  generalize (findS s' r).2.2 = em at *
                  go_wp2_with fail
                  refine hS2.mono ?_
                  rintro e wc ⟨rfl, HMf⟩
                  have HMg := Lib.hid (HMe.got HMf)
                  clear hS2 HMe HMf r0
                  by_cases hqa : r = Q
                  · have qa : (ofL r).toList = (ofL Q).toList := by rw [hqa]
                    have qa2 : ((ofL r).toList == (ofL Q).toList) = true := by rw [str_eq]; exact decide_eq_true hqa
                    clear hqa
                    go_wp2_with fail
                    go_roundw
                    case rel => exact ⟨j + 1, by omega, by go_num, HMg.out⟩
                    case measure => simp [intOf]; omega
                  · have qa : ¬ (ofL r).toList = (ofL Q).toList := by rw [tl_of, tl_of]; exact hqa
                    have qa2 : (!(ofL r).toList == (ofL Q).toList) = true := by rw [str_eq, decide_eq_false hqa]; rfl
                    obtain ⟨B, hB⟩ : ∃ B, decide (mine ≤ tm) = B := ⟨_, rfl⟩
                    clear hqa
                    cases B with
                    | true =>
                      go_wp2_with fail
                      go_roundw
                      case rel => exact ⟨j + 1, by omega, by go_num, HMg.out⟩
                      case measure => simp [intOf]; omega
                    | false =>
                      go_wp2_with fail
                      go_roundw
                      case rel => exact ⟨j + 1, by omega, by go_num, HMg.out⟩
                      case measure => simp [intOf]; omega
                · have hjl' : decide ((j : Int) < (L.length : Int)) = false := decide_eq_false (by omega)
                  have hjlN : decide (j < L.length) = false := decide_eq_false hjl
                  have HMr := Lib.hid (HMe.sel [1] (by decide))
                  clear HMe
                  go_wp2_with fail
                  go_roundw
                  case rel => exact ⟨k + 1, nv2, by omega, by go_num, by rw [Hsn.out]; exact HMr.out⟩
                  case measure => simp [intOf]; omega
            · have hmi : (kd : Int) % 10 = 5 := by omega
              have HMr : Hid (Mem none_ w [StoreC sb mb nv2 s'] w6) := HM7.sel [0] (by decide)
              clear HM7 HYo HRf HOk' hkd hm
              go_wp2_with fail
              go_roundw
              case rel => exact ⟨k + 1, nv2, by omega, by go_num, by rw [Hsn.out]; exact HMr.out⟩
              case measure => simp [intOf]; omega
            · have hmi : (kd : Int) % 10 = 6 := by omega
              have hS := stat_calls (HM7.at_ 0 rfl) p (by omega)
              have hWh := fun wx => rwhere_calls p wx (by omega)
              have hAl := fun wx nvx (hx : (StoreC sb mb nvx s').ok wx) => all_calls hx HOk'.out.good
              have hSt := fun wx nvx (hx : (StoreC sb mb nvx s').ok wx) r (hr : r.length ≤ 140000) => stat_calls hx r (by omega)
              have HSh : Hid (∀ r, r ∈ allS s' → r.length ≤ 140000) := fun r hr => by
                obtain ⟨f, hf, _⟩ := allS_mem hr
                exact HOk'.out.short _ hf
              have HYm : Hid (∀ r, r ∈ allS s' → r ≠ whereQ p → (findS s' r).2.1.time < (findS s' p).2.1.time) := fun r hm2 hne => HYo.out rfl (by omega) r hm2 hne
              clear HYo HRf HOk' hkd hm
              generalize (findS s' p).2.1.time = mine at *
              go_wp2_with fail
              refine hS.mono ?_
              rintro e w8 ⟨rfl, HM8⟩
              have HM9 := HM7.got HM8
              simp only [List.nil_append] at HM9
              have hWh1 := hWh w8
              clear hS HM7 HM8 hWh y0 y1 y2 y3 y4
              go_wp2_with fail
              refine hWh1.mono ?_
              rintro e w9 ⟨rfl, HMa⟩
              have HMb := HM9.got HMa
              simp only [List.nil_append] at HMb
              have hAl1 := hAl w9 _ (HMb.at_ 0 rfl)
              clear hWh1 HM9 HMa hAl
              generalize whereQ p = Q at *
              generalize (whereL p).isSome = Qs at *
              go_wp2_with fail
              refine hAl1.mono ?_
              rintro e wa ⟨v, rfl, HMc⟩
              have HMd : Mem none_ w [TRow v (allS s'), StoreC sb mb nv2 s'] wa := (HMb.got HMc).sel [0, 1] (by decide)
              clear hAl1 HMb HMc
              generalize allS s' = L at *
              obtain ⟨AL, cL, rfl, z1, z2⟩ := Row.any_ (HMd.at_ 0 rfl)
              unfold maxLen at z2
              go_wp2_with fail
              go_loopw [106] (fun v106 wr => ∃ (j : Nat), j ≤ L.length ∧ v106 = .int .i64 j ∧ Mem none_ w [TRow (.slice AL L.length cL) L, StoreC sb mb nv2 s'] wr) (fun v _ => L.length - (intOf v).toNat)
              case atStart => exact ⟨0, Nat.zero_le _, rfl, HMd⟩
              case round =>
                clear HMd
                obtain ⟨j, hj, rfl, HMe⟩ := hrel
                by_cases hjl : j < L.length
                · have hjl' : decide ((j : Int) < (L.length : Int)) = true := decide_eq_true (by omega)
                  have hjlN : decide (j < L.length) = true := decide_eq_true hjl
                  obtain ⟨A', c', e3, _, _, _, h4⟩ := Row.sl (HMe.at_ 0 rfl)
                  cases e3
                  obtain ⟨b2, o2, rfl, hcells⟩ := h4.resolve_left (by omega)
                  have r0 := hcells j _ (tx_get hjl)
                  have hrl := HSh.out _ (List.getElem_mem hjl)
                  have hry : Hid (L[j] ≠ Q → (findS s' L[j]).2.1.time < mine) := HYm.out _ (List.getElem_mem hjl)
                  have hS2 := hSt _ _ (HMe.at_ 1 rfl) L[j] hrl
                  clear hcells h4
                  generalize L[j] = r at *
                  generalize (findS s' r).2.1.time = tm at *
                  generalize (findS s' r).2.1.dir = dm at *
                  generalize (findS s' r).2.2 = em at *
                  go_wp2_with fail
                  refine hS2.mono ?_
                  rintro e wc ⟨rfl, HMf⟩
                  have HMg := Lib.hid (HMe.got HMf)
                  clear hS2 HMe HMf r0
                  by_cases hqa : r = Q
                  · have qa : (ofL r).toList = (ofL Q).toList := by rw [hqa]
                    have qa2 : ((ofL r).toList == (ofL Q).toList) = true := by rw [str_eq]; exact decide_eq_true hqa
                    clear hqa
                    go_wp2_with fail
                    go_roundw
                    case rel => exact ⟨j + 1, by omega, by go_num, HMg.out⟩
                    case measure => simp [intOf]; omega
                  · have qa : ¬ (ofL r).toList = (ofL Q).toList := by rw [tl_of, tl_of]; exact hqa
                    have qa2 : (!(ofL r).toList == (ofL Q).toList) = true := by rw [str_eq, decide_eq_false hqa]; rfl
                    have hlt2 : decide (mine ≤ tm) = false := decide_eq_false (by have := hry.out hqa; omega)
                    clear hqa
                    go_wp2_with fail
                    go_roundw
                    case rel => exact ⟨j + 1, by omega, by go_num, HMg.out⟩
                    case measure => simp [intOf]; omega
                · have hjl' : decide ((j : Int) < (L.length : Int)) = false := decide_eq_false (by omega)
                  have hjlN : decide (j < L.length) = false := decide_eq_false hjl
                  have HMr := Lib.hid (HMe.sel [1] (by decide))
                  clear HMe
                  go_wp2_with fail
                  go_roundw
                  case rel => exact ⟨k + 1, nv2, by omega, by go_num, by rw [Hsn.out]; exact HMr.out⟩
                  case measure => simp [intOf]; omega
            · have hmi : (kd : Int) % 10 = 7 := by omega
              have HMr : Hid (Mem none_ w [StoreC sb mb nv2 s'] w6) := HM7.sel [0] (by decide)
              clear HM7 HYo HRf HOk' hkd hm
              go_wp2_with fail
              go_roundw
              case rel => exact ⟨k + 1, nv2, by omega, by go_num, by rw [Hsn.out]; exact HMr.out⟩
              case measure => simp [intOf]; omega
            · have hmi : (kd : Int) % 10 = 8 := by omega
              have HMr : Hid (Mem none_ w [StoreC sb mb nv2 s'] w6) := HM7.sel [0] (by decide)
              clear HM7 HYo HRf HOk' hkd hm
              go_wp2_with fail
              go_roundw
              case rel => exact ⟨k + 1, nv2, by omega, by go_num, by rw [Hsn.out]; exact HMr.out⟩
              case measure => simp [intOf]; omega
            · have hmi : (kd : Int) % 10 = 9 := by omega
              have HMr : Hid (Mem none_ w [StoreC sb mb nv2 s'] w6) := HM7.sel [0] (by decide)
              clear HM7 HYo HRf HOk' hkd hm
              go_wp2_with fail
              go_roundw
              case rel => exact ⟨k + 1, nv2, by omega, by go_num, by rw [Hsn.out]; exact HMr.out⟩
              case measure => simp [intOf]; omega
          · have qe : ((e' : Int) != 0) = true := by rw [bne_iff_ne]; omega
            have hs := HRf.out he
            subst hs
            have HMr : Hid (Mem none_ w [StoreC sb mb nv2 s'] w6) := HM7.sel [0] (by decide)
            go_wp2_with fail
            refine hC2.mono ?_
            rintro e w8 ⟨rfl, rfl⟩
            clear hC2 HM7 HYo HRf HOk' he
            go_wp2_with fail
            go_roundw
            case rel => exact ⟨k + 1, nv2, by omega, by go_num, by rw [Hsn.out]; exact HMr.out⟩
            case measure => simp [intOf]; omega
        · have hlt' : decide ((k : Int) < (l.length : Int)) = false := decide_eq_false (by omega)
          have hltN : decide (k < l.length) = false := decide_eq_false hlt
          have HMe := HM.sel [] (by decide)
          clear HM
          go_wp2_with fail
          go_ret
          exact ⟨rfl, HMe⟩
end Go.Proofs.YtjhcabjlhnhkbaaDoor
