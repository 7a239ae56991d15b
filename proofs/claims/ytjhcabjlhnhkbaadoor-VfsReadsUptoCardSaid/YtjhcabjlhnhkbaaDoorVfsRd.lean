/-
  Layer 03 (vfs): VfsReads.
-/
import Derived.Test.YtjhcabjlhnhkbaaDoorVfsRe
set_option linter.unusedVariables false
set_option linter.unusedSimpArgs false
set_option maxRecDepth 20000
namespace Go.Proofs.YtjhcabjlhnhkbaaDoor
open Go.RowKit

theorem mget_nd {m : List (List UInt8 × VF)} {k : List UInt8} {v : VF} (hn : (m.map (·.1)).Nodup) (h : (k, v) ∈ m) : mget m k = some v := by
  induction m with
  | nil => cases h
  | cons p m ih =>
    rw [List.map_cons, List.nodup_cons] at hn
    rw [mget_cons]
    rcases List.mem_cons.1 h with h | h
    · rw [← h, if_pos rfl]
    · have : k ≠ p.1 := fun e => hn.1 (e ▸ List.mem_map_of_mem h)
      rw [if_neg this]
      exact ih hn.2 h
theorem readS_clock (s : St) (p : List UInt8) : (readS s p).1.clock = s.clock := by
  unfold readS
  split
  · rfl
  split
  · rfl
  · exact (noteS_clock s 1 _).1
theorem writeS_refused {s : St} {p t : List UInt8} (h : (writeS s p t).2 ≠ 0) : (writeS s p t).1 = s := by
  unfold writeS at h ⊢
  repeat' split
  all_goals first | rfl | skip
  rename_i h1 h2 h3 h4 h5
  rw [if_neg h1, if_neg h2, if_neg h3, if_neg h4, if_neg h5] at h
  exact absurd rfl h
theorem writeS_goodL {s : St} {k : Int} (h : OkS s k) (p t : List UInt8) (hp : p.length ≤ 1100000) : GoodS (writeS s p t).1 := by
  unfold writeS
  split
  · exact h.good
  split
  · exact h.good
  split
  · exact h.good
  split
  · exact h.good
  split
  · exact h.good
  rename_i h1 h2 h3 h4 h5
  have hne : (findS s p).2.2 ≠ 1 := fun e => h1 ⟨by omega, by omega⟩
  have hq := find_where hne
  refine noteS_good (putS_good h.good (whereL_len hq hp) (by show t.length ≤ 65536; omega) (fun h => by cases h) ?_ ?_) _ _
  · rcases findS_e s p with ⟨e, _, _⟩ | ⟨e, _, _, _⟩ | ⟨_, e, _⟩
    · exact absurd e hne
    · right
      apply Nat.lt_of_not_le
      intro hc
      exact h5 (.inr ⟨e, hc⟩)
    · left; unfold mhas; rw [e]; rfl
  · show s.used - ((txtS s (findS s p).1).length : Int) ≤ s.room - (t.length : Int)
    rw [find_txt s p hne]
    have : ¬ s.room - (t.length : Int) < s.used - ((findS s p).2.1.text.length : Int) := fun hc => h5 (.inl hc)
    omega
theorem read_put {s s' : St} {p q t : List UInt8} {n : Int} (hw : whereL p = some q) (hf : s'.files = mput s.files q ⟨t, n, false⟩) : (readS s' p).2 = (t, 0) := by
  have e : findS s' p = (q, ⟨t, n, false⟩, 0) := by
    unfold findS
    rw [hw]
    simp only
    rw [hf, mget_put, if_pos rfl]
  unfold readS
  rw [e]
  rfl
theorem read_other {s s' : St} {k : Int} (hO : OkS s k) {q r t : List UInt8} {n : Int} (hf : s'.files = mput s.files q ⟨t, n, false⟩) (hr : r ∈ allS s) (hne : r ≠ q) : (readS s' r).2 = (readS s r).2 ∧ (readS s r).2.2 = 0 := by
  obtain ⟨f, hm, hd⟩ := allS_mem hr
  have hw := hO.canon _ hm
  have hg : mget s.files r = some f := mget_nd hO.good.keys hm
  have e1 : findS s r = (r, f, 0) := by unfold findS; rw [hw]; simp only; rw [hg]
  have e2 : findS s' r = (r, f, 0) := by unfold findS; rw [hw]; simp only; rw [hf, mget_put, if_neg hne, hg]
  unfold readS
  rw [e1, e2]
  simp [hd]
set_option maxHeartbeats 16000000 in
theorem reads_calls (room : Int) (V : Value) (l : List ActS) (ask : ActS) (w : World) (hV : ScrO w V l) (hK : ActO ask ∧ ask.p.length ≤ 1048576) :
    Calls Tryd.prog 4 #[.int .i64 room, V, .agg (actC ask)] w fun e w' => e = .returned (.bool true) ∧ Mem none_ w [] w' := by
  have hA := fun wx => valive_calls wx
  have hLg := fun wx (hx : Pure w wx) => long_calls V l wx ⟨hV.r.pure hx, hV.o, hV.p⟩
  obtain ⟨⟨A, c, rfl, g1, g2, g3, g4⟩, hV2, hV3⟩ := hV
  obtain ⟨hKo, hKp⟩ := hK
  have hKt := hKo.t
  unfold maxLen at g2
  clear hV2 hV3 hKo
  obtain ⟨kk, kp, kq, kt, kn⟩ := ask
  unfold actC
  simp only at hKp hKt ⊢
  have HM0 := (Mem.start (fp := none_) w).box #[.int .u8 kk, .string (ofL kp), .string (ofL kq), .string (ofL kt), .int .i64 kn] 30
  by_cases hb : room < 0 ∨ 1048576 < room
  · clear hLg
    have hN := fun wx => newbad_calls room wx hb
    go_enter Tryd.func4, Tryd.ntmps4
    go_wp2_with fail
    generalize World.alloc _ _ = W0 at *
    have hN1 := hN W0
    refine hN1.mono ?_
    rintro e w1 ⟨rfl, rfl⟩
    clear hN hN1
    have hA1 := hA W0
    go_wp2_with fail
    refine hA1.mono ?_
    rintro e wz ⟨rfl, HMz⟩
    have HMy := (HM0.got HMz).sel [] (by decide)
    clear hA1 HM0 HMz
    go_wp2_with fail
    go_ret
    exact ⟨rfl, HMy⟩
  · have hN := fun wx => new_calls room wx (by omega) (by omega)
    have HO0 : Hid (OkS (newS room) 0) := newS_ok (by omega) (by omega)
    clear hb
    go_enter Tryd.func4, Tryd.ntmps4
    go_wp2_with fail
    generalize World.alloc _ _ = W0 at *
    generalize w.heap.size = kb at *
    have hN1 := hN W0
    refine hN1.mono ?_
    rintro e w1 ⟨sb, mb, rfl, HM1⟩
    have HM2 := HM0.got HM1
    simp only [List.cons_append, List.nil_append] at HM2
    have hL1 := hLg w1 HM2.mu
    clear hN hN1 hLg HM0 HM1
    go_wp2_with fail
    refine hL1.mono ?_
    rintro e w2 ⟨b, rfl, hbl, HMa⟩
    have HM3 := HM2.got HMa
    simp only [List.nil_append] at HM3
    clear hL1 HM2 HMa
    cases b with
    | true =>
      have hA1 := hA w2
      go_wp2_with fail
      refine hA1.mono ?_
      rintro e wz ⟨rfl, HMz⟩
      have HMy := (HM3.got HMz).sel [] (by decide)
      clear hA1 HM3 HMz
      go_wp2_with fail
      go_ret
      exact ⟨rfl, HMy⟩
    | false =>
      obtain ⟨hlen, hn⟩ := hbl rfl
      have HN := Lib.hid hn
      have hA1 := hA w2
      clear hbl hn hA
      go_wp2_with fail
      refine hA1.mono ?_
      rintro e w3 ⟨rfl, HM4⟩
      have HM5 := HM3.got HM4
      simp only [List.nil_append] at HM5
      clear hA1 HM3 HM4
      go_wp2_with fail
      go_loopw [44] (fun v44 wr => ∃ (k : Nat) (nv : Value), k ≤ l.length ∧ v44 = .int .i64 k ∧ Mem none_ w [StoreC sb mb nv (runA (newS room) (l.take k)), Blk kb 30 #[.int .u8 kk, .string (ofL kp), .string (ofL kq), .string (ofL kt), .int .i64 kn]] wr) (fun v _ => l.length - (intOf v).toNat)
      case atStart => exact ⟨0, _, Nat.zero_le _, rfl, HM5⟩
      case round =>
        clear HM5
        obtain ⟨k, nv, hk, rfl, HM⟩ := hrel
        by_cases hlt : k < l.length
        · have hlt' : decide ((k : Int) < (l.length : Int)) = true := decide_eq_true (by omega)
          have hltN : decide (k < l.length) = true := decide_eq_true hlt
          obtain ⟨b, o, rfl, hcells⟩ := g4.resolve_left (by omega)
          obtain ⟨p0, p1, p2, p3, p4⟩ := acs_get hlt
          have x0 : wr.cell? ⟨b, o + k * 5, none⟩ = some (.int .u8 l[k].kind) := Pure.cell HM.mu (hcells _ _ p0)
          have x1 : wr.cell? ⟨b, o + k * 5 + 1, none⟩ = some (.string (ofL l[k].p)) := Pure.cell HM.mu (hcells _ _ p1)
          have x2 : wr.cell? ⟨b, o + k * 5 + 2, none⟩ = some (.string (ofL l[k].q)) := Pure.cell HM.mu (hcells _ _ p2)
          have x3 : wr.cell? ⟨b, o + k * 5 + 3, none⟩ = some (.string (ofL l[k].t)) := Pure.cell HM.mu (hcells _ _ p3)
          have x4 : wr.cell? ⟨b, o + k * 5 + 4, none⟩ = some (.int .i64 l[k].n) := Pure.cell HM.mu (hcells _ _ p4)
          have hOk : OkS (runA (newS room) (l.take k)) (0 + k) := (runA_ok (l := l.take k) HO0.out (by omega) (fun a ha => ⟨(HN.out a (List.mem_of_mem_take ha)).p, (HN.out a (List.mem_of_mem_take ha)).q⟩)).more (by rw [List.length_take]; omega)
          have Hsn := Lib.hid (runA_snoc (newS room) l k hlt)
          have hna := HN.out _ (List.getElem_mem hlt)
          clear hcells p0 p1 p2 p3 p4 g4
          generalize runA (newS room) (l.take k) = s_ at *
          generalize l[k] = a_ at *
          have hDo := fun wx nvx (hx : (StoreC sb mb nvx s_).ok wx) => does_calls hx hOk (by omega) a_ hna
          obtain ⟨kd, p, q, t, n⟩ := a_
          unfold actC at hDo
          simp only at x0 x1 x2 x3 x4 hDo Hsn
          generalize (doesS s_ ⟨kd, p, q, t, n⟩).2 = e_ at *
          generalize (doesS s_ ⟨kd, p, q, t, n⟩).1 = s2_ at *
          have HMx := HM.box #[.int .u8 kd, .string (ofL p), .string (ofL q), .string (ofL t), .int .i64 n] 30
          have y0 := Blk.cell_ (HMx.at_ 0 rfl) 0
          have y1 := Blk.cell_ (HMx.at_ 0 rfl) 1
          have y2 := Blk.cell_ (HMx.at_ 0 rfl) 2
          have y3 := Blk.cell_ (HMx.at_ 0 rfl) 3
          have y4 := Blk.cell_ (HMx.at_ 0 rfl) 4
          simp only [List.getElem?_toArray, List.getElem?_cons_succ, List.getElem?_cons_zero] at y0 y1 y2 y3 y4
          have hD1 := hDo _ _ (HMx.at_ 1 rfl)
          have HMk := Lib.hid (HMx.sel [1, 2] (by decide))
          clear HM HMx hDo hOk hna
          go_wp2_with fail
          refine hD1.mono ?_
          rintro e w6 ⟨rfl, nv2, HM6⟩
          have HM7 := Mem.call1 HMk.out HM6
          simp only [List.cons_append, List.nil_append] at HM7
          clear hD1 HM6 HMk x0 x1 x2 x3 x4 y0 y1 y2 y3 y4
          go_wp2_with fail
          go_roundw
          case rel => exact ⟨k + 1, nv2, by omega, by go_num, by rw [Hsn.out]; exact HM7⟩
          case measure => simp [intOf]; omega
        · have hlt' : decide ((k : Int) < (l.length : Int)) = false := decide_eq_false (by omega)
          have hltN : decide (k < l.length) = false := decide_eq_false hlt
          have ek : k = l.length := by omega
          subst ek
          rw [List.take_length] at HM
          clear g4
          have hOk : OkS (runA (newS room) l) 700 := (runA_ok (l := l) HO0.out (Int.le_refl _) (fun a ha => ⟨(HN.out a ha).p, (HN.out a ha).q⟩)).more (by omega)
          generalize runA (newS room) l = s at *
          clear HO0 HN
          have hCp := copy_calls (HM.at_ 0 rfl)
          go_wp2_with fail
          refine hCp.mono ?_
          rintro e w4 ⟨cb, cm, rfl, HMa⟩
          have HMb := (HM.got HMa).sel [1, 0, 2] (by decide)
          simp only [List.cons_append, List.nil_append, List.filterMap_cons, List.filterMap_nil, List.getElem?_cons_succ, List.getElem?_cons_zero] at HMb
          clear hCp HM HMa
          have z0 := Blk.cell_ (HMb.at_ 2 rfl) 0
          have z1 := Blk.cell_ (HMb.at_ 2 rfl) 1
          have z2 := Blk.cell_ (HMb.at_ 2 rfl) 2
          have z3 := Blk.cell_ (HMb.at_ 2 rfl) 3
          have z4 := Blk.cell_ (HMb.at_ 2 rfl) 4
          simp only [List.getElem?_toArray, List.getElem?_cons_succ, List.getElem?_cons_zero] at z0 z1 z2 z3 z4
          have hW1 := write_calls (HMb.at_ 0 rfl) hOk.good (hOk.ck62 (by decide)) kp kt (by omega) (by omega)
          have hRf := fun h => writeS_refused (s := s) (p := kp) (t := kt) h
          have hPu := fun h => write_put (s := s) (p := kp) (t := kt) h
          have hGd := writeS_goodL hOk kp kt (by omega)
          obtain ⟨⟨s', e'⟩, hR⟩ : ∃ R, writeS s kp kt = R := ⟨_, rfl⟩
          rw [hR] at hW1 hRf hPu hGd
          simp only at hW1 hRf hPu hGd
          clear hR
          have HPu := Lib.hid hPu
          have HRf := Lib.hid hRf
          have HGd := Lib.hid hGd
          have HOk := Lib.hid hOk
          clear hPu hRf hGd hOk
          go_wp2_with fail
          refine hW1.mono ?_
          rintro e w5 ⟨rfl, nv2, HMc⟩
          have HMd := Mem.call1 HMb HMc
          simp only [List.cons_append, List.nil_append] at HMd
          clear hW1 HMb HMc z0 z1 z2 z3 z4
          by_cases he : e' = 0
          · have qe : ((e' : Int) != 0) = false := by rw [bne_eq_false_iff_eq]; omega
            subst he
            obtain ⟨qq, hw, hf, hck⟩ := HPu.out rfl
            have hrp := read_put hw hf
            have HOt : Hid (∀ r, r ∈ allS s → r ≠ qq → (readS s' r).2 = (readS s r).2 ∧ (readS s r).2.2 = 0) := fun r hr hne => read_other HOk.out hf hr hne
            have eq1 : whereQ kp = qq := by unfold whereQ; rw [hw]; rfl
            have HCk := Lib.hid hck
            clear HPu HRf hw hf qe hck
            have hR1 := read_calls (HMd.at_ 0 rfl) HGd.out kp (by omega)
            rw [hrp] at hR1
            have HS1 : Hid ((readS s' kp).1.files = s'.files ∧ GoodS (readS s' kp).1 ∧ (readS s' kp).1.clock = s'.clock) := ⟨(readS_files rfl kp).2, readS_good HGd.out kp, readS_clock s' kp⟩
            generalize (readS s' kp).1 = s1 at *
            have z0 := Blk.cell_ (HMd.at_ 2 rfl) 0
            have z1 := Blk.cell_ (HMd.at_ 2 rfl) 1
            have z2 := Blk.cell_ (HMd.at_ 2 rfl) 2
            have z3 := Blk.cell_ (HMd.at_ 2 rfl) 3
            have z4 := Blk.cell_ (HMd.at_ 2 rfl) 4
            simp only [List.getElem?_toArray, List.getElem?_cons_succ, List.getElem?_cons_zero] at z0 z1 z2 z3 z4
            go_wp2_with fail
            refine hR1.mono ?_
            rintro e w6 ⟨rfl, n1, HMx⟩
            have HMe := Mem.call1 HMd HMx
            simp only [List.cons_append, List.nil_append] at HMe
            clear hR1 HMd HMx z0 z1 z2 z3 z4 hrp
            have z0 := Blk.cell_ (HMe.at_ 2 rfl) 0
            have z1 := Blk.cell_ (HMe.at_ 2 rfl) 1
            have z2 := Blk.cell_ (HMe.at_ 2 rfl) 2
            have z3 := Blk.cell_ (HMe.at_ 2 rfl) 3
            have z4 := Blk.cell_ (HMe.at_ 2 rfl) 4
            simp only [List.getElem?_toArray, List.getElem?_cons_succ, List.getElem?_cons_zero] at z0 z1 z2 z3 z4
            have qT : ((ofL kt).toList == (ofL kt).toList) = true := by rw [str_eq]; exact decide_eq_true rfl
            have hWh := rwhere_calls kp w6 (by omega)
            rw [eq1] at hWh
            generalize (whereL kp).isSome = wsm at *
            clear eq1
            go_wp2_with fail
            refine hWh.mono ?_
            rintro e w7 ⟨rfl, HMx⟩
            have HMf : Mem none_ w [StoreC sb mb n1 s1, StoreC cb cm (.slice none 0 0) (copyS s)] w7 := (HMe.got HMx).sel [0, 1] (by decide)
            clear hWh HMe HMx z0 z1 z2 z3 z4
            have hAc1 := all_calls (HMf.at_ 1 rfl) (copyS_ok HOk.out).good
            have eA : allS (copyS s) = allS s := rfl
            rw [eA] at hAc1
            have HSh := Lib.hid (all_short HOk.out)
            have HG2 : Hid ((copyS s).files = s.files ∧ GoodS (copyS s) ∧ (copyS s).clock = s.clock) := ⟨rfl, (copyS_ok HOk.out).good, rfl⟩
            have hcb : -1 ≤ s.clock ∧ s.clock ≤ 4611686018427387904 := ⟨by have := HOk.out.good.clock; omega, HOk.out.ck62 (by decide)⟩
            generalize copyS s = c0 at *
            generalize allS s = L at *
            clear eA HOk
            go_wp2_with fail
            refine hAc1.mono ?_
            rintro e wa ⟨v1, rfl, HMx⟩
            have HMe := HMf.got HMx
            simp only [List.cons_append, List.nil_append] at HMe
            clear hAc1 HMf HMx
            obtain ⟨AL2, cL2, rfl, z1, z2⟩ := Row.any_ (HMe.at_ 0 rfl)
            unfold maxLen at z2
            go_wp2_with fail
            go_loopw [106] (fun vi wr => ∃ (j : Nat) (n1 n2 : Value) (s1 s2 : St), j ≤ L.length ∧ vi = .int .i64 j ∧ Hid (s1.files = s'.files ∧ GoodS s1 ∧ s1.clock = s'.clock) ∧ Hid (s2.files = s.files ∧ GoodS s2 ∧ s2.clock = s.clock) ∧ Mem none_ w [TRow (.slice AL2 L.length cL2) L, StoreC sb mb n1 s1, StoreC cb cm n2 s2] wr) (fun v _ => L.length - (intOf v).toNat)
            case atStart => exact ⟨0, _, _, _, _, Nat.zero_le _, rfl, HS1, HG2, HMe⟩
            case round =>
              clear HMe HS1 HG2
              obtain ⟨j, n1, n2, s1, s2, hj, rfl, HG1, HG2, HMe⟩ := hrel
              by_cases hjl : j < L.length
              · have hjl' : decide ((j : Int) < (L.length : Int)) = true := decide_eq_true (by omega)
                have hjlN : decide (j < L.length) = true := decide_eq_true hjl
                obtain ⟨A', c', e3, _, _, _, h4⟩ := Row.sl (HMe.at_ 0 rfl)
                cases e3
                obtain ⟨b2, o2, rfl, hcells⟩ := h4.resolve_left (by omega)
                have r0 := hcells j _ (tx_get hjl)
                have hrl := HSh.out _ (List.getElem_mem hjl)
                have hot : Hid (L[j] ≠ qq → (readS s' L[j]).2 = (readS s L[j]).2 ∧ (readS s L[j]).2.2 = 0) := HOt.out _ (List.getElem_mem hjl)
                clear hcells h4
                generalize L[j] = r at *
                have hR2 := read_calls (HMe.at_ 2 rfl) HG2.out.2.1 r (by omega)
                rw [(readS_files HG2.out.1 r).1] at hR2
                have HG4 : Hid ((readS s2 r).1.files = s.files ∧ GoodS (readS s2 r).1 ∧ (readS s2 r).1.clock = s.clock) := ⟨(readS_files HG2.out.1 r).2, readS_good HG2.out.2.1 r, (readS_clock s2 r).trans HG2.out.2.2⟩
                have hR1 := fun wx (hx : (StoreC sb mb n1 s1).ok wx) => read_calls hx HG1.out.2.1 r (by omega)
                rw [(readS_files HG1.out.1 r).1] at hR1
                have HG3 : Hid ((readS s1 r).1.files = s'.files ∧ GoodS (readS s1 r).1 ∧ (readS s1 r).1.clock = s'.clock) := ⟨(readS_files HG1.out.1 r).2, readS_good HG1.out.2.1 r, (readS_clock s1 r).trans HG1.out.2.2⟩
                generalize (readS s1 r).1 = s3 at *
                generalize (readS s2 r).1 = s4 at *
                generalize (readS s' r).2 = R1_ at *
                generalize (readS s r).2 = R2_ at *
                obtain ⟨zt, ze⟩ := R1_
                obtain ⟨yt, ye⟩ := R2_
                simp only at hR1 hR2 hot
                have HMf : Mem none_ w [StoreC cb cm n2 s2, StoreC sb mb n1 s1, TRow (.slice (some ⟨b2, o2, none⟩) L.length cL2) L] _ := HMe.sel [2, 1, 0] (by decide)
                clear HMe
                go_wp2_with fail
                refine hR2.mono ?_
                rintro e u1w ⟨rfl, n4, HMx⟩
                have HMg : Mem none_ w [StoreC sb mb n1 s1, StoreC cb cm n4 s4, TRow (.slice (some ⟨b2, o2, none⟩) L.length cL2) L] _ := (Mem.call1 HMf HMx).sel [1, 0, 2] (by decide)
                have hR3 := hR1 _ (HMg.at_ 0 rfl)
                clear hR1 hR2 HMf HMx r0
                go_wp2_with fail
                refine hR3.mono ?_
                rintro e u2w ⟨rfl, n3, HMx⟩
                have HMh : Hid (Mem none_ w [TRow (.slice (some ⟨b2, o2, none⟩) L.length cL2) L, StoreC sb mb n3 s3, StoreC cb cm n4 s4] _) := (Mem.call1 HMg HMx).sel [2, 0, 1] (by decide)
                clear hR3 HMg HMx
                by_cases hqa : r = qq
                · have qa : (ofL r).toList = (ofL qq).toList := by rw [hqa]
                  have qa2 : ((ofL r).toList == (ofL qq).toList) = true := by rw [str_eq]; exact decide_eq_true hqa
                  clear hqa hot
                  go_wp2_with fail
                  go_roundw
                  case rel => exact ⟨j + 1, _, _, _, _, by omega, by go_num, HG3, HG4, HMh.out⟩
                  case measure => simp [intOf]; omega
                · have qa : ¬ (ofL r).toList = (ofL qq).toList := by rw [tl_of, tl_of]; exact hqa
                  have qa2 : (!(ofL r).toList == (ofL qq).toList) = true := by rw [str_eq, decide_eq_false hqa]; rfl
                  obtain ⟨he1, he2⟩ := hot.out hqa
                  obtain ⟨rfl, rfl⟩ := Prod.mk.inj he1
                  subst he2
                  have qT : ((ofL zt).toList == (ofL zt).toList) = true := by rw [str_eq]; exact decide_eq_true rfl
                  clear hqa hot he1
                  go_wp2_with fail
                  go_roundw
                  case rel => exact ⟨j + 1, _, _, _, _, by omega, by go_num, HG3, HG4, HMh.out⟩
                  case measure => simp [intOf]; omega
              · have hjl' : decide ((j : Int) < (L.length : Int)) = false := decide_eq_false (by omega)
                have hjlN : decide (j < L.length) = false := decide_eq_false hjl
                have hk1 := clock_calls (HMe.at_ 1 rfl)
                have hk2 := clock_calls (HMe.at_ 2 rfl)
                rw [HG1.out.2.2, HCk.out] at hk1
                rw [HG2.out.2.2] at hk2
                have HMr := HMe.sel [] (by decide)
                clear HMe
                have wk : IntKind.i64.wrap (s.clock + 1) = s.clock + 1 := IntWalk.i64_in _ (by omega)
                go_wp2_with fail
                refine hk1.mono ?_
                rintro e wd ⟨rfl, rfl⟩
                clear hk1
                go_wp2_with fail
                refine hk2.mono ?_
                rintro e wd ⟨rfl, rfl⟩
                clear hk2
                go_wp2_with fail
                go_ret
                refine ⟨?_, HMr⟩
                simp
          · have qe : ((e' : Int) != 0) = true := by rw [bne_iff_ne]; omega
            have hs := HRf.out he
            subst hs
            clear he HRf HPu HGd
            have hcO := copyS_ok HOk.out
            have eA : allS (copyS s') = allS s' := rfl
            have eC : (copyS s').clock = s'.clock := rfl
            have eU : (copyS s').used = s'.used := rfl
            have HMd0 : Mem none_ w [StoreC sb mb nv2 s', StoreC cb cm (.slice none 0 0) (copyS s')] _ := HMd.sel [0, 1] (by decide)
            clear HMd
            have hAl1 := all_calls (HMd0.at_ 0 rfl) HOk.out.good
            have hAc := fun wx (hx : (StoreC cb cm (.slice none 0 0) (copyS s')).ok wx) => all_calls hx hcO.good
            rw [eA] at hAc
            generalize allS s' = L at *
            go_wp2_with fail
            refine hAl1.mono ?_
            rintro e wa ⟨v1, rfl, HMx⟩
            have HMe := HMd0.got HMx
            simp only [List.cons_append, List.nil_append] at HMe
            clear hAl1 HMd0 HMx
            obtain ⟨AL, cL, rfl, _, _⟩ := Row.any_ (HMe.at_ 0 rfl)
            have hAc1 := hAc _ (HMe.at_ 2 rfl)
            go_wp2_with fail
            refine hAc1.mono ?_
            rintro e wb ⟨v2, rfl, HMx⟩
            have HMf := HMe.got HMx
            simp only [List.cons_append, List.nil_append] at HMf
            clear hAc1 hAc HMe HMx
            obtain ⟨AM, cM, rfl, _, _⟩ := Row.any_ (HMf.at_ 0 rfl)
            have hSm := sameT_calls (.slice AL L.length cL) (.slice AM L.length cM) L L wb (Row.sl (HMf.at_ 1 rfl)) (Row.sl (HMf.at_ 0 rfl))
            rw [show decide (L = L) = true from decide_eq_true rfl] at hSm
            go_wp2_with fail
            refine hSm.mono ?_
            rintro e wc ⟨rfl, HMx⟩
            have HMg : Mem none_ w [StoreC sb mb nv2 s', StoreC cb cm (.slice none 0 0) (copyS s')] wc := (HMf.got HMx).sel [2, 3] (by decide)
            clear hSm HMf HMx
            have hk1 := clock_calls (HMg.at_ 0 rfl)
            have hk2 := clock_calls (HMg.at_ 1 rfl)
            have hu1 := used_calls (HMg.at_ 0 rfl)
            have hu2 := used_calls (HMg.at_ 1 rfl)
            rw [eC] at hk2
            rw [eU] at hu2
            go_wp2_with fail
            refine hk1.mono ?_
            rintro e wd ⟨rfl, rfl⟩
            clear hk1
            go_wp2_with fail
            refine hk2.mono ?_
            rintro e wd ⟨rfl, rfl⟩
            clear hk2
            go_wp2_with fail
            refine hu1.mono ?_
            rintro e wd ⟨rfl, rfl⟩
            clear hu1
            go_wp2_with fail
            refine hu2.mono ?_
            rintro e wd ⟨rfl, rfl⟩
            clear hu2
            go_wp2_with fail
            go_ret
            exact ⟨rfl, HMg.sel [] (by decide)⟩
end Go.Proofs.YtjhcabjlhnhkbaaDoor
