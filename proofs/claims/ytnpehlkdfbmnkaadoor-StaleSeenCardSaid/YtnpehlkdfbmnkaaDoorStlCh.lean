/-
  Layer 18 (stale): Changed, the document's.
  Layer 18 (stale): Changed, the code's.
-/
import Derived.Test.YtnpehlkdfbmnkaaDoorStlSr
import Derived.Test.YtnpehlkdfbmnkaaDoorStlF
import Derived.Test.YtnpehlkdfbmnkaaDoorStlSp
set_option linter.unusedVariables false
set_option linter.unusedSimpArgs false
namespace Go.Proofs.YtnpehlkdfbmnkaaDoor
section
set_option maxRecDepth 20000
open Go.RowKit

theorem ref_mem {l : List Tou} {x : Tou} : ∀ i, x ∈ refSeen l i → ∃ t, t ∈ l ∧ t.2 = x.2
  | 0, h => by simp [refSeen] at h
  | i + 1, h => by
    rw [refSeen, List.mem_append] at h
    rcases h with h | h
    · exact ref_mem i h
    · cases hg : l[i]? with
      | none => rw [hg] at h; simp at h
      | some t =>
        rw [hg] at h
        simp only at h
        refine ⟨t, List.mem_of_getElem? hg, ?_⟩
        unfold refOne at h
        split at h
        · rw [List.mem_append] at h
          rcases h with h | h
          · split at h
            · rw [List.mem_singleton] at h; rw [h]
            · simp at h
          · split at h
            · rw [List.mem_singleton] at h; rw [h]
            · simp at h
        · simp at h
theorem seen_mem {l : List Tou} {x : Tou} (h : x ∈ seenL l) : ∃ t, t ∈ l ∧ t.2 = x.2 := by
  rw [seen_eq] at h; exact ref_mem _ h
theorem seen_len (l : List Tou) : (seenL l).length ≤ 2 * l.length := by
  rw [seen_eq]; exact ref_len l _ (Nat.le_refl _)
/-- A touch tells of a change. -/
def chgT (s : St) (a : Int) (t : Tou) : Bool := !decide ((findS s t.2).2.2 = 0) || (decide (t.1 = 1) && decide (a < (findS s t.2).2.1.time))
def chgB (cs ds : List (List UInt8)) (ts : List Tou) (a : Int) (s : St) : Bool := !decide (cs = ds) || (seenL ts).any (chgT s a)
theorem any_take {α : Type} {p : α → Bool} {l : List α} {k : Nat} (h : k < l.length) (h0 : (l.take k).any p = false) : (l.take (k + 1)).any p = p l[k] := by
  rw [List.take_succ_eq_append_getElem h, List.any_append, h0]; simp
theorem any_hit {α : Type} {p : α → Bool} {l : List α} {k : Nat} (h : k < l.length) (hp : p l[k] = true) : l.any p = true :=
  List.any_eq_true.2 ⟨l[k], List.getElem_mem h, hp⟩
section
variable {rb : Nat} {lv rn : Value} {s : St} {w : World}
set_option maxHeartbeats 16000000 in
theorem rchg_calls (h : (RefC rb lv rn s).ok w) (hlen : s.files.length ≤ 512) (CV TV DV : Value) (cs ds : List (List UInt8)) (ts : List Tou) (a : Int) (hC : Txts w CV cs) (hT : Tous w TV ts) (hD : Txts w DV ds)
    (hl : ts.length ≤ 1000) (ht : ∀ x, x ∈ ts → x.2.length ≤ 150000) :
    Calls Tryd.prog 36 #[.agg #[CV, TV], DV, .int .i64 a, ptr rb] w fun e w' => e = .returned (.bool (chgB cs ds ts a s)) ∧ Mem none_ w [] w' := by
  have HM0 := ((Mem.start (fp := none_) w).box #[CV, TV] 52)
  have a0 := Blk.cell_ (HM0.at_ 0 rfl) 0
  simp only [List.getElem?_toArray, List.getElem?_cons_succ, List.getElem?_cons_zero] at a0
  have hS := sameT_calls CV DV cs ds _ (hC.pure HM0.mu) (hD.pure HM0.mu)
  have hSn := Lib.hid (fun wx (hx : Pure w wx) => rseen_calls TV ts wx (hT.pure hx) hl)
  have hSt := Lib.hid (fun wx (hx : Pure w wx) p hp => rstat_calls (Pure.chunk hx h) hlen p hp)
  have hpt : Hid (∀ x, x ∈ seenL ts → x.2.length ≤ 150000) := fun x hx => by
    obtain ⟨t, h1, h2⟩ := seen_mem hx
    rw [← h2]; exact ht t h1
  have hsl := seen_len ts
  obtain ⟨A, c, rfl, _⟩ := hC
  obtain ⟨A2, c2, rfl, _⟩ := hT
  obtain ⟨A3, c3, rfl, _⟩ := hD
  obtain ⟨E, hE⟩ : ∃ E, decide (cs = ds) = E := ⟨_, rfl⟩
  unfold chgB
  rw [hE] at hS ⊢
  obtain ⟨R, hR⟩ : ∃ R, (seenL ts).any (chgT s a) = R := ⟨_, rfl⟩
  rw [hR]
  have HR := Lib.hid hR
  clear hR hE ht h
  go_enter Tryd.func36, Tryd.ntmps36
  go_wp2_with fail
  clear a0
  generalize World.alloc _ _ = W at *
  refine hS.mono ?_
  rintro e w1 ⟨rfl, HM2⟩
  have HM3 := HM0.got HM2
  simp only [List.nil_append] at HM3
  have a1 := Blk.cell_ (HM3.at_ 0 rfl) 1
  simp only [List.getElem?_toArray, List.getElem?_cons_succ, List.getElem?_cons_zero] at a1
  have hT1 := hSn.out w1 HM3.mu
  clear hS HM0 HM2 hSn
  cases E with
  | false =>
    have HM5 := Lib.hid (HM3.sel [] (by decide))
    clear hT1 HM3
    go_wp2_with fail
    go_ret
    exact ⟨rfl, HM5.out⟩
  | true =>
    go_wp2_with fail
    refine hT1.mono ?_
    rintro e w2 ⟨v, rfl, HM4⟩
    have HM5 := (HM3.got HM4).sel [0] (by decide)
    clear hT1 HM3 HM4 a1
    simp only [List.cons_append, List.nil_append, List.filterMap_cons, List.filterMap_nil, List.getElem?_cons_zero] at HM5
    generalize seenL ts = L at *
    obtain ⟨AL, cL, rfl, y1, y2⟩ := Row.any_ (HM5.at_ 0 rfl)
    go_wp2_with fail
    go_loopw [10, 11, 12, 13] (fun v10 v11 v12 v13 wr => ∃ i : Nat, i ≤ L.length ∧ v10 = .int .i64 i ∧ Hid ((L.take i).any (chgT s a) = false) ∧ Mem none_ w [NRow (.slice AL L.length cL) L] wr) (fun v _ _ _ _ => L.length - (intOf v).toNat)
    case atStart => exact ⟨0, Nat.zero_le _, rfl, rfl, HM5⟩
    case round =>
      clear HM5
      obtain ⟨i, hi, rfl, HN, HM⟩ := hrel
      by_cases hlt : i < L.length
      · have hlt' : decide ((i : Int) < (L.length : Int)) = true := decide_eq_true (by omega)
        have hltN : decide (i < L.length) = true := decide_eq_true hlt
        obtain ⟨A', c', e', _, _, _, h4⟩ := Row.sl (HM.at_ 0 rfl)
        cases e'
        obtain ⟨b, o, rfl, hcells⟩ := h4.resolve_left (by omega)
        have pg := tch_get hlt
        have hx1 : wr.cell? ⟨b, o + i * 2 + 1, none⟩ = some (.string (ofL L[i].2)) := hcells _ _ pg.2
        have hq := hSt.out wr HM.mu L[i].2 (hpt.out _ (List.getElem_mem hlt))
        have HT := Lib.hid (any_take hlt HN.out)
        have HH : Hid (chgT s a L[i] = true → L.any (chgT s a) = true) := any_hit hlt
        have hp0 := Lib.hid pg.1
        clear hcells h4 pg HN
        generalize L[i] = x at *
        obtain ⟨xk, xp⟩ := x
        simp only at hx1 hq hp0
        have HC : Hid (chgT s a (xk, xp) = (!decide ((findS s xp).2.2 = 0) || (decide (xk = 1) && decide (a < (findS s xp).2.1.time)))) := rfl
        generalize findS s xp = F at *
        obtain ⟨Fq, Ff, Fe⟩ := F
        simp only at hq HC
        go_wp2_with fail
        refine hq.mono ?_
        rintro e w3 ⟨rfl, HM1⟩
        have HM2 := HM.got HM1
        simp only [List.nil_append] at HM2
        have hx0 : w3.cell? ⟨b, o + i * 2, none⟩ = some (.int .i64 xk) := by
          obtain ⟨A', c', e', _, _, _, h4⟩ := Row.sl (HM2.at_ 0 rfl)
          cases e'
          obtain ⟨b', o', e2, hcells⟩ := h4.resolve_left (by omega)
          cases e2
          exact hcells _ _ hp0.out
        have HMk := Lib.hid HM2
        have HMe := Lib.hid (HM2.sel [] (by decide))
        clear HM HM1 HM2 hq hp0 hx1
        by_cases he : Fe = 0
        · have qe : ((Fe : Int) != 0) = false := by rw [bne_eq_false_iff_eq]; omega
          have qe' : (decide (Fe = 0)) = true := decide_eq_true he
          rw [qe'] at HC
          clear he qe'
          by_cases hk : xk = 1
          · have qk : (xk == 1) = true := by rw [beq_iff_eq]; exact hk
            rw [decide_eq_true hk] at HC
            clear hk
            by_cases ha : a < Ff.time
            · have qa : decide (a < Ff.time) = true := decide_eq_true ha
              rw [qa] at HC
              have HV : Hid (chgT s a (xk, xp) = true) := HC.out
              clear HC
              go_wp2_with fail
              go_ret
              exact ⟨by rw [← HR.out, HH.out HV.out]; rfl, HMe.out⟩
            · have qa : decide (a < Ff.time) = false := decide_eq_false ha
              rw [qa] at HC
              have HV : Hid (chgT s a (xk, xp) = false) := HC.out
              clear HC
              go_wp2_with fail
              go_roundw
              case rel => exact ⟨i + 1, by omega, by go_num, HT.out.trans HV.out, HMk.out⟩
              case measure => simp [intOf]; omega
          · have qk : (xk == 1) = false := by rw [beq_eq_false_iff_ne]; exact hk
            rw [decide_eq_false hk] at HC
            have HV : Hid (chgT s a (xk, xp) = false) := HC.out
            clear hk HC
            go_wp2_with fail
            go_roundw
            case rel => exact ⟨i + 1, by omega, by go_num, HT.out.trans HV.out, HMk.out⟩
            case measure => simp [intOf]; omega
        · have qe : ((Fe : Int) != 0) = true := by rw [bne_iff_ne]; omega
          rw [decide_eq_false he] at HC
          have HV : Hid (chgT s a (xk, xp) = true) := HC.out
          clear he HC
          go_wp2_with fail
          go_ret
          exact ⟨by rw [← HR.out, HH.out HV.out]; rfl, HMe.out⟩
      · have hlt' : decide ((i : Int) < (L.length : Int)) = false := decide_eq_false (by omega)
        have hltN : decide (i < L.length) = false := decide_eq_false hlt
        have e : i = L.length := by omega
        subst e
        have HM6 := Lib.hid (HM.sel [] (by decide))
        have HR2 : Hid (R = false) := by
          have := HN.out
          rw [List.take_length, HR.out] at this
          exact this
        clear HM
        go_wp2_with fail
        go_ret
        exact ⟨by rw [HR2.out]; rfl, HM6.out⟩
end
end
section
set_option maxRecDepth 20000
open Go.RowKit

section
variable {sb mb : Nat} {nv : Value} {s : St} {w : World}
set_option maxHeartbeats 8000000 in
/-- The closure. -/
theorem chgc_calls (h : (StoreC sb mb nv s).ok w) (a : Int) (b1 b2 : Nat) (k : Int) (p : List UInt8) (hp : p.length ≤ 150000) (h1 : w.cell? ⟨b1, 0, none⟩ = some (ptr sb)) (h2 : w.cell? ⟨b2, 0, none⟩ = some (.int .i64 a)) :
    Calls Tryd.prog 64 #[.agg #[.int .i64 k, .string (ofL p)], .pointer (some ⟨b1, 0, none⟩), .pointer (some ⟨b2, 0, none⟩)] w fun e w' => e = .returned (.bool (chgT s a (k, p))) ∧ Mem none_ w [] w' := by
  have HM0 := ((Mem.start (fp := none_) w).box #[.int .i64 k, .string (ofL p)] 106)
  have a0 := Blk.cell_ (HM0.at_ 0 rfl) 1
  simp only [List.getElem?_toArray, List.getElem?_cons_succ, List.getElem?_cons_zero] at a0
  have c1 := Pure.cell HM0.mu h1
  have hq := stat_calls (Pure.chunk HM0.mu h) p hp
  have HC : Hid (chgT s a (k, p) = (!decide ((findS s p).2.2 = 0) || (decide (k = 1) && decide (a < (findS s p).2.1.time)))) := rfl
  obtain ⟨R, hR⟩ : ∃ R, chgT s a (k, p) = R := ⟨_, rfl⟩
  rw [hR] at HC ⊢
  clear hR
  generalize findS s p = F at *
  obtain ⟨Fq, Ff, Fe⟩ := F
  simp only at hq HC
  go_enter Tryd.func64, Tryd.ntmps64
  go_wp2_with fail
  refine hq.mono ?_
  rintro e w3 ⟨rfl, HM1⟩
  have HM2 := HM0.got HM1
  simp only [List.nil_append] at HM2
  have c2 := Pure.cell HM2.mu h2
  have a1 := Blk.cell_ (HM2.at_ 0 rfl) 0
  simp only [List.getElem?_toArray, List.getElem?_cons_succ, List.getElem?_cons_zero] at a1
  have HMe := Lib.hid (HM2.sel [] (by decide))
  clear HM0 HM1 HM2 hq a0 c1 h1 h2 h
  by_cases he : Fe = 0
  · have qe : ((Fe : Int) != 0) = false := by rw [bne_eq_false_iff_eq]; omega
    have qe' : (decide (Fe = 0)) = true := decide_eq_true he
    rw [qe'] at HC
    clear he qe'
    by_cases hk : k = 1
    · have qk : (k == 1) = true := by rw [beq_iff_eq]; exact hk
      rw [decide_eq_true hk] at HC
      clear hk
      obtain ⟨G, hG⟩ : ∃ G, decide (a < Ff.time) = G := ⟨_, rfl⟩
      rw [hG] at HC
      go_wp2_with fail
      go_ret
      exact ⟨by rw [HC.out]; rfl, HMe.out⟩
    · have qk : (k == 1) = false := by rw [beq_eq_false_iff_ne]; exact hk
      rw [decide_eq_false hk] at HC
      clear hk
      go_wp2_with fail
      go_ret
      exact ⟨by rw [HC.out]; rfl, HMe.out⟩
  · have qe : ((Fe : Int) != 0) = true := by rw [bne_iff_ne]; omega
    rw [decide_eq_false he] at HC
    clear he
    go_wp2_with fail
    go_ret
    exact ⟨by rw [HC.out]; rfl, HMe.out⟩
end
set_option maxHeartbeats 8000000 in
theorem idxT_calls (q : Tou → Bool) (lb : Array Value) (V : Value) (L : List Tou) (w : World) (hV : Tous w V L) (hl : L.length ≤ 1000000)
    (hq : ∀ wx, Pure w wx → ∀ t, t ∈ L → Calls Tryd.prog 64 (#[.agg #[.int .i64 t.1, .string (ofL t.2)]] ++ lb) wx fun e w' => e = .returned (.bool (q t)) ∧ Mem none_ wx [] w') :
    Calls Tryd.prog 83 #[V, .func (.func 64) #[] lb] w fun e w' => ∃ r : Int, e = .returned (.int .i64 r) ∧ decide (0 ≤ r) = L.any q ∧ Mem none_ w [] w' := by
  obtain ⟨A, c, rfl, g1, g2, g3, g4⟩ := hV
  have HQ := Lib.hid hq
  clear hq
  have HM0 := (Mem.start (fp := none_) w)
  go_enter Tryd.func83, Tryd.ntmps83
  go_wp2_with fail
  go_loopw [5, 8] (fun v5 v8 wr => ∃ i : Nat, i ≤ L.length ∧ v8 = .int .i64 i ∧ Hid ((L.take i).any q = false) ∧ Mem none_ w [] wr) (fun _ v _ => L.length - (intOf v).toNat)
  case atStart => exact ⟨0, Nat.zero_le _, rfl, rfl, HM0⟩
  case round =>
    clear HM0
    obtain ⟨i, hi, rfl, HN, HM⟩ := hrel
    by_cases hlt : i < L.length
    · have hlt' : decide ((i : Int) < (L.length : Int)) = true := decide_eq_true (by omega)
      have hltN : decide (i < L.length) = true := decide_eq_true hlt
      obtain ⟨b, o, rfl, hcells⟩ := g4.resolve_left (by omega)
      have pg := tch_get hlt
      have x0 : wr.cell? ⟨b, o + i * 2, none⟩ = some (.int .i64 L[i].1) := Pure.cell HM.mu (hcells _ _ pg.1)
      have x1 : wr.cell? ⟨b, o + i * 2 + 1, none⟩ = some (.string (ofL L[i].2)) := Pure.cell HM.mu (hcells _ _ pg.2)
      have hq := HQ.out wr HM.mu L[i] (List.getElem_mem hlt)
      have HT := Lib.hid (any_take hlt HN.out)
      have HH : Hid (q L[i] = true → L.any q = true) := any_hit hlt
      clear hcells g4 pg HN
      generalize L[i] = x at *
      obtain ⟨xk, xp⟩ := x
      simp only at x0 x1 hq
      obtain ⟨G, hG⟩ : ∃ G, q (xk, xp) = G := ⟨_, rfl⟩
      rw [hG] at hq HT HH
      clear hG
      cases G with
      | true =>
        have HL : Hid (L.any q = true) := HH.out rfl
        clear HH
        go_wp2_with fail
        refine hq.mono ?_
        rintro e w3 ⟨rfl, HM1⟩
        have HMe := HM.got HM1
        go_wp2_with fail
        go_ret
        exact ⟨_, rfl, by rw [HL.out]; exact decide_eq_true (by omega), HMe⟩
      | false =>
        go_wp2_with fail
        refine hq.mono ?_
        rintro e w3 ⟨rfl, HM1⟩
        have HMe := HM.got HM1
        go_wp2_with fail
        go_roundw
        case rel => exact ⟨i + 1, by omega, by go_num, HT.out, HMe⟩
        case measure => simp [intOf]; omega
    · have hlt' : decide ((i : Int) < (L.length : Int)) = false := decide_eq_false (by omega)
      have hltN : decide (i < L.length) = false := decide_eq_false hlt
      have e : i = L.length := by omega
      subst e
      have HR2 := HN.out
      rw [List.take_length] at HR2
      have HR3 := Lib.hid HR2
      clear HR2
      go_wp2_with fail
      go_ret
      exact ⟨_, rfl, by rw [HR3.out]; rfl, HM⟩
set_option maxHeartbeats 8000000 in
theorem contT_calls (q : Tou → Bool) (lb : Array Value) (V : Value) (L : List Tou) (w : World) (hV : Tous w V L) (hl : L.length ≤ 1000000)
    (hq : ∀ wx, Pure w wx → ∀ t, t ∈ L → Calls Tryd.prog 64 (#[.agg #[.int .i64 t.1, .string (ofL t.2)]] ++ lb) wx fun e w' => e = .returned (.bool (q t)) ∧ Mem none_ wx [] w') :
    Calls Tryd.prog 63 #[V, .func (.func 64) #[] lb] w fun e w' => e = .returned (.bool (L.any q)) ∧ Mem none_ w [] w' := by
  have hI := idxT_calls q lb V L w hV hl hq
  obtain ⟨A, c, rfl, _⟩ := hV
  obtain ⟨R, hR⟩ : ∃ R, L.any q = R := ⟨_, rfl⟩
  rw [hR] at hI ⊢
  clear hR hq
  go_enter Tryd.func63, Tryd.ntmps63
  go_wp2_with fail
  refine hI.mono ?_
  rintro e w1 ⟨r, rfl, hr, HM⟩
  clear hI
  go_wp2_with fail
  go_ret
  exact ⟨by first | rw [hr] | rfl, HM⟩
theorem equal_any (V U : Value) (l m : List (List UInt8)) (w : World) (hV : Txts w V l) (hU : Txts w U m) (hl : l.length ≤ 1000000) :
    Calls Tryd.prog 62 #[V, U] w fun e w' => e = .returned (.bool (decide (l = m))) ∧ Mem none_ w [] w' := by
  by_cases hlm : l.length = m.length
  · exact equal_calls V U l m w hV hU hl (by omega)
  · obtain ⟨A, c, rfl, _⟩ := hV
    obtain ⟨A', c', rfl, _⟩ := hU
    refine (Tryd.slices_Equal_string_lens A A' l.length c m.length c' w hlm).mono ?_
    rintro e w' ⟨rfl, rfl⟩
    exact ⟨ret_bool (decide_eq_false (fun e => hlm (by rw [e]))).symm, Mem.start _⟩
section
variable {sb mb : Nat} {nv : Value} {s : St} {w : World}
set_option maxHeartbeats 16000000 in
theorem schg_calls (h : (StoreC sb mb nv s).ok w) (CV TV DV : Value) (cs ds : List (List UInt8)) (ts : List Tou) (a : Int) (hC : Txts w CV cs) (hT : Tous w TV ts) (hD : Txts w DV ds)
    (hl : ts.length ≤ 1000) (ht : ∀ x, x ∈ ts → x.2.length ≤ 150000) (hc : cs.length ≤ 1000000) :
    Calls Tryd.prog 35 #[.agg #[CV, TV], DV, .int .i64 a, ptr sb] w fun e w' => e = .returned (.bool (chgB cs ds ts a s)) ∧ Mem none_ w [] w' := by
  have HM0 := (((Mem.start (fp := none_) w).box #[CV, TV] 56).box #[.int .i64 a] 3).box #[ptr sb] 28
  have e1 : (w.alloc (.cells #[CV, TV] 56)).heap.size = w.heap.size + 1 := by simp
  have e2 : ((w.alloc (.cells #[CV, TV] 56)).alloc (.cells #[.int .i64 a] 3)).heap.size = w.heap.size + 1 + 1 := by simp
  rw [e1, e2] at HM0
  clear e1 e2
  have a0 := Blk.cell_ (HM0.at_ 2 rfl) 0
  have a1 := Blk.cell_ (HM0.at_ 2 rfl) 1
  simp only [List.getElem?_toArray, List.getElem?_cons_succ, List.getElem?_cons_zero] at a0 a1
  have hS := equal_any CV DV cs ds _ (hC.pure HM0.mu) (hD.pure HM0.mu) hc
  have hSn := Lib.hid (fun wx (hx : Pure w wx) => sseen_calls TV ts wx (hT.pure hx) hl)
  have hCg := Lib.hid (fun wx (hx : Pure w wx) k p hp b1 b2 h1 h2 => chgc_calls (Pure.chunk hx h) a b1 b2 k p hp h1 h2)
  have hpt : Hid (∀ x, x ∈ seenL ts → x.2.length ≤ 150000) := fun x hx => by
    obtain ⟨t, h1, h2⟩ := seen_mem hx
    rw [← h2]; exact ht t h1
  have hsl := seen_len ts
  obtain ⟨A, c, rfl, _⟩ := hC
  obtain ⟨A2, c2, rfl, _⟩ := hT
  obtain ⟨A3, c3, rfl, _⟩ := hD
  obtain ⟨E, hE⟩ : ∃ E, decide (cs = ds) = E := ⟨_, rfl⟩
  unfold chgB
  rw [hE] at hS ⊢
  clear hE ht h
  go_enter Tryd.func35, Tryd.ntmps35
  go_wp2_with fail
  clear a0
  generalize World.alloc _ _ = W at *
  generalize w.heap.size + 1 + 1 = b3 at *
  generalize w.heap.size + 1 = b2 at *
  generalize w.heap.size = b1 at *
  refine hS.mono ?_
  rintro e w1 ⟨rfl, HM2⟩
  have HM3 := HM0.got HM2
  simp only [List.nil_append] at HM3
  have hT1 := hSn.out w1 HM3.mu
  have a1 := Blk.cell_ (HM3.at_ 2 rfl) 1
  simp only [List.getElem?_toArray, List.getElem?_cons_succ, List.getElem?_cons_zero] at a1
  clear hS HM0 HM2 hSn
  cases E with
  | false =>
    have HM5 := Lib.hid (HM3.sel [] (by decide))
    clear hT1 HM3
    go_wp2_with fail
    go_ret
    exact ⟨rfl, HM5.out⟩
  | true =>
    go_wp2_with fail
    refine hT1.mono ?_
    rintro e w2 ⟨v, rfl, HM4⟩
    have HM5 := (HM3.got HM4)
    clear hT1 HM3 HM4 a1
    simp only [List.cons_append, List.nil_append] at HM5
    have c1 := Blk.cell_ (HM5.at_ 1 rfl) 0
    have c2' := Blk.cell_ (HM5.at_ 2 rfl) 0
    simp only [List.getElem?_toArray, List.getElem?_cons_succ, List.getElem?_cons_zero] at c1 c2'
    have hCt := contT_calls (chgT s a) #[.pointer (some ⟨b3, 0, none⟩), .pointer (some ⟨b2, 0, none⟩)] v (seenL ts) w2 (Row.sl (HM5.at_ 0 rfl)) (by omega) (fun wx hx t htm => hCg.out wx (Pure.trans HM5.mu hx) t.1 t.2 (hpt.out t htm) b3 b2 (Pure.cell hx c1) (Pure.cell hx c2'))
    obtain ⟨AL, cL, rfl, y1, y2⟩ := Row.any_ (HM5.at_ 0 rfl)
    obtain ⟨R, hR⟩ : ∃ R, (seenL ts).any (chgT s a) = R := ⟨_, rfl⟩
    rw [hR] at hCt
    have HR := Lib.hid hR
    clear hR hCg hpt
    go_wp2_with fail
    refine hCt.mono ?_
    rintro e w3 ⟨rfl, HM6⟩
    have HM7 := Lib.hid ((HM5.got HM6).sel [] (by decide))
    clear hCt HM5 HM6 c1 c2'
    go_wp2_with fail
    go_ret
    exact ⟨by rw [HR.out]; rfl, HM7.out⟩
end
end
end Go.Proofs.YtnpehlkdfbmnkaaDoor
