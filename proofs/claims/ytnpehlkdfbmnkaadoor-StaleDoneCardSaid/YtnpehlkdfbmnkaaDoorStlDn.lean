/-
  Layer 18 (stale): StaleDone.
-/
import Derived.Test.YtnpehlkdfbmnkaaDoorStlWy
set_option linter.unusedVariables false
set_option linter.unusedSimpArgs false
set_option maxRecDepth 20000
namespace Go.Proofs.YtnpehlkdfbmnkaaDoor
open Go.RowKit

theorem noteS_files (s : St) (k : Int) (q : List UInt8) : (noteS s k q).files = s.files ∧ (noteS s k q).clock = s.clock := by
  unfold noteS
  split <;> exact ⟨rfl, rfl⟩
theorem writeS_ok {s : St} {p t : List UInt8} (h : (writeS s p t).2 = 0) : ∃ q, whereL p = some q ∧ (writeS s p t).1.files = mput s.files q ⟨t, s.clock + 1, false⟩ ∧ (writeS s p t).1.clock = s.clock + 1 := by
  have hE := findS_e s p
  have hH := homeS_e s (findS s p).1
  unfold writeS at h ⊢
  split at h
  · rename_i h1; simp only at h; omega
  rename_i h1
  split at h
  · simp at h
  rename_i h2
  split at h
  · rename_i h3; exact absurd h h3
  rename_i h3
  split at h
  · simp at h
  rename_i h4
  split at h
  · simp at h
  rename_i h5
  rw [if_neg h1, if_neg h2, if_neg h3, if_neg h4, if_neg h5]
  have hn := noteS_files (putS s (findS s p).1 ⟨t, 0, false⟩) 2 (findS s p).1
  refine ⟨(findS s p).1, ?_, hn.1, hn.2⟩
  rcases hE with ⟨e, _, _⟩ | ⟨_, _, _, e⟩ | ⟨_, _, e⟩
  · exact absurd ⟨by omega, by omega⟩ h1
  · exact e
  · exact e
theorem findS_of {s : St} {p q : List UInt8} {f : VF} (h : whereL p = some q) (hf : mget s.files q = some f) : findS s p = (q, f, 0) := by
  unfold findS; rw [h]; simp only [hf]
/-- These are files. -/
def There (s : St) (xs : List (List UInt8)) : Prop := ∀ x, x ∈ xs → ∃ q f, whereL x = some q ∧ mget s.files q = some f ∧ f.dir = false
theorem There.write {s : St} {xs : List (List UInt8)} {p t : List UInt8} (h : There s xs) (hw : (writeS s p t).2 = 0) : There (writeS s p t).1 xs := by
  obtain ⟨q, _, hq, _⟩ := writeS_ok hw
  intro x hx
  obtain ⟨q', f, h1, h2, h3⟩ := h x hx
  rw [hq]
  by_cases e : q' = q
  · exact ⟨q', _, h1, by rw [mget_put, if_pos e], rfl⟩
  · exact ⟨q', f, h1, by rw [mget_put, if_neg e]; exact h2, h3⟩
theorem There.last {s : St} {p t : List UInt8} (hw : (writeS s p t).2 = 0) : ∃ q, whereL p = some q ∧ mget (writeS s p t).1.files q = some ⟨t, (writeS s p t).1.clock, false⟩ := by
  obtain ⟨q, h1, hq, hc⟩ := writeS_ok hw
  exact ⟨q, h1, by rw [hq, mget_put, if_pos rfl, hc]⟩
theorem done_newer {s : St} (hG : GoodS s) (n : NdS) (hT : There s n.src) {q : List UInt8} {f : VF} (hq : whereL n.name = some q) (hf : mget s.files q = some f) (hft : f.time = s.clock) : newerS s n [] = [] := by
  unfold newerS
  rw [List.filter_eq_nil_iff]
  intro x hx
  obtain ⟨q', f', h1, h2, _⟩ := hT x hx
  have ht := (hG.time _ (mget_mem h2)).2
  have hlt : ¬ f.time < f'.time := by simp only at ht; omega
  unfold newerB
  rw [findS_of hq hf, findS_of h1 h2]
  simp [hlt]
theorem done_why {s : St} (n : NdS) (hn : newerS s n [] = []) {q : List UInt8} {f : VF} (hq : whereL n.name = some q) (hf : mget s.files q = some f) (hp : n.phony = false) (hk : n.kind ≠ 2) (h3 : ¬ (n.kind = 3 ∧ n.src = [])) : whyS s n [] = 0 := by
  have e0 : (findS s n.name).2.2 = 0 := by rw [findS_of hq hf]
  have hp2 : ¬ (n.phony = true ∨ n.kind = 2) := by rw [hp]; exact fun h => h.elim (fun e => by cases e) hk
  unfold whyS
  by_cases hc : n.cmds = 0
  · rw [if_pos hc]
  · rw [if_neg hc, if_neg hp2, if_neg (fun h => h e0), if_neg h3, if_neg (fun h => h hn)]
theorem touchS_ok {s : St} {p q : List UInt8} {f : VF} (hq : whereL p = some q) (hf : mget s.files q = some f) (hd : f.dir = false) (h : (touchS s p).2 = 0) : (touchS s p).1.files = mput s.files q ⟨f.text, s.clock + 1, false⟩ ∧ (touchS s p).1.clock = s.clock + 1 := by
  unfold touchS at h ⊢
  rw [findS_of hq hf] at h ⊢
  simp only [hd, Bool.false_eq_true, if_false] at h ⊢
  obtain ⟨q', h1, h2, h3⟩ := writeS_ok h
  have : q' = q := by rw [hq] at h1; exact (Option.some.inj h1).symm
  subst this
  exact ⟨h2, h3⟩
theorem redo_newer {s : St} (hG : GoodS s) (n : NdS) {x q q' : List UInt8} {f f' : VF} (hx : x ∈ n.src) (hq : whereL n.name = some q) (hf : mget s.files q = some f) (hq' : whereL x = some q') (hf' : mget s.files q' = some f') (hd : f'.dir = false) (hne : q' ≠ q) (ht : (touchS s x).2 = 0) :
    newerS (touchS s x).1 n [] ≠ [] ∧ ∃ g, mget (touchS s x).1.files q = some g := by
  obtain ⟨h1, h2⟩ := touchS_ok hq' hf' hd ht
  have hn : mget (touchS s x).1.files q = some f := by rw [h1, mget_put, if_neg (fun e => hne e.symm)]; exact hf
  have hm : mget (touchS s x).1.files q' = some ⟨f'.text, s.clock + 1, false⟩ := by rw [h1, mget_put, if_pos rfl]
  refine ⟨fun e => ?_, f, hn⟩
  have hin : x ∈ newerS (touchS s x).1 n [] := by
    unfold newerS
    rw [List.mem_filter]
    refine ⟨hx, ?_⟩
    have htm := (hG.time _ (mget_mem hf)).2
    unfold newerB
    rw [findS_of hq hn, findS_of hq' hm]
    have : f.time < s.clock + 1 := by simp only at htm; omega
    simp [this]
  rw [e] at hin; cases hin
theorem redo_why {s : St} (n : NdS) (hn : newerS s n [] ≠ []) {q : List UInt8} {f : VF} (hq : whereL n.name = some q) (hf : mget s.files q = some f) (hp : n.phony = false) (hk : n.kind ≠ 2) (h3 : ¬ (n.kind = 3 ∧ n.src = [])) (hc : n.cmds ≠ 0) : whyS s n [] = 5 := by
  have e0 : (findS s n.name).2.2 = 0 := by rw [findS_of hq hf]
  have hp2 : ¬ (n.phony = true ∨ n.kind = 2) := by rw [hp]; exact fun h => h.elim (fun e => by cases e) hk
  unfold whyS
  rw [if_neg hc, if_neg hp2, if_neg (fun h => h e0), if_neg h3, if_pos hn]
theorem writeS_r (s : St) (p t : List UInt8) : (writeS s p t).2 ≤ 9 := by
  have hE := findS_e s p
  have hH := homeS_e s (findS s p).1
  unfold writeS
  split
  · simp only; omega
  split
  · simp
  split
  · simp only; omega
  split
  · simp
  split <;> simp
set_option maxHeartbeats 16000000 in
theorem done_calls (n : NdS) (SV CV AV : Value) (im : ByteArray) (b1 b2 b3 : Bool) (FV : Value) (l : List (List UInt8 × List UInt8)) (w : World) (hm : MaxV w) (o : NodeO w n SV CV AV)
    (hF : FilesR w FV l) (hlz : l.length ≤ 140737488351232) (hl : ∀ x, x ∈ l → x.1.length ≤ 140737488351232 ∧ x.2.length ≤ 140737488351232) :
    Calls Tryd.prog 5 #[.agg (ndC n SV CV AV im b1 b2 b3), FV] w fun e w' => e = .returned (.bool true) ∧ Mem none_ w [] w' := by
  have hA := fun wx (hx : Pure w wx) => alive_calls wx (MaxV.pure hx hm)
  have HM0 := (Mem.start (fp := none_) w).box (ndC n SV CV AV im b1 b2 b3) 24
  have hFar := far_calls n SV CV AV FV (.slice none 0 0) im b1 b2 b3 l [] _ (o.pure HM0.mu) (hF.pure HM0.mu) (nilTx _) hl
  have hSt := fun wx (hx : Pure w wx) (h : Near n l []) => stores_calls FV l wx (hF.pure hx) (by have := h.hl; omega) (fun x hx => by have := h.hll x hx; have := hl x hx; omega)
  have O := Lib.hid o
  obtain ⟨⟨A, c, rfl, g1, g2, g3, g4⟩, ⟨A1, c1, rfl, _⟩, ⟨A2, k2, c2, rfl⟩, hnl, hsl⟩ := o
  obtain ⟨A4, c4, rfl, _⟩ := hF
  obtain ⟨nn, nk, ns, nc, nph⟩ := n
  simp only at O hFar HM0 hSt g1 g3 g4 ⊢
  unfold ndC at HM0 hFar ⊢
  simp only at HM0 hFar ⊢
  unfold maxLen at g2
  have z0 := Blk.cell_ (HM0.at_ 0 rfl) 0
  have z1 := Blk.cell_ (HM0.at_ 0 rfl) 1
  have z2 := Blk.cell_ (HM0.at_ 0 rfl) 2
  have z3 := Blk.cell_ (HM0.at_ 0 rfl) 3
  have z4 := Blk.cell_ (HM0.at_ 0 rfl) 4
  have z5 := Blk.cell_ (HM0.at_ 0 rfl) 5
  have z6 := Blk.cell_ (HM0.at_ 0 rfl) 6
  have z7 := Blk.cell_ (HM0.at_ 0 rfl) 7
  have z8 := Blk.cell_ (HM0.at_ 0 rfl) 8
  have z9 := Blk.cell_ (HM0.at_ 0 rfl) 9
  simp only [List.getElem?_toArray, List.getElem?_cons_succ, List.getElem?_cons_zero] at z0 z1 z2 z3 z4 z5 z6 z7 z8 z9
  clear hlz hl hnl hsl g3
  go_enter Tryd.func5, Tryd.ntmps5
  go_wp2_with fail
  generalize World.alloc _ _ = W0 at *
  generalize w.heap.size = nb at *
  refine hFar.mono ?_
  rintro e w1 ⟨b, rfl, hb, HM1⟩
  have HM2 := HM0.got HM1
  simp only [List.nil_append] at HM2
  clear hFar HM0 HM1 z0 z1 z2 z3 z4 z5 z6 z7 z8 z9
  have z0 := Blk.cell_ (HM2.at_ 0 rfl) 0
  have z1 := Blk.cell_ (HM2.at_ 0 rfl) 1
  have z2 := Blk.cell_ (HM2.at_ 0 rfl) 2
  have z3 := Blk.cell_ (HM2.at_ 0 rfl) 3
  have z4 := Blk.cell_ (HM2.at_ 0 rfl) 4
  have z5 := Blk.cell_ (HM2.at_ 0 rfl) 5
  have z6 := Blk.cell_ (HM2.at_ 0 rfl) 6
  have z7 := Blk.cell_ (HM2.at_ 0 rfl) 7
  have z8 := Blk.cell_ (HM2.at_ 0 rfl) 8
  have z9 := Blk.cell_ (HM2.at_ 0 rfl) 9
  simp only [List.getElem?_toArray, List.getElem?_cons_succ, List.getElem?_cons_zero] at z0 z1 z2 z3 z4 z5 z6 z7 z8 z9
  cases b with
  | true =>
    have hA1 := hA w1 HM2.mu
    go_wp2_with fail
    refine hA1.mono ?_
    rintro e wz ⟨rfl, HMz⟩
    have HMy := (HM2.got HMz).sel [] (by decide)
    clear hA1 HM2 HMz z0 z1 z2 z3 z4 z5 z6 z7 z8 z9
    go_wp2_with fail
    go_ret
    exact ⟨rfl, HMy⟩
  | false =>
  cases nph with
  | true =>
    have hA1 := hA w1 HM2.mu
    go_wp2_with fail
    refine hA1.mono ?_
    rintro e wz ⟨rfl, HMz⟩
    have HMy := (HM2.got HMz).sel [] (by decide)
    clear hA1 HM2 HMz z0 z1 z2 z3 z4 z5 z6 z7 z8 z9
    go_wp2_with fail
    go_ret
    exact ⟨rfl, HMy⟩
  | false =>
  by_cases hk2 : nk = 2
  · have k2e : (nk == 2) = true := by rw [beq_iff_eq]; exact hk2
    clear hk2
    have hA1 := hA w1 HM2.mu
    go_wp2_with fail
    refine hA1.mono ?_
    rintro e wz ⟨rfl, HMz⟩
    have HMy := (HM2.got HMz).sel [] (by decide)
    clear hA1 HM2 HMz z0 z1 z2 z3 z4 z5 z6 z7 z8 z9
    go_wp2_with fail
    go_ret
    exact ⟨rfl, HMy⟩
  · have k2e : (nk == 2) = false := by rw [beq_eq_false_iff_ne]; exact hk2
    by_cases h30 : nk = 3 ∧ ns.length = 0
    · have k3e : (nk == 3) = true := by rw [beq_iff_eq]; exact h30.1
      have k0e : ((ns.length : Int) == 0) = true := by rw [beq_iff_eq]; have := h30.2; omega
      clear hk2 h30
      have hA1 := hA w1 HM2.mu
      go_wp2_with fail
      refine hA1.mono ?_
      rintro e wz ⟨rfl, HMz⟩
      have HMy := (HM2.got HMz).sel [] (by decide)
      clear hA1 HM2 HMz z0 z1 z2 z3 z4 z5 z6 z7 z8 z9
      go_wp2_with fail
      go_ret
      exact ⟨rfl, HMy⟩
    · have Hk2 := Lib.hid hk2
      have H30 : Hid (¬ (nk = 3 ∧ ns = [])) := fun h => h30 ⟨h.1, by rw [h.2]; rfl⟩
      have hN := hb rfl
      have hS1 := hSt w1 HM2.mu hN
      obtain ⟨n1, n2, n3, n4, n5, n6⟩ := hN
      simp only at n1 n4 n5
      obtain ⟨hG, hck, hno⟩ := storeS_good (l := l) (fun x hx => by have := n6 x hx; omega)
      have N5 := Lib.hid n5
      have HG := Lib.hid hG
      clear hSt hb n5 n6 hno hG hk2
      generalize storeS l = s at *
      have hgo : (nk == 3) = false ∨ ((nk == 3) = true ∧ ((ns.length : Int) == 0) = false) := by
        by_cases h3 : nk = 3
        · exact .inr ⟨by rw [beq_iff_eq]; exact h3, by rw [beq_eq_false_iff_ne]; intro e; exact h30 ⟨h3, by omega⟩⟩
        · exact .inl (by rw [beq_eq_false_iff_ne]; exact h3)
      clear h30
      rcases hgo with k3e | ⟨k3e, k0e⟩
      all_goals (
        go_wp2_with fail
        try clear k0e
        refine hS1.mono ?_
        rintro e w2 ⟨sb, mb, nv, rb, lv, rn, rfl, HM3⟩
        have HM4 := (HM2.got HM3).sel [0, 2] (by decide)
        simp only [List.cons_append, List.nil_append, List.filterMap_cons, List.filterMap_nil, List.getElem?_cons_succ, List.getElem?_cons_zero] at HM4
        clear hS1 HM2 HM3 z0 z1 z2 z3 z4 z5 z6 z7 z8 z9
        have z2 := Blk.cell_ (HM4.at_ 1 rfl) 2
        simp only [List.getElem?_toArray, List.getElem?_cons_succ, List.getElem?_cons_zero] at z2
        go_wp2_with fail
        go_loopw [8, 45] (fun v8 v45 wr => ∃ (k : Nat) (nv : Value) (s : St), k ≤ ns.length ∧ v45 = .int .i64 k ∧ s.clock ≤ (l.length : Int) + k ∧ Hid (GoodS s ∧ There s (ns.take k)) ∧ Mem none_ w [StoreC sb mb nv s, Blk nb 24 #[.string (ofL nn), .int .i64 nk, .slice A ns.length c, .slice A1 nc c1, .slice A2 k2 c2, .string im, .bool false, .bool b1, .bool b2, .bool b3]] wr) (fun _ v _ => ns.length - (intOf v).toNat)
        case atStart => exact ⟨0, _, _, Nat.zero_le _, rfl, by simpa using hck, Lib.hid ⟨HG.out, fun x hx => by cases hx⟩, HM4⟩
        case round =>
          clear HM4 z2 HG hck
          obtain ⟨k, nv, s, hk, rfl, hck, HG, HM⟩ := hrel
          by_cases hlt : k < ns.length
          · have hlt' : decide ((k : Int) < (ns.length : Int)) = true := decide_eq_true (by omega)
            have hltN : decide (k < ns.length) = true := decide_eq_true hlt
            obtain ⟨ba, oa, rfl, hcells⟩ := g4.resolve_left (by omega)
            have hx0 : wr.cell? ⟨ba, oa + k, none⟩ = some (.string (ofL ns[k])) := HM.mu.cell (hcells _ _ (tx_get hlt)) (fun h => h)
            have hxl := N5.out ns[k] (List.getElem_mem hlt)
            have hwc := write_calls (HM.at_ 0 rfl) HG.out.1 (by omega) ns[k] [115] (by omega) (by decide)
            have e1 : ofL [115] = ⟨#[115]⟩ := rfl
            rw [e1] at hwc
            obtain ⟨wg1, wg2, wg3, wg4⟩ := writeS_good HG.out.1 ns[k] [115] (by omega)
            have HTh : Hid ((writeS s ns[k] [115]).2 = 0 → There (writeS s ns[k] [115]).1 (ns.take (k + 1))) := fun h0 x hx => by
              rw [List.take_succ_eq_append_getElem hlt] at hx
              rcases List.mem_append.1 hx with hx | hx
              · exact (HG.out.2.write h0) x hx
              · rw [List.mem_singleton.1 hx]
                obtain ⟨q, h1, h2⟩ := There.last h0
                exact ⟨q, _, h1, h2, rfl⟩
            have hck2 : (writeS s ns[k] [115]).1.clock ≤ (l.length : Int) + ((k + 1 : Nat) : Int) := by omega
            have WG := Lib.hid wg1
            clear hcells g4 wg1 wg2 wg3 wg4 e1 HG hck
            generalize (writeS s ns[k] [115]).1 = s2 at *
            generalize (writeS s ns[k] [115]).2 = r at *
            generalize ns[k] = x at *
            go_wp2_with fail
            refine hwc.mono ?_
            rintro e w3 ⟨rfl, nv2, HMw⟩
            have HM6 := Mem.call1 HM HMw
            simp only [List.cons_append, List.nil_append] at HM6
            clear hwc HM HMw hx0
            by_cases hr : r = 0
            · have qr : (((r : Nat) : Int) != 0) = false := by rw [bne_eq_false_iff_eq]; omega
              have HT := Lib.hid (HTh.out hr)
              clear hr HTh
              go_wp2_with fail
              go_roundw
              case rel => exact ⟨k + 1, nv2, s2, by omega, by go_num, hck2, Lib.hid ⟨WG.out, HT.out⟩, HM6⟩
              case measure => simp [intOf]; omega
            · have qr : (((r : Nat) : Int) != 0) = true := by rw [bne_iff_ne]; omega
              clear hr HTh
              have hA1 := hA w3 HM6.mu
              go_wp2_with fail
              refine hA1.mono ?_
              rintro e wz ⟨rfl, HMz⟩
              have HMy := (HM6.got HMz).sel [] (by decide)
              clear hA1 HM6 HMz 
              go_wp2_with fail
              go_ret
              exact ⟨rfl, HMy⟩
          · have e : k = ns.length := by omega
            subst e
            rw [List.take_length] at HG
            have z0 := Blk.cell_ (HM.at_ 1 rfl) 0
            simp only [List.getElem?_toArray, List.getElem?_cons_succ, List.getElem?_cons_zero] at z0
            have hwc := write_calls (HM.at_ 0 rfl) HG.out.1 (by omega) nn [116] (by omega) (by decide)
            have e1 : ofL [116] = ⟨#[116]⟩ := rfl
            rw [e1] at hwc
            obtain ⟨wg1, wg2, wg3, wg4⟩ := writeS_good HG.out.1 nn [116] (by omega)
            have HTh : Hid ((writeS s nn [116]).2 = 0 → There (writeS s nn [116]).1 ns ∧ ∃ q f, whereL nn = some q ∧ mget (writeS s nn [116]).1.files q = some f ∧ f.time = (writeS s nn [116]).1.clock) := fun h0 => by
              obtain ⟨q, h1, h2⟩ := There.last h0
              exact ⟨HG.out.2.write h0, q, _, h1, h2, rfl⟩
            have hck2 : (writeS s nn [116]).1.clock ≤ 1000 := by omega
            have WG := Lib.hid wg1
            clear wg1 wg2 wg3 wg4 e1 HG hck
            generalize (writeS s nn [116]).1 = s2 at *
            generalize (writeS s nn [116]).2 = r at *
            go_wp2_with fail
            refine hwc.mono ?_
            rintro e w3 ⟨rfl, nv2, HMw⟩
            have HM6 := Mem.call1 HM HMw
            simp only [List.cons_append, List.nil_append] at HM6
            clear hwc HM HMw z0
            by_cases hr : r = 0
            · have qr : (((r : Nat) : Int) != 0) = false := by rw [bne_eq_false_iff_eq]; omega
              obtain ⟨hT, q, f, hq, hf, hft⟩ := HTh.out hr
              have hnw := done_newer WG.out ⟨nn, nk, ns, nc, false⟩ hT hq hf hft
              have hwy := done_why (s := s2) ⟨nn, nk, ns, nc, false⟩ hnw hq hf rfl Hk2.out H30.out
              have HT := Lib.hid hT
              have HQ := Lib.hid (And.intro hq hf)
              have Hwy := Lib.hid hwy
              have Hnw := Lib.hid hnw
              clear hr HTh hT hq hf hft hnw hwy
              have hTh := fun wx (hx : Pure w wx) => theirs_calls ⟨nn, nk, ns, nc, false⟩ (.slice A ns.length c) (.slice A1 nc c1) (.slice A2 k2 c2) im b1 b2 b3 wx (O.out.pure hx)
              unfold ndC at hTh
              simp only at hTh
              have z0 := Blk.cell_ (HM6.at_ 1 rfl) 0
              have z1 := Blk.cell_ (HM6.at_ 1 rfl) 1
              have z2 := Blk.cell_ (HM6.at_ 1 rfl) 2
              have z3 := Blk.cell_ (HM6.at_ 1 rfl) 3
              have z4 := Blk.cell_ (HM6.at_ 1 rfl) 4
              have z5 := Blk.cell_ (HM6.at_ 1 rfl) 5
              have z6 := Blk.cell_ (HM6.at_ 1 rfl) 6
              have z7 := Blk.cell_ (HM6.at_ 1 rfl) 7
              have z8 := Blk.cell_ (HM6.at_ 1 rfl) 8
              have z9 := Blk.cell_ (HM6.at_ 1 rfl) 9
              simp only [List.getElem?_toArray, List.getElem?_cons_succ, List.getElem?_cons_zero] at z0 z1 z2 z3 z4 z5 z6 z7 z8 z9
              have hT1 := hTh w3 HM6.mu
              go_wp2_with fail
              refine hT1.mono ?_
              rintro e w4 ⟨rfl, HM5⟩
              have HM7 := HM6.got HM5
              simp only [List.cons_append, List.nil_append, List.filterMap_cons, List.filterMap_nil, List.getElem?_cons_succ, List.getElem?_cons_zero] at HM7
              clear hT1 HM6 HM5 z0 z1 z2 z3 z4 z5 z6 z7 z8 z9
              have z0 := Blk.cell_ (HM7.at_ 1 rfl) 0
              have z1 := Blk.cell_ (HM7.at_ 1 rfl) 1
              have z2 := Blk.cell_ (HM7.at_ 1 rfl) 2
              have z3 := Blk.cell_ (HM7.at_ 1 rfl) 3
              have z4 := Blk.cell_ (HM7.at_ 1 rfl) 4
              have z5 := Blk.cell_ (HM7.at_ 1 rfl) 5
              have z6 := Blk.cell_ (HM7.at_ 1 rfl) 6
              have z7 := Blk.cell_ (HM7.at_ 1 rfl) 7
              have z8 := Blk.cell_ (HM7.at_ 1 rfl) 8
              have z9 := Blk.cell_ (HM7.at_ 1 rfl) 9
              simp only [List.getElem?_toArray, List.getElem?_cons_succ, List.getElem?_cons_zero] at z0 z1 z2 z3 z4 z5 z6 z7 z8 z9
              have hW1 := why_calls (HM7.at_ 0 rfl) ⟨nn, nk, ns, nc, false⟩ (.slice A ns.length c) (.slice A1 nc c1) (.slice none 0 0) (.slice none 0 0) ⟨#[]⟩ false false false [] (O.out.s.pure HM7.mu) (nilTx _) (by show nn.length ≤ _; omega) (fun x hx => by have := N5.out x hx; omega) (by show ns.length ≤ _; omega) (by simp) ⟨_, _, rfl⟩ ⟨_, _, _, rfl⟩
              unfold ndC at hW1
              simp only at hW1
              rw [Hwy.out] at hW1
              go_wp2_with fail
              refine hW1.mono ?_
              rintro e w5 ⟨rfl, HM5⟩
              have HM8 := HM7.got HM5
              simp only [List.cons_append, List.nil_append, List.filterMap_cons, List.filterMap_nil, List.getElem?_cons_succ, List.getElem?_cons_zero] at HM8
              clear hW1 HM7 HM5 z0 z1 z2 z3 z4 z5 z6 z7 z8 z9
              have z0 := Blk.cell_ (HM8.at_ 1 rfl) 0
              have z1 := Blk.cell_ (HM8.at_ 1 rfl) 1
              have z2 := Blk.cell_ (HM8.at_ 1 rfl) 2
              have z3 := Blk.cell_ (HM8.at_ 1 rfl) 3
              have z4 := Blk.cell_ (HM8.at_ 1 rfl) 4
              have z5 := Blk.cell_ (HM8.at_ 1 rfl) 5
              have z6 := Blk.cell_ (HM8.at_ 1 rfl) 6
              have z7 := Blk.cell_ (HM8.at_ 1 rfl) 7
              have z8 := Blk.cell_ (HM8.at_ 1 rfl) 8
              have z9 := Blk.cell_ (HM8.at_ 1 rfl) 9
              simp only [List.getElem?_toArray, List.getElem?_cons_succ, List.getElem?_cons_zero] at z0 z1 z2 z3 z4 z5 z6 z7 z8 z9
              have hT1 := hTh w5 HM8.mu
              go_wp2_with fail
              refine hT1.mono ?_
              rintro e w6 ⟨rfl, HM5⟩
              have HM9 := HM8.got HM5
              simp only [List.cons_append, List.nil_append, List.filterMap_cons, List.filterMap_nil, List.getElem?_cons_succ, List.getElem?_cons_zero] at HM9
              clear hT1 HM8 HM5 z0 z1 z2 z3 z4 z5 z6 z7 z8 z9
              have z0 := Blk.cell_ (HM9.at_ 1 rfl) 0
              have z1 := Blk.cell_ (HM9.at_ 1 rfl) 1
              have z2 := Blk.cell_ (HM9.at_ 1 rfl) 2
              have z3 := Blk.cell_ (HM9.at_ 1 rfl) 3
              have z4 := Blk.cell_ (HM9.at_ 1 rfl) 4
              have z5 := Blk.cell_ (HM9.at_ 1 rfl) 5
              have z6 := Blk.cell_ (HM9.at_ 1 rfl) 6
              have z7 := Blk.cell_ (HM9.at_ 1 rfl) 7
              have z8 := Blk.cell_ (HM9.at_ 1 rfl) 8
              have z9 := Blk.cell_ (HM9.at_ 1 rfl) 9
              simp only [List.getElem?_toArray, List.getElem?_cons_succ, List.getElem?_cons_zero] at z0 z1 z2 z3 z4 z5 z6 z7 z8 z9
              have hW1 := newer_calls (HM9.at_ 0 rfl) ⟨nn, nk, ns, nc, false⟩ (.slice A ns.length c) (.slice A1 nc c1) (.slice none 0 0) (.slice none 0 0) ⟨#[]⟩ false false false [] (O.out.s.pure HM9.mu) (nilTx _) (by show nn.length ≤ _; omega) (fun x hx => by have := N5.out x hx; omega) (by show ns.length ≤ _; omega) (by simp) ⟨_, _, _, rfl⟩ ⟨_, _, _, rfl⟩
              unfold ndC at hW1
              simp only at hW1
              rw [Hnw.out] at hW1
              go_wp2_with fail
              refine hW1.mono ?_
              rintro e w7 ⟨v9, rfl, HM5⟩
              obtain ⟨A9, c9, rfl, _, _⟩ := Row.any_ (HM5.at_ 0 rfl)
              have HMa := (HM9.got HM5).sel [1, 2] (by decide)
              simp only [List.cons_append, List.nil_append, List.filterMap_cons, List.filterMap_nil, List.getElem?_cons_succ, List.getElem?_cons_zero] at HMa
              clear hW1 HM9 HM5 z0 z1 z2 z3 z4 z5 z6 z7 z8 z9
              have z0 := Blk.cell_ (HMa.at_ 1 rfl) 0
              have z1 := Blk.cell_ (HMa.at_ 1 rfl) 1
              have z2 := Blk.cell_ (HMa.at_ 1 rfl) 2
              have z3 := Blk.cell_ (HMa.at_ 1 rfl) 3
              have z4 := Blk.cell_ (HMa.at_ 1 rfl) 4
              have z5 := Blk.cell_ (HMa.at_ 1 rfl) 5
              have z6 := Blk.cell_ (HMa.at_ 1 rfl) 6
              have z7 := Blk.cell_ (HMa.at_ 1 rfl) 7
              have z8 := Blk.cell_ (HMa.at_ 1 rfl) 8
              have z9 := Blk.cell_ (HMa.at_ 1 rfl) 9
              simp only [List.getElem?_toArray, List.getElem?_cons_succ, List.getElem?_cons_zero] at z0 z1 z2 z3 z4 z5 z6 z7 z8 z9
              by_cases hs0 : ns.length = 0
              · have q1 : ((ns.length : Int) == 0) = true := by rw [beq_iff_eq]; omega
                clear hs0
                have hA1 := hA w7 HMa.mu
                go_wp2_with fail
                refine hA1.mono ?_
                rintro e wz ⟨rfl, HMz⟩
                have HMy := (HMa.got HMz).sel [] (by decide)
                clear hA1 HMa HMz z0 z1 z2 z3 z4 z5 z6 z7 z8 z9
                go_wp2_with fail
                go_ret
                exact ⟨rfl, HMy⟩
              · have q1 : ((ns.length : Int) == 0) = false := by rw [beq_eq_false_iff_ne]; omega
                by_cases hc0 : nc = 0
                · have q2 : ((nc : Int) == 0) = true := by rw [beq_iff_eq]; omega
                  clear hs0 hc0
                  have hA1 := hA w7 HMa.mu
                  go_wp2_with fail
                  refine hA1.mono ?_
                  rintro e wz ⟨rfl, HMz⟩
                  have HMy := (HMa.got HMz).sel [] (by decide)
                  clear hA1 HMa HMz z0 z1 z2 z3 z4 z5 z6 z7 z8 z9
                  go_wp2_with fail
                  go_ret
                  exact ⟨rfl, HMy⟩
                · have q2 : ((nc : Int) == 0) = false := by rw [beq_eq_false_iff_ne]; omega
                  have hi0 : 0 < ns.length := by omega
                  obtain ⟨ba, oa, rfl, hcells⟩ := g4.resolve_left (by omega)
                  have hx0 : w7.cell? ⟨ba, oa + 0, none⟩ = some (.string (ofL ns[0])) := HMa.mu.cell (hcells _ _ (tx_get hi0)) (fun h => h)
                  rw [Nat.add_zero] at hx0
                  have hmem : ns[0] ∈ ns := List.getElem_mem hi0
                  have hxl := N5.out _ hmem
                  obtain ⟨q', f', hq', hf', hd'⟩ := HT.out _ hmem
                  have Hmem := Lib.hid hmem
                  have Hnc := Lib.hid hc0
                  have hlt0 : decide ((0 : Int) < (ns.length : Int)) = true := decide_eq_true (by omega)
                  clear g4 hmem hc0 hs0
                  have hX0 := fun wx (hx : Pure w7 wx) => hx.cell hx0
                  generalize ns[0] = x at *
                  have hwh := rwhere_calls x w7 (by omega)
                  have hwn := fun wx => rwhere_calls nn wx (by omega)
                  have eq1 : whereQ x = q' := by unfold whereQ; rw [hq']; rfl
                  have eq2 : whereQ nn = q := by unfold whereQ; rw [HQ.out.1]; rfl
                  rw [eq1] at hwh
                  simp only [eq2] at hwn
                  have HX := Lib.hid (And.intro hq' (And.intro hf' hd'))
                  have hse := str_eq q' q
                  clear eq1 eq2 hq' hf' hd' hcells
                  go_wp2_with fail
                  refine hwh.mono ?_
                  rintro e w8 ⟨rfl, HMb⟩
                  have HMc := HMa.got HMb
                  simp only [List.nil_append] at HMc
                  have hx1 := hX0 w8 HMb.mu
                  have hwn1 := hwn w8
                  clear hwh hwn HMa z0 z1 z2 z3 z4 z5 z6 z7 z8 z9
                  have z0 := Blk.cell_ (HMc.at_ 1 rfl) 0
                  have z1 := Blk.cell_ (HMc.at_ 1 rfl) 1
                  have z2 := Blk.cell_ (HMc.at_ 1 rfl) 2
                  have z3 := Blk.cell_ (HMc.at_ 1 rfl) 3
                  have z4 := Blk.cell_ (HMc.at_ 1 rfl) 4
                  have z5 := Blk.cell_ (HMc.at_ 1 rfl) 5
                  have z6 := Blk.cell_ (HMc.at_ 1 rfl) 6
                  have z7 := Blk.cell_ (HMc.at_ 1 rfl) 7
                  have z8 := Blk.cell_ (HMc.at_ 1 rfl) 8
                  have z9 := Blk.cell_ (HMc.at_ 1 rfl) 9
                  simp only [List.getElem?_toArray, List.getElem?_cons_succ, List.getElem?_cons_zero] at z0 z1 z2 z3 z4 z5 z6 z7 z8 z9
                  go_wp2_with fail
                  refine hwn1.mono ?_
                  rintro e w9 ⟨rfl, HMd⟩
                  have HMe := HMc.got HMd
                  simp only [List.nil_append] at HMe
                  have hx2 := hX0 w9 (Pure.trans HMb.mu HMd.mu)
                  clear hwn1 HMc HMb HMd hX0 hx1 hx0 z0 z1 z2 z3 z4 z5 z6 z7 z8 z9
                  have z0 := Blk.cell_ (HMe.at_ 1 rfl) 0
                  have z1 := Blk.cell_ (HMe.at_ 1 rfl) 1
                  have z2 := Blk.cell_ (HMe.at_ 1 rfl) 2
                  have z3 := Blk.cell_ (HMe.at_ 1 rfl) 3
                  have z4 := Blk.cell_ (HMe.at_ 1 rfl) 4
                  have z5 := Blk.cell_ (HMe.at_ 1 rfl) 5
                  have z6 := Blk.cell_ (HMe.at_ 1 rfl) 6
                  have z7 := Blk.cell_ (HMe.at_ 1 rfl) 7
                  have z8 := Blk.cell_ (HMe.at_ 1 rfl) 8
                  have z9 := Blk.cell_ (HMe.at_ 1 rfl) 9
                  simp only [List.getElem?_toArray, List.getElem?_cons_succ, List.getElem?_cons_zero] at z0 z1 z2 z3 z4 z5 z6 z7 z8 z9
                  by_cases hqq : q' = q
                  · rw [decide_eq_true hqq] at hse
                    clear hqq hx2
                    have hA1 := hA w9 HMe.mu
                    go_wp2_with fail
                    refine hA1.mono ?_
                    rintro e wz ⟨rfl, HMz⟩
                    have HMy := (HMe.got HMz).sel [] (by decide)
                    clear hA1 HMe HMz z0 z1 z2 z3 z4 z5 z6 z7 z8 z9
                    go_wp2_with fail
                    go_ret
                    exact ⟨rfl, HMy⟩
                  · rw [decide_eq_false hqq] at hse
                    have hto := touch_calls (HMe.at_ 0 rfl) WG.out (by omega) x (by omega)
                    have HRd : Hid ((touchS s2 x).2 = 0 → newerS (touchS s2 x).1 ⟨nn, nk, ns, nc, false⟩ [] ≠ [] ∧ whyS (touchS s2 x).1 ⟨nn, nk, ns, nc, false⟩ [] = 5) := fun h0 => by
                      obtain ⟨r1, g, r2⟩ := redo_newer WG.out ⟨nn, nk, ns, nc, false⟩ Hmem.out HQ.out.1 HQ.out.2 HX.out.1 HX.out.2.1 HX.out.2.2 hqq h0
                      exact ⟨r1, redo_why _ r1 HQ.out.1 r2 rfl Hk2.out H30.out Hnc.out⟩
                    clear hqq WG HX
                    generalize (touchS s2 x).1 = s3 at *
                    generalize (touchS s2 x).2 = r3 at *
                    go_wp2_with fail
                    refine hto.mono ?_
                    rintro e w10 ⟨rfl, nv3, HMf⟩
                    have HMg := Mem.call1 HMe HMf
                    simp only [List.cons_append, List.nil_append] at HMg
                    clear hto HMe HMf hx2 z0 z1 z2 z3 z4 z5 z6 z7 z8 z9
                    have z0 := Blk.cell_ (HMg.at_ 1 rfl) 0
                    have z1 := Blk.cell_ (HMg.at_ 1 rfl) 1
                    have z2 := Blk.cell_ (HMg.at_ 1 rfl) 2
                    have z3 := Blk.cell_ (HMg.at_ 1 rfl) 3
                    have z4 := Blk.cell_ (HMg.at_ 1 rfl) 4
                    have z5 := Blk.cell_ (HMg.at_ 1 rfl) 5
                    have z6 := Blk.cell_ (HMg.at_ 1 rfl) 6
                    have z7 := Blk.cell_ (HMg.at_ 1 rfl) 7
                    have z8 := Blk.cell_ (HMg.at_ 1 rfl) 8
                    have z9 := Blk.cell_ (HMg.at_ 1 rfl) 9
                    simp only [List.getElem?_toArray, List.getElem?_cons_succ, List.getElem?_cons_zero] at z0 z1 z2 z3 z4 z5 z6 z7 z8 z9
                    by_cases hr3 : r3 = 0
                    · have qr3 : (((r3 : Nat) : Int) != 0) = false := by rw [bne_eq_false_iff_eq]; omega
                      obtain ⟨hn3, hw3⟩ := HRd.out hr3
                      have hnl : 0 < (newerS s3 ⟨nn, nk, ns, nc, false⟩ []).length := List.length_pos_iff.2 hn3
                      have Hw3 := Lib.hid hw3
                      clear hr3 HRd hn3 hw3
                      obtain ⟨L, hL⟩ : ∃ L, newerS s3 ⟨nn, nk, ns, nc, false⟩ [] = L := ⟨_, rfl⟩
                      rw [hL] at hnl
                      have HL := Lib.hid hL
                      clear hL
                      have hT1 := hTh w10 HMg.mu
                      go_wp2_with fail
                      refine hT1.mono ?_
                      rintro e w11 ⟨rfl, HM5⟩
                      have HMh := HMg.got HM5
                      simp only [List.cons_append, List.nil_append, List.filterMap_cons, List.filterMap_nil, List.getElem?_cons_succ, List.getElem?_cons_zero] at HMh
                      clear hT1 HMg HM5 z0 z1 z2 z3 z4 z5 z6 z7 z8 z9
                      have z0 := Blk.cell_ (HMh.at_ 1 rfl) 0
                      have z1 := Blk.cell_ (HMh.at_ 1 rfl) 1
                      have z2 := Blk.cell_ (HMh.at_ 1 rfl) 2
                      have z3 := Blk.cell_ (HMh.at_ 1 rfl) 3
                      have z4 := Blk.cell_ (HMh.at_ 1 rfl) 4
                      have z5 := Blk.cell_ (HMh.at_ 1 rfl) 5
                      have z6 := Blk.cell_ (HMh.at_ 1 rfl) 6
                      have z7 := Blk.cell_ (HMh.at_ 1 rfl) 7
                      have z8 := Blk.cell_ (HMh.at_ 1 rfl) 8
                      have z9 := Blk.cell_ (HMh.at_ 1 rfl) 9
                      simp only [List.getElem?_toArray, List.getElem?_cons_succ, List.getElem?_cons_zero] at z0 z1 z2 z3 z4 z5 z6 z7 z8 z9
                      have hW1 := why_calls (HMh.at_ 0 rfl) ⟨nn, nk, ns, nc, false⟩ (.slice (some ⟨ba, oa, none⟩) ns.length c) (.slice A1 nc c1) (.slice none 0 0) (.slice none 0 0) ⟨#[]⟩ false false false [] (O.out.s.pure HMh.mu) (nilTx _) (by show nn.length ≤ _; omega) (fun x hx => by have := N5.out x hx; omega) (by show ns.length ≤ _; omega) (by simp) ⟨_, _, rfl⟩ ⟨_, _, _, rfl⟩
                      unfold ndC at hW1
                      simp only at hW1
                      rw [Hw3.out] at hW1
                      go_wp2_with fail
                      refine hW1.mono ?_
                      rintro e w12 ⟨rfl, HM5⟩
                      have HMi := HMh.got HM5
                      simp only [List.cons_append, List.nil_append, List.filterMap_cons, List.filterMap_nil, List.getElem?_cons_succ, List.getElem?_cons_zero] at HMi
                      clear hW1 HMh HM5 z0 z1 z2 z3 z4 z5 z6 z7 z8 z9
                      have z0 := Blk.cell_ (HMi.at_ 1 rfl) 0
                      have z1 := Blk.cell_ (HMi.at_ 1 rfl) 1
                      have z2 := Blk.cell_ (HMi.at_ 1 rfl) 2
                      have z3 := Blk.cell_ (HMi.at_ 1 rfl) 3
                      have z4 := Blk.cell_ (HMi.at_ 1 rfl) 4
                      have z5 := Blk.cell_ (HMi.at_ 1 rfl) 5
                      have z6 := Blk.cell_ (HMi.at_ 1 rfl) 6
                      have z7 := Blk.cell_ (HMi.at_ 1 rfl) 7
                      have z8 := Blk.cell_ (HMi.at_ 1 rfl) 8
                      have z9 := Blk.cell_ (HMi.at_ 1 rfl) 9
                      simp only [List.getElem?_toArray, List.getElem?_cons_succ, List.getElem?_cons_zero] at z0 z1 z2 z3 z4 z5 z6 z7 z8 z9
                      have hT1 := hTh w12 HMi.mu
                      go_wp2_with fail
                      refine hT1.mono ?_
                      rintro e w13 ⟨rfl, HM5⟩
                      have HMj := HMi.got HM5
                      simp only [List.cons_append, List.nil_append, List.filterMap_cons, List.filterMap_nil, List.getElem?_cons_succ, List.getElem?_cons_zero] at HMj
                      clear hT1 HMi HM5 z0 z1 z2 z3 z4 z5 z6 z7 z8 z9
                      have z0 := Blk.cell_ (HMj.at_ 1 rfl) 0
                      have z1 := Blk.cell_ (HMj.at_ 1 rfl) 1
                      have z2 := Blk.cell_ (HMj.at_ 1 rfl) 2
                      have z3 := Blk.cell_ (HMj.at_ 1 rfl) 3
                      have z4 := Blk.cell_ (HMj.at_ 1 rfl) 4
                      have z5 := Blk.cell_ (HMj.at_ 1 rfl) 5
                      have z6 := Blk.cell_ (HMj.at_ 1 rfl) 6
                      have z7 := Blk.cell_ (HMj.at_ 1 rfl) 7
                      have z8 := Blk.cell_ (HMj.at_ 1 rfl) 8
                      have z9 := Blk.cell_ (HMj.at_ 1 rfl) 9
                      simp only [List.getElem?_toArray, List.getElem?_cons_succ, List.getElem?_cons_zero] at z0 z1 z2 z3 z4 z5 z6 z7 z8 z9
                      have hW1 := newer_calls (HMj.at_ 0 rfl) ⟨nn, nk, ns, nc, false⟩ (.slice (some ⟨ba, oa, none⟩) ns.length c) (.slice A1 nc c1) (.slice none 0 0) (.slice none 0 0) ⟨#[]⟩ false false false [] (O.out.s.pure HMj.mu) (nilTx _) (by show nn.length ≤ _; omega) (fun x hx => by have := N5.out x hx; omega) (by show ns.length ≤ _; omega) (by simp) ⟨_, _, _, rfl⟩ ⟨_, _, _, rfl⟩
                      unfold ndC at hW1
                      simp only at hW1
                      rw [HL.out] at hW1
                      have dL : decide ((0 : Int) < (L.length : Int)) = true := decide_eq_true (by omega)
                      have dL' : decide (0 < L.length) = true := decide_eq_true hnl
                      go_wp2_with fail
                      refine hW1.mono ?_
                      rintro e w14 ⟨v9, rfl, HM5⟩
                      obtain ⟨A9, c9, rfl, _, _⟩ := Row.any_ (HM5.at_ 0 rfl)
                      have HMk := (HMj.got HM5).sel [1, 2] (by decide)
                      simp only [List.cons_append, List.nil_append, List.filterMap_cons, List.filterMap_nil, List.getElem?_cons_succ, List.getElem?_cons_zero] at HMk
                      clear hW1 HMj HM5 z0 z1 z2 z3 z4 z5 z6 z7 z8 z9
                      have z0 := Blk.cell_ (HMk.at_ 1 rfl) 0
                      have z1 := Blk.cell_ (HMk.at_ 1 rfl) 1
                      have z2 := Blk.cell_ (HMk.at_ 1 rfl) 2
                      have z3 := Blk.cell_ (HMk.at_ 1 rfl) 3
                      have z4 := Blk.cell_ (HMk.at_ 1 rfl) 4
                      have z5 := Blk.cell_ (HMk.at_ 1 rfl) 5
                      have z6 := Blk.cell_ (HMk.at_ 1 rfl) 6
                      have z7 := Blk.cell_ (HMk.at_ 1 rfl) 7
                      have z8 := Blk.cell_ (HMk.at_ 1 rfl) 8
                      have z9 := Blk.cell_ (HMk.at_ 1 rfl) 9
                      simp only [List.getElem?_toArray, List.getElem?_cons_succ, List.getElem?_cons_zero] at z0 z1 z2 z3 z4 z5 z6 z7 z8 z9
                      have hA1 := hA w14 HMk.mu
                      go_wp2_with fail
                      refine hA1.mono ?_
                      rintro e wz ⟨rfl, HMz⟩
                      have HMy := (HMk.got HMz).sel [] (by decide)
                      clear hA1 HMk HMz z0 z1 z2 z3 z4 z5 z6 z7 z8 z9
                      go_wp2_with fail
                      go_ret
                      exact ⟨rfl, HMy⟩
                    · have qr3 : (((r3 : Nat) : Int) != 0) = true := by rw [bne_iff_ne]; omega
                      clear hr3 HRd
                      have hA1 := hA w10 HMg.mu
                      go_wp2_with fail
                      refine hA1.mono ?_
                      rintro e wz ⟨rfl, HMz⟩
                      have HMy := (HMg.got HMz).sel [] (by decide)
                      clear hA1 HMg HMz z0 z1 z2 z3 z4 z5 z6 z7 z8 z9
                      go_wp2_with fail
                      go_ret
                      exact ⟨rfl, HMy⟩
            · have qr : (((r : Nat) : Int) != 0) = true := by rw [bne_iff_ne]; omega
              clear hr HTh
              have hA1 := hA w3 HM6.mu
              go_wp2_with fail
              refine hA1.mono ?_
              rintro e wz ⟨rfl, HMz⟩
              have HMy := (HM6.got HMz).sel [] (by decide)
              clear hA1 HM6 HMz 
              go_wp2_with fail
              go_ret
              exact ⟨rfl, HMy⟩
        )
end Go.Proofs.YtnpehlkdfbmnkaaDoor
