/-
  Layer 18 (stale): plain laws of the stores that a statement makes.
  Layer 18 (stale): stores.
  Layer 18 (stale): Newer, Why, plainly; Contains and Has.
-/
import Derived.Test.YtnpehlkdfbmnkaaDoorRfsD
import Derived.Test.YtnpehlkdfbmnkaaDoorPthJ
set_option linter.unusedVariables false
set_option linter.unusedSimpArgs false
namespace Go.Proofs.YtnpehlkdfbmnkaaDoor
section
set_option maxRecDepth 20000
open Go.RowKit

theorem noteS_keep (s : St) (k : Int) (q : List UInt8) : (noteS s k q).noting = s.noting ∧ (noteS s k q).clock = s.clock := by
  unfold noteS
  split <;> exact ⟨rfl, rfl⟩
theorem writeS_good {s : St} (hG : GoodS s) (p t : List UInt8) (hp : p.length ≤ 150000) :
    GoodS (writeS s p t).1 ∧ s.clock ≤ (writeS s p t).1.clock ∧ (writeS s p t).1.clock ≤ s.clock + 1 ∧ (writeS s p t).1.noting = s.noting := by
  have hE := findS_e s p
  have same : GoodS s ∧ s.clock ≤ s.clock ∧ s.clock ≤ s.clock + 1 ∧ s.noting = s.noting := ⟨hG, Int.le_refl _, by omega, rfl⟩
  unfold writeS
  split
  · exact same
  split
  · exact same
  split
  · exact same
  split
  · exact same
  split
  · exact same
  rename_i h1 h2 h3 h4 h5
  have hq : whereL p = some (findS s p).1 := by
    rcases hE with ⟨e, _, _⟩ | ⟨_, _, _, e⟩ | ⟨_, _, e⟩
    · exact absurd ⟨by omega, by omega⟩ h1
    · exact e
    · exact e
  have hql := whereL_len hq (by omega)
  have hk := noteS_keep (putS s (findS s p).1 ⟨t, 0, false⟩) 2 (findS s p).1
  refine ⟨noteS_good (putS_good hG hql (by show t.length ≤ 65536; omega) (fun h => by cases h) ?_ ?_) _ _, ?_, ?_, ?_⟩
  · rcases hE with ⟨e, _, _⟩ | ⟨e, _, _, _⟩ | ⟨_, e, _⟩
    · exact absurd ⟨by omega, by omega⟩ h1
    · right
      apply Nat.lt_of_not_le
      intro hc
      exact h5 (.inr ⟨e, hc⟩)
    · left; unfold mhas; rw [e]; rfl
  · show s.used - ((txtS s (findS s p).1).length : Int) ≤ s.room - (t.length : Int)
    have ht : txtS s (findS s p).1 = (findS s p).2.1.text := by
      unfold txtS
      rcases hE with ⟨e, _, _⟩ | ⟨_, e, e2, _⟩ | ⟨_, e, _⟩
      · exact absurd ⟨by omega, by omega⟩ h1
      · rw [e2, e]; rfl
      · rw [e]; rfl
    rw [ht]
    have : ¬ s.room - (t.length : Int) < s.used - ((findS s p).2.1.text.length : Int) := fun hc => h5 (.inl hc)
    omega
  · rw [hk.2]; show s.clock ≤ s.clock + 1; omega
  · rw [hk.2]; exact Int.le_refl _
  · rw [hk.1]; rfl

/-- The store of files that are written in order. -/
def runS (s : St) (l : List (List UInt8 × List UInt8)) : St := l.foldl (fun s f => (writeS s f.1 f.2).1) s
theorem runS_good : ∀ {l : List (List UInt8 × List UInt8)} {s : St}, GoodS s → (∀ x, x ∈ l → x.1.length ≤ 150000) → GoodS (runS s l) ∧ (runS s l).clock ≤ s.clock + l.length ∧ (runS s l).noting = s.noting
  | [], s, h, _ => ⟨h, by simp [runS], rfl⟩
  | x :: l, s, h, hl => by
    obtain ⟨a, b, c, d⟩ := writeS_good h x.1 x.2 (hl x (by simp))
    obtain ⟨e, f, g⟩ := runS_good (l := l) a (fun y hy => hl y (by simp [hy]))
    refine ⟨e, ?_, g.trans d⟩
    show (runS (writeS s x.1 x.2).1 l).clock ≤ _
    rw [List.length_cons]
    omega
theorem runS_snoc (s : St) (l : List (List UInt8 × List UInt8)) (k : Nat) (h : k < l.length) : runS s (l.take (k + 1)) = (writeS (runS s (l.take k)) l[k].1 l[k].2).1 := by
  rw [List.take_succ_eq_append_getElem h]
  unfold runS
  rw [List.foldl_append]; rfl
end
section
set_option maxRecDepth 20000
open Go.RowKit

/-- A row of files, as the statements have them: paths and texts. -/
def prf (l : List (List UInt8 × List UInt8)) : List Value := l.flatMap fun x => [.string (ofL x.1), .string (ofL x.2)]
abbrev FilesR (w : World) (v : Value) (l : List (List UInt8 × List UInt8)) : Prop := Sl w v 2 l.length (prf l)
theorem prf_get : ∀ {l : List (List UInt8 × List UInt8)} {k : Nat} (h : k < l.length), (prf l)[k * 2]? = some (.string (ofL l[k].1)) ∧ (prf l)[k * 2 + 1]? = some (.string (ofL l[k].2))
  | [], k, h => by simp at h
  | x :: l, 0, h => ⟨rfl, rfl⟩
  | x :: l, k + 1, h => by
    have h' : k < l.length := by simpa using h
    obtain ⟨a, b⟩ := prf_get h'
    have e : prf (x :: l) = [.string (ofL x.1), .string (ofL x.2)] ++ prf l := rfl
    have e0 : (k + 1) * 2 = 2 + k * 2 := by omega
    rw [e, e0]
    simp only [List.getElem_cons_succ]
    refine ⟨?_, ?_⟩
    · rw [List.getElem?_append_right (by simp)]; simpa using a
    · rw [List.getElem?_append_right (by simp; omega)]; simpa [Nat.add_assoc] using b
def storeS (l : List (List UInt8 × List UInt8)) : St := runS (newS 100000) l

set_option maxHeartbeats 4000000 in
theorem stores_calls (V : Value) (l : List (List UInt8 × List UInt8)) (w : World) (hV : FilesR w V l) (hl : l.length ≤ 1000) (hb : ∀ x, x ∈ l → x.1.length ≤ 150000 ∧ x.2.length ≤ 140737488351232) :
    Calls Tryd.prog 12 #[V] w fun e w' => ∃ sb mb nv rb lv rn, e = .returned (.tuple #[ptr sb, ptr rb]) ∧ Mem none_ w [StoreC sb mb nv (storeS l), RefC rb lv rn (storeS l)] w' := by
  have hN := new_calls 100000 w (by omega) (by omega)
  have hG0 : GoodS (newS 100000) := newS_good (by omega) (by omega)
  obtain ⟨A, c, rfl, g1, g2, g3, g4⟩ := hV
  unfold maxLen at g2
  have hL := Lib.hid hb
  clear hb
  go_enter Tryd.func12, Tryd.ntmps12
  go_wp2_with fail
  refine hN.mono ?_
  rintro e w1 ⟨sb, mb, rfl, HM1⟩
  clear hN
  have hR := rnew_calls 100000 w1 (by omega) (by omega)
  go_wp2_with fail
  refine hR.mono ?_
  rintro e w2 ⟨lv, rfl, HM2⟩
  clear hR
  have HM3 := HM1.got HM2
  obtain ⟨AL, cL, rfl, q1, q2⟩ := Row.any_ (HM3.at_ 0 rfl)
  have HM4 := Mem.nilN (HM3.box #[.int .i64 100000, .int .i64 0, .slice AL 1 cL, .bool false, .slice none 0 0] 81)
  have HM5 := Lib.hid HM4
  clear HM1 HM2 HM3 HM4
  go_wp2_with fail
  have HMa := HM5.out
  clear HM5
  generalize hrb : w2.heap.size = rb at *
  generalize w2.alloc _ = W0 at *
  have HMb : Mem none_ w [StoreC sb mb (.slice none 0 0) (newS 100000), RefC rb (.slice AL 1 cL) (.slice none 0 0) (newS 100000)] W0 := by
    have h1 : Mem none_ w (RefF rb (.slice AL 1 cL) (.slice none 0 0) (newS 100000) ++ [StoreC sb mb (.slice none 0 0) (newS 100000)]) W0 := HMa.sel [1, 2, 0, 3] (by decide)
    exact (Mem.shut_ h1).sel [1, 0] (by decide)
  clear HMa
  go_loopw [9, 20] (fun v9 v20 wr => ∃ (k : Nat) (nv lv rn : Value), k ≤ l.length ∧ v20 = .int .i64 k ∧ Mem none_ w [StoreC sb mb nv (runS (newS 100000) (l.take k)), RefC rb lv rn (runS (newS 100000) (l.take k))] wr) (fun _ v _ => l.length - (intOf v).toNat)
  case atStart => exact ⟨0, _, _, _, Nat.zero_le _, rfl, HMb⟩
  case round =>
    clear HMb
    obtain ⟨k, nv, lv, rn, hk, rfl, HM⟩ := hrel
    by_cases hlt : k < l.length
    · have hlt' : decide ((k : Int) < (l.length : Int)) = true := decide_eq_true (by omega)
      obtain ⟨b, o, rfl, hcells⟩ := g4.resolve_left (by omega)
      have pg := prf_get hlt
      have hx0 : wr.cell? ⟨b, o + k * 2, none⟩ = some (.string (ofL l[k].1)) := Pure.cell HM.mu (hcells _ _ pg.1)
      have hx1 : wr.cell? ⟨b, o + k * 2 + 1, none⟩ = some (.string (ofL l[k].2)) := Pure.cell HM.mu (hcells _ _ pg.2)
      obtain ⟨gd, gc, gn⟩ := runS_good (l := l.take k) hG0 (fun x hx => (hL.out x (List.mem_of_mem_take hx)).1)
      have hkl : (l.take k).length ≤ 1000 := by rw [List.length_take]; omega
      have hc0 : (newS 100000).clock = 0 := rfl
      have hn0 : (newS 100000).noting = false := rfl
      have hbx := hL.out _ (List.getElem_mem hlt)
      have hsn := runS_snoc (newS 100000) l k hlt
      have Hsn := Lib.hid hsn
      have GD := Lib.hid gd
      have hck : (runS (newS 100000) (l.take k)).clock ≤ 4611686018427387904 := by omega
      have hno : (runS (newS 100000) (l.take k)).noting = false := gn.trans hn0
      clear hcells pg hsn gd gc gn hc0 hn0 hkl
      generalize runS (newS 100000) (l.take k) = s at *
      generalize l[k] = x at *
      obtain ⟨px, tx⟩ := x
      simp only at hx0 hx1 hbx Hsn
      have HMx := Lib.hid (HM.box #[.string (ofL px), .string (ofL tx)] 76)
      go_wp2_with fail
      have hWr := write_calls (HMx.out.at_ 1 rfl) GD.out hck px tx hbx.1 hbx.2
      have HMy : Mem none_ w (StoreC sb mb nv s :: [Blk wr.heap.size 76 #[.string (ofL px), .string (ofL tx)], RefC rb lv rn s]) (wr.alloc (.cells #[.string (ofL px), .string (ofL tx)] 76)) := HMx.out.sel [1, 0, 2] (by decide)
      generalize wr.heap.size = fb at *
      generalize wr.alloc _ = W1 at *
      refine hWr.mono ?_
      rintro e w3 ⟨rfl, nv', HMw⟩
      have HM6 : Mem none_ w [RefC rb lv rn s, StoreC sb mb nv' (writeS s px tx).1, Blk fb 76 #[.string (ofL px), .string (ofL tx)]] w3 := (Mem.call1 HMy HMw).sel [2, 0, 1] (by decide)
      have y0 := Blk.cell_ (HM6.at_ 2 rfl) 0
      have y1 := Blk.cell_ (HM6.at_ 2 rfl) 1
      simp only [List.getElem?_toArray, List.getElem?_cons_succ, List.getElem?_cons_zero] at y0 y1
      have hRw := rwrite_calls (HM6.at_ 0 rfl) GD.out hno hck px tx hbx.1 hbx.2
      clear hWr HMy HMw HMx HM
      go_wp2_with fail
      refine hRw.mono ?_
      rintro e w4 ⟨rfl, lv', HMr⟩
      have HM7 : Mem none_ w [StoreC sb mb nv' (writeS s px tx).1, RefC rb lv' rn (writeS s px tx).1] w4 := (Mem.call1 HM6 HMr).sel [1, 0] (by decide)
      clear hRw HM6 HMr
      go_wp2_with fail
      go_roundw
      case rel => exact ⟨k + 1, nv', lv', rn, by omega, by go_num, by rw [Hsn.out]; exact HM7⟩
      case measure => simp [intOf]; omega
    · have e : k = l.length := by omega
      subst e
      rw [List.take_length] at HM
      go_wp2_with fail
      exact bodyPost_ret (v := .tuple #[ptr sb, ptr rb]) (by simp [results, Tryd.results12, go_sem]) rfl ⟨sb, mb, nv, rb, lv, rn, rfl, HM⟩
end
section
set_option maxRecDepth 20000
open Go.RowKit

/-- A node, as far as these statements look. -/
structure NdS where
  name : List UInt8
  kind : Int
  src : List (List UInt8)
  cmds : Nat
  phony : Bool
def newerB (s : St) (n : NdS) (made : List (List UInt8)) (x : List UInt8) : Bool :=
  decide ((findS s n.name).2.2 ≠ 0) || decide ((findS s x).2.2 ≠ 0) || decide ((findS s n.name).2.1.time < (findS s x).2.1.time) || decide (x ∈ made)
def newerS (s : St) (n : NdS) (made : List (List UInt8)) : List (List UInt8) := n.src.filter (newerB s n made)
def whyS (s : St) (n : NdS) (made : List (List UInt8)) : Int :=
  if n.cmds = 0 then 0 else if n.phony = true ∨ n.kind = 2 then 2 else if (findS s n.name).2.2 ≠ 0 then 3 else if n.kind = 3 ∧ n.src = [] then 4 else if newerS s n made ≠ [] then 5 else 0

set_option maxHeartbeats 2000000 in
theorem has_calls (V : Value) (l : List (List UInt8)) (x : List UInt8) (w : World) (hV : Txts w V l) :
    Calls Tryd.prog 16 #[V, .string (ofL x)] w fun e w' => e = .returned (.bool (decide (x ∈ l))) ∧ w = w' := by
  obtain ⟨A, c, rfl, h1, h2, h3, h4⟩ := hV
  unfold maxLen at h2
  obtain ⟨R, hR⟩ : ∃ R, decide (x ∈ l) = R := ⟨_, rfl⟩
  rw [hR]
  have HR := Lib.hid hR
  clear hR
  go_enter Tryd.func16, Tryd.ntmps16
  go_wp2_with fail
  go_loop [5] (fun v5 => ∃ k : Nat, k ≤ l.length ∧ v5 = .int .i64 k ∧ x ∉ l.take k) (fun v => l.length - (intOf v).toNat)
  case atStart => exact ⟨0, Nat.zero_le _, rfl, by simp⟩
  case round =>
    obtain ⟨k, hk, rfl, hn⟩ := hrel
    have Hn := Lib.hid hn
    clear hn
    by_cases hlt : k < l.length
    · have hlt' : decide ((k : Int) < (l.length : Int)) = true := decide_eq_true (by omega)
      obtain ⟨b, o, rfl, hcells⟩ := h4.resolve_left (by omega)
      have hx0 : w.cell? ⟨b, o + k, none⟩ = some (.string (ofL l[k])) := hcells k _ (tx_get hlt)
      have hse := str_eq l[k] x
      have HS : Hid (l.take (k + 1) = l.take k ++ [l[k]]) := List.take_succ_eq_append_getElem hlt
      have Hm : Hid (l[k] ∈ l) := List.getElem_mem hlt
      clear hcells h4 h3
      generalize l[k] = y at *
      by_cases hx : y = x
      · rw [decide_eq_true hx] at hse
        have HE : Hid (R = true) := by unfold Hid; rw [← HR.out]; exact decide_eq_true (hx ▸ Hm.out)
        clear hx
        go_wp2_with fail
        go_ret
        exact ⟨by rw [HE.out]; rfl, rfl⟩
      · rw [decide_eq_false hx] at hse
        have Hx := Lib.hid hx
        clear hx
        go_wp2_with fail
        go_round
        case rel =>
          refine ⟨k + 1, by omega, by go_num, ?_⟩
          rw [HS.out, List.mem_append, List.mem_singleton]
          rintro (e | e)
          · exact Hn.out e
          · exact Hx.out e.symm
        case measure => simp [intOf]; omega
    · have hlt' : decide ((k : Int) < (l.length : Int)) = false := decide_eq_false (by omega)
      have e : k = l.length := by omega
      have HE : Hid (R = false) := by
        have := Hn.out
        rw [e, List.take_length] at this
        unfold Hid; rw [← HR.out]; exact decide_eq_false this
      clear e
      go_wp2_with fail
      go_ret
      exact ⟨by rw [HE.out]; rfl, rfl⟩
end
end Go.Proofs.YtnpehlkdfbmnkaaDoor
