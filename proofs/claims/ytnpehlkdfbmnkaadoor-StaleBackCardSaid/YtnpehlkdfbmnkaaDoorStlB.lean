/-
  Layer 18 (stale): stores.
-/
import Derived.Test.YtnpehlkdfbmnkaaDoorStlA
set_option linter.unusedVariables false
set_option linter.unusedSimpArgs false
set_option maxRecDepth 20000
namespace Go.Proofs.YtnpehlkdfbmnkaaDoor
open Go.RowKit

/-- A row of files, as the statements have them: paths and texts. -/
def prf (l : List (List UInt8 × List UInt8)) : List Value := l.flatMap fun x => [.string (ofL x.1), .string (ofL x.2)]
abbrev FilesR (w : World) (v : Value) (l : List (List UInt8 × List UInt8)) : Prop := Sl w v 2 l.length (prf l)
theorem prf_get : ∀ {l : List (List UInt8 × List UInt8)} {k : Nat} (h : k < l.length), (prf l)[k * 2]? = some (.string (ofL l[k].1)) ∧ (prf l)[k * 2 + 1]? = some (.string (ofL l[k].2))
  | [], k, h => by simp at h
  | x :: l, 0, h => ⟨rfl, rfl⟩
  | x :: l, k + 1, h => by
    have h' : k < l.length := by simpa using h
    obtain ⟨a, b⟩ := prf_get h'
    have e : prf (x :: l) = [.string (ofL x.1), .string (ofL x.2)] ++ prf l := rfl
    have e0 : (k + 1) * 2 = 2 + k * 2 := by omega
    rw [e, e0]
    simp only [List.getElem_cons_succ]
    refine ⟨?_, ?_⟩
    · rw [List.getElem?_append_right (by simp)]; simpa using a
    · rw [List.getElem?_append_right (by simp; omega)]; simpa [Nat.add_assoc] using b
def storeS (l : List (List UInt8 × List UInt8)) : St := runS (newS 100000) l

set_option maxHeartbeats 4000000 in
theorem stores_calls (V : Value) (l : List (List UInt8 × List UInt8)) (w : World) (hV : FilesR w V l) (hl : l.length ≤ 1000) (hb : ∀ x, x ∈ l → x.1.length ≤ 150000 ∧ x.2.length ≤ 140737488351232) :
    Calls Tryd.prog 12 #[V] w fun e w' => ∃ sb mb nv rb lv rn, e = .returned (.tuple #[ptr sb, ptr rb]) ∧ Mem none_ w [StoreC sb mb nv (storeS l), RefC rb lv rn (storeS l)] w' := by
  have hN := new_calls 100000 w (by omega) (by omega)
  have hG0 : GoodS (newS 100000) := newS_good (by omega) (by omega)
  obtain ⟨A, c, rfl, g1, g2, g3, g4⟩ := hV
  unfold maxLen at g2
  have hL := Lib.hid hb
  clear hb
  go_enter Tryd.func12, Tryd.ntmps12
  go_wp2_with fail
  refine hN.mono ?_
  rintro e w1 ⟨sb, mb, rfl, HM1⟩
  clear hN
  have hR := rnew_calls 100000 w1 (by omega) (by omega)
  go_wp2_with fail
  refine hR.mono ?_
  rintro e w2 ⟨lv, rfl, HM2⟩
  clear hR
  have HM3 := HM1.got HM2
  obtain ⟨AL, cL, rfl, q1, q2⟩ := Row.any_ (HM3.at_ 0 rfl)
  have HM4 := Mem.nilN (HM3.box #[.int .i64 100000, .int .i64 0, .slice AL 1 cL, .bool false, .slice none 0 0] 81)
  have HM5 := Lib.hid HM4
  clear HM1 HM2 HM3 HM4
  go_wp2_with fail
  have HMa := HM5.out
  clear HM5
  generalize hrb : w2.heap.size = rb at *
  generalize w2.alloc _ = W0 at *
  have HMb : Mem none_ w [StoreC sb mb (.slice none 0 0) (newS 100000), RefC rb (.slice AL 1 cL) (.slice none 0 0) (newS 100000)] W0 := by
    have h1 : Mem none_ w (RefF rb (.slice AL 1 cL) (.slice none 0 0) (newS 100000) ++ [StoreC sb mb (.slice none 0 0) (newS 100000)]) W0 := HMa.sel [1, 2, 0, 3] (by decide)
    exact (Mem.shut_ h1).sel [1, 0] (by decide)
  clear HMa
  go_loopw [9, 20] (fun v9 v20 wr => ∃ (k : Nat) (nv lv rn : Value), k ≤ l.length ∧ v20 = .int .i64 k ∧ Mem none_ w [StoreC sb mb nv (runS (newS 100000) (l.take k)), RefC rb lv rn (runS (newS 100000) (l.take k))] wr) (fun _ v _ => l.length - (intOf v).toNat)
  case atStart => exact ⟨0, _, _, _, Nat.zero_le _, rfl, HMb⟩
  case round =>
    clear HMb
    obtain ⟨k, nv, lv, rn, hk, rfl, HM⟩ := hrel
    by_cases hlt : k < l.length
    · have hlt' : decide ((k : Int) < (l.length : Int)) = true := decide_eq_true (by omega)
      obtain ⟨b, o, rfl, hcells⟩ := g4.resolve_left (by omega)
      have pg := prf_get hlt
      have hx0 : wr.cell? ⟨b, o + k * 2, none⟩ = some (.string (ofL l[k].1)) := Pure.cell HM.mu (hcells _ _ pg.1)
      have hx1 : wr.cell? ⟨b, o + k * 2 + 1, none⟩ = some (.string (ofL l[k].2)) := Pure.cell HM.mu (hcells _ _ pg.2)
      obtain ⟨gd, gc, gn⟩ := runS_good (l := l.take k) hG0 (fun x hx => (hL.out x (List.mem_of_mem_take hx)).1)
      have hkl : (l.take k).length ≤ 1000 := by rw [List.length_take]; omega
      have hc0 : (newS 100000).clock = 0 := rfl
      have hn0 : (newS 100000).noting = false := rfl
      have hbx := hL.out _ (List.getElem_mem hlt)
      have hsn := runS_snoc (newS 100000) l k hlt
      have Hsn := Lib.hid hsn
      have GD := Lib.hid gd
      have hck : (runS (newS 100000) (l.take k)).clock ≤ 4611686018427387904 := by omega
      have hno : (runS (newS 100000) (l.take k)).noting = false := gn.trans hn0
      clear hcells pg hsn gd gc gn hc0 hn0 hkl
      generalize runS (newS 100000) (l.take k) = s at *
      generalize l[k] = x at *
      obtain ⟨px, tx⟩ := x
      simp only at hx0 hx1 hbx Hsn
      have HMx := Lib.hid (HM.box #[.string (ofL px), .string (ofL tx)] 76)
      go_wp2_with fail
      have hWr := write_calls (HMx.out.at_ 1 rfl) GD.out hck px tx hbx.1 hbx.2
      have HMy : Mem none_ w (StoreC sb mb nv s :: [Blk wr.heap.size 76 #[.string (ofL px), .string (ofL tx)], RefC rb lv rn s]) (wr.alloc (.cells #[.string (ofL px), .string (ofL tx)] 76)) := HMx.out.sel [1, 0, 2] (by decide)
      generalize wr.heap.size = fb at *
      generalize wr.alloc _ = W1 at *
      refine hWr.mono ?_
      rintro e w3 ⟨rfl, nv', HMw⟩
      have HM6 : Mem none_ w [RefC rb lv rn s, StoreC sb mb nv' (writeS s px tx).1, Blk fb 76 #[.string (ofL px), .string (ofL tx)]] w3 := (Mem.call1 HMy HMw).sel [2, 0, 1] (by decide)
      have y0 := Blk.cell_ (HM6.at_ 2 rfl) 0
      have y1 := Blk.cell_ (HM6.at_ 2 rfl) 1
      simp only [List.getElem?_toArray, List.getElem?_cons_succ, List.getElem?_cons_zero] at y0 y1
      have hRw := rwrite_calls (HM6.at_ 0 rfl) GD.out hno hck px tx hbx.1 hbx.2
      clear hWr HMy HMw HMx HM
      go_wp2_with fail
      refine hRw.mono ?_
      rintro e w4 ⟨rfl, lv', HMr⟩
      have HM7 : Mem none_ w [StoreC sb mb nv' (writeS s px tx).1, RefC rb lv' rn (writeS s px tx).1] w4 := (Mem.call1 HM6 HMr).sel [1, 0] (by decide)
      clear hRw HM6 HMr
      go_wp2_with fail
      go_roundw
      case rel => exact ⟨k + 1, nv', lv', rn, by omega, by go_num, by rw [Hsn.out]; exact HM7⟩
      case measure => simp [intOf]; omega
    · have e : k = l.length := by omega
      subst e
      rw [List.take_length] at HM
      go_wp2_with fail
      exact bodyPost_ret (v := .tuple #[ptr sb, ptr rb]) (by simp [results, Tryd.results12, go_sem]) rfl ⟨sb, mb, nv, rb, lv, rn, rfl, HM⟩
end Go.Proofs.YtnpehlkdfbmnkaaDoor
