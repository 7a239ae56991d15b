/-
  Layer 02 (path): the walk of Join: DeleteFunc, Clone.
-/
import Derived.Test.YtclpbifcngohmaaDoorPthH
set_option linter.unusedVariables false
set_option linter.unusedSimpArgs false
namespace Go.Proofs.YtclpbifcngohmaaDoor
open Go.RowKit

theorem Mem.rowSets {fp : Nat → Prop} {w0 : World} {F : List Chunk} {e n c g : Nat} : ∀ (vs : List Value) (o : Nat) (cells : List Value) (w : World), Mem fp w0 (Row e 1 (.slice (some ⟨g, 0, none⟩) n c) n cells :: F) w → o + vs.length ≤ n →
    ∃ cells', cells'.take o = cells.take o ∧ Mem fp w0 (Row e 1 (.slice (some ⟨g, 0, none⟩) n c) n cells' :: F) (w.setCells g o vs)
  | [], o, cells, w, h, _ => ⟨cells, rfl, h⟩
  | v :: vs, o, cells, w, h, hb => by
    rw [List.length_cons] at hb
    have h1 := h.rowSet (j := o) (by omega) v
    obtain ⟨cells', e1, h2⟩ := Mem.rowSets vs (o + 1) (cells.set o v) _ h1 (by omega)
    refine ⟨cells', ?_, h2⟩
    have e2 := congrArg (List.take o) e1
    rw [List.take_take, List.take_take, Nat.min_eq_left (by omega)] at e2
    rw [e2, List.take_set_of_le (Nat.le_refl _)]
abbrev DRow (g n c : Nat) (m : List (List UInt8)) : Chunk := Row 9 1 (.slice (some ⟨g, 0, none⟩) n c) n (strs (m.map ofL))
theorem filter_first {l : List (List UInt8)} {k : Nat} (h : k < l.length) (hk : l[k] = []) (hn : ∀ j (h : j < l.length), j < k → l[j] ≠ []) : (l.take (k + 1)).filter keepB = l.take k := by
  rw [filter_snoc h, if_pos hk, List.append_nil]
  refine List.filter_eq_self.2 fun x hx => ?_
  obtain ⟨j, hj, rfl⟩ := List.getElem_of_mem hx
  rw [List.length_take] at hj
  rw [List.getElem_take]
  have := hn j (by omega) (by omega)
  cases hl : l[j] with
  | nil => exact absurd hl this
  | cons a b => rfl
theorem set_take (m : List (List UInt8)) {i : Nat} (h : i < m.length) (x : List UInt8) : (m.set i x).take (i + 1) = m.take i ++ [x] := by
  rw [List.take_succ_eq_append_getElem (by rw [List.length_set]; exact h), List.take_set_of_le (Nat.le_refl _), List.getElem_set_self]
/-- Where DeleteFunc stands. -/
structure DelK (l : List (List UInt8)) (i j : Nat) (m : List (List UInt8)) : Prop where
  ij : i < j
  jn : j ≤ l.length
  len : m.length = l.length
  got : m.take i = (l.take j).filter keepB
  left : m.drop j = l.drop j
theorem DelK.get {l m : List (List UInt8)} {i j : Nat} (h : DelK l i j m) (hj : j < l.length) : m[j]? = some l[j] := by
  have := congrArg (fun x => x[0]?) h.left
  simp only [List.getElem?_drop, Nat.add_zero] at this
  rw [this, List.getElem?_eq_getElem hj]
theorem DelK.skip {l m : List (List UInt8)} {i j : Nat} (h : DelK l i j m) (hj : j < l.length) (hx : l[j] = []) : DelK l i (j + 1) m := by
  have h1 := h.ij
  refine ⟨by omega, hj, h.len, by rw [filter_snoc hj, if_pos hx, List.append_nil]; exact h.got, ?_⟩
  have := congrArg (List.drop 1) h.left
  rwa [List.drop_drop, List.drop_drop] at this
theorem DelK.keep {l m : List (List UInt8)} {i j : Nat} (h : DelK l i j m) (hj : j < l.length) (hx : l[j] ≠ []) : DelK l (i + 1) (j + 1) (m.set i l[j]) := by
  have h1 := h.ij
  have h2 := h.len
  refine ⟨by omega, hj, by rw [List.length_set]; exact h2, ?_, ?_⟩
  · rw [set_take m (by omega), filter_snoc hj, if_neg hx, h.got]
  · have := congrArg (List.drop 1) h.left
    rw [List.drop_drop, List.drop_drop] at this
    rw [List.drop_set_of_lt (by omega)]; exact this
set_option maxHeartbeats 4000000 in
theorem delete_calls (fp : Nat → Prop) (w0 : World) (F : List Chunk) (v : Value) (l : List (List UInt8)) (w : World) (HM : Mem fp w0 (TRow v l :: F) w) (hl : l.length ≤ 1000000) :
    Calls Tryd.prog 34 #[v, .func (.func 36) #[] #[]] w fun e w' => ∃ v', e = .returned v' ∧ Mem fp w0 (TRow v' (l.filter keepB) :: F) w' := by
  have hix := indexFunc_calls v l w (Row.sl HM.head) hl
  obtain ⟨A, c, rfl, n1, n2⟩ := Row.any_ HM.head
  unfold maxLen at n2
  go_enter Tryd.func34, Tryd.ntmps34
  go_wp2_with fail
  refine hix.mono ?_
  rintro e w1 ⟨rfl, (⟨rfl, hall⟩ | ⟨k, hk, rfl, hk0, hkn⟩)⟩
  · have hf : l.filter keepB = l := List.filter_eq_self.2 fun x hx => by
      have := hall x hx
      cases x with
      | nil => exact absurd rfl this
      | cons a b => rfl
    have HMe : Mem fp w0 (TRow (.slice A l.length c) (l.filter keepB) :: F) w := by rw [hf]; exact HM
    clear hix hall hf HM
    go_wp2_with fail
    go_ret
    exact ⟨_, rfl, HMe⟩
  · obtain ⟨g, c', el, _, _⟩ := Row.at_ HM.head (by omega)
    cases el
    have hK0 : DelK l k (k + 1) l := ⟨by omega, hk, rfl, (filter_first hk hk0 hkn).symm, rfl⟩
    have HM0 : Mem fp w0 (DRow g l.length c l :: F) w := HM
    clear hix hk0 hkn HM
    have d1 : decide ((k : Int) = -1) = false := decide_eq_false (by omega)
    have d2 : ((k : Int) == -1) = false := beq_eq_false_iff_ne.2 (by omega)
    go_wp2_with fail
    go_loopw [5, 6] (fun v5 v6 wr => ∃ (i j : Nat) (m : List (List UInt8)), i ≤ 1000000 ∧ j ≤ l.length ∧ v5 = .int .i64 i ∧ v6 = .int .i64 j ∧ Hid (DelK l i j m) ∧ Mem fp w0 (DRow g l.length c m :: F) wr) (fun _ v _ => l.length - (intOf v).toNat)
    case atStart => exact ⟨k, k + 1, l, by omega, hk, rfl, by go_num, Lib.hid hK0, HM0⟩
    case round =>
      clear HM0 hK0
      obtain ⟨i, j, m, hi6, hj, rfl, rfl, hK, HM⟩ := hrel
      by_cases hlt : j < l.length
      · have hlt' : decide ((j : Int) < (l.length : Int)) = true := decide_eq_true (by omega)
        have hx0 := Row.cell HM.head (j := j) (u := .string (ofL l[j])) (by unfold strs; rw [List.getElem?_map, List.getElem?_map, hK.out.get hlt]; rfl)
        have hE := isEmpty_calls l[j] wr
        by_cases hx : l[j] = []
        · rw [decide_eq_true hx] at hE
          have HK := Lib.hid (hK.out.skip hlt hx)
          clear hx hK
          generalize l[j] = x at *
          go_wp2_with fail
          refine hE.mono ?_
          rintro e w2 ⟨rfl, rfl⟩
          go_wp2_with fail
          go_roundw
          case rel => exact ⟨i, j + 1, m, hi6, hlt, rfl, by go_num, HK, HM⟩
          case measure => simp [intOf]; omega
        · rw [decide_eq_false hx] at hE
          have HK := Lib.hid (hK.out.keep hlt hx)
          have hij := hK.out.ij
          have hiN : i < l.length := by omega
          have hiI : (i : Int) < (l.length : Int) := by omega
          obtain ⟨y, hy⟩ : ∃ y, m[i]? = some y := ⟨_, List.getElem?_eq_getElem (by have := hK.out.len; omega)⟩
          have y1 := Row.cell HM.head (j := i) (u := .string (ofL y)) (by unfold strs; rw [List.getElem?_map, List.getElem?_map, hy]; rfl)
          have y2 := Row.frozen HM.head i
          have HMs := HM.rowSet (j := i) (by omega) (.string (ofL l[j]))
          rw [strs_set, ← List.map_set] at HMs
          have HMs' := Lib.hid HMs
          clear hx hK hy HMs
          generalize hm2 : m.set i l[j] = m2 at *
          clear hm2
          generalize l[j] = x at *
          go_wp2_with fail
          refine hE.mono ?_
          rintro e w2 ⟨rfl, rfl⟩
          go_wp2_with fail
          go_roundw
          case rel => exact ⟨i + 1, j + 1, m2, by omega, hlt, by go_num, by go_num, HK, HMs'.out⟩
          case measure => simp [intOf]; omega
      · have e : j = l.length := by omega
        subst e
        have hij := hK.out.ij
        have hgot := hK.out.got
        rw [List.take_length] at hgot
        have hrs : ∀ u, u < l.length - i → (wr.cell? ⟨g, i + u, none⟩).isSome = true := fun u hu => by
          have hml := hK.out.len
          have := Row.cell HM.head (j := i + u) (u := .string (ofL (m[i + u]'(by omega)))) (by unfold strs; rw [List.getElem?_map, List.getElem?_map, List.getElem?_eq_getElem (by omega)]; rfl)
          rw [this]; rfl
        have hcl : ∀ ty, (Builtin.clear_ #[22] ty #[.slice (some ⟨g, i, none⟩) (l.length - i) (c - i)]).run Tryd.prog wr = .ok (.tuple #[]) (wr.setCells g i (List.replicate (l.length - i) (.string ⟨#[]⟩))) := fun ty =>
          Lib.run_clear_slice wr _ _ ty _ Tryd.underlying22 Tryd.zeroValue9 rfl rfl g i (l.length - i) (c - i) (by omega) hrs (fun u hu => Row.frozen HM.head _)
        obtain ⟨cells', e1, HM2⟩ := Mem.rowSets (List.replicate (l.length - i) (.string ⟨#[]⟩)) i _ wr HM (by rw [List.length_replicate]; omega)
        have HM3 : Mem fp w0 (TRow (.slice (some ⟨g, 0, none⟩) i c) (l.filter keepB) :: F) (wr.setCells g i (List.replicate (l.length - i) (.string ⟨#[]⟩))) := by
          refine HM2.turn (Mut.refl _ _) ?_ (fun b hb => .inl hb)
          have h2 := Row.take_ HM2.head (k := i) (by omega)
          rw [Nat.mul_one, e1] at h2
          have e3 : (l.filter keepB).length = i := by rw [← hgot, List.length_take, hK.out.len]; omega
          unfold TRow
          rw [e3, ← hgot, List.map_take]
          have e2 : strs ((m.map ofL).take i) = (strs (m.map ofL)).take (i * 1) := (strs_take _ _).symm
          rw [e2, Nat.mul_one]; exact h2
        have HM3' := Lib.hid HM3
        clear hK hgot hrs e1 HM2 HM3 HM
        go_wp2_with fail
        go_ret
        exact ⟨_, rfl, HM3'.out⟩
set_option maxHeartbeats 2000000 in
theorem clone_calls (V : Value) (l : List (List UInt8)) (w : World) (hV : Txts w V l) (hl : l.length ≤ 1000000) :
    Calls Tryd.prog 35 #[V] w fun e w' => ∃ v, e = .returned v ∧ Mem none_ w [TRow v l] w' := by
  have hV' := hV
  obtain ⟨A, c, rfl, h1, h2, h3, h4⟩ := hV
  unfold maxLen at h2
  cases A with
  | none =>
    have h0 : l.length = 0 := by
      rcases h4 with h | ⟨b, o, e, _⟩
      · exact h
      · cases e
    have hn := List.length_eq_zero_iff.1 h0
    subst hn
    have HM0 := (Mem.start (fp := none_) w).nilT
    have hnil : ∀ wx, (binOp .eql 22 (.slice none 0 c) (.slice none 0 0)).run Tryd.prog wx = .ok (.bool true) wx := fun wx => Lib.run_eql_slice_nil (P := Tryd.prog) wx 22 9 none 0 c 0 0 Tryd.underlying22
    go_enter Tryd.func35, Tryd.ntmps35
    go_wp2_with fail
    go_ret
    exact ⟨_, rfl, HM0⟩
  | some ad =>
    have HM0 : Mem none_ w [TRow (.slice (some ⟨w.heap.size, 0, none⟩) 0 0) []] (w.alloc (.cells #[] 9)) := (Mem.start (fp := none_) w).lit 9 1 0 [] rfl (by unfold maxLen; omega)
    have hVa := hV'.pure HM0.mu
    have hnil : ∀ wx, (binOp .eql 22 (.slice (some ad) l.length c) (.slice none 0 0)).run Tryd.prog wx = .ok (.bool false) wx := fun wx => Lib.run_eql_slice_nil (P := Tryd.prog) wx 22 9 (some ad) l.length c 0 0 Tryd.underlying22
    go_enter Tryd.func35, Tryd.ntmps35
    go_wp2_with (at_builtin; refine wpList_appTs strE rfl _ _ rfl HM0 rfl (xv := .slice (some ad) l.length c) rfl hVa ?hb ?_; (case hb => simp only [List.length_nil]; omega); intro v' w' HM3 HU3)
    go_ret
    exact ⟨_, rfl, HM3⟩
set_option maxHeartbeats 2000000 in
theorem pjoin_calls (V : Value) (l : List (List UInt8)) (w : World) (hV : Txts w V l) (hw : wt l ≤ 190000) :
    Calls Tryd.prog 16 #[V] w fun e w' => e = .returned (.string (ofL (JoinL l))) ∧ Mem none_ w [] w' := by
  have hl := len_wt l
  have hf := filter_wt keepB l
  have hfl := len_wt (l.filter keepB)
  have hj := join_wt (l.filter keepB)
  have hc := clone_calls V l w hV (by omega)
  have eJ : JoinL l = cleanL (joinL (l.filter keepB)) := rfl
  rw [eJ]
  clear eJ
  go_enter Tryd.func16, Tryd.ntmps16
  go_wp2_with fail
  refine hc.mono ?_
  rintro e w1 ⟨v1, rfl, HM1⟩
  clear hc
  have hd := delete_calls none_ w [] v1 l w1 HM1 (by omega)
  go_wp2_with fail
  refine hd.mono ?_
  rintro e w2 ⟨v2, rfl, HM2⟩
  clear hd HM1
  have hjn := pj_calls v2 (l.filter keepB) w2 (Row.sl HM2.head) (by omega) (by omega)
  have hcl := fun wx => pclean_calls (joinL (l.filter keepB)) wx (by omega)
  have HM3 := HM2.sel [] (by decide)
  clear HM2 hf hfl
  obtain ⟨J, hJ⟩ : ∃ J, joinL (l.filter keepB) = J := ⟨_, rfl⟩
  rw [hJ] at hjn hcl
  have HJ := Lib.hid hJ
  clear hJ hj
  go_wp2_with fail
  refine hjn.mono ?_
  rintro e w3 ⟨rfl, HM4⟩
  have HM5 := HM3.got HM4
  simp only [List.nil_append] at HM5
  have hcl' := hcl w3
  clear hjn HM3 HM4 hcl
  go_wp2_with fail
  refine hcl'.mono ?_
  rintro e w4 ⟨rfl, HM6⟩
  have HM7 := HM5.got HM6
  simp only [List.nil_append] at HM7
  clear hcl' HM5 HM6
  go_wp2_with fail
  go_ret
  exact ⟨by rw [HJ.out]; rfl, HM7⟩
end Go.Proofs.YtclpbifcngohmaaDoor
