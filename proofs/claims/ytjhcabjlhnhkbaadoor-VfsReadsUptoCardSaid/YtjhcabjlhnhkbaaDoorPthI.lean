/-
  Layer 02 (path): the walk of Join: DeleteFunc, Clone.
-/
import Derived.Test.YtjhcabjlhnhkbaaDoorPthH
set_option linter.unusedVariables false
set_option linter.unusedSimpArgs false
namespace Go.Proofs.YtjhcabjlhnhkbaaDoor
open Go.RowKit

theorem Mem.rowSets {fp : Nat → Prop} {w0 : World} {F : List Chunk} {e n c g : Nat} : ∀ (vs : List Value) (o : Nat) (cells : List Value) (w : World), Mem fp w0 (Row e 1 (.slice (some ⟨g, 0, none⟩) n c) n cells :: F) w → o + vs.length ≤ n →
    ∃ cells', cells'.take o = cells.take o ∧ Mem fp w0 (Row e 1 (.slice (some ⟨g, 0, none⟩) n c) n cells' :: F) (w.setCells g o vs)
  | [], o, cells, w, h, _ => ⟨cells, rfl, h⟩
  | v :: vs, o, cells, w, h, hb => by
    rw [List.length_cons] at hb
    have h1 := h.rowSet (j := o) (by omega) v
    obtain ⟨cells', e1, h2⟩ := Mem.rowSets vs (o + 1) (cells.set o v) _ h1 (by omega)
    refine ⟨cells', ?_, h2⟩
    have e2 := congrArg (List.take o) e1
    rw [List.take_take, List.take_take, Nat.min_eq_left (by omega)] at e2
    rw [e2, List.take_set_of_le (Nat.le_refl _)]
abbrev DRow (g n c : Nat) (m : List (List UInt8)) : Chunk := Row 9 1 (.slice (some ⟨g, 0, none⟩) n c) n (strs (m.map ofL))
theorem filter_first {l : List (List UInt8)} {k : Nat} (h : k < l.length) (hk : l[k] = []) (hn : ∀ j (h : j < l.length), j < k → l[j] ≠ []) : (l.take (k + 1)).filter keepB = l.take k := by
  rw [filter_snoc h, if_pos hk, List.append_nil]
  refine List.filter_eq_self.2 fun x hx => ?_
  obtain ⟨j, hj, rfl⟩ := List.getElem_of_mem hx
  rw [List.length_take] at hj
  rw [List.getElem_take]
  have := hn j (by omega) (by omega)
  cases hl : l[j] with
  | nil => exact absurd hl this
  | cons a b => rfl
theorem set_take (m : List (List UInt8)) {i : Nat} (h : i < m.length) (x : List UInt8) : (m.set i x).take (i + 1) = m.take i ++ [x] := by
  rw [List.take_succ_eq_append_getElem (by rw [List.length_set]; exact h), List.take_set_of_le (Nat.le_refl _), List.getElem_set_self]
/-- Where DeleteFunc stands. -/
structure DelK (l : List (List UInt8)) (i j : Nat) (m : List (List UInt8)) : Prop where
  ij : i < j
  jn : j ≤ l.length
  len : m.length = l.length
  got : m.take i = (l.take j).filter keepB
  left : m.drop j = l.drop j
theorem DelK.get {l m : List (List UInt8)} {i j : Nat} (h : DelK l i j m) (hj : j < l.length) : m[j]? = some l[j] := by
  have := congrArg (fun x => x[0]?) h.left
  simp only [List.getElem?_drop, Nat.add_zero] at this
  rw [this, List.getElem?_eq_getElem hj]
theorem DelK.skip {l m : List (List UInt8)} {i j : Nat} (h : DelK l i j m) (hj : j < l.length) (hx : l[j] = []) : DelK l i (j + 1) m := by
  have h1 := h.ij
  refine ⟨by omega, hj, h.len, by rw [filter_snoc hj, if_pos hx, List.append_nil]; exact h.got, ?_⟩
  have := congrArg (List.drop 1) h.left
  rwa [List.drop_drop, List.drop_drop] at this
theorem DelK.keep {l m : List (List UInt8)} {i j : Nat} (h : DelK l i j m) (hj : j < l.length) (hx : l[j] ≠ []) : DelK l (i + 1) (j + 1) (m.set i l[j]) := by
  have h1 := h.ij
  have h2 := h.len
  refine ⟨by omega, hj, by rw [List.length_set]; exact h2, ?_, ?_⟩
  · rw [set_take m (by omega), filter_snoc hj, if_neg hx, h.got]
  · have := congrArg (List.drop 1) h.left
    rw [List.drop_drop, List.drop_drop] at this
    rw [List.drop_set_of_lt (by omega)]; exact this
end Go.Proofs.YtjhcabjlhnhkbaaDoor
