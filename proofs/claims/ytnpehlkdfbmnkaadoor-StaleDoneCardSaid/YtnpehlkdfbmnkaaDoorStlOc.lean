/-
  Layer 18 (stale): words for what arguments read as.
-/
import Derived.Test.YtnpehlkdfbmnkaaDoorStlR
set_option linter.unusedVariables false
set_option linter.unusedSimpArgs false
set_option maxRecDepth 20000
namespace Go.Proofs.YtnpehlkdfbmnkaaDoor
open Go.ChangeShapes Go.WideShapes Go.ChangeAt Go.RowKit
def IntR (k : IntKind) (_ : World) (n : Int) (cs : List Value) : Prop := cs = [.int k n] ∧ (Lit.int k n).wf = true
def BoolR (_ : World) (b : Bool) (cs : List Value) : Prop := cs = [.bool b]
theorem opens_int {P : Program} {t : TypeId} {k : IntKind} (ht : P.underlying t = some (.int k)) : Opens P t 1 (IntR k) := by
  intro H enc w sp held fuel cs x h hx
  obtain ⟨n, rfl, rfl, hn⟩ := DataW.trod_int ht h
  exact ⟨rfl, n, rfl, hn⟩
theorem opens_bool {P : Program} {t : TypeId} (ht : P.underlying t = some .bool) : Opens P t 1 BoolR := by
  intro H enc w sp held fuel cs x h hx
  obtain ⟨b, rfl, rfl⟩ := DataW.trod_bool ht h
  exact ⟨rfl, b, rfl⟩
/-- A field of a struct. -/
theorem opens_field {P : Program} {t : TypeId} {fs : Array Field} {sz : Nat} {α : Type} {R : World → α → List Value → Prop} (ht : P.underlying t = some (.struct fs)) {H : Type} {enc : TypeId × Value → H} {w : World} {sp : Nat → Bool} {held : Bool} {fuel : Nat} {cs : List Value} {x : DataW H × List MemPlace}
    (h : DataW.trod enc P w 0 sp held fuel t cs = some x) (hl : Light P t x.1) (i : Nat) {f : Field} (hf : fs[i]? = some f) (hc : P.cellsOf f.type = sz) (ho : Opens P f.type sz R) : ∃ a, R w a ((cs.drop f.offset).take sz) := by
  obtain ⟨xs, n, rfl, rfl, hlen, hxs, hall⟩ := DataW.trod_struct ht h
  have h1 := hall i f hf
  have hi : i < xs.length := by rw [hxs]; exact (Array.getElem?_eq_some_iff.1 hf).1
  rw [List.getElem?_eq_getElem hi, hc] at h1
  exact (ho H enc w sp held n _ _ h1 (fun m hm => hl m (by
    simp only [DataW.weights, ht]
    exact DataW.weights_mem_each (j := i) (by simpa using (by rw [List.getElem?_map, Array.getElem?_toList, hf]; rfl : (fs.toList.map (·.type))[i]? = some f.type)) (by simp [hi]) m hm))).2
theorem flat_drop {α : Type} {enc : α → List Value} {sz : Nat} (he : ∀ a, (enc a).length = sz) (l : List α) : ∀ k, (l.flatMap enc).drop (k * sz) = (l.drop k).flatMap enc := by
  induction l with
  | nil => intro k; simp
  | cons x l ih =>
    intro k
    cases k with
    | zero => simp
    | succ k =>
      rw [List.flatMap_cons, List.drop_succ_cons, Nat.add_mul, Nat.one_mul, Nat.add_comm, ← List.drop_drop, ← he x, List.drop_left, he x, ih k]
theorem flat_length {α : Type} {enc : α → List Value} {sz : Nat} (he : ∀ a, (enc a).length = sz) (l : List α) : (l.flatMap enc).length = l.length * sz := by
  induction l with
  | nil => simp
  | cons x l ih => rw [List.flatMap_cons, List.length_append, he, ih, List.length_cons, Nat.add_mul]; omega
theorem flat_at {α : Type} {enc : α → List Value} {sz : Nat} (he : ∀ a, (enc a).length = sz) (l : List α) {k : Nat} (hk : k < l.length) : ((l.flatMap enc).drop (k * sz)).take sz = enc l[k] := by
  rw [flat_drop he, List.drop_eq_getElem_cons hk, List.flatMap_cons, ← he l[k], List.take_left]
theorem SlR.flat {α : Type} {sz bytes : Nat} {R : World → α → List Value → Prop} {enc : α → List Value} {Q : α → Prop} (he : ∀ a, (enc a).length = sz) (hR : ∀ w a cs, R w a cs → cs = enc a ∧ Q a) {w : World} {l : List α} {cs : List Value} (h : SlR sz bytes R w l cs) :
    ∃ v, cs = [v] ∧ Sl w v sz l.length (l.flatMap enc) ∧ l.length * bytes ≤ 140737488351232 ∧ ∀ x, x ∈ l → Q x := by
  obtain ⟨v, cells, rfl, hs, hby, hr⟩ := h
  have hl : cells.length = l.length * sz := by obtain ⟨_, _, _, _, _, h, _⟩ := hs; exact h
  have e : cells = l.flatMap enc := by
    refine cells_ext hl (flat_length he l) (fun i hi => ?_)
    rw [(hR _ _ _ (hr i hi)).1, flat_at he l hi]
  refine ⟨v, rfl, by rw [e] at hs; exact hs, hby, fun x hx => ?_⟩
  obtain ⟨i, hi, rfl⟩ := List.getElem_of_mem hx
  exact (hR _ _ _ (hr i hi)).2
theorem toL_len (s : ByteArray) : (toL s).length = s.size := by rw [← ofL_size, of_toL]
theorem strs_toL (s : List ByteArray) {w : World} {v : Value} (h : Strs w v s) : Txts w v (s.map toL) := by
  rw [← Txts.eq, List.map_map]
  have em : s.map (ofL ∘ toL) = s := by
    conv => rhs; rw [← List.map_id s]
    exact List.map_congr_left fun x _ => of_toL x
  rw [em]; exact h
end Go.Proofs.YtnpehlkdfbmnkaaDoor
