/-
  The rows of layer 18: the lifting that keeps the world's shape; what the arguments read as.
  Layer 18 (stale): words for what arguments read as.
-/
import Derived.Test.YtnpehlkdfbmnkaaDoorPthR
import Derived.Test.YtnpehlkdfbmnkaaDoorStlU
import Derived.Handed
import Derived.HandedShaped
import Derived.Shelf.Vars
set_option linter.unusedVariables false
set_option linter.unusedSimpArgs false
namespace Go.Proofs.YtnpehlkdfbmnkaaDoor
section
open Go.ChangeShapes Go.WideShapes Go.ChangeAt Go.RowKit
section
variable {H : Type} {enc : TypeId × Value → H}
/-- The lifting with a condition over the world and the world's shape. -/
theorem lift_both {a : Assume} {C : Checked} {os : Os} {f : FuncId} {fn : Func} {s : ChangeSpec} {conds : List PathCond} {apart fresh handsOn again : Bool} {X : World → Array Value → Prop}
    (hX : ∀ (w w' : World) (args : Array Value), w.heap = w'.heap → X w args → X w' args)
    (own : ownKnob C.prog.godebug = none) (started : os.Started) (noInit : C.prog.inits.idxOf? f = none) (hfn : C.prog.funcs[f]? = some fn)
    (witness : ∃ (w : World) (tape : Tape) (i : Input), w.os = os ∧ (w.forCall tape i).Shaped C.prog ∧ i.vars = [] ∧ Input.okWide C.prog (w.forCall tape i) .any w.heap.size f i ∧
      ((s.pre enc C.prog fn conds apart (w.forCall tape i).memory i.args ∧ X (w.forCall tape i).memory i.args) ∧ sizedMet enc C.prog fn (OpenSpec.ofChange s) apart (w.forCall tape i).memory i.args) ∧ a.holds C.prog (lone (Frame.enter C.prog f i.args .normal) [] (w.forCall tape i)))
    (contract : ∀ (W : World) (base : Nat) (args : Array Value) (ds gs : List (DataW H)) (before : List MemPlace),
      (∀ (j : Nat) t v, fn.params[j]? = some t → args[j]? = some v → Value.okWide C.prog W .any base t v) →
      DataW.Whole enc C.prog fn.params.toList s.vars apart W args.toList ds gs before →
      conds.all (PathCond.test C.prog ⟨fn.params.toList, ds, s.plain.varTypes C.prog, gs⟩) = true →
      (DataW.weightsEach C.prog (fn.params.toList ++ s.plain.varTypes C.prog) (ds ++ gs)).all (· ≤ reachBytes) = true → X W args → W.ShapedOpen C.prog →
      a.holds C.prog (lone (Frame.enter C.prog f args .normal) [] W) →
      Calls C.prog f args W fun e W' => ∃ v, e = .returned v ∧ s.post enc C.prog fn apart fresh handsOn again W args v W') :
    ReturnsInHanded a C os f .any (fun w args => (s.pre enc C.prog fn conds apart w args ∧ X w args) ∧ sizedMet enc C.prog fn (OpenSpec.ofChange s) apart w args) (s.post enc C.prog fn apart fresh handsOn again) := by
  refine returnsInHanded_of_calls own started noInit witness ?_
  intro w tape i _ hsh _ hok hpre hholds
  obtain ⟨_, _, _, fn', hfn', _, _, _, _, hval⟩ := hok
  have e : fn' = fn := Option.some.inj (hfn'.symm.trans hfn)
  subst e
  obtain ⟨⟨⟨ds, gs, before, hw, hc⟩, hx⟩, hz⟩ := hpre
  have hw' := DataW.Whole.of_heap (w' := w.forCall tape i) (by rfl) hw
  refine (contract (w.forCall tape i) w.heap.size i.args ds gs before hval hw' hc (hz.weights hw) (hX _ _ _ (by rfl) hx) hsh hholds).mono fun e W' ⟨v, he, hp⟩ => ?_
  subst he
  exact ChangeSpec.post_blind hp
end
theorem maxV_of {w : World} (h : w.ShapedOpen Tryd.prog) : MaxV w :=
  cell_of_shapedOpen_int (P := Tryd.prog) (g := 0) (t := 3) (zero := #[.int .i64 0]) (k := .i64) h (of_decide_eq_true (by kernel_rfl)) (by kernel_rfl) rfl (by kernel_rfl) (by kernel_rfl) Tryd.underlying3
end
section
set_option maxRecDepth 20000
open Go.ChangeShapes Go.WideShapes Go.ChangeAt Go.RowKit
def IntR (k : IntKind) (_ : World) (n : Int) (cs : List Value) : Prop := cs = [.int k n] ∧ (Lit.int k n).wf = true
def BoolR (_ : World) (b : Bool) (cs : List Value) : Prop := cs = [.bool b]
theorem opens_int {P : Program} {t : TypeId} {k : IntKind} (ht : P.underlying t = some (.int k)) : Opens P t 1 (IntR k) := by
  intro H enc w sp held fuel cs x h hx
  obtain ⟨n, rfl, rfl, hn⟩ := DataW.trod_int ht h
  exact ⟨rfl, n, rfl, hn⟩
theorem opens_bool {P : Program} {t : TypeId} (ht : P.underlying t = some .bool) : Opens P t 1 BoolR := by
  intro H enc w sp held fuel cs x h hx
  obtain ⟨b, rfl, rfl⟩ := DataW.trod_bool ht h
  exact ⟨rfl, b, rfl⟩
/-- A field of a struct. -/
theorem opens_field {P : Program} {t : TypeId} {fs : Array Field} {sz : Nat} {α : Type} {R : World → α → List Value → Prop} (ht : P.underlying t = some (.struct fs)) {H : Type} {enc : TypeId × Value → H} {w : World} {sp : Nat → Bool} {held : Bool} {fuel : Nat} {cs : List Value} {x : DataW H × List MemPlace}
    (h : DataW.trod enc P w 0 sp held fuel t cs = some x) (hl : Light P t x.1) (i : Nat) {f : Field} (hf : fs[i]? = some f) (hc : P.cellsOf f.type = sz) (ho : Opens P f.type sz R) : ∃ a, R w a ((cs.drop f.offset).take sz) := by
  obtain ⟨xs, n, rfl, rfl, hlen, hxs, hall⟩ := DataW.trod_struct ht h
  have h1 := hall i f hf
  have hi : i < xs.length := by rw [hxs]; exact (Array.getElem?_eq_some_iff.1 hf).1
  rw [List.getElem?_eq_getElem hi, hc] at h1
  exact (ho H enc w sp held n _ _ h1 (fun m hm => hl m (by
    simp only [DataW.weights, ht]
    exact DataW.weights_mem_each (j := i) (by simpa using (by rw [List.getElem?_map, Array.getElem?_toList, hf]; rfl : (fs.toList.map (·.type))[i]? = some f.type)) (by simp [hi]) m hm))).2
theorem flat_drop {α : Type} {enc : α → List Value} {sz : Nat} (he : ∀ a, (enc a).length = sz) (l : List α) : ∀ k, (l.flatMap enc).drop (k * sz) = (l.drop k).flatMap enc := by
  induction l with
  | nil => intro k; simp
  | cons x l ih =>
    intro k
    cases k with
    | zero => simp
    | succ k =>
      rw [List.flatMap_cons, List.drop_succ_cons, Nat.add_mul, Nat.one_mul, Nat.add_comm, ← List.drop_drop, ← he x, List.drop_left, he x, ih k]
theorem flat_length {α : Type} {enc : α → List Value} {sz : Nat} (he : ∀ a, (enc a).length = sz) (l : List α) : (l.flatMap enc).length = l.length * sz := by
  induction l with
  | nil => simp
  | cons x l ih => rw [List.flatMap_cons, List.length_append, he, ih, List.length_cons, Nat.add_mul]; omega
theorem flat_at {α : Type} {enc : α → List Value} {sz : Nat} (he : ∀ a, (enc a).length = sz) (l : List α) {k : Nat} (hk : k < l.length) : ((l.flatMap enc).drop (k * sz)).take sz = enc l[k] := by
  rw [flat_drop he, List.drop_eq_getElem_cons hk, List.flatMap_cons, ← he l[k], List.take_left]
theorem SlR.flat {α : Type} {sz bytes : Nat} {R : World → α → List Value → Prop} {enc : α → List Value} {Q : α → Prop} (he : ∀ a, (enc a).length = sz) (hR : ∀ w a cs, R w a cs → cs = enc a ∧ Q a) {w : World} {l : List α} {cs : List Value} (h : SlR sz bytes R w l cs) :
    ∃ v, cs = [v] ∧ Sl w v sz l.length (l.flatMap enc) ∧ l.length * bytes ≤ 140737488351232 ∧ ∀ x, x ∈ l → Q x := by
  obtain ⟨v, cells, rfl, hs, hby, hr⟩ := h
  have hl : cells.length = l.length * sz := by obtain ⟨_, _, _, _, _, h, _⟩ := hs; exact h
  have e : cells = l.flatMap enc := by
    refine cells_ext hl (flat_length he l) (fun i hi => ?_)
    rw [(hR _ _ _ (hr i hi)).1, flat_at he l hi]
  refine ⟨v, rfl, by rw [e] at hs; exact hs, hby, fun x hx => ?_⟩
  obtain ⟨i, hi, rfl⟩ := List.getElem_of_mem hx
  exact (hR _ _ _ (hr i hi)).2
theorem toL_len (s : ByteArray) : (toL s).length = s.size := by rw [← ofL_size, of_toL]
theorem strs_toL (s : List ByteArray) {w : World} {v : Value} (h : Strs w v s) : Txts w v (s.map toL) := by
  rw [← Txts.eq, List.map_map]
  have em : s.map (ofL ∘ toL) = s := by
    conv => rhs; rw [← List.map_id s]
    exact List.map_congr_left fun x _ => of_toL x
  rw [em]; exact h
end
end Go.Proofs.YtnpehlkdfbmnkaaDoor
