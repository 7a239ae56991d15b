/-
  Layer 19 (plan): what the arguments of the statements read as.
-/
import Derived.Test.YtcbhdjpigadhmaaRows
import Derived.Test.YtcbhdjpigadhmaaOpen
import Derived.Test.YtcbhdjpigadhmaaPlanE
set_option linter.unusedVariables false
set_option linter.unusedSimpArgs false
namespace Go.Proofs.Ytcbhdjpigadhmaa
open Go.ChangeShapes Go.WideShapes Go.ChangeAt Go.RowKit
theorem own : ownKnob Try.prog.godebug = none := by kernel_rfl
theorem laidOut : laidOutB Try.prog = true := by kernel_rfl
theorem op_strs : Opens Try.prog 22 1 (SlR 1 16 StrR) := opens_slice Try.underlying22 (by kernel_rfl) (by omega) (by kernel_rfl) (opens_str Try.underlying9)
def IntR (k : IntKind) (_ : World) (n : Int) (cs : List Value) : Prop := cs = [.int k n] ∧ (Lit.int k n).wf = true
def BoolR (_ : World) (b : Bool) (cs : List Value) : Prop := cs = [.bool b]
theorem opens_int {P : Program} {t : TypeId} {k : IntKind} (ht : P.underlying t = some (.int k)) : Opens P t 1 (IntR k) := by
  intro H enc w sp held fuel cs x h hx
  obtain ⟨n, rfl, rfl, hn⟩ := DataW.trod_int ht h
  exact ⟨rfl, n, rfl, hn⟩
theorem opens_bool {P : Program} {t : TypeId} (ht : P.underlying t = some .bool) : Opens P t 1 BoolR := by
  intro H enc w sp held fuel cs x h hx
  obtain ⟨b, rfl, rfl⟩ := DataW.trod_bool ht h
  exact ⟨rfl, b, rfl⟩
/-- A field of a struct. -/
theorem opens_field {P : Program} {t : TypeId} {fs : Array Field} {sz : Nat} {α : Type} {R : World → α → List Value → Prop} (ht : P.underlying t = some (.struct fs)) {H : Type} {enc : TypeId × Value → H} {w : World} {sp : Nat → Bool} {held : Bool} {fuel : Nat} {cs : List Value} {x : DataW H × List MemPlace}
    (h : DataW.trod enc P w 0 sp held fuel t cs = some x) (hl : Light P t x.1) (i : Nat) {f : Field} (hf : fs[i]? = some f) (hc : P.cellsOf f.type = sz) (ho : Opens P f.type sz R) : ∃ a, R w a ((cs.drop f.offset).take sz) := by
  obtain ⟨xs, n, rfl, rfl, hlen, hxs, hall⟩ := DataW.trod_struct ht h
  have h1 := hall i f hf
  have hi : i < xs.length := by rw [hxs]; exact (Array.getElem?_eq_some_iff.1 hf).1
  rw [List.getElem?_eq_getElem hi, hc] at h1
  exact (ho H enc w sp held n _ _ h1 (fun m hm => hl m (by
    simp only [DataW.weights, ht]
    exact DataW.weights_mem_each (j := i) (by simpa using (by rw [List.getElem?_map, Array.getElem?_toList, hf]; rfl : (fs.toList.map (·.type))[i]? = some f.type)) (by simp [hi]) m hm))).2
/-- A node, with bounds. -/
def NodeB (w : World) (x : Nd) (cs : List Value) : Prop := NodeR w x cs ∧ x.src.length ≤ 10000000000000 ∧ x.aft.length ≤ 10000000000000
theorem op_node : Opens Try.prog 47 10 NodeB := by
  intro H enc w sp held fuel cs x h hx
  have ht := Try.underlying47
  have hc : cs.length = 10 := by
    obtain ⟨_, _, _, _, hl, _⟩ := DataW.trod_struct ht h
    rw [hl]; kernel_rfl
  obtain ⟨a0, h0⟩ := opens_field ht h hx 0 rfl (by kernel_rfl) (opens_str Try.underlying9)
  obtain ⟨a1, h1⟩ := opens_field ht h hx 1 rfl (by kernel_rfl) (opens_int Try.underlying3)
  obtain ⟨a2, h2⟩ := opens_field ht h hx 2 rfl (by kernel_rfl) op_strs
  obtain ⟨a3, h3⟩ := opens_field ht h hx 3 rfl (by kernel_rfl) op_strs
  obtain ⟨a4, h4⟩ := opens_field ht h hx 4 rfl (by kernel_rfl) op_strs
  obtain ⟨a5, h5⟩ := opens_field ht h hx 5 rfl (by kernel_rfl) (opens_str Try.underlying9)
  obtain ⟨a6, h6⟩ := opens_field ht h hx 6 rfl (by kernel_rfl) (opens_bool Try.underlying4)
  obtain ⟨a7, h7⟩ := opens_field ht h hx 7 rfl (by kernel_rfl) (opens_bool Try.underlying4)
  obtain ⟨a8, h8⟩ := opens_field ht h hx 8 rfl (by kernel_rfl) (opens_bool Try.underlying4)
  obtain ⟨a9, h9⟩ := opens_field ht h hx 9 rfl (by kernel_rfl) (opens_bool Try.underlying4)
  obtain ⟨v2, e2, s2, b2, _⟩ := SlR.strs h2
  obtain ⟨v3, e3, s3, b3, _⟩ := SlR.strs h3
  obtain ⟨v4, e4, s4, b4, _⟩ := SlR.strs h4
  obtain ⟨A3, c3, rfl, _, _⟩ := Sl.any_ s3
  have e0 := h0.1
  have e1 := h1.1
  have e5 := h5.1
  unfold BoolR at h6 h7 h8 h9
  refine ⟨hc, ⟨a0, a2, a4⟩, ⟨a1, v2, A3, a3.length, c3, v4, a5, a6, a7, a8, a9, ?_, s2, s4⟩, by show a2.length ≤ _; omega, by show a4.length ≤ _; omega⟩
  match cs, hc with
  | [c0, c1, c2, c3', c4, c5, c6, c7, c8, c9], _ =>
    simp at e0 e1 e2 e3 e4 e5 h6 h7 h8 h9
    subst e0 e1 e2 e3 e4 e5 h6 h7 h8 h9
    rfl
theorem op_nodes : Opens Try.prog 23 1 (SlR 10 120 NodeB) := opens_slice Try.underlying23 (by kernel_rfl) (by omega) (by kernel_rfl) op_node
section
variable {w : World} {H : Type} {enc : TypeId × Value → H} {d : DataW H} {ps : List MemPlace} {base : Nat}
/-- A graph. -/
theorem op_graph {v : Value} (h : DataW.Trod enc Try.prog w 0 (fun _ => true) true 25 v d ps) (hv : Value.okWide Try.prog w .any base 25 v) (hl : Light Try.prog 25 d) :
    ∃ GA gn gc NV g, v = .agg #[.slice GA gn gc, NV] ∧ Nodes w NV g ∧ (∀ x, x ∈ g → x.src.length ≤ 10000000000000 ∧ x.aft.length ≤ 10000000000000) ∧ g.length * 120 ≤ 140737488351232 := by
  obtain ⟨fuel, hf⟩ := h
  obtain ⟨cs, rfl, hcs⟩ := okWide_struct Try.underlying25 hv
  have o := opens_struct2 (P := Try.prog) (s0 := 1) (s1 := 1) Try.underlying25 rfl rfl (by kernel_rfl) (by kernel_rfl) (by kernel_rfl) op_strs op_nodes
  obtain ⟨hlen, ⟨s, g⟩, hs, hw⟩ := o _ _ _ _ _ _ _ _ hf hl
  obtain ⟨SV, eS, hS, _⟩ := SlR.strs hs
  obtain ⟨NV, cells, eN, hN, hb, hr⟩ := hw
  obtain ⟨GA, gc, rfl, _, _⟩ := Sl.any_ hS
  refine ⟨GA, s.length, gc, NV, g, ?_, ⟨cells, hN, fun i hi => (hr i hi).1⟩, fun x hx => ?_, hb⟩
  · obtain ⟨l⟩ := cs
    match l, hlen with
    | [a, b], _ =>
      simp [Value.cells] at eS eN
      rw [eS, eN]
  · obtain ⟨i, hi, rfl⟩ := List.getElem_of_mem hx
    exact (hr i hi).2
end
theorem flat_drop {α : Type} {enc : α → List Value} {sz : Nat} (he : ∀ a, (enc a).length = sz) (l : List α) : ∀ k, (l.flatMap enc).drop (k * sz) = (l.drop k).flatMap enc := by
  induction l with
  | nil => intro k; simp
  | cons x l ih =>
    intro k
    cases k with
    | zero => simp
    | succ k =>
      rw [List.flatMap_cons, List.drop_succ_cons, Nat.add_mul, Nat.one_mul, Nat.add_comm, ← List.drop_drop, ← he x, List.drop_left, he x, ih k]
theorem flat_length {α : Type} {enc : α → List Value} {sz : Nat} (he : ∀ a, (enc a).length = sz) (l : List α) : (l.flatMap enc).length = l.length * sz := by
  induction l with
  | nil => simp
  | cons x l ih => rw [List.flatMap_cons, List.length_append, he, ih, List.length_cons, Nat.add_mul]; omega
theorem flat_at {α : Type} {enc : α → List Value} {sz : Nat} (he : ∀ a, (enc a).length = sz) (l : List α) {k : Nat} (hk : k < l.length) : ((l.flatMap enc).drop (k * sz)).take sz = enc l[k] := by
  rw [flat_drop he, List.drop_eq_getElem_cons hk, List.flatMap_cons, ← he l[k], List.take_left]
theorem SlR.flat {α : Type} {sz bytes : Nat} {R : World → α → List Value → Prop} {enc : α → List Value} {Q : α → Prop} (he : ∀ a, (enc a).length = sz) (hR : ∀ w a cs, R w a cs → cs = enc a ∧ Q a) {w : World} {l : List α} {cs : List Value} (h : SlR sz bytes R w l cs) :
    ∃ v, cs = [v] ∧ Sl w v sz l.length (l.flatMap enc) ∧ l.length * bytes ≤ 140737488351232 ∧ ∀ x, x ∈ l → Q x := by
  obtain ⟨v, cells, rfl, hs, hby, hr⟩ := h
  have hl : cells.length = l.length * sz := by obtain ⟨_, _, _, _, _, h, _⟩ := hs; exact h
  have e : cells = l.flatMap enc := by
    refine cells_ext hl (flat_length he l) (fun i hi => ?_)
    rw [(hR _ _ _ (hr i hi)).1, flat_at he l hi]
  refine ⟨v, rfl, by rw [e] at hs; exact hs, hby, fun x hx => ?_⟩
  obtain ⟨i, hi, rfl⟩ := List.getElem_of_mem hx
  exact (hR _ _ _ (hr i hi)).2
theorem flat_cells {α : Type} {enc : α → List Value} {sz : Nat} (he : ∀ a, (enc a).length = sz) {w : World} {A : Option Addr} {n c : Nat} {l : List α} (h : Sl w (.slice A n c) sz l.length (l.flatMap enc)) {k : Nat} (hk : k < l.length) :
    ∃ b o, A = some ⟨b, o, none⟩ ∧ ∀ (j : Nat) (u : Value), (enc l[k])[j]? = some u → w.cell? ⟨b, o + k * sz + j, none⟩ = some u := by
  obtain ⟨A', c', e, h1, h2, h3, h4⟩ := h
  cases e
  obtain ⟨b, o, rfl, hc⟩ := h4.resolve_left (by omega)
  refine ⟨b, o, rfl, fun j u hu => ?_⟩
  have hj : j < sz := by rw [← he l[k]]; exact (List.getElem?_eq_some_iff.1 hu).1
  rw [← flat_at he l hk, List.getElem?_take_of_lt hj, List.getElem?_drop] at hu
  rw [Nat.add_assoc]
  exact hc _ u hu
theorem u8_range {n : Int} (h : (Lit.int .u8 n).wf = true) : 0 ≤ n ∧ n < 256 := by
  simp only [Lit.wf, Bool.and_eq_true, decide_eq_true_eq] at h
  have a : IntKind.u8.min = 0 := by rfl
  have b : IntKind.u8.max = 255 := by rfl
  rw [a, b] at h
  omega
def encU (n : Int) : List Value := [.int .u8 n]
abbrev U8s (w : World) (v : Value) (l : List Int) : Prop := Sl w v 1 l.length (l.flatMap encU)
theorem op_u8s : Opens Try.prog 44 1 (SlR 1 1 (IntR .u8)) := opens_slice Try.underlying44 (by kernel_rfl) (by omega) (by kernel_rfl) (opens_int Try.underlying5)
theorem SlR.u8s {w : World} {l : List Int} {cs : List Value} (h : SlR 1 1 (IntR .u8) w l cs) : ∃ v, cs = [v] ∧ U8s w v l ∧ l.length * 1 ≤ 140737488351232 ∧ ∀ x, x ∈ l → 0 ≤ x ∧ x < 256 :=
  SlR.flat (enc := encU) (Q := fun x => 0 ≤ x ∧ x < 256) (fun _ => rfl) (fun _ _ _ h => ⟨h.1, u8_range h.2⟩) h
/-- A turn of PlanEnds: (Finish, Ok, Pick). -/
structure Tn where
  fin : Bool
  ok : Bool
  pick : Int
def encT (t : Tn) : List Value := [.bool t.fin, .bool t.ok, .int .u8 t.pick]
def TurnR (_ : World) (t : Tn) (cs : List Value) : Prop := cs = encT t ∧ 0 ≤ t.pick ∧ t.pick < 256
theorem op_turn : Opens Try.prog 38 3 TurnR := by
  intro H enc w sp held fuel cs x h hx
  have ht := Try.underlying38
  have hc : cs.length = 3 := by
    obtain ⟨_, _, _, _, hl, _⟩ := DataW.trod_struct ht h
    rw [hl]; kernel_rfl
  obtain ⟨a0, h0⟩ := opens_field ht h hx 0 rfl (by kernel_rfl) (opens_bool Try.underlying4)
  obtain ⟨a1, h1⟩ := opens_field ht h hx 1 rfl (by kernel_rfl) (opens_bool Try.underlying4)
  obtain ⟨a2, h2⟩ := opens_field ht h hx 2 rfl (by kernel_rfl) (opens_int Try.underlying5)
  have e2 := h2.1
  unfold BoolR at h0 h1
  refine ⟨hc, ⟨a0, a1, a2⟩, ?_, u8_range h2.2⟩
  match cs, hc with
  | [c0, c1, c2], _ =>
    simp at e2 h0 h1
    subst e2 h0 h1
    rfl
abbrev Tns (w : World) (v : Value) (l : List Tn) : Prop := Sl w v 3 l.length (l.flatMap encT)
theorem op_turns : Opens Try.prog 26 1 (SlR 3 3 TurnR) := opens_slice Try.underlying26 (by kernel_rfl) (by omega) (by kernel_rfl) op_turn
/-- An act: (Kind, Name, Ok, Pick). -/
structure Ac where
  kind : Int
  name : ByteArray
  ok : Bool
  pick : Int
def encA (t : Ac) : List Value := [.int .u8 t.kind, .string t.name, .bool t.ok, .int .u8 t.pick]
def ActOk (t : Ac) : Prop := 0 ≤ t.kind ∧ t.kind < 256 ∧ 0 ≤ t.pick ∧ t.pick < 256 ∧ t.name.size ≤ 140737488351232
def ActR (_ : World) (t : Ac) (cs : List Value) : Prop := cs = encA t ∧ ActOk t
theorem op_act : Opens Try.prog 54 4 ActR := by
  intro H enc w sp held fuel cs x h hx
  have ht := Try.underlying54
  have hc : cs.length = 4 := by
    obtain ⟨_, _, _, _, hl, _⟩ := DataW.trod_struct ht h
    rw [hl]; kernel_rfl
  obtain ⟨a0, h0⟩ := opens_field ht h hx 0 rfl (by kernel_rfl) (opens_int Try.underlying5)
  obtain ⟨a1, h1⟩ := opens_field ht h hx 1 rfl (by kernel_rfl) (opens_str Try.underlying9)
  obtain ⟨a2, h2⟩ := opens_field ht h hx 2 rfl (by kernel_rfl) (opens_bool Try.underlying4)
  obtain ⟨a3, h3⟩ := opens_field ht h hx 3 rfl (by kernel_rfl) (opens_int Try.underlying5)
  have e0 := h0.1
  have e1 := h1.1
  have e3 := h3.1
  have r0 := u8_range h0.2
  have r3 := u8_range h3.2
  unfold BoolR at h2
  refine ⟨hc, ⟨a0, a1, a2, a3⟩, ?_, r0.1, r0.2, r3.1, r3.2, h1.2⟩
  match cs, hc with
  | [c0, c1, c2, c3], _ =>
    simp at e0 e1 h2 e3
    subst e0 e1 h2 e3
    rfl
abbrev Acs (w : World) (v : Value) (l : List Ac) : Prop := Sl w v 4 l.length (l.flatMap encA)
theorem op_acts : Opens Try.prog 52 1 (SlR 4 32 ActR) := opens_slice Try.underlying52 (by kernel_rfl) (by omega) (by kernel_rfl) op_act
section
variable {w : World} {H : Type} {enc : TypeId × Value → H} {d : DataW H} {ps : List MemPlace} {base : Nat}
theorem op_u8 {v : Value} (h : DataW.Trod enc Try.prog w 0 (fun _ => true) true 44 v d ps) (hv : Value.okWide Try.prog w .any base 44 v) (hl : Light Try.prog 44 d) :
    ∃ l, U8s w v l ∧ l.length ≤ 140737488351232 ∧ ∀ x, x ∈ l → 0 ≤ x ∧ x < 256 := by
  obtain ⟨fuel, hf⟩ := h
  obtain ⟨ad, ln, cp, rfl⟩ := okWide_slice Try.underlying44 hv
  obtain ⟨_, s, hs⟩ := op_u8s _ _ _ _ _ _ _ _ hf hl
  obtain ⟨SV, eS, hS, hb, hq⟩ := SlR.u8s hs
  have e : SV = .slice ad ln cp := by simpa [Value.cells] using eS.symm
  subst e
  exact ⟨s, hS, by omega, hq⟩
theorem op_tn {v : Value} (h : DataW.Trod enc Try.prog w 0 (fun _ => true) true 26 v d ps) (hv : Value.okWide Try.prog w .any base 26 v) (hl : Light Try.prog 26 d) :
    ∃ l, Tns w v l ∧ l.length ≤ 140737488351232 ∧ ∀ x : Tn, x ∈ l → 0 ≤ x.pick ∧ x.pick < 256 := by
  obtain ⟨fuel, hf⟩ := h
  obtain ⟨ad, ln, cp, rfl⟩ := okWide_slice Try.underlying26 hv
  obtain ⟨_, s, hs⟩ := op_turns _ _ _ _ _ _ _ _ hf hl
  obtain ⟨SV, eS, hS, hb, hq⟩ := SlR.flat (enc := encT) (Q := fun x : Tn => 0 ≤ x.pick ∧ x.pick < 256) (fun _ => rfl) (fun _ _ _ h => h) hs
  have e : SV = .slice ad ln cp := by simpa [Value.cells] using eS.symm
  subst e
  exact ⟨s, hS, by omega, hq⟩
theorem op_ac {v : Value} (h : DataW.Trod enc Try.prog w 0 (fun _ => true) true 52 v d ps) (hv : Value.okWide Try.prog w .any base 52 v) (hl : Light Try.prog 52 d) :
    ∃ l, Acs w v l ∧ l.length ≤ 140737488351232 ∧ ∀ x : Ac, x ∈ l → ActOk x := by
  obtain ⟨fuel, hf⟩ := h
  obtain ⟨ad, ln, cp, rfl⟩ := okWide_slice Try.underlying52 hv
  obtain ⟨_, s, hs⟩ := op_acts _ _ _ _ _ _ _ _ hf hl
  obtain ⟨SV, eS, hS, hb, hq⟩ := SlR.flat (enc := encA) (Q := ActOk) (fun _ => rfl) (fun _ _ _ h => h) hs
  have e : SV = .slice ad ln cp := by simpa [Value.cells] using eS.symm
  subst e
  exact ⟨s, hS, by omega, hq⟩
end
end Go.Proofs.Ytcbhdjpigadhmaa
