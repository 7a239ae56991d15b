/-
  Layer 03 (vfs): what the arguments read as.
-/
import Derived.Test.YtjhcabjlhnhkbaaDoorPthR
import Derived.Test.YtjhcabjlhnhkbaaDoorVfsN
import Derived.Handed
import Derived.HandedShaped
set_option linter.unusedVariables false
set_option linter.unusedSimpArgs false
set_option maxRecDepth 20000
namespace Go.Proofs.YtjhcabjlhnhkbaaDoor
open Go.ChangeShapes Go.WideShapes Go.ChangeAt Go.RowKit
def IntR (k : IntKind) (_ : World) (n : Int) (cs : List Value) : Prop := cs = [.int k n] ∧ (Lit.int k n).wf = true
def BoolR (_ : World) (b : Bool) (cs : List Value) : Prop := cs = [.bool b]
theorem opens_int {P : Program} {t : TypeId} {k : IntKind} (ht : P.underlying t = some (.int k)) : Opens P t 1 (IntR k) := by
  intro H enc w sp held fuel cs x h hx
  obtain ⟨n, rfl, rfl, hn⟩ := DataW.trod_int ht h
  exact ⟨rfl, n, rfl, hn⟩
theorem opens_bool {P : Program} {t : TypeId} (ht : P.underlying t = some .bool) : Opens P t 1 BoolR := by
  intro H enc w sp held fuel cs x h hx
  obtain ⟨b, rfl, rfl⟩ := DataW.trod_bool ht h
  exact ⟨rfl, b, rfl⟩
/-- A field of a struct. -/
theorem opens_field {P : Program} {t : TypeId} {fs : Array Field} {sz : Nat} {α : Type} {R : World → α → List Value → Prop} (ht : P.underlying t = some (.struct fs)) {H : Type} {enc : TypeId × Value → H} {w : World} {sp : Nat → Bool} {held : Bool} {fuel : Nat} {cs : List Value} {x : DataW H × List MemPlace}
    (h : DataW.trod enc P w 0 sp held fuel t cs = some x) (hl : Light P t x.1) (i : Nat) {f : Field} (hf : fs[i]? = some f) (hc : P.cellsOf f.type = sz) (ho : Opens P f.type sz R) : ∃ a, R w a ((cs.drop f.offset).take sz) := by
  obtain ⟨xs, n, rfl, rfl, hlen, hxs, hall⟩ := DataW.trod_struct ht h
  have h1 := hall i f hf
  have hi : i < xs.length := by rw [hxs]; exact (Array.getElem?_eq_some_iff.1 hf).1
  rw [List.getElem?_eq_getElem hi, hc] at h1
  exact (ho H enc w sp held n _ _ h1 (fun m hm => hl m (by
    simp only [DataW.weights, ht]
    exact DataW.weights_mem_each (j := i) (by simpa using (by rw [List.getElem?_map, Array.getElem?_toList, hf]; rfl : (fs.toList.map (·.type))[i]? = some f.type)) (by simp [hi]) m hm))).2
theorem flat_drop {α : Type} {enc : α → List Value} {sz : Nat} (he : ∀ a, (enc a).length = sz) (l : List α) : ∀ k, (l.flatMap enc).drop (k * sz) = (l.drop k).flatMap enc := by
  induction l with
  | nil => intro k; simp
  | cons x l ih =>
    intro k
    cases k with
    | zero => simp
    | succ k =>
      rw [List.flatMap_cons, List.drop_succ_cons, Nat.add_mul, Nat.one_mul, Nat.add_comm, ← List.drop_drop, ← he x, List.drop_left, he x, ih k]
theorem flat_length {α : Type} {enc : α → List Value} {sz : Nat} (he : ∀ a, (enc a).length = sz) (l : List α) : (l.flatMap enc).length = l.length * sz := by
  induction l with
  | nil => simp
  | cons x l ih => rw [List.flatMap_cons, List.length_append, he, ih, List.length_cons, Nat.add_mul]; omega
theorem flat_at {α : Type} {enc : α → List Value} {sz : Nat} (he : ∀ a, (enc a).length = sz) (l : List α) {k : Nat} (hk : k < l.length) : ((l.flatMap enc).drop (k * sz)).take sz = enc l[k] := by
  rw [flat_drop he, List.drop_eq_getElem_cons hk, List.flatMap_cons, ← he l[k], List.take_left]
theorem SlR.flat {α : Type} {sz bytes : Nat} {R : World → α → List Value → Prop} {enc : α → List Value} {Q : α → Prop} (he : ∀ a, (enc a).length = sz) (hR : ∀ w a cs, R w a cs → cs = enc a ∧ Q a) {w : World} {l : List α} {cs : List Value} (h : SlR sz bytes R w l cs) :
    ∃ v, cs = [v] ∧ Sl w v sz l.length (l.flatMap enc) ∧ l.length * bytes ≤ 140737488351232 ∧ ∀ x, x ∈ l → Q x := by
  obtain ⟨v, cells, rfl, hs, hby, hr⟩ := h
  have hl : cells.length = l.length * sz := by obtain ⟨_, _, _, _, _, h, _⟩ := hs; exact h
  have e : cells = l.flatMap enc := by
    refine cells_ext hl (flat_length he l) (fun i hi => ?_)
    rw [(hR _ _ _ (hr i hi)).1, flat_at he l hi]
  refine ⟨v, rfl, by rw [e] at hs; exact hs, hby, fun x hx => ?_⟩
  obtain ⟨i, hi, rfl⟩ := List.getElem_of_mem hx
  exact (hR _ _ _ (hr i hi)).2
theorem toL_len (s : ByteArray) : (toL s).length = s.size := by rw [← ofL_size, of_toL]
theorem strs_toL (s : List ByteArray) {w : World} {v : Value} (h : Strs w v s) : Txts w v (s.map toL) := by
  rw [← Txts.eq, List.map_map]
  have em : s.map (ofL ∘ toL) = s := by
    conv => rhs; rw [← List.map_id s]
    exact List.map_congr_left fun x _ => of_toL x
  rw [em]; exact h
theorem u8_range {n : Int} (h : (Lit.int .u8 n).wf = true) : 0 ≤ n ∧ n < 256 := by
  simp only [Lit.wf, Bool.and_eq_true, decide_eq_true_eq] at h
  have a : IntKind.u8.min = 0 := by rfl
  have b : IntKind.u8.max = 255 := by rfl
  rw [a, b] at h
  omega
abbrev ActT := Int × ByteArray × ByteArray × ByteArray × Int
def encA (a : ActT) : List Value := [.int .u8 a.1, .string a.2.1, .string a.2.2.1, .string a.2.2.2.1, .int .i64 a.2.2.2.2]
structure ActQ (a : ActT) : Prop where
  k0 : 0 ≤ a.1
  k1 : a.1 < 256
  p : a.2.1.size ≤ 140737488351232
  q : a.2.2.1.size ≤ 140737488351232
  t : a.2.2.2.1.size ≤ 140737488351232
def ActW (_ : World) (a : ActT) (cs : List Value) : Prop := cs = encA a ∧ ActQ a
theorem op_act1 : Opens Tryd.prog 30 5 ActW := by
  intro H enc w sp held fuel cs x h hx
  have ht := Tryd.underlying30
  have hc : cs.length = 5 := by
    obtain ⟨_, _, _, _, hl, _⟩ := DataW.trod_struct ht h
    rw [hl]; kernel_rfl
  obtain ⟨a0, h0⟩ := opens_field ht h hx 0 rfl (by kernel_rfl) (opens_int Tryd.underlying5)
  obtain ⟨a1, h1⟩ := opens_field ht h hx 1 rfl (by kernel_rfl) (opens_str Tryd.underlying9)
  obtain ⟨a2, h2⟩ := opens_field ht h hx 2 rfl (by kernel_rfl) (opens_str Tryd.underlying9)
  obtain ⟨a3, h3⟩ := opens_field ht h hx 3 rfl (by kernel_rfl) (opens_str Tryd.underlying9)
  obtain ⟨a4, h4⟩ := opens_field ht h hx 4 rfl (by kernel_rfl) (opens_int Tryd.underlying3)
  obtain ⟨u0, u1⟩ := u8_range h0.2
  have e0 := h0.1
  have e1 := h1.1
  have e2 := h2.1
  have e3 := h3.1
  have e4 := h4.1
  refine ⟨hc, ⟨a0, a1, a2, a3, a4⟩, ?_, ⟨u0, u1, h1.2, h2.2, h3.2⟩⟩
  match cs, hc with
  | [c0, c1, c2, c3, c4], _ =>
    simp at e0 e1 e2 e3 e4
    subst e0 e1 e2 e3 e4
    rfl
theorem op_actsl : Opens Tryd.prog 22 1 (SlR 5 64 ActW) := opens_slice Tryd.underlying22 (by kernel_rfl) (by omega) (by kernel_rfl) op_act1
def act' (a : ActT) : ActS := ⟨a.1.toNat, toL a.2.1, toL a.2.2.1, toL a.2.2.2.1, a.2.2.2.2⟩
theorem act_enc {a : ActT} (h : ActQ a) : encA a = (actC (act' a)).toList := by
  unfold encA act' actC
  simp [of_toL, Int.toNat_of_nonneg h.k0]
theorem acs_flat : ∀ (l : List ActT), (∀ x, x ∈ l → ActQ x) → l.flatMap encA = acs (l.map act')
  | [], _ => rfl
  | x :: l, h => by
    rw [List.flatMap_cons, act_enc (h x (by simp)), acs_flat l (fun y hy => h y (by simp [hy]))]
    rfl
theorem act_o {a : ActT} (h : ActQ a) : ActO (act' a) := ⟨by show a.1.toNat < 256; have := h.k0; have := h.k1; omega, by show (toL _).length ≤ _; rw [toL_len]; exact h.t⟩
section
variable {w : World} {H : Type} {enc : TypeId × Value → H} {d : DataW H} {ps : List MemPlace} {base : Nat}
theorem op_acts {v : Value} (h : DataW.Trod enc Tryd.prog w 0 (fun _ => true) true 22 v d ps) (hv : Value.okWide Tryd.prog w .any base 22 v) (hl : Light Tryd.prog 22 d) : ∃ l, ScrO w v l := by
  obtain ⟨ad, ln, cp, rfl⟩ := okWide_slice Tryd.underlying22 hv
  obtain ⟨fuel, hf⟩ := h
  obtain ⟨_, s, hs⟩ := op_actsl _ _ _ _ _ _ _ _ hf hl
  obtain ⟨SV, eS, hS, hb, hr⟩ := SlR.flat (Q := ActQ) (enc := encA) (fun _ => rfl) (fun _ _ _ h => h) hs
  have e : SV = .slice ad ln cp := by simpa [Value.cells] using eS.symm
  subst e
  refine ⟨s.map act', ?_, fun x hx => ?_, fun x hx => ?_⟩
  · unfold ActsR
    rw [List.length_map, ← acs_flat s hr]; exact hS
  · obtain ⟨y, hy, rfl⟩ := List.mem_map.1 hx
    exact act_o (hr y hy)
  · obtain ⟨y, hy, rfl⟩ := List.mem_map.1 hx
    have := hr y hy
    exact ⟨by show (toL _).length ≤ _; rw [toL_len]; exact this.p, by show (toL _).length ≤ _; rw [toL_len]; exact this.q⟩
theorem op_act {v : Value} (h : DataW.Trod enc Tryd.prog w 0 (fun _ => true) true 30 v d ps) (hv : Value.okWide Tryd.prog w .any base 30 v) (hl : Light Tryd.prog 30 d) : ∃ a, v = .agg (actC a) ∧ (ActO a ∧ a.p.length ≤ 140737488351232 ∧ a.q.length ≤ 140737488351232) := by
  obtain ⟨fuel, hf⟩ := h
  obtain ⟨cs, rfl, hcs⟩ := okWide_struct Tryd.underlying30 hv
  obtain ⟨hlen, a, e, q⟩ := op_act1 _ _ _ _ _ _ _ _ hf hl
  refine ⟨act' a, ?_, act_o q, by show (toL _).length ≤ _; rw [toL_len]; exact q.p, by show (toL _).length ≤ _; rw [toL_len]; exact q.q⟩
  rw [act_enc q] at e
  have e' : cs.toList = (actC (act' a)).toList := e
  rw [Array.toList_inj.1 e']
theorem op_num {v : Value} (h : DataW.Trod enc Tryd.prog w 0 (fun _ => true) true 3 v d ps) (hv : Value.okWide Tryd.prog w .any base 3 v) : ∃ n : Int, v = .int .i64 n := okWide_int Tryd.underlying3 hv
end
end Go.Proofs.YtjhcabjlhnhkbaaDoor
