/-
  What arguments read as: texts, slices of texts, slices of pairs, structs of two slices.
-/
import Derived.Test.YtliglejbkpjamaaVBase
import Derived.ProofKit
import Derived.OpenShut
import Derived.ShutString
import Derived.ChangeOld
import Derived.SizedLaws
import Derived.SliceStrings
import Derived.Deep.Slices
set_option linter.unusedVariables false
set_option linter.unusedSimpArgs false
namespace Go.Proofs.Ytliglejbkpjamaa
open Go.RowKit Go.ChangeShapes Go.WideShapes Go.ChangeAt

/-- No string, slice or map of it is longer than the form's reach. -/
def Light {H : Type} (P : Program) (t : TypeId) (d : DataW H) : Prop := ∀ n, n ∈ d.weights P t → n ≤ 140737488351232
/-- Whatever reads at type t is of sz cells, and stands to some a by R. -/
def Opens (P : Program) (t : TypeId) (sz : Nat) {α : Type} (R : World → α → List Value → Prop) : Prop :=
  ∀ (H : Type) (enc : TypeId × Value → H) (w : World) (sp : Nat → Bool) (held : Bool) (fuel : Nat) (cs : List Value) (x : DataW H × List MemPlace), DataW.trod enc P w 0 sp held fuel t cs = some x → Light P t x.1 → cs.length = sz ∧ ∃ a, R w a cs

def StrR (_ : World) (s : ByteArray) (cs : List Value) : Prop := cs = [.string s] ∧ s.size ≤ 140737488351232

/-- A slice whose elements stand to as by R. -/
def SlR {α : Type} (sz bytes : Nat) (R : World → α → List Value → Prop) (w : World) (l : List α) (cs : List Value) : Prop :=
  ∃ v cells, cs = [v] ∧ Sl w v sz l.length cells ∧ l.length * bytes ≤ 140737488351232 ∧ ∀ i (h : i < l.length), R w l[i] ((cells.drop (i * sz)).take sz)

theorem addr_of_cell {w : World} {a : Addr} {v : Value} (h : w.cell? a = some v) : a = ⟨a.block, a.off, none⟩ := by
  obtain ⟨b, o, s⟩ := a
  unfold World.cell? at h
  cases s with
  | none => rfl
  | some s => split at h <;> simp at h

theorem weightsAll_mem {H : Type} {P : Program} {e : TypeId} {l : List (DataW H)} {d : DataW H} (h : d ∈ l) {n : Nat} (hn : n ∈ d.weights P e) : n ∈ DataW.weightsAll P e l := by
  induction l with
  | nil => cases h
  | cons x l ih =>
    simp only [DataW.weightsAll, List.mem_append]
    rcases List.mem_cons.1 h with rfl | h
    · exact .inl hn
    · exact .inr (ih h)
theorem add_none (b o j : Nat) : (⟨b, o, none⟩ : Addr).add j = ⟨b, o + j, none⟩ := by
  unfold Addr.add
  split
  · rename_i h; rw [h]; rfl
  · rfl

theorem opens_slice {P : Program} {t e : TypeId} {sz bytes : Nat} {α : Type} {R : World → α → List Value → Prop} (ht : P.underlying t = some (.slice e)) (hc : P.cellsOf e = sz) (hsz : 0 < sz) (hb : P.bytesOf e = bytes) (he : Opens P e sz R) : Opens P t 1 (SlR sz bytes R) := by
  intro H enc w sp held fuel cs x h hx
  rcases Go.Deep.open_slice ht h with ⟨rfl, _⟩ | ⟨a, len, cap, m, n, D, Pl, rfl, _, hle, hcap, hm, rfl, hel⟩
  · exact ⟨rfl, [], _, [], rfl, ⟨none, 0, rfl, Nat.le_refl _, Nat.zero_le _, by simp, .inl rfl⟩, by simp, fun i hi => by simp at hi⟩
  · rw [hc] at hel
    have hlm : len ≤ m := by rw [hm]; split <;> omega
    have hwt : (len + (m - len)) * bytes ≤ 140737488351232 := by
      refine hx _ ?_
      simp [DataW.weights, ht, hb]
    have hbytes : len * bytes ≤ 140737488351232 := Nat.le_trans (Nat.mul_le_mul_right _ (by omega)) hwt
    have hlt : ∀ i, i < len → Light P e (D i) := by
      intro i hi n hn
      refine hx n ?_
      simp only [DataW.weights, ht, List.mem_cons, List.mem_append]
      exact .inr (.inl (weightsAll_mem (List.mem_map.2 ⟨i, List.mem_range.2 hi, rfl⟩) hn))
    rcases Nat.eq_zero_or_pos len with h0 | h0
    · subst h0
      exact ⟨rfl, [], _, [], rfl, ⟨some a, cap, rfl, hle, hcap, by simp, .inl rfl⟩, by simp, fun i hi => by simp at hi⟩
    · obtain ⟨cs0, hc0, hd0⟩ := hel 0 (by omega)
      obtain ⟨_, hl0, hr0⟩ := World.cells?_some hc0
      have ha : a = ⟨a.block, a.off, none⟩ := by
        have h1 := hr0 0 hsz
        rw [Nat.zero_mul] at h1
        have e1 : (a.add 0).add 0 = a := by unfold Addr.add; simp
        rw [e1, List.getElem?_eq_getElem (by omega)] at h1
        exact addr_of_cell h1
      have key : ∀ n', n' ≤ len → ∃ (l : List α) (cells : List Value), l.length = n' ∧ cells.length = n' * sz ∧ (∀ j u, cells[j]? = some u → w.cell? ⟨a.block, a.off + j, none⟩ = some u) ∧ ∀ i (h : i < l.length), R w l[i] ((cells.drop (i * sz)).take sz) := by
        intro n'
        induction n' with
        | zero => intro _; exact ⟨[], [], rfl, by simp, fun j u hu => by simp at hu, fun i hi => by simp at hi⟩
        | succ n' ih =>
          intro hn
          obtain ⟨l, cells, e1, e2, e3, e4⟩ := ih (by omega)
          obtain ⟨cs', hc', hd'⟩ := hel n' (by omega)
          obtain ⟨_, hl', hr'⟩ := World.cells?_some hc'
          obtain ⟨_, y, hy⟩ := he H enc w sp held _ _ _ hd' (hlt n' (by omega))
          refine ⟨l ++ [y], cells ++ cs', by simp [e1], by simp [e2, hl', Nat.add_mul], fun j u hu => ?_, fun i hi => ?_⟩
          · rcases Nat.lt_or_ge j cells.length with hj | hj
            · rw [List.getElem?_append_left hj] at hu; exact e3 j u hu
            · rw [List.getElem?_append_right hj] at hu
              have hjl : j - cells.length < cs'.length := (List.getElem?_eq_some_iff.1 hu).1
              have h2 := hr' (j - cells.length) (by omega)
              rw [ha, add_none, add_none] at h2
              rw [hu] at h2
              rw [show a.off + j = a.off + n' * sz + (j - cells.length) from by omega]
              exact h2
          · rcases Nat.lt_or_ge i l.length with hj | hj
            · rw [List.getElem_append_left hj]
              have h5 : (i + 1) * sz ≤ cells.length := by rw [e2]; exact Nat.mul_le_mul_right _ (by omega)
              have h6 : i * sz + sz ≤ cells.length := by rw [Nat.add_mul] at h5; omega
              rw [List.drop_append_of_le_length (by omega), List.take_append_of_le_length (by rw [List.length_drop]; omega)]
              exact e4 i hj
            · have hi' : i = n' := by simp at hi; omega
              subst hi'
              have e5 : i * sz = cells.length := e2.symm
              rw [List.getElem_append_right hj]
              have e6 : i - l.length = 0 := by omega
              simp only [e6, List.getElem_cons_zero]
              rw [e5, List.drop_left, List.take_of_length_le (by omega)]
              exact hy
      obtain ⟨l, cells, e1, e2, e3, e4⟩ := key len (Nat.le_refl _)
      subst e1
      exact ⟨rfl, l, _, cells, rfl, ⟨some a, cap, rfl, hle, hcap, e2, .inr ⟨a.block, a.off, by rw [← ha], e3⟩⟩, hbytes, e4⟩

theorem opens_str {P : Program} {t : TypeId} (ht : P.underlying t = some .string) : Opens P t 1 StrR := by
  intro H enc w sp held fuel cs x h hx
  obtain ⟨s, rfl, rfl, hs⟩ := DataW.trod_string ht h
  refine ⟨rfl, s, rfl, ?_⟩
  have := hx s.data.toList.length (by simp [DataW.weights])
  rw [Array.length_toList] at this
  exact this
theorem opens_array2 {P : Program} {t e : TypeId} {sz : Nat} {α : Type} {R : World → α → List Value → Prop} (ht : P.underlying t = some (.array 2 e)) (hc : P.cellsOf e = sz) (hc2 : P.cellsOf t = 2 * sz) (he : Opens P e sz R) :
    Opens P t (2 * sz) (fun w (p : α × α) cs => R w p.1 (cs.take sz) ∧ R w p.2 (cs.drop sz)) := by
  intro H enc w sp held fuel cs x h hx
  obtain ⟨xs, m, rfl, rfl, hl, hn, hel⟩ := DataW.trod_array ht h
  rw [hc2] at hl
  have h0 := hel 0 (by omega)
  have h1 := hel 1 (by omega)
  rw [hc, List.getElem?_eq_getElem (by omega)] at h0 h1
  have hlt : ∀ i (hi : i < xs.length), Light P e xs[i].1 := fun i hi n hn => hx n (by
    simp only [DataW.weights, ht]
    exact weightsAll_mem (List.mem_map.2 ⟨_, List.getElem_mem hi, rfl⟩) hn)
  obtain ⟨_, a, ha⟩ := he H enc w sp held m _ _ h0 (hlt 0 _)
  obtain ⟨_, b, hb⟩ := he H enc w sp held m _ _ h1 (hlt 1 _)
  refine ⟨hl, (a, b), by simpa using ha, ?_⟩
  rw [Nat.one_mul, List.take_of_length_le (by rw [List.length_drop]; omega)] at hb
  exact hb
def PairR (_ : World) (p : ByteArray × ByteArray) (cs : List Value) : Prop := cs = [.string p.1, .string p.2]
theorem Opens.imp {P : Program} {t : TypeId} {sz : Nat} {α β : Type} {R : World → α → List Value → Prop} {R' : World → β → List Value → Prop} (h : Opens P t sz R) (f : α → β) (hf : ∀ w a cs, cs.length = sz → R w a cs → R' w (f a) cs) : Opens P t sz R' :=
  fun H enc w sp held fuel cs x hx hl => let ⟨h1, a, h2⟩ := h H enc w sp held fuel cs x hx hl; ⟨h1, f a, hf w a cs h1 h2⟩
theorem opens_pair {P : Program} {t e : TypeId} (ht : P.underlying t = some (.array 2 e)) (he : P.underlying e = some .string) (hc : P.cellsOf e = 1) (hc2 : P.cellsOf t = 2) : Opens P t 2 PairR :=
  (opens_array2 (sz := 1) ht hc hc2 (opens_str he)).imp id fun w p cs hl h => by
    match cs, hl with
    | [u, v], _ =>
      obtain ⟨⟨h1, _⟩, ⟨h2, _⟩⟩ := h
      simp at h1 h2
      simp [PairR, h1, h2]
theorem opens_struct2 {P : Program} {t : TypeId} {f0 f1 : Field} {s0 s1 : Nat} {α β : Type} {R0 : World → α → List Value → Prop} {R1 : World → β → List Value → Prop} (ht : P.underlying t = some (.struct #[f0, f1])) (e0 : f0.offset = 0) (e1 : f1.offset = s0)
    (c0 : P.cellsOf f0.type = s0) (c1 : P.cellsOf f1.type = s1) (ct : P.cellsOf t = s0 + s1) (h0 : Opens P f0.type s0 R0) (h1 : Opens P f1.type s1 R1) :
    Opens P t (s0 + s1) (fun w (p : α × β) cs => R0 w p.1 (cs.take s0) ∧ R1 w p.2 (cs.drop s0)) := by
  intro H enc w sp held fuel cs x h hx
  obtain ⟨y0, y1, n, rfl, hl, k0, k1⟩ := trod_struct2 ht h
  rw [ct] at hl
  rw [e0, c0, List.drop_zero] at k0
  rw [e1, c1, List.take_of_length_le (by rw [List.length_drop]; omega)] at k1
  have hw : ∀ n, n ∈ y0.1.weights P f0.type ∨ n ∈ y1.1.weights P f1.type → n ≤ 140737488351232 := fun n hn => hx n (by
    simp only [DataW.weights, ht, List.map_cons, List.map_nil, DataW.weightsEach, List.mem_append]
    rcases hn with hn | hn
    · exact .inl hn
    · exact .inr (.inl hn))
  obtain ⟨_, a, ha⟩ := h0 H enc w sp held _ _ _ k0 (fun n hn => hw n (.inl hn))
  obtain ⟨_, b, hb⟩ := h1 H enc w sp held _ _ _ k1 (fun n hn => hw n (.inr hn))
  exact ⟨hl, (a, b), ha, hb⟩
theorem light_of {H : Type} {P : Program} {ts : List TypeId} {ds : List (DataW H)} (h : (DataW.weightsEach P ts ds).all (· ≤ reachBytes) = true) {j : Nat} {t : TypeId} {d : DataW H} (ht : ts[j]? = some t) (hd : ds[j]? = some d) : Light P t d := by
  intro n hn
  have := List.all_eq_true.1 h _ (DataW.weights_mem_each ht hd n hn)
  have h2 : n ≤ reachBytes := by simpa using this
  exact h2

theorem cells_ext {sz : Nat} {cells ds : List Value} {n : Nat} (hc : cells.length = n * sz) (hd : ds.length = n * sz) (h : ∀ i, i < n → (cells.drop (i * sz)).take sz = (ds.drop (i * sz)).take sz) : cells = ds := by
  induction n generalizing cells ds with
  | zero => rw [Nat.zero_mul] at hc hd; rw [List.length_eq_zero_iff.1 hc, List.length_eq_zero_iff.1 hd]
  | succ n ih =>
    have h0 := h 0 (by omega)
    simp only [Nat.zero_mul, List.drop_zero] at h0
    rw [← List.take_append_drop sz cells, ← List.take_append_drop sz ds, h0]
    congr 1
    refine ih (by rw [List.length_drop, hc, Nat.add_mul]; omega) (by rw [List.length_drop, hd, Nat.add_mul]; omega) (fun i hi => ?_)
    have h1 := h (i + 1) (by omega)
    rw [Nat.add_mul, Nat.one_mul, Nat.add_comm] at h1
    rw [List.drop_drop, List.drop_drop]
    exact h1
theorem SlR.strs {w : World} {l : List ByteArray} {cs : List Value} (h : SlR 1 16 StrR w l cs) : ∃ v, cs = [v] ∧ Strs w v l ∧ l.length * 16 ≤ 140737488351232 ∧ ∀ s, s ∈ l → s.size ≤ 140737488351232 := by
  obtain ⟨v, cells, rfl, hs, hby, hr⟩ := h
  have hl : cells.length = l.length * 1 := by obtain ⟨_, _, _, _, _, h, _⟩ := hs; exact h
  have e : cells = Go.Proofs.Ytliglejbkpjamaa.strs l := by
    refine cells_ext hl (by rw [strs_length]; omega) (fun i hi => ?_)
    rw [(hr i hi).1, Nat.mul_one]
    simp [Go.Proofs.Ytliglejbkpjamaa.strs, List.drop_eq_getElem_cons, hi]
  refine ⟨v, rfl, by rw [e] at hs; exact hs, hby, fun s hs' => ?_⟩
  obtain ⟨i, hi, rfl⟩ := List.getElem_of_mem hs'
  exact (hr i hi).2
theorem prs_length (l : List (ByteArray × ByteArray)) : (prs l).length = l.length * 2 := by
  induction l with
  | nil => rfl
  | cons x l ih => simp [prs] at ih ⊢; omega
theorem prs_drop (l : List (ByteArray × ByteArray)) : ∀ k, (prs l).drop (k * 2) = prs (l.drop k) := by
  induction l with
  | nil => intro k; simp [prs]
  | cons x l ih =>
    intro k
    cases k with
    | zero => simp
    | succ k =>
      rw [show (k + 1) * 2 = k * 2 + 1 + 1 from by omega]
      simpa [prs] using ih k
theorem SlR.prs {w : World} {l : List (ByteArray × ByteArray)} {cs : List Value} (h : SlR 2 32 PairR w l cs) : ∃ v, cs = [v] ∧ Prs w v l ∧ l.length * 32 ≤ 140737488351232 := by
  obtain ⟨v, cells, rfl, hs, hby, hr⟩ := h
  have hl : cells.length = l.length * 2 := by obtain ⟨_, _, _, _, _, h, _⟩ := hs; exact h
  have e : cells = Go.Proofs.Ytliglejbkpjamaa.prs l := by
    refine cells_ext hl (prs_length l) (fun i hi => ?_)
    rw [show (cells.drop (i * 2)).take 2 = _ from hr i hi, prs_drop, List.drop_eq_getElem_cons hi]
    rfl
  exact ⟨v, rfl, by rw [e] at hs; exact hs, hby⟩
end Go.Proofs.Ytliglejbkpjamaa
