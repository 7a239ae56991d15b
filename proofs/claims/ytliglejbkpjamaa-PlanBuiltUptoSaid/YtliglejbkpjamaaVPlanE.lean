/-
  Layer 19 (plan): graphs as they read.
-/
import Derived.Test.YtliglejbkpjamaaVPlanD
set_option linter.unusedVariables false
set_option linter.unusedSimpArgs false
namespace Go.Proofs.Ytliglejbkpjamaa
open Go.RowKit

/-- The cells of a node. -/
def NodeR (w : World) (x : Nd) (cs : List Value) : Prop :=
  ∃ (k : Int) (sv : Value) (cA : Option Addr) (cn cc : Nat) (av : Value) (im : ByteArray) (p q r t : Bool), cs = [.string x.name, .int .i64 k, sv, .slice cA cn cc, av, .string im, .bool p, .bool q, .bool r, .bool t] ∧ Strs w sv x.src ∧ Strs w av x.aft
/-- A slice of nodes. -/
def Nodes (w : World) (v : Value) (g : List Nd) : Prop :=
  ∃ cells, Sl w v 10 g.length cells ∧ ∀ i (h : i < g.length), NodeR w g[i] ((cells.drop (i * 10)).take 10)
theorem NodeR.pure {w w' : World} (hp : Pure w w') {x : Nd} {cs : List Value} (h : NodeR w x cs) : NodeR w' x cs := by
  obtain ⟨k, sv, cA, cn, cc, av, im, p, q, r, t, e, h1, h2⟩ := h
  exact ⟨k, sv, cA, cn, cc, av, im, p, q, r, t, e, h1.pure hp, h2.pure hp⟩
theorem Nodes.pure {w w' : World} (hp : Pure w w') {v : Value} {g : List Nd} (h : Nodes w v g) : Nodes w' v g := by
  obtain ⟨cells, h1, h2⟩ := h
  exact ⟨cells, h1.pure hp, fun i hi => (h2 i hi).pure hp⟩
/-- The cells of the i-th node. -/
theorem Nodes.cells {w : World} {A : Option Addr} {n c : Nat} {g : List Nd} (h : Nodes w (.slice A n c) g) {i : Nat} (hi : i < g.length) :
    ∃ (b o : Nat) (k : Int) (sv : Value) (cA : Option Addr) (cn cc : Nat) (av : Value) (im : ByteArray) (p q r t : Bool), A = some ⟨b, o, none⟩ ∧ Strs w sv g[i].src ∧ Strs w av g[i].aft ∧
      ∀ (j : Nat) (u : Value), [Value.string g[i].name, .int .i64 k, sv, .slice cA cn cc, av, .string im, .bool p, .bool q, .bool r, .bool t][j]? = some u → w.cell? ⟨b, o + i * 10 + j, none⟩ = some u := by
  obtain ⟨cells, ⟨A', c', e, h1, h2, h3, h4⟩, hn⟩ := h
  cases e
  obtain ⟨b, o, rfl, hc⟩ := h4.resolve_left (by omega)
  obtain ⟨k, sv, cA, cn, cc, av, im, p, q, r, t, e, s1, s2⟩ := hn i hi
  refine ⟨b, o, k, sv, cA, cn, cc, av, im, p, q, r, t, rfl, s1, s2, fun j u hu => ?_⟩
  rw [← e] at hu
  have hj : j < 10 := by
    have := (List.getElem?_eq_some_iff.1 hu).1
    rw [List.length_take] at this; omega
  rw [List.getElem?_take_of_lt hj, List.getElem?_drop] at hu
  have := hc (i * 10 + j) u hu
  rw [Nat.add_assoc]; exact this
end Go.Proofs.Ytliglejbkpjamaa
