/-
  Rows of nodes of one's own: what their cells read as (for the rounds of the reference's Right).
-/
import Derived.Test.YtcbhdjpigadhmaaRefL
import Derived.Test.YtcbhdjpigadhmaaRefC
set_option linter.unusedVariables false
set_option linter.unusedSimpArgs false
namespace Go.Proofs.Ytcbhdjpigadhmaa
open Go.RowKit

/-- The cells of a row read as nodes. -/
def NR (w : World) (cells : List Value) (g : List Nd) : Prop := cells.length = g.length * 10 ∧ ∀ i (h : i < g.length), NodeR w g[i] ((cells.drop (i * 10)).take 10)
theorem NR.pure {w w' : World} (hp : Pure w w') {cells : List Value} {g : List Nd} (h : NR w cells g) : NR w' cells g := ⟨h.1, fun i hi => (h.2 i hi).pure hp⟩
theorem NR.nil (w : World) : NR w [] [] := ⟨rfl, fun i hi => by cases hi⟩
theorem NR.snoc {w : World} {cells e : List Value} {g : List Nd} {x : Nd} (h : NR w cells g) (he : e.length = 10) (hx : NodeR w x e) : NR w (cells ++ e) (g ++ [x]) := by
  obtain ⟨h1, h2⟩ := h
  refine ⟨by rw [List.length_append, List.length_append, h1, he]; simp only [List.length_singleton]; omega, fun i hi => ?_⟩
  rw [List.length_append, List.length_singleton] at hi
  by_cases hlt : i < g.length
  · have e1 : (g ++ [x])[i]'(by rw [List.length_append, List.length_singleton]; exact hi) = g[i] := List.getElem_append_left hlt
    rw [e1, List.drop_append_of_le_length (by omega), List.take_append_of_le_length (by rw [List.length_drop]; omega)]
    exact h2 i hlt
  · have ei : i = g.length := by omega
    subst ei
    have e1 : (g ++ [x])[g.length]'(by rw [List.length_append, List.length_singleton]; exact hi) = x := by simp
    rw [e1, List.drop_append, List.drop_of_length_le (by omega), List.nil_append, h1, Nat.sub_self, List.drop_zero, List.take_of_length_le (by omega)]
    exact hx
theorem NR.of {w : World} {v : Value} {g : List Nd} (h : Nodes w v g) : ∃ cells, Sl w v 10 g.length cells ∧ NR w cells g := by
  obtain ⟨cells, h1, h2⟩ := h
  have hl := h1
  obtain ⟨_, _, _, _, _, h3, _⟩ := hl
  exact ⟨cells, h1, h3, h2⟩
theorem NR.nodes {w : World} {v : Value} {cells : List Value} {g : List Nd} (h : NR w cells g) (hs : Sl w v 10 g.length cells) : Nodes w v g := ⟨cells, hs, h.2⟩
theorem NR.at_ {w wr : World} {A : Option Addr} {n c : Nat} {cells : List Value} {g : List Nd} (hp : Pure w wr) (h : NR w cells g) (hs : Sl wr (.slice A n c) 10 g.length cells) {i : Nat} (hi : i < g.length) :
    ∃ (b o : Nat) (k : Int) (sv : Value) (cA : Option Addr) (cn cc : Nat) (av : Value) (im : ByteArray) (p q r t : Bool), A = some ⟨b, o, none⟩ ∧ Strs w sv g[i].src ∧ Strs w av g[i].aft ∧
      ∀ (j : Nat) (u : Value), [Value.string g[i].name, .int .i64 k, sv, .slice cA cn cc, av, .string im, .bool p, .bool q, .bool r, .bool t][j]? = some u → wr.cell? ⟨b, o + i * 10 + j, none⟩ = some u := by
  obtain ⟨A', c', e, h1, h2, h3, h4⟩ := hs
  cases e
  obtain ⟨b, o, rfl, hc⟩ := h4.resolve_left (by omega)
  obtain ⟨k, sv, cA, cn, cc, av, im, p, q, r, t, e, s1, s2⟩ := h.2 i hi
  refine ⟨b, o, k, sv, cA, cn, cc, av, im, p, q, r, t, rfl, s1, s2, fun j u hu => ?_⟩
  rw [← e] at hu
  have hj : j < 10 := by
    have := (List.getElem?_eq_some_iff.1 hu).1
    rw [List.length_take] at this; omega
  rw [List.getElem?_take_of_lt hj, List.getElem?_drop] at hu
  have := hc (i * 10 + j) u hu
  rw [Nat.add_assoc]; exact this
theorem keepN_len (g : List Nd) : ∀ k, (keepN g k).length ≤ g.length
  | 0 => Nat.le_refl _
  | k + 1 => Nat.le_trans (List.length_filter_le _ _) (keepN_len g k)
end Go.Proofs.Ytcbhdjpigadhmaa
