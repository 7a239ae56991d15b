/-
  append(row, slice...), whatever the slice: nil, empty or not.
-/
import Derived.Test.YtliglejbkpjamaaVBase
set_option linter.unusedVariables false
set_option linter.unusedSimpArgs false
namespace Go.Proofs.Ytliglejbkpjamaa
open Go.RowKit
section
variable {P : Program} {ops : Array Oper} {rest : List Oper} {o : Oper} {a : Act} {Q : Exit → Act → World → Prop} {t e size bytes : Nat}
theorem run_append_of_none (w : World) (base : Nat) (ty : TypeId) (i : TypeInfo) (ht : P.underlying t = some (.slice e)) (hi : P.info? e = some i)
    (v : Value) (n : Nat) (xs : List Value) (hown : w.ownsRow base e size v n xs) (c : Nat) : (Builtin.append_ #[t, t] ty #[v, .slice none 0 c]).run P w = .ok v w := by
  rcases hown.2 with ⟨rfl, rfl⟩ | ⟨g, cap, cur, rfl, _, _, hnc, _⟩
  · simp [Builtin.append_, run_underlying ht, sizeOf, typeInfo, hi, Builtin.lenOf, Builtin.firstCells]
  · simp [Builtin.append_, run_underlying ht, sizeOf, typeInfo, hi, Builtin.lenOf, Builtin.firstCells, hnc, storeCells]
theorem add0 (b o j : Nat) : (⟨b, o, none⟩ : Addr).add j = ⟨b, o + j, none⟩ := by
  unfold Addr.add
  split
  · rename_i h; rw [h]; rfl
  · rfl
theorem wpList_appSl (HE : Elem P t e size bytes) (hgd : o.guard = none) (s x : Operand) (ho : o.op = .call { callee := .builtin .append, args := #[s, x], argTypes := #[t, t] })
    {fp : Nat → Prop} {w0 W : World} {F : List Chunk} {v : Value} {n : Nat} {cells : List Value} (HM : Mem fp w0 (Row e size v n cells :: F) W) (hs : a.eval s = v)
    {m : Nat} {news : List Value} {xv : Value} (hxe : a.eval x = xv) (hx : Sl W xv size m news) (h1 : ∀ u ∈ news, u.oneCell' = true)
    (hb : (n + m) * bytes ≤ 140737488355328)
    (h : ∀ v' w', Mem fp w0 (Row e size v' (n + m) (cells ++ news) :: F) w' → Mut (fun k => v.ownBlock = some k) W w' → wpList P ops Q rest (a.put o.dst v') w') :
    wpList P ops Q (o :: rest) a W := by
  obtain ⟨A, c, e1, h3, h4, h5, h6⟩ := hx
  rw [e1] at hxe
  replace e1 := hxe
  cases A with
  | some ad =>
    refine wpList_app HE hgd s x ho HM hs ad m c news e1 h5 (fun j u hu => ?_) h1 hb (fun v' w' hm hmu _ => h v' w' hm hmu)
    rcases Nat.eq_zero_or_pos m with h0 | h0
    · subst h0
      rw [Nat.zero_mul] at h5
      rw [List.length_eq_zero_iff.1 h5] at hu
      cases hu
    · obtain ⟨b, o', e2, hc⟩ := h6.resolve_left (by omega)
      cases e2
      rw [add0]
      exact hc j u hu
  | none =>
    have h0 : m = 0 := by
      rcases h6 with h | ⟨b, o', e2, _⟩
      · exact h
      · cases e2
    subst h0
    rw [Nat.zero_mul] at h5
    have hn := List.length_eq_zero_iff.1 h5
    subst hn
    obtain ⟨i, z, hi, hz, h2, h3', h4'⟩ := HE.inf
    have hr : (Builtin.append_ #[t, t] o.type #[v, .slice none 0 c]).run P W = .ok v W := run_append_of_none W 0 o.type i HE.sl hi v n cells HM.head c
    refine wpList_plain hgd fun K hK => ?_
    unfold Oper.wp execOp
    simp only [ho, resolve, invoke, builtin, Sem.run_bind, Sem.run_pure, Result.andThen_ok, List.map_toArray, List.map_cons, List.map_nil, hs, e1, hr]
    exact hK _ _ (h v W (by simpa using HM) (Mut.refl _ _))
end
section
variable {P : Program} {ops : Array Oper} {rest : List Oper} {o : Oper} {a : Act} {Q : Exit → Act → World → Prop} {t bytes : Nat}
theorem wpList_appL (HE : Elem P t 9 1 bytes) (hgd : o.guard = none) (s x : Operand) (ho : o.op = .call { callee := .builtin .append, args := #[s, x], argTypes := #[t, t] })
    {fp : Nat → Prop} {w0 W : World} {F : List Chunk} {v : Value} {l : List ByteArray} (HM : Mem fp w0 (StrRow v l :: F) W) (hs : a.eval s = v)
    {m : List ByteArray} {xv : Value} (hxe : a.eval x = xv) (hx : Strs W xv m)
    (hb : (l.length + m.length) * bytes ≤ 140737488355328)
    (h : ∀ v' w', Mem fp w0 (StrRow v' (l ++ m) :: F) w' → Mut (fun k => v.ownBlock = some k) W w' → wpList P ops Q rest (a.put o.dst v') w') :
    wpList P ops Q (o :: rest) a W := by
  refine wpList_appSl HE hgd s x ho HM hs hxe hx (strs_one _) hb (fun v' w' hm hmu => h v' w' ?_ hmu)
  unfold StrRow
  rw [List.length_append, strs_append]
  exact hm
end
end Go.Proofs.Ytliglejbkpjamaa
