/-
  Layer 16 (graph): Join, plainly; rows of rules that are owned.
-/
import Derived.Test.YtliglejbkpjamaaVGrG
import Derived.Test.YtliglejbkpjamaaVForkE
set_option linter.unusedVariables false
set_option linter.unusedSimpArgs false
set_option maxRecDepth 20000
namespace Go.Proofs.Ytliglejbkpjamaa
open Go.RowKit

abbrev JS := List RuleS × List (ByteArray × Int)
/-- One target of a rule. -/
def joinT (r : RuleS) (s : JS) (t : ByteArray) : Option JS :=
  match mget s.2 t with
  | none => some (s.1 ++ [⟨[t], r.kind, r.src, r.cmd, r.at_⟩], mput s.2 t (s.1.length : Int))
  | some i => match s.1[i.toNat]? with
    | none => none
    | some y =>
      if decide (r.kind = 3) ≠ decide (y.kind = 3) then none
      else if r.kind = 3 then some (s.1 ++ [⟨[t], r.kind, r.src, r.cmd, r.at_⟩], s.2)
      else if 0 < r.cmd.length ∧ 0 < y.cmd.length ∧ classB t = 0 then none
      else some (s.1.set i.toNat ⟨y.tg, if r.kind = 2 then 2 else y.kind, y.src ++ r.src, y.cmd ++ r.cmd, y.at_⟩, s.2)
def joinTs (r : RuleS) : List ByteArray → JS → Option JS
  | [], s => some s
  | t :: ts, s => (joinT r s t).bind (joinTs r ts)
def joinRs : List RuleS → JS → Option JS
  | [], s => some s
  | r :: l, s => (joinTs r r.tg s).bind (joinRs l)
/-- The rules, joined. -/
def joinB (l : List RuleS) : Option (List RuleS) := (joinRs l ([], [])).map (·.1)
/-- What holds on the way: n targets are done, B bounds a rule's lists. -/
structure JOk (B n : Nat) (s : JS) : Prop where
  at_ : ∀ t i, mget s.2 t = some i → 0 ≤ i ∧ i.toNat < s.1.length
  len : s.1.length ≤ n
  src : ∀ y, y ∈ s.1 → y.src.length ≤ n * B ∧ y.cmd.length ≤ n * B
theorem JOk.start (B : Nat) : JOk B 0 ([], []) := ⟨fun t i h => (by cases h), Nat.le_refl _, fun y h => (by cases h)⟩
theorem joinT_ok {B n : Nat} {s s' : JS} {r : RuleS} {t : ByteArray} (h : JOk B n s) (h1 : r.src.length ≤ B) (h2 : r.cmd.length ≤ B) (e : joinT r s t = some s') : JOk B (n + 1) s' := by
  have hup : ∀ y, y ∈ s.1 → y.src.length ≤ (n + 1) * B ∧ y.cmd.length ≤ (n + 1) * B := fun y hy => by
    have := h.src y hy
    rw [Nat.add_mul]; omega
  have hnew : ∀ y, y ∈ s.1 ++ [(⟨[t], r.kind, r.src, r.cmd, r.at_⟩ : RuleS)] → y.src.length ≤ (n + 1) * B ∧ y.cmd.length ≤ (n + 1) * B := fun y hy => by
    rcases List.mem_append.1 hy with hy | hy
    · exact hup y hy
    · simp only [List.mem_singleton] at hy
      subst hy
      rw [Nat.add_mul]; simp only; omega
  unfold joinT at e
  split at e
  · cases e
    refine ⟨fun t' i hi => ?_, by have := h.len; simp; omega, hnew⟩
    simp only [mget_put] at hi
    split at hi
    · cases hi; simp
    · have := h.at_ t' i hi
      simp; omega
  · rename_i i hi
    split at e
    · cases e
    · rename_i y hy
      split at e
      · cases e
      · split at e
        · cases e
          refine ⟨fun t' i hi => ?_, by have := h.len; simp; omega, hnew⟩
          have := h.at_ t' i hi
          simp; omega
        · split at e
          · cases e
          · cases e
            refine ⟨fun t' i hi => ?_, by have := h.len; simp; omega, fun z hz => ?_⟩
            · have := h.at_ t' i hi
              simp; omega
            · rcases List.mem_or_eq_of_mem_set hz with hz | rfl
              · exact hup z hz
              · have := h.src y (List.mem_of_getElem? hy)
                simp only [List.length_append]
                rw [Nat.add_mul]; omega

/-- A rule of an own row: its cells' slices. -/
structure RX where
  TV : Value
  SV : Value
  CV : Value
  r : RuleS
def RX.cells (x : RX) : List Value := [x.TV, .int .i64 x.r.kind, x.SV, x.CV, .int .i64 x.r.at_]
def RX.own (x : RX) : List Chunk := [StrRow x.TV x.r.tg, StrRow x.SV x.r.src, StrRow x.CV x.r.cmd]
def Cls (xs : List RX) : List Chunk := xs.flatMap RX.own
abbrev RRow (V : Value) (xs : List RX) : Chunk := Row 25 5 V xs.length (xs.flatMap RX.cells)
section
variable {α β : Type}
theorem flat_get (f : α → List β) (n : Nat) (hf : ∀ x, (f x).length = n) : ∀ (xs : List α) (i : Nat) (hi : i < xs.length) (j : Nat), j < n → (xs.flatMap f)[i * n + j]? = (f xs[i])[j]?
  | x :: xs, 0, _, j, hj => by
    rw [List.flatMap_cons, Nat.zero_mul, Nat.zero_add, List.getElem?_append_left (by rw [hf]; exact hj)]; rfl
  | x :: xs, i + 1, hi, j, hj => by
    rw [List.flatMap_cons, List.getElem?_append_right (by rw [hf, Nat.add_mul]; omega), hf]
    rw [show (i + 1) * n + j - n = i * n + j from by rw [Nat.add_mul]; omega]
    exact flat_get f n hf xs i (by simpa using hi) j hj
theorem flat_set (f : α → List β) (n : Nat) (hf : ∀ x, (f x).length = n) : ∀ (xs : List α) (i : Nat) (hi : i < xs.length) (j : Nat) (u : β) (y : α), j < n → f y = (f xs[i]).set j u → (xs.flatMap f).set (i * n + j) u = (xs.set i y).flatMap f
  | x :: xs, 0, _, j, u, y, hj, e => by
    rw [List.flatMap_cons, Nat.zero_mul, Nat.zero_add, List.set_append_left _ _ (by rw [hf]; exact hj), List.set_cons_zero, List.flatMap_cons, e]; rfl
  | x :: xs, i + 1, hi, j, u, y, hj, e => by
    rw [List.flatMap_cons, List.set_append_right _ _ (by rw [hf, Nat.add_mul]; omega), hf]
    rw [show (i + 1) * n + j - n = i * n + j from by rw [Nat.add_mul]; omega]
    rw [flat_set f n hf xs i (by simpa using hi) j u y hj e, List.set_cons_succ, List.flatMap_cons]
theorem flat_len (f : α → List β) (n : Nat) (hf : ∀ x, (f x).length = n) : ∀ (xs : List α), (xs.flatMap f).length = xs.length * n
  | [] => by simp
  | x :: xs => by rw [List.flatMap_cons, List.length_append, hf, flat_len f n hf xs, List.length_cons, Nat.add_mul]; omega
theorem flat_out (f : α → List β) : ∀ (xs : List α) (i : Nat) (hi : i < xs.length), (xs.flatMap f).Perm (f xs[i] ++ (xs.eraseIdx i).flatMap f)
  | x :: xs, 0, _ => by rw [List.flatMap_cons]; exact .refl _
  | x :: xs, i + 1, hi => by
    rw [List.flatMap_cons, List.eraseIdx_cons_succ, List.flatMap_cons]
    refine ((flat_out f xs i (by simpa using hi)).append_left _).trans ?_
    exact List.perm_append_comm_assoc _ _ _
theorem flat_in (f : α → List β) : ∀ (xs : List α) (i : Nat) (hi : i < xs.length) (y : α), (f y ++ (xs.eraseIdx i).flatMap f).Perm ((xs.set i y).flatMap f)
  | x :: xs, 0, _, y => by rw [List.set_cons_zero, List.flatMap_cons]; exact .refl _
  | x :: xs, i + 1, hi, y => by
    rw [List.set_cons_succ, List.flatMap_cons, List.eraseIdx_cons_succ, List.flatMap_cons]
    exact (List.perm_append_comm_assoc _ _ _).trans ((flat_in f xs i (by simpa using hi) y).append_left _)
end
theorem RX.len (x : RX) : x.cells.length = 5 := rfl
theorem rx_len (xs : List RX) : (xs.flatMap RX.cells).length = xs.length * 5 := flat_len _ _ RX.len xs
/-- An own row of rules reads as rules. -/
theorem Mem.rules {fp : Nat → Prop} {w0 w : World} {V : Value} {xs : List RX} {F : List Chunk} (h : Mem fp w0 (RRow V xs :: (Cls xs ++ F)) w) : Rules w V (xs.map RX.r) := by
  have h0 : Sl w V 5 xs.length (xs.flatMap RX.cells) := Row.sl h.head
  refine ⟨xs.flatMap RX.cells, by rw [List.length_map]; exact h0, fun i hi => ?_⟩
  rw [List.length_map] at hi
  have hm := h.tail.perm ((flat_out RX.own xs i hi).append_right F)
  have e : ((xs.flatMap RX.cells).drop (i * 5)).take 5 = xs[i].cells := by
    refine List.ext_getElem? fun j => ?_
    rw [List.getElem?_take]
    split
    · rename_i hj
      rw [List.getElem?_drop, flat_get RX.cells 5 RX.len xs i hi j hj]
    · rename_i hj
      rw [List.getElem?_eq_none (by rw [RX.len]; omega)]
  rw [e, List.getElem_map]
  exact ⟨xs[i].TV, xs[i].SV, xs[i].CV, rfl, Row.sl (hm.at_ 0 rfl), Row.sl (hm.at_ 1 rfl), Row.sl (hm.at_ 2 rfl)⟩
end Go.Proofs.Ytliglejbkpjamaa
