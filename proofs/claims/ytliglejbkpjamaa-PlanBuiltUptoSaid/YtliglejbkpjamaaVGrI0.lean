/-
  Layer 16 (graph): Clone of texts; what the walk of Join wants.
-/
import Derived.Test.YtliglejbkpjamaaVGrH
set_option linter.unusedVariables false
set_option linter.unusedSimpArgs false
set_option maxRecDepth 100000
namespace Go.Proofs.Ytliglejbkpjamaa
open Go.RowKit

theorem ownsRow_row {w : World} {B e size n : Nat} {v : Value} {cells : List Value} (h : w.ownsRow B e size v n cells) : (Row e size v n cells).ok w ∧ ∀ b, (Row e size v n cells).fp b → B ≤ b := by
  obtain ⟨h1, h2⟩ := h
  refine ⟨⟨h1, h2.imp id ?_⟩, ?_⟩
  · rintro ⟨g, cap, cur, rfl, hg, r⟩
    exact ⟨g, cap, cur, rfl, Nat.zero_le _, r⟩
  · intro b hb
    rcases h2 with ⟨rfl, _⟩ | ⟨g, cap, cur, rfl, hg, _⟩
    · cases hb
    · have e : some g = some b := hb
      cases e
      exact hg
theorem clone_calls (V : Value) (l : List ByteArray) (w : World) (hV : Strs w V l) (hb : l.length * 16 ≤ 140737488355328) :
    Calls Try.prog 29 #[V] w fun e w' => ∃ v, e = .returned v ∧ Mem none_ w [StrRow v l] w' := by
  have fin : ∀ {v w'}, w'.ownsRow w.heap.size 9 1 v l.length (strs l) → Below w.heap.size w w' → Mem none_ w [StrRow v l] w' := fun h1 h2 => by
    obtain ⟨a, b⟩ := ownsRow_row h1
    exact Mem.new (Mem.start w) (Mut.of_below h2) a b
  obtain ⟨A, c, rfl, h1, h2, h3, h4⟩ := hV
  rcases A with _ | a
  · have hl : l = [] := by
      rcases h4 with h4 | ⟨b, o, e, _⟩
      · exact List.length_eq_zero_iff.1 h4
      · cases e
    subst hl
    refine (Try.slices_Clone_string_nil 0 c w).mono ?_
    rintro e w' ⟨rfl, rfl⟩
    exact ⟨_, rfl, (Mem.start _).nilS⟩
  · by_cases h0 : l.length = 0
    · have hl : l = [] := List.length_eq_zero_iff.1 h0
      subst hl
      refine (Try.slices_Clone_string_zero a c w).mono ?_
      rintro e w' ⟨v, rfl, h5, _, h6⟩
      exact ⟨_, rfl, fin h5 h6⟩
    · obtain ⟨b, o, e, hc⟩ := h4.resolve_left h0
      cases e
      refine (Try.slices_Clone_string b o l.length c l w (Nat.le_refl _) hb (fun j hj => ?_)).mono ?_
      · rw [List.getD_eq_getElem?_getD, List.getElem?_eq_getElem hj]
        exact hc j _ (strs_get hj)
      · rintro e w' ⟨v, rfl, h5, _, h6⟩
        rw [List.take_length] at h5
        exact ⟨_, rfl, fin h5 h6⟩
theorem zeroJ : ∀ w, (zeroValue 3).run Try.prog w = .ok (.int .i64 0) w := fun w => by kernel_rfl
theorem tmp_of {a : Act} {j : Nat} {v : Value} (h : a.eval (.tmp j) = v) : a.tmps[j]?.getD undef = v := by
  unfold Act.eval at h
  simpa [Array.getD_eq_getD_getElem?] using h
theorem flat_same {α β : Type} (f : α → List β) : ∀ (xs : List α) (i : Nat), i < xs.length → ∀ {a b : α}, f a = f b → (xs.set i a).flatMap f = (xs.set i b).flatMap f
  | x :: xs, 0, _, a, b, h => by rw [List.set_cons_zero, List.set_cons_zero, List.flatMap_cons, List.flatMap_cons, h]
  | x :: xs, i + 1, hi, a, b, h => by rw [List.set_cons_succ, List.set_cons_succ, List.flatMap_cons, List.flatMap_cons, flat_same f xs i (by simpa using hi) h]
theorem push_ok {fp : Nat → Prop} {w0 w : World} {v' : Value} {xs : List RX} {x : RX} {M F1 F2 : Chunk} (h : Mem fp w0 ([Row 25 5 v' (xs.length + 1) (xs.flatMap RX.cells ++ x.cells), M, F1, F2] ++ (x.own ++ Cls xs)) w) :
    Mem fp w0 ([RRow v' (xs ++ [x]), M, F1, F2] ++ Cls (xs ++ [x])) w := by
  have e1 : RRow v' (xs ++ [x]) = Row 25 5 v' (xs.length + 1) (xs.flatMap RX.cells ++ x.cells) := by
    unfold RRow
    rw [List.length_append, List.flatMap_append, List.flatMap_singleton]; rfl
  have e2 : Cls (xs ++ [x]) = Cls xs ++ x.own := by unfold Cls; rw [List.flatMap_append, List.flatMap_singleton]
  rw [e1, e2]
  exact h.perm ((List.perm_append_comm (l₁ := x.own) (l₂ := Cls xs)).append_left _)
/-- A rule of the row has more, and may be of another kind. -/
theorem merge_ok {fp : Nat → Prop} {w0 w : World} {V : Value} {xs : List RX} {y : RX} {q : Nat} {kd : Int} {s' c' : List ByteArray} {S' C' : Value} {cells : List Value} {M F1 F2 : Chunk} (hq : q < xs.length) (hy : xs[q] = y)
    (hc : (kd = y.r.kind ∧ cells = ((xs.flatMap RX.cells).set (q * 5 + 2) S').set (q * 5 + 3) C') ∨ ∃ k', kd = k' ∧ cells = (((xs.flatMap RX.cells).set (q * 5 + 2) S').set (q * 5 + 3) C').set (q * 5 + 1) (.int .i64 k'))
    (h : Mem fp w0 ([Row 25 5 V xs.length cells, M, F1, F2, StrRow y.TV y.r.tg, StrRow S' s', StrRow C' c'] ++ Cls (xs.eraseIdx q)) w) :
    Mem fp w0 ([RRow V (xs.set q ⟨y.TV, S', C', ⟨y.r.tg, kd, s', c', y.r.at_⟩⟩), M, F1, F2] ++ Cls (xs.set q ⟨y.TV, S', C', ⟨y.r.tg, kd, s', c', y.r.at_⟩⟩)) w := by
  have e1 : cells = (xs.set q ⟨y.TV, S', C', ⟨y.r.tg, kd, s', c', y.r.at_⟩⟩).flatMap RX.cells := by
    have a1 := flat_set RX.cells 5 RX.len xs q hq 2 S' ⟨y.TV, S', y.CV, y.r⟩ (by decide) (by rw [hy]; rfl)
    have a2 := flat_set RX.cells 5 RX.len (xs.set q ⟨y.TV, S', y.CV, y.r⟩) q (by simpa using hq) 3 C' ⟨y.TV, S', C', y.r⟩ (by decide) (by rw [List.getElem_set_self]; rfl)
    rw [a1, a2, List.set_set] at hc
    rcases hc with ⟨rfl, rfl⟩ | ⟨k', rfl, rfl⟩
    · exact (flat_same RX.cells xs q hq rfl)
    · have a3 := flat_set RX.cells 5 RX.len (xs.set q ⟨y.TV, S', C', y.r⟩) q (by simpa using hq) 1 (.int .i64 kd) ⟨y.TV, S', C', ⟨y.r.tg, kd, s', c', y.r.at_⟩⟩ (by decide) (by rw [List.getElem_set_self]; rfl)
      rw [a3, List.set_set]
  have e2 : RRow V (xs.set q ⟨y.TV, S', C', ⟨y.r.tg, kd, s', c', y.r.at_⟩⟩) = Row 25 5 V xs.length cells := by
    unfold RRow
    rw [← e1, List.length_set]
  rw [e2]
  have hp := flat_in RX.own xs q hq ⟨y.TV, S', C', ⟨y.r.tg, kd, s', c', y.r.at_⟩⟩
  exact h.perm (hp.append_left [Row 25 5 V xs.length cells, M, F1, F2])
theorem joinT_at {r : RuleS} {t : ByteArray} {xs : List RX} {m : List (ByteArray × Int)} {q : Nat} (hg : mget m t = some (q : Int)) (hq : q < xs.length) {y : RX} (hy : xs[q] = y) :
    joinT r (xs.map RX.r, m) t = if decide (r.kind = 3) ≠ decide (y.r.kind = 3) then none else if r.kind = 3 then some (xs.map RX.r ++ [⟨[t], r.kind, r.src, r.cmd, r.at_⟩], m) else if 0 < r.cmd.length ∧ 0 < y.r.cmd.length ∧ classB t = 0 then none
      else some ((xs.map RX.r).set q ⟨y.r.tg, if r.kind = 2 then 2 else y.r.kind, y.r.src ++ r.src, y.r.cmd ++ r.cmd, y.r.at_⟩, m) := by
  unfold joinT
  simp only [hg, Int.toNat_natCast]
  rw [List.getElem?_map, List.getElem?_eq_getElem hq, hy]
  rfl
def pb : Value → Nat | .pointer (some a) => a.block | _ => 0
theorem joinRs_drop (l : List RuleS) (k : Nat) (s : JS) (h : k < l.length) : joinRs (l.drop k) s = (joinTs l[k] l[k].tg s).bind (joinRs (l.drop (k + 1))) := by
  rw [List.drop_eq_getElem_cons h]; rfl
theorem joinTs_drop (r : RuleS) (k : Nat) (s : JS) (h : k < r.tg.length) : joinTs r (r.tg.drop k) s = (joinT r s r.tg[k]).bind (joinTs r (r.tg.drop (k + 1))) := by
  rw [List.drop_eq_getElem_cons h]; rfl
theorem ruleE : Elem Try.prog 22 25 5 88 := Elem.of (z := .agg #[.slice none 0 0, .int .i64 0, .slice none 0 0, .slice none 0 0, .int .i64 0]) Try.underlying22 (by kernel_rfl) rfl (by decide) (by decide)
/-- One more rule. -/
theorem Cls_snoc (xs : List RX) (x : RX) : Cls (xs ++ [x]) = Cls xs ++ x.own := by simp [Cls]
theorem join_step {RS : Option JS} {r : RuleS} {s s' : JS} {t : ByteArray} {ts : List ByteArray} {rest : List RuleS} (h : RS = ((joinT r s t).bind (joinTs r ts)).bind (joinRs rest)) (e : joinT r s t = some s') : RS = (joinTs r ts s').bind (joinRs rest) := by rw [h, e]; rfl
theorem join_fault {RS : Option JS} {r : RuleS} {s : JS} {t : ByteArray} {ts : List ByteArray} {rest : List RuleS} (h : RS = ((joinT r s t).bind (joinTs r ts)).bind (joinRs rest)) (e : joinT r s t = none) : RS = none := by rw [h, e]; rfl
structure JBd (B N n more : Nat) (s : JS) : Prop where
  ok : JOk B n s
  sum : n + more ≤ N
theorem merge_len {B N n more q : Nat} {xs : List RX} {m : List (ByteArray × Int)} {r yr : RuleS} (h : JBd B N n more (xs.map RX.r, m)) (hBN : N * B ≤ 4398046511104) (hq : q < xs.length) (hy : xs[q].r = yr) (h1 : r.src.length * 16 ≤ 70368744177664) (h2 : r.cmd.length * 16 ≤ 70368744177664) :
    yr.src.length + r.src.length ≤ 8796093022208 ∧ yr.cmd.length + r.cmd.length ≤ 8796093022208 := by
  have h3 := h.ok.src yr (List.mem_map.2 ⟨xs[q], List.getElem_mem hq, hy⟩)
  have h4 : n * B ≤ N * B := Nat.mul_le_mul_right _ (by have := h.sum; omega)
  omega
theorem JBd.step {B N n a c j : Nat} {r : RuleS} {s s' : JS} {t : ByteArray} (h : JBd B N n (a - j + c) s) (hj : j < a) (e : joinT r s t = some s') (hb : r.src.length ≤ B ∧ r.cmd.length ≤ B) : JBd B N (n + 1) (a - (j + 1) + c) s' :=
  ⟨joinT_ok h.ok hb.1 hb.2 e, by have := h.sum; omega⟩
theorem build1s_run {a : Act} {w : World} {t : ByteArray} {j : Nat} (e1 : a.eval (.tmp j) = .string t) (o : Oper) (ho : o.op = .buildSlice 23 1 #[(0, .tmp j)]) :
    (execOp a.eval o).run Try.prog w = .ok (.value (.slice (some ⟨w.heap.size, 0, none⟩) 1 1)) (w.alloc (.cells #[.string t] 9)) := by
  have e2 : a.tmps[j]?.getD undef = .string t := by
    have := e1
    unfold Act.eval at this
    simpa [Array.getD_eq_getD_getElem?] using this
  clear e1
  unfold execOp
  rw [ho]
  go_simp
end Go.Proofs.Ytliglejbkpjamaa
