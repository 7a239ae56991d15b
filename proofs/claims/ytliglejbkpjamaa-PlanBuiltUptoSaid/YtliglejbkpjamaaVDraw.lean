/-
  A region that draws its order, walked once by a plan: what yields in every world or under S is taken first, the rest comes up one by one.
-/
import Derived.Test.YtliglejbkpjamaaVBase
import Derived.Test.YtliglejbkpjamaaWLast
set_option linter.unusedVariables false
set_option linter.unusedSimpArgs false
namespace Go.Proofs.Ytliglejbkpjamaa
open Go.RowKit Go.Proofs.YtliglejbkpjamaaW.PrintLast

inductive PK where
  | pure | load | eff | tail
  deriving DecidableEq

def planB (ops : Array Oper) (ds : List Nat) : List (PK × Nat) → Array Bool → Bool
  | [], l => Region.ready .any ops l == []
  | (.pure, i) :: r, l => ((ops[i]?).bind (·.dst)).isSome && Region.free .any ops l i && (Region.ready .any ops l).contains i && planB ops ds r (l.setIfInBounds i true)
  | (.load, i) :: r, l => ((ops[i]?).bind (·.dst)).isSome && Region.free .any ops l i && (Region.ready .any ops l).contains i && Region.closedB .any ops l && Region.lastB .any ops l ds i && planB ops ds r (l.setIfInBounds i true)
  | (.eff, i) :: r, l => (Region.ready .any ops l == [i]) && !ds.contains i && planB ops ds r (l.setIfInBounds i true)
  | (.tail, i) :: r, l => (Region.ready .any ops l == [i]) && ds.contains i && (r.all fun p => p.1 == .tail || p.1 == .pure) && planB ops ds r (l.setIfInBounds i true)

def wpPlan (P : Program) (ops : Array Oper) (S : World → Prop) (Q : Exit → Act → World → Prop) : List (PK × Nat) → Act → World → Prop
  | [], a, w => Q .normal a w
  | (.pure, i) :: r, a, w => ∃ o v, ops[i]? = some o ∧ Yields P ops o v a ∧ wpPlan P ops S Q r (a.put o.dst v) w
  | (.load, i) :: r, a, w => ∃ o v, ops[i]? = some o ∧ YieldsIf P ops S o v a ∧ wpPlan P ops S Q r (a.put o.dst v) w
  | (.eff, i) :: r, a, w => ∃ o, ops[i]? = some o ∧ wpList P ops (Exit.then (fun a' w' => S w' ∧ wpPlan P ops S Q r a' w') Q) [o] a w
  | (.tail, i) :: r, a, w => ∃ o, ops[i]? = some o ∧ wpList P ops (Exit.then (fun a' w' => wpPlan P ops S Q r a' w') Q) [o] a w

section
variable {P : Program} {ops : Array Oper} {Q : Exit → Act → World → Prop} {S : World → Prop} {ds : List Nat}

theorem upon_then {o : Oper} {K : Act → World → Prop} {a : Act} {r : Result Next} (h : o.upon P a K (Exit.then K Q) r) : o.upon P a K Q r := by
  cases r with
  | ok n w' => cases n <;> exact h
  | halt hh w' => cases hh <;> exact h
theorem wpOp_of_list {o : Oper} {i : Nat} (hi : ops[i]? = some o) {K K' : Act → World → Prop} (hK : ∀ a w, K a w → K' a w) {a : Act} {w : World}
    (h : wpList P ops (Exit.then K Q) [o] a w) : wpOp P ops Q i K' a w := by
  refine wpOp_mono hK ?_
  unfold wpOp
  rw [hi]
  unfold wpList at h
  simp only
  split at h
  · rename_i hw
    rw [if_pos hw]
    rcases h with h | ⟨h1, h2⟩
    · exact .inl (upon_then h)
    · exact .inr ⟨h1, h2⟩
  · rename_i hw
    rw [if_neg hw]
    exact h

theorem plan_sound (hs : Region.noSelect ops = true) (hQ : ∀ c (a : Act) w n v, Q (.panic c) (a.put (some n) v) w → Q (.panic c) a w) : ∀ (plan : List (PK × Nat)) (l : Array Bool) (a : Act) (w : World), planB ops ds plan l = true → ((∀ p, p ∈ plan → p.1 = .tail ∨ p.1 = .pure) ∨ S w) → wpPlan P ops S Q plan a w → wpAnyLast P .any ops Q S ds plan.length l a w
  | [], l, a, w, hB, _, h => by
    refine wpAnyLast_done ?_ h _
    simpa [planB] using hB
  | (.pure, i) :: r, l, a, w, hB, hS, h => by
    obtain ⟨o, v, hi, hy, h⟩ := h
    simp only [planB, Bool.and_eq_true] at hB
    obtain ⟨⟨⟨h0, h1⟩, h2⟩, h3⟩ := hB
    rw [hi] at h0
    obtain ⟨N, hN⟩ := Option.isSome_iff_exists.1 h0
    have hN' : o.dst = some N := hN
    refine pure_ (l.setIfInBounds i true) hi rfl (by simp only [anyB, hs, h1, h2, Bool.and_true, beq_self_eq_true]) (fun c a w => by rw [hN']; exact hQ c a w _ _) hy rfl (plan_sound hs hQ r _ _ w h3 ?_ h)
    exact hS.imp (fun h p hp => h p (List.mem_cons_of_mem _ hp)) id
  | (.load, i) :: r, l, a, w, hB, hS, h => by
    obtain ⟨o, v, hi, hy, h⟩ := h
    simp only [planB, Bool.and_eq_true] at hB
    obtain ⟨⟨⟨⟨⟨h0, h1⟩, h2⟩, h3⟩, h4⟩, h5⟩ := hB
    rw [hi] at h0
    obtain ⟨N, hN⟩ := Option.isSome_iff_exists.1 h0
    have hN' : o.dst = some N := hN
    have hS' : S w := hS.resolve_left (fun h => by rcases h _ (List.mem_cons_self ..) with h | h <;> cases h)
    exact take_ (l.setIfInBounds i true) hi rfl (by simp only [takeB, hs, h1, h2, h3, h4, Bool.and_true, beq_self_eq_true]) (fun c a w => by rw [hN']; exact hQ c a w _ _) hy hS' rfl (plan_sound hs hQ r _ _ w h5 (.inr hS') h)
  | (.eff, i) :: r, l, a, w, hB, hS, h => by
    obtain ⟨o, hi, h⟩ := h
    simp only [planB, Bool.and_eq_true, beq_iff_eq, Bool.not_eq_true', List.contains_eq_mem, decide_eq_false_iff_not] at hB
    obtain ⟨⟨h1, h2⟩, h3⟩ := hB
    refine wpAnyLast_all h1 (by simp) (fun j hj => ?_)
    simp only [List.mem_singleton] at hj
    subst hj
    exact wpOp_of_list hi (fun a' w' hk => ⟨fun _ _ => hk.1, plan_sound hs hQ r _ a' w' h3 (.inr hk.1) hk.2⟩) h
  | (.tail, i) :: r, l, a, w, hB, hS, h => by
    obtain ⟨o, hi, h⟩ := h
    simp only [planB, Bool.and_eq_true, beq_iff_eq, List.contains_eq_mem, decide_eq_true_eq, List.all_eq_true, Bool.or_eq_true] at hB
    obtain ⟨⟨⟨h1, h2⟩, h4⟩, h3⟩ := hB
    refine wpAnyLast_all h1 (by simp) (fun j hj => ?_)
    simp only [List.mem_singleton] at hj
    subst hj
    exact wpOp_of_list hi (fun a' w' hk => ⟨fun hn => absurd h2 hn, plan_sound hs hQ r _ a' w' h3 (.inl h4) hk⟩) h

theorem wp_plan {id n : Nat} (ds : List Nat) (plan : List (PK × Nat)) {a : Act} {w : World} (hm : P.follows .mixedOrders = true) (hn : plan.length = ops.size) (hB : (Region.noSelect ops && planB ops ds plan (Array.replicate n false)) = true) (hnn : ops.size = n)
    (hQ : ∀ c (a : Act) w n v, Q (.panic c) (a.put (some n) v) w → Q (.panic c) a w) (hS : S w.drew) (h : wpPlan P ops S Q plan a w.drew) : (Code.region id ops true).wp P Q a w := by
  subst hnn
  rw [Bool.and_eq_true] at hB
  refine wp_region_last_drew (ds := ds) hm hS fun hS' => ?_
  rw [← hn]
  refine plan_sound (ds := ds) hB.1 hQ plan _ a _ ?_ (.inr hS') h
  rw [hn]
  exact hB.2

theorem plan_pure {i N : Nat} {r : List (PK × Nat)} {o : Oper} {v : Value} {a a' : Act} {w : World} (hi : ops[i]? = some o) (hN : o.dst = some N) (hw : Region.wanted o (yielded ops a.tmps) = true) (hrun : ∀ w, (execOp a.eval o).run P w = .ok (.value v) w) (ha : a.put (some N) v = a')
    (h : wpPlan P ops S Q r a' w) : wpPlan P ops S Q ((.pure, i) :: r) a w := ⟨o, v, hi, .inl ⟨hw, hrun⟩, by rw [hN, ha]; exact h⟩
theorem plan_load {i N : Nat} {r : List (PK × Nat)} {o : Oper} {v : Value} {a a' : Act} {w : World} (hi : ops[i]? = some o) (hN : o.dst = some N) (hw : Region.wanted o (yielded ops a.tmps) = true) (hrun : ∀ w, S w → (execOp a.eval o).run P w = .ok (.value v) w) (ha : a.put (some N) v = a')
    (h : wpPlan P ops S Q r a' w) : wpPlan P ops S Q ((.load, i) :: r) a w := ⟨o, v, hi, .inl ⟨hw, hrun⟩, by rw [hN, ha]; exact h⟩
theorem plan_skip {i N : Nat} {r : List (PK × Nat)} {o : Oper} {a a' : Act} {w : World} (hi : ops[i]? = some o) (hN : o.dst = some N) (hw : Region.wanted o (yielded ops a.tmps) = false) (ha : a.put (some N) undef = a')
    (h : wpPlan P ops S Q r a' w) : wpPlan P ops S Q ((.pure, i) :: r) a w := ⟨o, undef, hi, .inr ⟨hw, rfl⟩, by rw [hN, ha]; exact h⟩
theorem plan_skipL {i N : Nat} {r : List (PK × Nat)} {o : Oper} {a a' : Act} {w : World} (hi : ops[i]? = some o) (hN : o.dst = some N) (hw : Region.wanted o (yielded ops a.tmps) = false) (ha : a.put (some N) undef = a')
    (h : wpPlan P ops S Q r a' w) : wpPlan P ops S Q ((.load, i) :: r) a w := ⟨o, undef, hi, .inr ⟨hw, rfl⟩, by rw [hN, ha]; exact h⟩
theorem plan_eff {i : Nat} {r : List (PK × Nat)} {o : Oper} {a : Act} {w : World} (hi : ops[i]? = some o) (h : ∀ K : Act → World → Prop, (∀ a' w', S w' → wpPlan P ops S Q r a' w' → K a' w') → wpList P ops (Exit.then K Q) [o] a w) : wpPlan P ops S Q ((.eff, i) :: r) a w :=
  ⟨o, hi, h _ fun _ _ h1 h2 => ⟨h1, h2⟩⟩
theorem plan_tail {i : Nat} {r : List (PK × Nat)} {o : Oper} {a : Act} {w : World} (hi : ops[i]? = some o) (h : ∀ K : Act → World → Prop, (∀ a' w', wpPlan P ops S Q r a' w' → K a' w') → wpList P ops (Exit.then K Q) [o] a w) : wpPlan P ops S Q ((.tail, i) :: r) a w :=
  ⟨o, hi, h _ fun _ _ h2 => h2⟩
theorem plan_done {a : Act} {w : World} (h : Q .normal a w) : wpPlan P ops S Q [] a w := h
end
end Go.Proofs.Ytliglejbkpjamaa
