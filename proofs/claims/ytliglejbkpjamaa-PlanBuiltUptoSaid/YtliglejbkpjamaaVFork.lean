/-
  A region that draws its order, where several effects are free at once: what reads is taken ahead, each effect that is free is taken in turn.
-/
import Derived.Test.YtliglejbkpjamaaVDraw
import Derived.Test.YtliglejbkpjamaaVHeap
set_option linter.unusedVariables false
set_option linter.unusedSimpArgs false
namespace Go.Proofs.Ytliglejbkpjamaa
open Go.RowKit Go.Proofs.YtliglejbkpjamaaW.PrintLast

/-- Which of m operations are done. -/
def Dn (m : Nat) (done : List Nat) : Array Bool := ((List.range m).map (fun i => done.contains i)).toArray

section
variable {P : Program} {ops : Array Oper} {Q : Exit → Act → World → Prop} {S : World → Prop} {ds : List Nat}
/-- What is left of a region of m operations: k of them, those of done are done. -/
def Left (P : Program) (ops : Array Oper) (Q : Exit → Act → World → Prop) (S : World → Prop) (ds : List Nat) (k m : Nat) (done : List Nat) (a : Act) (w : World) : Prop := wpAnyLast P .any ops Q S ds k (Dn m done) a w
theorem lf_start {id : Nat} {a : Act} {w : World} (S : World → Prop) (ds : List Nat) (m : Nat) (hm : P.follows .mixedOrders = true) (hn : ops.size = m) (hl : (Array.replicate m false == Dn m []) = true) (hS : S w.drew)
    (h : Left P ops Q S ds m m [] a w.drew) : (Code.region id ops true).wp P Q a w :=
  wp_region_last_drew (ds := ds) hm hS fun _ => by rw [hn, eq_of_beq hl]; exact h
def stepB (ops : Array Oper) (k m i : Nat) (done : List Nat) : Bool := (Dn m done).setIfInBounds i true == Dn m (i :: done)
theorem lf_one {k m : Nat} {done : List Nat} {a : Act} {w : World} (j : Nat) {o : Oper} (hB : (Region.ready .any ops (Dn m done) == [j] && stepB ops k m j done) = true) (hi : ops[j]? = some o)
    (h : ∀ K : Act → World → Prop, (∀ a' w', (ds.contains j = false → S w → S w') → Left P ops Q S ds k m (j :: done) a' w' → K a' w') → wpList P ops (Exit.then K Q) [o] a w) : Left P ops Q S ds (k + 1) m done a w := by
  rw [Bool.and_eq_true] at hB
  refine wpAnyLast_all (eq_of_beq hB.1) (by simp) (fun j' hj => ?_)
  rw [List.mem_singleton.1 hj]
  refine wpOp_of_list hi (fun a' w' hk => hk) (h (fun a' w' => (j ∉ ds → S w → S w') ∧ wpAnyLast P .any ops Q S ds k ((Dn m done).setIfInBounds j true) a' w') (fun a' w' h1 h2 => ⟨fun hn => h1 (by simpa using hn), ?_⟩))
  have e : (Dn m done).setIfInBounds j true = Dn m (j :: done) := eq_of_beq hB.2
  rw [e]; exact h2
theorem lf_two {k m : Nat} {done : List Nat} {a : Act} {w : World} (i j : Nat) {oi oj : Oper} (hB : (Region.ready .any ops (Dn m done) == [i, j] && stepB ops k m i done && stepB ops k m j done) = true) (hi : ops[i]? = some oi) (hj : ops[j]? = some oj)
    (h1 : ∀ K : Act → World → Prop, (∀ a' w', (ds.contains i = false → S w → S w') → Left P ops Q S ds k m (i :: done) a' w' → K a' w') → wpList P ops (Exit.then K Q) [oi] a w)
    (h2 : ∀ K : Act → World → Prop, (∀ a' w', (ds.contains j = false → S w → S w') → Left P ops Q S ds k m (j :: done) a' w' → K a' w') → wpList P ops (Exit.then K Q) [oj] a w) : Left P ops Q S ds (k + 1) m done a w := by
  simp only [Bool.and_eq_true] at hB
  refine wpAnyLast_all (eq_of_beq hB.1.1) (by simp) (fun j' hj' => ?_)
  rcases List.mem_cons.1 hj' with e | e
  · subst e
    refine wpOp_of_list hi (fun a' w' hk => hk) (h1 (fun a' w' => (j' ∉ ds → S w → S w') ∧ wpAnyLast P .any ops Q S ds k ((Dn m done).setIfInBounds j' true) a' w') (fun a' w' h1 h2 => ⟨fun hn => h1 (by simpa using hn), ?_⟩))
    have e : (Dn m done).setIfInBounds j' true = Dn m (j' :: done) := eq_of_beq hB.1.2
    rw [e]; exact h2
  · rw [List.mem_singleton.1 e]
    refine wpOp_of_list hj (fun a' w' hk => hk) (h2 (fun a' w' => (j ∉ ds → S w → S w') ∧ wpAnyLast P .any ops Q S ds k ((Dn m done).setIfInBounds j true) a' w') (fun a' w' h1 h2 => ⟨fun hn => h1 (by simpa using hn), ?_⟩))
    have e : (Dn m done).setIfInBounds j true = Dn m (j :: done) := eq_of_beq hB.2
    rw [e]; exact h2
theorem lf_three {k m : Nat} {done : List Nat} {a : Act} {w : World} (i j l : Nat) {oi oj ol : Oper} (hB : (Region.ready .any ops (Dn m done) == [i, j, l] && stepB ops k m i done && stepB ops k m j done && stepB ops k m l done) = true) (hi : ops[i]? = some oi) (hj : ops[j]? = some oj) (hl : ops[l]? = some ol)
    (h1 : ∀ K : Act → World → Prop, (∀ a' w', (ds.contains i = false → S w → S w') → Left P ops Q S ds k m (i :: done) a' w' → K a' w') → wpList P ops (Exit.then K Q) [oi] a w)
    (h2 : ∀ K : Act → World → Prop, (∀ a' w', (ds.contains j = false → S w → S w') → Left P ops Q S ds k m (j :: done) a' w' → K a' w') → wpList P ops (Exit.then K Q) [oj] a w)
    (h3 : ∀ K : Act → World → Prop, (∀ a' w', (ds.contains l = false → S w → S w') → Left P ops Q S ds k m (l :: done) a' w' → K a' w') → wpList P ops (Exit.then K Q) [ol] a w) : Left P ops Q S ds (k + 1) m done a w := by
  simp only [Bool.and_eq_true] at hB
  refine wpAnyLast_all (eq_of_beq hB.1.1.1) (by simp) (fun j' hj' => ?_)
  rcases List.mem_cons.1 hj' with e | e
  · subst e
    refine wpOp_of_list hi (fun a' w' hk => hk) (h1 (fun a' w' => (j' ∉ ds → S w → S w') ∧ wpAnyLast P .any ops Q S ds k ((Dn m done).setIfInBounds j' true) a' w') (fun a' w' h1 h2 => ⟨fun hn => h1 (by simpa using hn), ?_⟩))
    have e : (Dn m done).setIfInBounds j' true = Dn m (j' :: done) := eq_of_beq hB.1.1.2
    rw [e]; exact h2
  rcases List.mem_cons.1 e with e | e
  · subst e
    refine wpOp_of_list hj (fun a' w' hk => hk) (h2 (fun a' w' => (j' ∉ ds → S w → S w') ∧ wpAnyLast P .any ops Q S ds k ((Dn m done).setIfInBounds j' true) a' w') (fun a' w' h1 h2 => ⟨fun hn => h1 (by simpa using hn), ?_⟩))
    have e : (Dn m done).setIfInBounds j' true = Dn m (j' :: done) := eq_of_beq hB.1.2
    rw [e]; exact h2
  · rw [List.mem_singleton.1 e]
    refine wpOp_of_list hl (fun a' w' hk => hk) (h3 (fun a' w' => (l ∉ ds → S w → S w') ∧ wpAnyLast P .any ops Q S ds k ((Dn m done).setIfInBounds l true) a' w') (fun a' w' h1 h2 => ⟨fun hn => h1 (by simpa using hn), ?_⟩))
    have e : (Dn m done).setIfInBounds l true = Dn m (l :: done) := eq_of_beq hB.2
    rw [e]; exact h2
theorem lf_end {k m : Nat} {done : List Nat} {a : Act} {w : World} (hB : (Region.ready .any ops (Dn m done) == []) = true) (h : Q .normal a w) : Left P ops Q S ds k m done a w := wpAnyLast_done (eq_of_beq hB) h _
/-- All ways come to the same. -/
theorem lf_via {α : Type} {k m k' : Nat} {done done' : List Nat} {a : Act} {w : World} (R : α → World → Prop) (f : α → Act) (h1 : (∀ x W, R x W → Left P ops Q S ds k' m done' (f x) W) → Left P ops Q S ds k m done a w) (h2 : ∀ x W, R x W → Left P ops Q S ds k' m done' (f x) W) : Left P ops Q S ds k m done a w := h1 h2
/-- The order in which they came to be done tells nothing. -/
theorem lf_same {k m : Nat} {done done' : List Nat} {a : Act} {w : World} (hB : (Dn m done == Dn m done') = true) (h : Left P ops Q S ds k m done' a w) : Left P ops Q S ds k m done a w := by
  unfold Left
  rw [eq_of_beq hB]; exact h

/-- What reads, taken ahead. -/
def preB (ops : Array Oper) (ds : List Nat) (m : Nat) : List (PK × Nat) → List Nat → List Nat → Bool
  | [], done, fin => done == fin
  | (.pure, i) :: r, done, fin => ((ops[i]?).bind (·.dst)).isSome && Region.free .any ops (Dn m done) i && (Region.ready .any ops (Dn m done)).contains i && stepB ops 0 m i done && preB ops ds m r (i :: done) fin
  | (_, i) :: r, done, fin => ((ops[i]?).bind (·.dst)).isSome && Region.free .any ops (Dn m done) i && (Region.ready .any ops (Dn m done)).contains i && Region.closedB .any ops (Dn m done) && Region.lastB .any ops (Dn m done) ds i && stepB ops 0 m i done && preB ops ds m r (i :: done) fin
def wpPre (P : Program) (ops : Array Oper) (S : World → Prop) (fin : Act → Prop) : List (PK × Nat) → Act → Prop
  | [], a => fin a
  | (.pure, i) :: r, a => ∃ o v, ops[i]? = some o ∧ Yields P ops o v a ∧ wpPre P ops S fin r (a.put o.dst v)
  | (_, i) :: r, a => ∃ o v, ops[i]? = some o ∧ YieldsIf P ops S o v a ∧ wpPre P ops S fin r (a.put o.dst v)
theorem pre_sound (hs : Region.noSelect ops = true) (hQ : ∀ c (a : Act) w n v, Q (.panic c) (a.put (some n) v) w → Q (.panic c) a w) {m k : Nat} {fin : List Nat} {w : World} (hS : S w) : ∀ (plan : List (PK × Nat)) (done : List Nat) (a : Act), preB ops ds m plan done fin = true →
    wpPre P ops S (fun a => Left P ops Q S ds k m fin a w) plan a → Left P ops Q S ds (k + plan.length) m done a w
  | [], done, a, hB, h => by
    have e : done = fin := eq_of_beq hB
    subst e; exact h
  | (.pure, i) :: r, done, a, hB, h => by
    obtain ⟨o, v, hi, hy, h⟩ := h
    simp only [preB, Bool.and_eq_true] at hB
    obtain ⟨⟨⟨⟨h0, h1⟩, h2⟩, h4⟩, h3⟩ := hB
    rw [hi] at h0
    obtain ⟨N, hN⟩ := Option.isSome_iff_exists.1 h0
    have hN' : o.dst = some N := hN
    have ih := pre_sound hs hQ hS r (i :: done) _ h3 h
    have h5 : ((Dn m done).setIfInBounds i true == Dn m (i :: done)) = true := h4
    exact pure_ (Dn m (i :: done)) hi rfl (by simp only [anyB, hs, h1, h2, h5, Bool.and_true]) (fun c a w => by rw [hN']; exact hQ c a w _ _) hy rfl ih
  | (.load, i) :: r, done, a, hB, h => by
    obtain ⟨o, v, hi, hy, h⟩ := h
    simp only [preB, Bool.and_eq_true] at hB
    obtain ⟨⟨⟨⟨⟨⟨h0, h1⟩, h2⟩, h6⟩, h7⟩, h4⟩, h3⟩ := hB
    rw [hi] at h0
    obtain ⟨N, hN⟩ := Option.isSome_iff_exists.1 h0
    have hN' : o.dst = some N := hN
    have ih := pre_sound hs hQ hS r (i :: done) _ h3 h
    have h5 : ((Dn m done).setIfInBounds i true == Dn m (i :: done)) = true := h4
    exact take_ (Dn m (i :: done)) hi rfl (by simp only [takeB, hs, h1, h2, h6, h7, h5, Bool.and_true]) (fun c a w => by rw [hN']; exact hQ c a w _ _) hy hS rfl ih
  | (.eff, i) :: r, done, a, hB, h => by
    obtain ⟨o, v, hi, hy, h⟩ := h
    simp only [preB, Bool.and_eq_true] at hB
    obtain ⟨⟨⟨⟨⟨⟨h0, h1⟩, h2⟩, h6⟩, h7⟩, h4⟩, h3⟩ := hB
    rw [hi] at h0
    obtain ⟨N, hN⟩ := Option.isSome_iff_exists.1 h0
    have hN' : o.dst = some N := hN
    have ih := pre_sound hs hQ hS r (i :: done) _ h3 h
    have h5 : ((Dn m done).setIfInBounds i true == Dn m (i :: done)) = true := h4
    exact take_ (Dn m (i :: done)) hi rfl (by simp only [takeB, hs, h1, h2, h6, h7, h5, Bool.and_true]) (fun c a w => by rw [hN']; exact hQ c a w _ _) hy hS rfl ih
  | (.tail, i) :: r, done, a, hB, h => by
    obtain ⟨o, v, hi, hy, h⟩ := h
    simp only [preB, Bool.and_eq_true] at hB
    obtain ⟨⟨⟨⟨⟨⟨h0, h1⟩, h2⟩, h6⟩, h7⟩, h4⟩, h3⟩ := hB
    rw [hi] at h0
    obtain ⟨N, hN⟩ := Option.isSome_iff_exists.1 h0
    have hN' : o.dst = some N := hN
    have ih := pre_sound hs hQ hS r (i :: done) _ h3 h
    have h5 : ((Dn m done).setIfInBounds i true == Dn m (i :: done)) = true := h4
    exact take_ (Dn m (i :: done)) hi rfl (by simp only [takeB, hs, h1, h2, h6, h7, h5, Bool.and_true]) (fun c a w => by rw [hN']; exact hQ c a w _ _) hy hS rfl ih
theorem lf_pre {k m : Nat} {done : List Nat} {a : Act} {w : World} (plan : List (PK × Nat)) (fin : List Nat) (k' : Nat) (hk : k' + plan.length = k) (hB : (Region.noSelect ops && preB ops ds m plan done fin) = true) (hQ : ∀ c (a : Act) w n v, Q (.panic c) (a.put (some n) v) w → Q (.panic c) a w) (hS : S w)
    (h : wpPre P ops S (fun a => Left P ops Q S ds k' m fin a w) plan a) : Left P ops Q S ds k m done a w := by
  subst hk
  rw [Bool.and_eq_true] at hB
  exact pre_sound hB.1 hQ hS plan done a hB.2 h
theorem pre_pure {fin : Act → Prop} {i N : Nat} {r : List (PK × Nat)} {o : Oper} {v : Value} {a a' : Act} (hi : ops[i]? = some o) (hN : o.dst = some N) (hw : Region.wanted o (yielded ops a.tmps) = true) (hrun : ∀ w, (execOp a.eval o).run P w = .ok (.value v) w) (ha : a.put (some N) v = a')
    (h : wpPre P ops S fin r a') : wpPre P ops S fin ((.pure, i) :: r) a := ⟨o, v, hi, .inl ⟨hw, hrun⟩, by rw [hN, ha]; exact h⟩
theorem pre_load {fin : Act → Prop} {i N : Nat} {r : List (PK × Nat)} {o : Oper} {v : Value} {a a' : Act} (hi : ops[i]? = some o) (hN : o.dst = some N) (hw : Region.wanted o (yielded ops a.tmps) = true) (hrun : ∀ w, S w → (execOp a.eval o).run P w = .ok (.value v) w) (ha : a.put (some N) v = a')
    (h : wpPre P ops S fin r a') : wpPre P ops S fin ((.load, i) :: r) a := ⟨o, v, hi, .inl ⟨hw, hrun⟩, by rw [hN, ha]; exact h⟩
theorem pre_skip {fin : Act → Prop} {i N : Nat} {r : List (PK × Nat)} {o : Oper} {a a' : Act} (hi : ops[i]? = some o) (hN : o.dst = some N) (hw : Region.wanted o (yielded ops a.tmps) = false) (ha : a.put (some N) undef = a')
    (h : wpPre P ops S fin r a') : wpPre P ops S fin ((.pure, i) :: r) a := ⟨o, undef, hi, .inr ⟨hw, rfl⟩, by rw [hN, ha]; exact h⟩
theorem pre_done {fin : Act → Prop} {a : Act} (h : fin a) : wpPre P ops S fin [] a := h
theorem plan_tail_put {i : Nat} {N : Option Nat} {r : List (PK × Nat)} {o : Oper} {a : Act} {w : World} (hi : ops[i]? = some o) (hN : o.dst = N) (h : ∀ K : Act → World → Prop, (∀ v w', wpPlan P ops S Q r (a.put N v) w' → K (a.put o.dst v) w') → wpList P ops (Exit.then K Q) [o] a w) : wpPlan P ops S Q ((.tail, i) :: r) a w :=
  plan_tail hi fun K hK => h K fun v w' hp => hK _ _ (by rw [hN]; exact hp)
theorem plan_eff_put {i : Nat} {N : Option Nat} {r : List (PK × Nat)} {o : Oper} {a : Act} {w : World} (hi : ops[i]? = some o) (hN : o.dst = N) (h : ∀ K : Act → World → Prop, (∀ v w', S w' → wpPlan P ops S Q r (a.put N v) w' → K (a.put o.dst v) w') → wpList P ops (Exit.then K Q) [o] a w) : wpPlan P ops S Q ((.eff, i) :: r) a w :=
  plan_eff hi fun K hK => h K fun v w' hS hp => hK _ _ hS (by rw [hN]; exact hp)
theorem lf_one_put {k m : Nat} {N : Option Nat} {done : List Nat} {a : Act} {w : World} (j : Nat) {o : Oper} (hB : (Region.ready .any ops (Dn m done) == [j] && stepB ops k m j done) = true) (hi : ops[j]? = some o) (hN : o.dst = N)
    (h : ∀ K : Act → World → Prop, (∀ v w', (ds.contains j = false → S w → S w') → Left P ops Q S ds k m (j :: done) (a.put N v) w' → K (a.put o.dst v) w') → wpList P ops (Exit.then K Q) [o] a w) : Left P ops Q S ds (k + 1) m done a w :=
  lf_one j hB hi fun K hK => h K fun v w' hS hp => hK _ _ hS (by rw [hN]; exact hp)
/-- An effect whose run is known. -/
theorem wpList_run {rest : List Oper} {o : Oper} {a : Act} {W W' : World} {v : Value} {N : Nat} {a' : Act} (hw : Region.wanted o (yielded ops a.tmps) = true) (hN : o.dst = some N) (hrun : (execOp a.eval o).run P W = .ok (.value v) W') (ha : a.put (some N) v = a')
    (h : wpList P ops Q rest a' W') : wpList P ops Q (o :: rest) a W := by
  refine BigFrame.wpList_want hw fun K' hK' => ?_
  unfold Oper.wp
  simp only [hrun]
  refine hK' _ _ ?_
  rw [hN, ha]; exact h
theorem wpList_nil_ {K : Act → World → Prop} {a : Act} {w : World} (h : K a w) : wpList P ops (Exit.then K Q) [] a w := h
end
theorem put_comm (a : Act) {i j : Nat} (h : i ≠ j) (u v : Value) : (a.put (some i) u).put (some j) v = (a.put (some j) v).put (some i) u := by
  simp only [Act.put]
  rw [Array.setIfInBounds_comm _ _ h]
theorem Mem.at_ {fp : Nat → Prop} {w0 w : World} {cs : List Chunk} (h : Mem fp w0 cs w) (j : Nat) {c : Chunk} (hj : cs[j]? = some c) : c.ok w := h.star.1 c (List.mem_of_getElem? hj)
theorem lf_name {P : Program} {ops : Array Oper} {Q : Exit → Act → World → Prop} {S : World → Prop} {ds : List Nat} {k m : Nat} {done : List Nat} {a : Act} {w : World} (h : ∀ a', Hid (a' = a) → Left P ops Q S ds k m done a' w) : Left P ops Q S ds k m done a w := h a (by unfold Hid; rfl)
/-- Three blocks are made, in whatever order. -/
theorem three_allocs {P : Program} {ops : Array Oper} {Q : Exit → Act → World → Prop} {S : World → Prop} {ds : List Nat} {k m : Nat} {done : List Nat} {A0 : Act} {W : World} (Ev : Act → Prop) (i1 i2 i3 : Nat) {o1 o2 o3 : Oper} (N1 N2 N3 : Nat) (V1 V2 V3 : Nat → Value) (O1 O2 O3 : Obj) {fp : Nat → Prop} {w0 : World} {F : List Chunk} (C1 C2 C3 : Nat → List Chunk)
    (hB0 : (Region.ready .any ops (Dn m done) == [i1, i2, i3] && stepB ops k m i1 done && stepB ops k m i2 done && stepB ops k m i3 done) = true)
    (hB1 : (Region.ready .any ops (Dn m (i1 :: done)) == [i2, i3] && stepB ops k m i2 (i1 :: done) && stepB ops k m i3 (i1 :: done)) = true)
    (hB2 : (Region.ready .any ops (Dn m (i2 :: done)) == [i1, i3] && stepB ops k m i1 (i2 :: done) && stepB ops k m i3 (i2 :: done)) = true)
    (hB3 : (Region.ready .any ops (Dn m (i3 :: done)) == [i1, i2] && stepB ops k m i1 (i3 :: done) && stepB ops k m i2 (i3 :: done)) = true)
    (hB12 : (Region.ready .any ops (Dn m (i2 :: i1 :: done)) == [i3] && stepB ops k m i3 (i2 :: i1 :: done)) = true)
    (hB13 : (Region.ready .any ops (Dn m (i3 :: i1 :: done)) == [i2] && stepB ops k m i2 (i3 :: i1 :: done)) = true)
    (hB21 : (Region.ready .any ops (Dn m (i1 :: i2 :: done)) == [i3] && stepB ops k m i3 (i1 :: i2 :: done)) = true)
    (hB23 : (Region.ready .any ops (Dn m (i3 :: i2 :: done)) == [i1] && stepB ops k m i1 (i3 :: i2 :: done)) = true)
    (hB31 : (Region.ready .any ops (Dn m (i1 :: i3 :: done)) == [i2] && stepB ops k m i2 (i1 :: i3 :: done)) = true)
    (hB32 : (Region.ready .any ops (Dn m (i2 :: i3 :: done)) == [i1] && stepB ops k m i1 (i2 :: i3 :: done)) = true)
    (hE : (Dn m (i2 :: i3 :: i1 :: done) == Dn m (i3 :: i2 :: i1 :: done) && Dn m (i3 :: i1 :: i2 :: done) == Dn m (i3 :: i2 :: i1 :: done) && Dn m (i1 :: i3 :: i2 :: done) == Dn m (i3 :: i2 :: i1 :: done) && Dn m (i2 :: i1 :: i3 :: done) == Dn m (i3 :: i2 :: i1 :: done) && Dn m (i1 :: i2 :: i3 :: done) == Dn m (i3 :: i2 :: i1 :: done)) = true)
    (n12 : N1 ≠ N2) (n13 : N1 ≠ N3) (n23 : N2 ≠ N3)
    (hi1 : ops[i1]? = some o1) (hi2 : ops[i2]? = some o2) (hi3 : ops[i3]? = some o3) (hN1 : o1.dst = some N1) (hN2 : o2.dst = some N2) (hN3 : o3.dst = some N3)
    (hw1 : ∀ t, Region.wanted o1 t = true) (hw2 : ∀ t, Region.wanted o2 t = true) (hw3 : ∀ t, Region.wanted o3 t = true)
    (hr1 : ∀ a w, Ev a → (execOp a.eval o1).run P w = .ok (.value (V1 w.heap.size)) (w.alloc O1)) (hr2 : ∀ a w, Ev a → (execOp a.eval o2).run P w = .ok (.value (V2 w.heap.size)) (w.alloc O2)) (hr3 : ∀ a w, Ev a → (execOp a.eval o3).run P w = .ok (.value (V3 w.heap.size)) (w.alloc O3))
    (hEv : Ev A0) (hEp : ∀ a N v, Ev a → N = N1 ∨ N = N2 ∨ N = N3 → Ev (a.put (some N) v)) (hS : ∀ w, S w)
    (hM1 : ∀ F w, Mem fp w0 F w → Mem fp w0 (C1 w.heap.size ++ F) (w.alloc O1)) (hM2 : ∀ F w, Mem fp w0 F w → Mem fp w0 (C2 w.heap.size ++ F) (w.alloc O2)) (hM3 : ∀ F w, Mem fp w0 F w → Mem fp w0 (C3 w.heap.size ++ F) (w.alloc O3))
    (HM : Mem fp w0 F W)
    (h : ∀ b1 b2 b3 W', Mem fp w0 (C1 b1 ++ (C2 b2 ++ (C3 b3 ++ F))) W' → Left P ops Q S ds k m (i3 :: i2 :: i1 :: done) (((A0.put (some N1) (V1 b1)).put (some N2) (V2 b2)).put (some N3) (V3 b3)) W') : Left P ops Q S ds (k + 3) m done A0 W := by
  simp only [Bool.and_eq_true] at hE
  obtain ⟨⟨⟨⟨e132, e213⟩, e231⟩, e312⟩, e321⟩ := hE
  have p1 : ∀ {a v}, Ev a → Ev (a.put (some N1) v) := fun h => hEp _ _ _ h (.inl rfl)
  have p2 : ∀ {a v}, Ev a → Ev (a.put (some N2) v) := fun h => hEp _ _ _ h (.inr (.inl rfl))
  have p3 : ∀ {a v}, Ev a → Ev (a.put (some N3) v) := fun h => hEp _ _ _ h (.inr (.inr rfl))
  refine lf_three i1 i2 i3 hB0 hi1 hi2 hi3 (fun K hK => ?_) (fun K hK => ?_) (fun K hK => ?_)
  · refine wpList_run (hw1 _) hN1 (hr1 _ _ hEv) rfl (wpList_nil_ (hK _ _ (fun _ _ => hS _) ?_))
    have q1 := p1 (v := V1 W.heap.size) hEv
    have M1 := hM1 _ _ HM
    refine lf_two i2 i3 hB1 hi2 hi3 (fun K hK => ?_) (fun K hK => ?_)
    · refine wpList_run (hw2 _) hN2 (hr2 _ _ q1) rfl (wpList_nil_ (hK _ _ (fun _ _ => hS _) ?_))
      refine lf_one i3 hB12 hi3 (fun K hK => ?_)
      refine wpList_run (hw3 _) hN3 (hr3 _ _ (p2 q1)) rfl (wpList_nil_ (hK _ _ (fun _ _ => hS _) ?_))
      refine h _ _ _ _ ((hM3 _ _ (hM2 _ _ M1)).perm ?_)
      refine (List.perm_append_comm_assoc _ _ _).trans ?_
      refine List.Perm.trans ?_ (List.perm_append_comm_assoc _ _ _)
      exact (List.perm_append_comm_assoc _ _ _).append_left _
    · refine wpList_run (hw3 _) hN3 (hr3 _ _ q1) rfl (wpList_nil_ (hK _ _ (fun _ _ => hS _) ?_))
      refine lf_one i2 hB13 hi2 (fun K hK => ?_)
      refine wpList_run (hw2 _) hN2 (hr2 _ _ (p3 q1)) rfl (wpList_nil_ (hK _ _ (fun _ _ => hS _) ?_))
      refine lf_same e132 ?_
      rw [put_comm _ n23.symm]
      refine h _ _ _ _ ((hM2 _ _ (hM3 _ _ M1)).perm ?_)
      refine List.Perm.trans ?_ (List.perm_append_comm_assoc _ _ _)
      exact (List.perm_append_comm_assoc _ _ _).append_left _
  · refine wpList_run (hw2 _) hN2 (hr2 _ _ hEv) rfl (wpList_nil_ (hK _ _ (fun _ _ => hS _) ?_))
    have q1 := p2 (v := V2 W.heap.size) hEv
    have M1 := hM2 _ _ HM
    refine lf_two i1 i3 hB2 hi1 hi3 (fun K hK => ?_) (fun K hK => ?_)
    · refine wpList_run (hw1 _) hN1 (hr1 _ _ q1) rfl (wpList_nil_ (hK _ _ (fun _ _ => hS _) ?_))
      refine lf_one i3 hB21 hi3 (fun K hK => ?_)
      refine wpList_run (hw3 _) hN3 (hr3 _ _ (p1 q1)) rfl (wpList_nil_ (hK _ _ (fun _ _ => hS _) ?_))
      refine lf_same e213 ?_
      rw [put_comm _ n12.symm]
      refine h _ _ _ _ ((hM3 _ _ (hM1 _ _ M1)).perm ?_)
      refine (List.perm_append_comm_assoc _ _ _).trans ?_
      exact (List.perm_append_comm_assoc _ _ _).append_left _
    · refine wpList_run (hw3 _) hN3 (hr3 _ _ q1) rfl (wpList_nil_ (hK _ _ (fun _ _ => hS _) ?_))
      refine lf_one i1 hB23 hi1 (fun K hK => ?_)
      refine wpList_run (hw1 _) hN1 (hr1 _ _ (p3 q1)) rfl (wpList_nil_ (hK _ _ (fun _ _ => hS _) ?_))
      refine lf_same e231 ?_
      rw [put_comm _ n13.symm, put_comm _ n12.symm]
      refine h _ _ _ _ ((hM1 _ _ (hM3 _ _ M1)).perm ?_)
      exact (List.perm_append_comm_assoc _ _ _).append_left _
  · refine wpList_run (hw3 _) hN3 (hr3 _ _ hEv) rfl (wpList_nil_ (hK _ _ (fun _ _ => hS _) ?_))
    have q1 := p3 (v := V3 W.heap.size) hEv
    have M1 := hM3 _ _ HM
    refine lf_two i1 i2 hB3 hi1 hi2 (fun K hK => ?_) (fun K hK => ?_)
    · refine wpList_run (hw1 _) hN1 (hr1 _ _ q1) rfl (wpList_nil_ (hK _ _ (fun _ _ => hS _) ?_))
      refine lf_one i2 hB31 hi2 (fun K hK => ?_)
      refine wpList_run (hw2 _) hN2 (hr2 _ _ (p1 q1)) rfl (wpList_nil_ (hK _ _ (fun _ _ => hS _) ?_))
      refine lf_same e312 ?_
      rw [put_comm A0 n13.symm, put_comm _ n23.symm]
      refine h _ _ _ _ ((hM2 _ _ (hM1 _ _ M1)).perm ?_)
      exact (List.perm_append_comm_assoc _ _ _)
    · refine wpList_run (hw2 _) hN2 (hr2 _ _ q1) rfl (wpList_nil_ (hK _ _ (fun _ _ => hS _) ?_))
      refine lf_one i1 hB32 hi1 (fun K hK => ?_)
      refine wpList_run (hw1 _) hN1 (hr1 _ _ (p2 q1)) rfl (wpList_nil_ (hK _ _ (fun _ _ => hS _) ?_))
      refine lf_same e321 ?_
      rw [put_comm A0 n23.symm, put_comm _ n13.symm, put_comm _ n12.symm]
      refine h _ _ _ _ ((hM1 _ _ (hM2 _ _ M1)).perm ?_)
      exact List.Perm.refl _
theorem eval_put_self {a : Act} {i : Nat} (h : i < a.tmps.size) (v : Value) : (a.put (some i) v).eval (.tmp i) = v := by
  unfold Act.eval Act.put
  simp [Array.getD_eq_getD_getElem?, h]
theorem eval_put_ne {a : Act} {i j : Nat} (h : i ≠ j) (v : Value) : (a.put (some i) v).eval (.tmp j) = a.eval (.tmp j) := by
  unfold Act.eval Act.put
  simp [Array.getD_eq_getD_getElem?, Array.getElem?_setIfInBounds, h]
theorem put_size (a : Act) (i : Nat) (v : Value) : (a.put (some i) v).tmps.size = a.tmps.size := by simp [Act.put]
theorem addr_add0 (b j : Nat) : (⟨b, 0, none⟩ : Addr).add j = ⟨b, j, none⟩ := by
  unfold Addr.add
  split
  · rename_i h; rw [h]
  · simp
/-- A block is made, another one too, and the first is appended: in whatever order. -/
theorem alloc_app_alloc {P : Program} {ops : Array Oper} {Q : Exit → Act → World → Prop} {S : World → Prop} {ds : List Nat} {k m : Nat} {done : List Nat} {A0 : Act} {W : World} (Ev : Act → Prop) (i1 i2 i3 : Nat) {o1 o2 o3 : Oper} (N1 N2 N3 : Nat) {e t bytes : Nat} (HE : Elem P t e 1 bytes) (u1 u3 : Value) (s : Operand) {fp : Nat → Prop} {w0 : World} {F : List Chunk}
    {v : Value} {n : Nat} {cells : List Value}
    (hB0 : (Region.ready .any ops (Dn m done) == [i1, i3] && stepB ops k m i1 done && stepB ops k m i3 done) = true)
    (hB1 : (Region.ready .any ops (Dn m (i1 :: done)) == [i2, i3] && stepB ops k m i2 (i1 :: done) && stepB ops k m i3 (i1 :: done)) = true)
    (hB12 : (Region.ready .any ops (Dn m (i2 :: i1 :: done)) == [i3] && stepB ops k m i3 (i2 :: i1 :: done)) = true)
    (hB13 : (Region.ready .any ops (Dn m (i3 :: i1 :: done)) == [i2] && stepB ops k m i2 (i3 :: i1 :: done)) = true)
    (hB3 : (Region.ready .any ops (Dn m (i3 :: done)) == [i1] && stepB ops k m i1 (i3 :: done)) = true)
    (hB31 : (Region.ready .any ops (Dn m (i1 :: i3 :: done)) == [i2] && stepB ops k m i2 (i1 :: i3 :: done)) = true)
    (hE : (Dn m (i2 :: i3 :: i1 :: done) == Dn m (i3 :: i2 :: i1 :: done) && Dn m (i2 :: i1 :: i3 :: done) == Dn m (i3 :: i2 :: i1 :: done)) = true)
    (n12 : N1 ≠ N2) (n13 : N1 ≠ N3) (n23 : N2 ≠ N3)
    (hi1 : ops[i1]? = some o1) (hi2 : ops[i2]? = some o2) (hi3 : ops[i3]? = some o3) (hN1 : o1.dst = some N1) (hN2 : o2.dst = some N2) (hN3 : o3.dst = some N3)
    (hw1 : ∀ t, Region.wanted o1 t = true) (hg2 : o2.guard = none) (hw3 : ∀ t, Region.wanted o3 t = true)
    (ho2 : o2.op = .call { callee := .builtin .append, args := #[s, .tmp N1], argTypes := #[t, t] })
    (hr1 : ∀ a w, Ev a → (execOp a.eval o1).run P w = .ok (.value (.slice (some ⟨w.heap.size, 0, none⟩) 1 1)) (w.alloc (.cells #[u1] e))) (hr3 : ∀ a w, Ev a → (execOp a.eval o3).run P w = .ok (.value (.slice (some ⟨w.heap.size, 0, none⟩) 1 1)) (w.alloc (.cells #[u3] e)))
    (hEv : Ev A0) (hEp : ∀ a N v, Ev a → N = N1 ∨ N = N2 ∨ N = N3 → Ev (a.put (some N) v)) (hEs : ∀ a, Ev a → a.eval s = v) (hEz : ∀ a, Ev a → N1 < a.tmps.size)
    (hS : ∀ cs w, Mem fp w0 (cs ++ F) w → S w) (h1 : u1.oneCell' = true) (hb : (n + 1) * bytes ≤ 140737488355328)
    (HM : Mem fp w0 (Row e 1 v n cells :: F) W)
    (h : ∀ b1 b3 v' W', Mem fp w0 (Row e 1 v' (n + 1) (cells ++ [u1]) :: Blk b1 e #[u1] :: Blk b3 e #[u3] :: F) W' → Left P ops Q S ds k m (i3 :: i2 :: i1 :: done) (((A0.put (some N1) (.slice (some ⟨b1, 0, none⟩) 1 1)).put (some N2) v').put (some N3) (.slice (some ⟨b3, 0, none⟩) 1 1)) W') : Left P ops Q S ds (k + 3) m done A0 W := by
  simp only [Bool.and_eq_true] at hE
  obtain ⟨e132, e312⟩ := hE
  have p1 : ∀ {a v}, Ev a → Ev (a.put (some N1) v) := fun h => hEp _ _ _ h (.inl rfl)
  have p2 : ∀ {a v}, Ev a → Ev (a.put (some N2) v) := fun h => hEp _ _ _ h (.inr (.inl rfl))
  have p3 : ∀ {a v}, Ev a → Ev (a.put (some N3) v) := fun h => hEp _ _ _ h (.inr (.inr rfl))
  have app : ∀ {K : Act → World → Prop} {a : Act} {W1 : World} {b1 : Nat} {G : List Chunk}, Ev a → a.eval (.tmp N1) = .slice (some ⟨b1, 0, none⟩) 1 1 → Mem fp w0 (Row e 1 v n cells :: Blk b1 e #[u1] :: G) W1 →
      (∀ v' W', Mem fp w0 (Row e 1 v' (n + 1) (cells ++ [u1]) :: Blk b1 e #[u1] :: G) W' → K (a.put (some N2) v') W') → wpList P ops (Exit.then K Q) [o2] a W1 := by
    intro K a W1 b1 G hev hx hm hk
    have hc : W1.cell? ⟨b1, 0, none⟩ = some u1 := by
      have hb1 : (Blk b1 e #[u1]).ok W1 := hm.at_ 1 rfl
      rw [Blk.cell_ hb1]; rfl
    refine wpList_app HE hg2 s (.tmp N1) ho2 hm (hEs _ hev) ⟨b1, 0, none⟩ 1 1 [u1] hx rfl (fun j u hu => ?_) (fun u hu => by rw [List.mem_singleton.1 hu]; exact h1) hb (fun v' w' hm' _ _ => wpList_nil_ ?_)
    · cases j with
      | zero => cases hu; rw [addr_add0]; exact hc
      | succ j => simp at hu
    · rw [hN2]; exact hk v' w' hm'
  refine lf_two i1 i3 hB0 hi1 hi3 (fun K hK => ?_) (fun K hK => ?_)
  · have M1 := (HM.box #[u1] e).front [_]
    refine wpList_run (hw1 _) hN1 (hr1 _ _ hEv) rfl (wpList_nil_ (hK _ _ (fun _ _ => hS [_, _] _ M1) ?_))
    have q1 := p1 (v := .slice (some ⟨W.heap.size, 0, none⟩) 1 1) hEv
    have x1 := eval_put_self (hEz _ hEv) (.slice (some ⟨W.heap.size, 0, none⟩) 1 1)
    refine lf_two i2 i3 hB1 hi2 hi3 (fun K hK => ?_) (fun K hK => ?_)
    · refine app q1 x1 M1 (fun v' W' M2 => hK _ _ (fun _ _ => hS [_, _] _ M2) ?_)
      refine lf_one i3 hB12 hi3 (fun K hK => ?_)
      have M3 := ((M2.box #[u3] e).back [_, _])
      refine wpList_run (hw3 _) hN3 (hr3 _ _ (p2 q1)) rfl (wpList_nil_ (hK _ _ (fun _ _ => hS [_, _, _] _ M3) ?_))
      exact h _ _ _ _ M3
    · have M3 := ((M1.box #[u3] e).back [_, _])
      refine wpList_run (hw3 _) hN3 (hr3 _ _ q1) rfl (wpList_nil_ (hK _ _ (fun _ _ => hS [_, _, _] _ M3) ?_))
      refine lf_one i2 hB13 hi2 (fun K hK => ?_)
      refine app (p3 q1) (by rw [eval_put_ne n13.symm]; exact x1) M3 (fun v' W' M2 => hK _ _ (fun _ _ => hS [_, _, _] _ M2) ?_)
      refine lf_same e132 ?_
      rw [put_comm _ n23.symm]
      exact h _ _ _ _ M2
  · have M1 := (HM.box #[u3] e).front [_]
    refine wpList_run (hw3 _) hN3 (hr3 _ _ hEv) rfl (wpList_nil_ (hK _ _ (fun _ _ => hS [_, _] _ M1) ?_))
    have q1 := p3 (v := .slice (some ⟨W.heap.size, 0, none⟩) 1 1) hEv
    refine lf_one i1 hB3 hi1 (fun K hK => ?_)
    have M3 := ((M1.box #[u1] e).back [_])
    refine wpList_run (hw1 _) hN1 (hr1 _ _ q1) rfl (wpList_nil_ (hK _ _ (fun _ _ => hS [_, _, _] _ M3) ?_))
    have x1 := eval_put_self (hEz _ q1) (.slice (some ⟨(W.alloc (.cells #[u3] e)).heap.size, 0, none⟩) 1 1)
    refine lf_one i2 hB31 hi2 (fun K hK => ?_)
    refine app (p1 q1) x1 M3 (fun v' W' M2 => hK _ _ (fun _ _ => hS [_, _, _] _ M2) ?_)
    refine lf_same e312 ?_
    rw [put_comm A0 n13.symm, put_comm _ n23.symm]
    exact h _ _ _ _ M2
end Go.Proofs.Ytliglejbkpjamaa
