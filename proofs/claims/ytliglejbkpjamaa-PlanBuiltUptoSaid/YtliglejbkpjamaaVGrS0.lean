/-
  Layer 16 (graph): Build, plainly: bounds of what is joined and collected; the builder's content alone tells what visit does.
-/
/-
  Layer 16 (graph): what Build hands back, plainly.
-/
import Derived.Test.YtliglejbkpjamaaVGrP0
import Derived.Test.YtliglejbkpjamaaVGrN0
import Derived.Test.YtliglejbkpjamaaVGrR
set_option linter.unusedVariables false
set_option linter.unusedSimpArgs false
section
set_option maxRecDepth 20000
namespace Go.Proofs.Ytliglejbkpjamaa
open Go.RowKit

theorem joinTs_ind {I : Nat → JS → Prop} {r : RuleS} (hst : ∀ n s t s', t ∈ r.tg → I n s → joinT r s t = some s' → I (n + 1) s') : ∀ (ts : List ByteArray) (n : Nat) (s s' : JS), (∀ t, t ∈ ts → t ∈ r.tg) → I n s → joinTs r ts s = some s' → I (n + ts.length) s'
  | [], n, s, s', _, h, e => by cases e; exact h
  | t :: ts, n, s, s', hm, h, e => by
    have e : (joinT r s t).bind (joinTs r ts) = some s' := e
    cases h1 : joinT r s t with
    | none => rw [h1] at e; cases e
    | some s1 =>
      rw [h1] at e
      have := joinTs_ind hst ts (n + 1) s1 s' (fun t ht => hm t (by simp [ht])) (hst n s t s1 (hm t (by simp)) h h1) e
      rw [List.length_cons, show n + (ts.length + 1) = n + 1 + ts.length from by omega]
      exact this
theorem joinRs_ind {I : Nat → JS → Prop} : ∀ (l : List RuleS) (hst : ∀ r, r ∈ l → ∀ n s t s', t ∈ r.tg → I n s → joinT r s t = some s' → I (n + 1) s') (n : Nat) (s s' : JS), I n s → joinRs l s = some s' → I (n + (l.flatMap RuleS.tg).length) s'
  | [], _, n, s, s', h, e => by cases e; exact h
  | r :: l, hst, n, s, s', h, e => by
    have e : (joinTs r r.tg s).bind (joinRs l) = some s' := e
    cases h1 : joinTs r r.tg s with
    | none => rw [h1] at e; cases e
    | some s1 =>
      rw [h1] at e
      have h2 := joinTs_ind (hst r (by simp)) r.tg n s s1 (fun t ht => ht) h h1
      have := joinRs_ind l (fun r hr => hst r (by simp [hr])) _ s1 s' h2 e
      rw [List.flatMap_cons, List.length_append, ← Nat.add_assoc]
      exact this
/-- What holds of joined rules. -/
structure JLaw (Bs C : Nat) (Pt Ps : ByteArray → Prop) (n : Nat) (s : JS) : Prop where
  len : s.1.length ≤ n
  rule : ∀ y, y ∈ s.1 → y.src.length ≤ n * Bs ∧ y.cmd.length ≤ n * C ∧ (∃ t, y.tg = [t] ∧ Pt t) ∧ ∀ x, x ∈ y.src → Ps x
theorem JLaw.step {Bs C n : Nat} {Pt Ps : ByteArray → Prop} {s s' : JS} {r : RuleS} {t : ByteArray} (h : JLaw Bs C Pt Ps n s) (h1 : r.src.length ≤ Bs) (h2 : r.cmd.length ≤ C) (ht : Pt t) (hs : ∀ x, x ∈ r.src → Ps x) (e : joinT r s t = some s') : JLaw Bs C Pt Ps (n + 1) s' := by
  have hup : ∀ y, y ∈ s.1 → y.src.length ≤ (n + 1) * Bs ∧ y.cmd.length ≤ (n + 1) * C ∧ (∃ t, y.tg = [t] ∧ Pt t) ∧ ∀ x, x ∈ y.src → Ps x := fun y hy => by
    obtain ⟨a, b, c, d⟩ := h.rule y hy
    rw [Nat.add_mul, Nat.add_mul]
    exact ⟨by omega, by omega, c, d⟩
  have hnew : ∀ y, y ∈ s.1 ++ [(⟨[t], r.kind, r.src, r.cmd, r.at_⟩ : RuleS)] → y.src.length ≤ (n + 1) * Bs ∧ y.cmd.length ≤ (n + 1) * C ∧ (∃ t, y.tg = [t] ∧ Pt t) ∧ ∀ x, x ∈ y.src → Ps x := fun y hy => by
    rcases List.mem_append.1 hy with hy | hy
    · exact hup y hy
    · simp only [List.mem_singleton] at hy
      subst hy
      rw [Nat.add_mul, Nat.add_mul]
      exact ⟨by simp only; omega, by simp only; omega, ⟨t, rfl, ht⟩, hs⟩
  unfold joinT at e
  split at e
  · cases e
    exact ⟨by have := h.len; simp; omega, hnew⟩
  · rename_i i hi
    split at e
    · cases e
    · rename_i y hy
      split at e
      · cases e
      · split at e
        · cases e
          exact ⟨by have := h.len; simp; omega, hnew⟩
        · split at e
          · cases e
          · cases e
            refine ⟨by have := h.len; simp; omega, fun z hz => ?_⟩
            rcases List.mem_or_eq_of_mem_set hz with hz | rfl
            · exact hup z hz
            · obtain ⟨a, b, c, d⟩ := h.rule y (List.mem_of_getElem? hy)
              simp only [List.length_append]
              rw [Nat.add_mul, Nat.add_mul]
              refine ⟨by omega, by omega, c, fun x hx => ?_⟩
              rcases List.mem_append.1 hx with hx | hx
              · exact d x hx
              · exact hs x hx
theorem join_law {Bs C N : Nat} {Pt Ps : ByteArray → Prop} {l s : List RuleS} (h : joinB l = some s) (h1 : ∀ r, r ∈ l → r.src.length ≤ Bs ∧ r.cmd.length ≤ C ∧ (∀ t, t ∈ r.tg → Pt t) ∧ ∀ x, x ∈ r.src → Ps x) (hN : (l.flatMap RuleS.tg).length ≤ N) :
    s.length ≤ N ∧ ∀ y, y ∈ s → y.src.length ≤ N * Bs ∧ y.cmd.length ≤ N * C ∧ (∃ t, y.tg = [t] ∧ Pt t) ∧ ∀ x, x ∈ y.src → Ps x := by
  unfold joinB at h
  obtain ⟨js, hj, rfl⟩ := Option.map_eq_some_iff.1 h
  have hl := joinRs_ind (I := JLaw Bs C Pt Ps) l (fun r hr n s t s' ht hI e => by
    obtain ⟨a, b, c, d⟩ := h1 r hr
    exact hI.step a b (c t ht) d e) 0 ([], []) js ⟨Nat.le_refl _, fun y hy => by cases hy⟩ hj
  rw [Nat.zero_add] at hl
  refine ⟨Nat.le_trans hl.len hN, fun y hy => ?_⟩
  obtain ⟨a, b, c, d⟩ := hl.rule y hy
  exact ⟨Nat.le_trans a (Nat.mul_le_mul_right _ hN), Nat.le_trans b (Nat.mul_le_mul_right _ hN), c, d⟩
/-- Own rules' sources. -/
theorem ownAll_len {Bs : Nat} {made : List (ByteArray × Unit)} : ∀ (l : List RuleS) (k : Nat) (s : CS), (∀ t y, mget s.1 t = some y → y.src.length ≤ k * Bs) → (∀ r, r ∈ l → r.src.length ≤ Bs) → ∀ t y, mget (l.foldl (ownS made) s).1 t = some y → y.src.length ≤ (k + l.length) * Bs
  | [], k, s, h, _ => h
  | r :: l, k, s, h, hb => by
    rw [List.foldl_cons, List.length_cons, show k + (l.length + 1) = k + 1 + l.length from by omega]
    refine ownAll_len l (k + 1) _ ?_ (fun r hr => hb r (by simp [hr]))
    have h1 := hb r (by simp)
    have hup : ∀ t y, mget s.1 t = some y → y.src.length ≤ (k + 1) * Bs := fun t y hy => by
      have := h t y hy
      rw [Nat.add_mul]; omega
    unfold ownS
    split
    · exact hup
    · split
      · rename_i x hx
        intro t y hy
        simp only at hy
        rw [mget_put] at hy
        split at hy
        · cases hy
          have := h _ x hx
          simp only [List.length_append]
          rw [Nat.add_mul]; omega
        · exact hup t y hy
      · intro t y hy
        simp only at hy
        rw [mget_put] at hy
        split at hy
        · cases hy
          simp only
          rw [Nat.add_mul]; omega
        · exact hup t y hy
/-- Two builders tell the same. -/
structure SameP (X Y : BS) : Prop where
  suf : X.suf = Y.suf
  ways : X.ways = Y.ways
  files : X.files = Y.files
  there : X.there = Y.there
  own : ownP X.own = ownP Y.own
  marks : markP X.marks = markP Y.marks
theorem nodeL_congr {raw : List RuleS} {X Y : BS} (h : SameP X Y) (L : List (ByteArray × ByteArray)) (name : ByteArray) : nodeL raw X L name = nodeL raw Y L name := by
  have e1 : ownR X.own name = ownR Y.own name := (ownR_of h.own name).trans (ownR_of rfl name).symm
  have e2 : ∀ k, mark X.marks k name = mark Y.marks k name := fun k => (mark_of h.marks k name).trans (mark_of rfl k name).symm
  have e3 : mhas X.own name = mhas Y.own name := by
    have h1 := mhas_map (f := RX.r) X.own name
    have h2 := mhas_map (f := RX.r) Y.own name
    rw [← h1, ← h2]
    exact congrArg (mhas · name) h.own
  unfold nodeL nodeB
  simp only [e1, e2, e3, h.suf, h.ways, h.there, h.files]
theorem visitB_congr {raw : List RuleS} {X Y : BS} (h : SameP X Y) : ∀ (k : Nat) (name : ByteArray) (s : VS), visitB raw X k name s = visitB raw Y k name s
  | 0, _, _ => rfl
  | k + 1, name, s => by
    have e : (fun s x => visitB raw X k x s) = fun s x => visitB raw Y k x s := by
      funext s x
      exact visitB_congr h k x s
    unfold visitB
    rw [nodeL_congr h, e]
theorem visitAll_congr {raw : List RuleS} {X Y : BS} (h : SameP X Y) (k : Nat) (l : List ByteArray) (s : VS) : visitAll raw X k l s = visitAll raw Y k l s := by
  unfold visitAll
  have e : (fun s x => visitB raw X k x s) = fun s x => visitB raw Y k x s := by
    funext s x
    exact visitB_congr h k x s
  rw [e]
def fset (l : List ByteArray) : List (ByteArray × Unit) := l.foldl (fun m x => mput m x ()) []
theorem fset_snoc (l : List ByteArray) (k : Nat) (h : k < l.length) : fset (l.take (k + 1)) = mput (fset (l.take k)) l[k] () := by
  rw [List.take_succ_eq_append_getElem h]
  unfold fset
  rw [List.foldl_append]; rfl
def vs0 : VS := ⟨[], [], [], 0, 0, ⟨#[]⟩, 0⟩
/-- The builder behind collect, its content alone. -/
def startX (l rules : List RuleS) (files : List ByteArray) : BS :=
  ⟨0, 0, 0, 0, 0, 0, .slice none 0 0, .slice none 0 0, .slice none 0 0, .slice none 0 0, .slice none 0 0, ofSuf l, ofWays l, fset files, (ownB (ofSuf l) rules files).1.map (fun q => (q.1, ⟨.slice none 0 0, .slice none 0 0, .slice none 0 0, q.2⟩)), (ownB (ofSuf l) rules files).2, (marksB rules).map (fun q => (q.1, (0, q.2))), [], [], [], 0, 0, ⟨#[]⟩, 0⟩
theorem startX_own (l rules : List RuleS) (files : List ByteArray) : ownP (startX l rules files).own = (ownB (ofSuf l) rules files).1 := by
  unfold startX ownP
  rw [List.map_map]
  conv => rhs; rw [← List.map_id (ownB (ofSuf l) rules files).1]
  rfl
theorem startX_marks (l rules : List RuleS) (files : List ByteArray) : markP (startX l rules files).marks = marksB rules := by
  unfold startX markP
  rw [List.map_map]
  conv => rhs; rw [← List.map_id (marksB rules)]
  rfl
/-- The visits of all goals. -/
def visV (l rules : List RuleS) (files gs : List ByteArray) : VS := visitAll l (startX l rules files) 513 gs vs0
theorem inv0 : Inv vs0 := ⟨rfl, by decide, fun x => ⟨fun h => by simp [stAt, vs0, mget_nil] at h, fun h => by simp [vs0] at h⟩, fun x => .inl rfl, by simp [vs0], fun i n h => by simp [vs0] at h, fun n h => by simp [vs0] at h⟩
theorem vok0 (Z : Nat) : VOk Z vs0 := ⟨by decide, by decide, by decide, fun _ k v h => by cases h⟩
theorem visV_goes (l rules : List RuleS) (files gs : List ByteArray) (h : (visV l rules files gs).why = 0) : Goes gs vs0 (visV l rules files gs) :=
  all_goes (visit_goes l (startX l rules files) 513) gs vs0 inv0 (by decide) h
end Go.Proofs.Ytliglejbkpjamaa
end
section
set_option maxRecDepth 20000
namespace Go.Proofs.Ytliglejbkpjamaa
open Go.RowKit

theorem ofSuf_src {P : ByteArray → Prop} (l : List RuleS) (h : ∀ r, r ∈ l → ∀ x, x ∈ r.src → P x) : ∀ x, x ∈ ofSuf l → P x := by
  have key : ∀ (m : List RuleS), (∀ r, r ∈ m → r ∈ l) → ∀ t : List ByteArray, (∀ x, x ∈ t → P x) → ∀ x, x ∈ m.foldl ofSuf1 t → P x := by
    intro m
    induction m with
    | nil => intro _ t ht; exact ht
    | cons r m ih =>
      intro hm t ht
      rw [List.foldl_cons]
      refine ih (fun r hr => hm r (by simp [hr])) _ ?_
      unfold ofSuf1
      split
      · have k2 : ∀ (s : List ByteArray), (∀ x, x ∈ s → x ∈ r.src) → ∀ t : List ByteArray, (∀ x, x ∈ t → P x) → ∀ x, x ∈ s.foldl addSuf t → P x := by
          intro s
          induction s with
          | nil => intro _ t ht; exact ht
          | cons y s ih2 =>
            intro hs t ht
            rw [List.foldl_cons]
            refine ih2 (fun x hx => hs x (by simp [hx])) _ ?_
            unfold addSuf
            split
            · intro x hx
              rcases List.mem_append.1 hx with hx | hx
              · exact ht x hx
              · rw [List.mem_singleton.1 hx]
                exact h r (hm r (by simp)) y (hs y (by simp))
            · exact ht
        refine k2 r.src (fun x hx => hx) _ ?_
        split
        · intro x hx; cases hx
        · exact ht
      · exact ht
  exact key l (fun r hr => hr) [] (fun x hx => by cases hx)
/-- The bounds of what is handed in. -/
structure Sized (l : List RuleS) (Z Bs C N : Nat) : Prop where
  rule : ∀ r, r ∈ l → r.src.length ≤ Bs ∧ r.cmd.length ≤ C ∧ (∀ t, t ∈ r.tg → t.size ≤ Z) ∧ ∀ x, x ∈ r.src → x.size ≤ Z
  all : (l.flatMap RuleS.tg).length ≤ N
  hZ : Z ≤ 1048576
  hBs : Bs ≤ 200
  hC : C ≤ 1048576
  hN : N ≤ 66
  hp : pre l l.length ≤ 200
theorem env_of {l rules : List RuleS} {files : List ByteArray} {X : BS} {Z Bs C N : Nat} (hs : Sized l Z Bs C N) (hj : joinB l = some rules) (hways : X.ways = ofWays l) (hown : ownP X.own = (ownB (ofSuf l) rules files).1) : Env l X Z := by
  obtain ⟨j1, j2⟩ := join_law (Pt := fun t => t.size ≤ Z) (Ps := fun x => x.size ≤ Z) hj hs.rule hs.all
  have hNN : ∀ k : Nat, k ≤ 66 → k * (N * Bs) ≤ 1000000 := fun k hk => by
    have h1 : N * Bs ≤ 66 * 200 := Nat.mul_le_mul hs.hN hs.hBs
    have h2 : k * (N * Bs) ≤ 66 * (66 * 200) := Nat.mul_le_mul hk h1
    omega
  have hNC : ∀ k : Nat, k ≤ 66 → k * (N * C) * 16 ≤ 140737488355328 := fun k hk => by
    have h1 : N * C ≤ 66 * 1048576 := Nat.mul_le_mul hs.hN hs.hC
    have h2 : k * (N * C) ≤ 66 * (66 * 1048576) := Nat.mul_le_mul hk h1
    omega
  have hrl : rules.length ≤ 66 := Nat.le_trans j1 hs.hN
  have hmax : ∀ r, r ∈ rules → r.src.length ≤ max (N * Bs) (N * C) ∧ r.cmd.length ≤ max (N * Bs) (N * C) := fun r hr => by
    obtain ⟨a, b, _⟩ := j2 r hr
    omega
  refine ⟨hs.hZ, fun p hp => ?_, fun r hr => ?_, fun name => ?_⟩
  · rw [hways] at hp
    exact ofSuf_src (P := fun x => x.size ≤ Z) l (fun r hr x hx => (hs.rule r hr).2.2.2 x hx) p.1 ((right_in (of_right l)).1 p hp)
  · have := (hs.rule r hr).2.1
    have := hs.hC
    omega
  · rw [← ownR_eq, ownR_of hown]
    cases hg : mget (ownB (ofSuf l) rules files).1 name with
    | none => exact ⟨Nat.zero_le _, Nat.zero_le _, fun x hx => by cases hx⟩
    | some y =>
      simp only [Option.getD_some]
      have a1 := ownAll_len (Bs := N * Bs) (made := madeB (ofSuf l) rules) rules 0 ([], files) (fun t y h => by cases h) (fun r hr => (j2 r hr).1) name y hg
      have a2 := (ownAll_ok (B := N * C) (n := files.length) (made := madeB (ofSuf l) rules) (rules.map fun r => ⟨r.tg, r.kind, [], r.cmd, r.at_⟩) 0 ([], files) ⟨fun t y h => (by cases h), by simp⟩ (fun r hr => by
        obtain ⟨q, hq, rfl⟩ := List.mem_map.1 hr
        exact ⟨Nat.zero_le _, (j2 q hq).2.1⟩)).len
      have a3 := ownAll_src (P := fun x => x.size ≤ Z) (made := madeB (ofSuf l) rules) rules ([], files) (fun t y h => by cases h) (fun r hr => (j2 r hr).2.2.2) name y hg
      have a4 := (ownAll_ok (B := max (N * Bs) (N * C)) (n := files.length) (made := madeB (ofSuf l) rules) rules 0 ([], files) ⟨fun t y h => (by cases h), by simp⟩ hmax).own name y hg
      refine ⟨?_, ?_, a3⟩
      · rw [Nat.zero_add] at a1
        exact Nat.le_trans a1 (hNN _ hrl)
      · rw [Nat.zero_add] at a4
        have h1 : max (N * Bs) (N * C) ≤ 66 * 1048576 := by
          have q1 : N * Bs ≤ 66 * 200 := Nat.mul_le_mul hs.hN hs.hBs
          have q2 : N * C ≤ 66 * 1048576 := Nat.mul_le_mul hs.hN hs.hC
          omega
        have h2 : rules.length * max (N * Bs) (N * C) ≤ 66 * (66 * 1048576) := Nat.mul_le_mul hrl h1
        have := a4.2
        omega
theorem visit_nodes {raw : List RuleS} {X : BS} {P : NodeS → Prop} (hP : ∀ L name, P (nodeL raw X L name).1) : ∀ (k : Nat) (name : ByteArray) (s : VS), (∀ n, n ∈ s.nodes → P n) → ∀ n, n ∈ (visitB raw X k name s).nodes → P n
  | 0, _, _, h => h
  | k + 1, name, s, h => by
    have hall : ∀ (l : List ByteArray) (s : VS), (∀ n, n ∈ s.nodes → P n) → ∀ n, n ∈ (l.foldl (fun s x => visitB raw X k x s) s).nodes → P n := by
      intro l
      induction l with
      | nil => intro s h; exact h
      | cons x l ih =>
        intro s h
        rw [List.foldl_cons]
        exact ih _ (visit_nodes hP k x s h)
    have hw : ∀ (s : VS) e, (∀ n, n ∈ s.nodes → P n) → ∀ n, n ∈ (s.wrong e name).nodes → P n := fun s e h => by rw [(wrong_keep s e name).1]; exact h
    unfold visitB
    split
    · exact h
    split
    · exact hw _ _ h
    split
    · exact hw _ _ h
    split
    · exact hw _ _ h
    · have h1 := hall (nodeL raw X s.links name).1.src (beginB s name (nodeL raw X s.links name).2.2) h
      unfold endB
      split
      · intro n hn
        rcases List.mem_append.1 hn with hn | hn
        · exact h1 n hn
        · rw [List.mem_singleton.1 hn]; exact hP _ _
      · exact h1
theorem all_nodes {raw : List RuleS} {X : BS} {P : NodeS → Prop} (hP : ∀ L name, P (nodeL raw X L name).1) (k : Nat) : ∀ (l : List ByteArray) (s : VS), (∀ n, n ∈ s.nodes → P n) → ∀ n, n ∈ (visitAll raw X k l s).nodes → P n
  | [], s, h => h
  | x :: l, s, h => all_nodes hP k l _ (visit_nodes hP k x s h)
theorem nodeL_srclen {raw : List RuleS} {X : BS} {Z : Nat} (E : Env raw X Z) (L : List (ByteArray × ByteArray)) (name : ByteArray) : (nodeL raw X L name).1.src.length ≤ 1000001 := by
  have key : ∀ (c : Prop) [Decidable c] (l m : List ByteArray), l.length ≤ 1000001 → m.length ≤ 1000001 → (if c then srcB l else srcB m).length ≤ 1000001 := by
    intro c _ l m h1 h2
    have h3 : ∀ l : List ByteArray, (srcB l).length ≤ l.length := fun l => by
      have := srcB_len l l.length (Nat.le_refl _)
      rwa [List.take_length] at this
    have := h3 l
    have := h3 m
    split <;> omega
  have h1 : (ownR X.own name).src.length ≤ 1000000 := by rw [ownR_eq]; exact (E.own name).1
  exact key _ _ _ (by simp only [List.length_cons]; omega) (by show (ownR X.own name).src.length ≤ _; omega)
def goalsOf (l : List RuleS) (goals : List ByteArray) : List ByteArray := if goals.length = 0 then aimB l else goals
theorem aimB_size {l : List RuleS} {Z : Nat} (h : ∀ r, r ∈ l → (∀ t, t ∈ r.tg → t.size ≤ Z) ∧ ∀ x, x ∈ r.src → x.size ≤ Z) : ∀ g, g ∈ aimB l → g.size ≤ Z := by
  intro g hg
  unfold aimB aim1 at hg
  split at hg
  · rename_i r hr
    exact (h r (List.mem_of_find?_eq_some hr)).2 g (List.mem_of_mem_take hg)
  · unfold aim3 at hg
    split at hg
    · rename_i t ht
      rw [List.mem_singleton.1 hg]
      obtain ⟨r, hr, ht2⟩ := List.mem_flatMap.1 (List.mem_of_find?_eq_some ht)
      exact (h r hr).1 t ht2
    · cases hg
/-- What Build hands back. -/
def retB (GV NV : Value) (why : Int) (nm : ByteArray) (pat : Int) : Ending := .returned (.tuple #[.agg #[GV, NV], .agg #[.int .i64 why, .string nm, .int .i64 pat]])
def NoLoop (xs : List NX) : Prop := ∀ x, x ∈ xs → ¬ Reach (nextP (xs.map NX.nd)) x.nd.name x.nd.name
structure Bad (l : List RuleS) (files goals : List ByteArray) (why : Int) (nm : ByteArray) : Prop where
  ne : why ≠ 0
  how : joinB l = none ∨ ∃ rules, joinB l = some rules ∧ (goalsOf l goals = [] ∨ ((visV l rules files (goalsOf l goals)).why ≠ 0 ∧ why = (visV l rules files (goalsOf l goals)).why ∧ nm = (visV l rules files (goalsOf l goals)).pname) ∨
    ((visV l rules files (goalsOf l goals)).why = 0 ∧ ∃ xs, AOk (visV l rules files (goalsOf l goals)).nodes 40200 xs ∧ (Quiet l → ∀ x, x ∈ xs → x.nd.aft = []) ∧ ¬ NoLoop xs))
structure Good (l : List RuleS) (files goals gs : List ByteArray) (xs : List NX) : Prop where
  eq : gs = goalsOf l goals
  pos : gs ≠ []
  how : ∃ rules, joinB l = some rules ∧ (visV l rules files gs).why = 0 ∧ AOk (visV l rules files gs).nodes 40200 xs ∧ (Quiet l → ∀ x, x ∈ xs → x.nd.aft = []) ∧ ∀ x, x ∈ xs → x.nd.src.length ≤ 1000001
  loop : NoLoop xs
end Go.Proofs.Ytliglejbkpjamaa
end
