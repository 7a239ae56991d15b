/-
  Layer 16 (graph): what Build hands back, plainly.
-/
import Derived.Test.YtliglejbkpjamaaGrS0
import Derived.Test.YtliglejbkpjamaaGrR
set_option linter.unusedVariables false
set_option linter.unusedSimpArgs false
set_option maxRecDepth 20000
namespace Go.Proofs.Ytliglejbkpjamaa
open Go.RowKit

theorem ofSuf_src {P : ByteArray → Prop} (l : List RuleS) (h : ∀ r, r ∈ l → ∀ x, x ∈ r.src → P x) : ∀ x, x ∈ ofSuf l → P x := by
  have key : ∀ (m : List RuleS), (∀ r, r ∈ m → r ∈ l) → ∀ t : List ByteArray, (∀ x, x ∈ t → P x) → ∀ x, x ∈ m.foldl ofSuf1 t → P x := by
    intro m
    induction m with
    | nil => intro _ t ht; exact ht
    | cons r m ih =>
      intro hm t ht
      rw [List.foldl_cons]
      refine ih (fun r hr => hm r (by simp [hr])) _ ?_
      unfold ofSuf1
      split
      · have k2 : ∀ (s : List ByteArray), (∀ x, x ∈ s → x ∈ r.src) → ∀ t : List ByteArray, (∀ x, x ∈ t → P x) → ∀ x, x ∈ s.foldl addSuf t → P x := by
          intro s
          induction s with
          | nil => intro _ t ht; exact ht
          | cons y s ih2 =>
            intro hs t ht
            rw [List.foldl_cons]
            refine ih2 (fun x hx => hs x (by simp [hx])) _ ?_
            unfold addSuf
            split
            · intro x hx
              rcases List.mem_append.1 hx with hx | hx
              · exact ht x hx
              · rw [List.mem_singleton.1 hx]
                exact h r (hm r (by simp)) y (hs y (by simp))
            · exact ht
        refine k2 r.src (fun x hx => hx) _ ?_
        split
        · intro x hx; cases hx
        · exact ht
      · exact ht
  exact key l (fun r hr => hr) [] (fun x hx => by cases hx)
/-- The bounds of what is handed in. -/
structure Sized (l : List RuleS) (Z Bs C N : Nat) : Prop where
  rule : ∀ r, r ∈ l → r.src.length ≤ Bs ∧ r.cmd.length ≤ C ∧ (∀ t, t ∈ r.tg → t.size ≤ Z) ∧ ∀ x, x ∈ r.src → x.size ≤ Z
  all : (l.flatMap RuleS.tg).length ≤ N
  hZ : Z ≤ 1048576
  hBs : Bs ≤ 200
  hC : C ≤ 1048576
  hN : N ≤ 66
  hp : pre l l.length ≤ 200
theorem env_of {l rules : List RuleS} {files : List ByteArray} {X : BS} {Z Bs C N : Nat} (hs : Sized l Z Bs C N) (hj : joinB l = some rules) (hways : X.ways = ofWays l) (hown : ownP X.own = (ownB (ofSuf l) rules files).1) : Env l X Z := by
  obtain ⟨j1, j2⟩ := join_law (Pt := fun t => t.size ≤ Z) (Ps := fun x => x.size ≤ Z) hj hs.rule hs.all
  have hNN : ∀ k : Nat, k ≤ 66 → k * (N * Bs) ≤ 1000000 := fun k hk => by
    have h1 : N * Bs ≤ 66 * 200 := Nat.mul_le_mul hs.hN hs.hBs
    have h2 : k * (N * Bs) ≤ 66 * (66 * 200) := Nat.mul_le_mul hk h1
    omega
  have hNC : ∀ k : Nat, k ≤ 66 → k * (N * C) * 16 ≤ 140737488355328 := fun k hk => by
    have h1 : N * C ≤ 66 * 1048576 := Nat.mul_le_mul hs.hN hs.hC
    have h2 : k * (N * C) ≤ 66 * (66 * 1048576) := Nat.mul_le_mul hk h1
    omega
  have hrl : rules.length ≤ 66 := Nat.le_trans j1 hs.hN
  have hmax : ∀ r, r ∈ rules → r.src.length ≤ max (N * Bs) (N * C) ∧ r.cmd.length ≤ max (N * Bs) (N * C) := fun r hr => by
    obtain ⟨a, b, _⟩ := j2 r hr
    omega
  refine ⟨hs.hZ, fun p hp => ?_, fun r hr => ?_, fun name => ?_⟩
  · rw [hways] at hp
    exact ofSuf_src (P := fun x => x.size ≤ Z) l (fun r hr x hx => (hs.rule r hr).2.2.2 x hx) p.1 ((right_in (of_right l)).1 p hp)
  · have := (hs.rule r hr).2.1
    have := hs.hC
    omega
  · rw [← ownR_eq, ownR_of hown]
    cases hg : mget (ownB (ofSuf l) rules files).1 name with
    | none => exact ⟨Nat.zero_le _, Nat.zero_le _, fun x hx => by cases hx⟩
    | some y =>
      simp only [Option.getD_some]
      have a1 := ownAll_len (Bs := N * Bs) (made := madeB (ofSuf l) rules) rules 0 ([], files) (fun t y h => by cases h) (fun r hr => (j2 r hr).1) name y hg
      have a2 := (ownAll_ok (B := N * C) (n := files.length) (made := madeB (ofSuf l) rules) (rules.map fun r => ⟨r.tg, r.kind, [], r.cmd, r.at_⟩) 0 ([], files) ⟨fun t y h => (by cases h), by simp⟩ (fun r hr => by
        obtain ⟨q, hq, rfl⟩ := List.mem_map.1 hr
        exact ⟨Nat.zero_le _, (j2 q hq).2.1⟩)).len
      have a3 := ownAll_src (P := fun x => x.size ≤ Z) (made := madeB (ofSuf l) rules) rules ([], files) (fun t y h => by cases h) (fun r hr => (j2 r hr).2.2.2) name y hg
      have a4 := (ownAll_ok (B := max (N * Bs) (N * C)) (n := files.length) (made := madeB (ofSuf l) rules) rules 0 ([], files) ⟨fun t y h => (by cases h), by simp⟩ hmax).own name y hg
      refine ⟨?_, ?_, a3⟩
      · rw [Nat.zero_add] at a1
        exact Nat.le_trans a1 (hNN _ hrl)
      · rw [Nat.zero_add] at a4
        have h1 : max (N * Bs) (N * C) ≤ 66 * 1048576 := by
          have q1 : N * Bs ≤ 66 * 200 := Nat.mul_le_mul hs.hN hs.hBs
          have q2 : N * C ≤ 66 * 1048576 := Nat.mul_le_mul hs.hN hs.hC
          omega
        have h2 : rules.length * max (N * Bs) (N * C) ≤ 66 * (66 * 1048576) := Nat.mul_le_mul hrl h1
        have := a4.2
        omega
theorem visit_nodes {raw : List RuleS} {X : BS} {P : NodeS → Prop} (hP : ∀ L name, P (nodeL raw X L name).1) : ∀ (k : Nat) (name : ByteArray) (s : VS), (∀ n, n ∈ s.nodes → P n) → ∀ n, n ∈ (visitB raw X k name s).nodes → P n
  | 0, _, _, h => h
  | k + 1, name, s, h => by
    have hall : ∀ (l : List ByteArray) (s : VS), (∀ n, n ∈ s.nodes → P n) → ∀ n, n ∈ (l.foldl (fun s x => visitB raw X k x s) s).nodes → P n := by
      intro l
      induction l with
      | nil => intro s h; exact h
      | cons x l ih =>
        intro s h
        rw [List.foldl_cons]
        exact ih _ (visit_nodes hP k x s h)
    have hw : ∀ (s : VS) e, (∀ n, n ∈ s.nodes → P n) → ∀ n, n ∈ (s.wrong e name).nodes → P n := fun s e h => by rw [(wrong_keep s e name).1]; exact h
    unfold visitB
    split
    · exact h
    split
    · exact hw _ _ h
    split
    · exact hw _ _ h
    split
    · exact hw _ _ h
    · have h1 := hall (nodeL raw X s.links name).1.src (beginB s name (nodeL raw X s.links name).2.2) h
      unfold endB
      split
      · intro n hn
        rcases List.mem_append.1 hn with hn | hn
        · exact h1 n hn
        · rw [List.mem_singleton.1 hn]; exact hP _ _
      · exact h1
theorem all_nodes {raw : List RuleS} {X : BS} {P : NodeS → Prop} (hP : ∀ L name, P (nodeL raw X L name).1) (k : Nat) : ∀ (l : List ByteArray) (s : VS), (∀ n, n ∈ s.nodes → P n) → ∀ n, n ∈ (visitAll raw X k l s).nodes → P n
  | [], s, h => h
  | x :: l, s, h => all_nodes hP k l _ (visit_nodes hP k x s h)
theorem nodeL_srclen {raw : List RuleS} {X : BS} {Z : Nat} (E : Env raw X Z) (L : List (ByteArray × ByteArray)) (name : ByteArray) : (nodeL raw X L name).1.src.length ≤ 1000001 := by
  have key : ∀ (c : Prop) [Decidable c] (l m : List ByteArray), l.length ≤ 1000001 → m.length ≤ 1000001 → (if c then srcB l else srcB m).length ≤ 1000001 := by
    intro c _ l m h1 h2
    have h3 : ∀ l : List ByteArray, (srcB l).length ≤ l.length := fun l => by
      have := srcB_len l l.length (Nat.le_refl _)
      rwa [List.take_length] at this
    have := h3 l
    have := h3 m
    split <;> omega
  have h1 : (ownR X.own name).src.length ≤ 1000000 := by rw [ownR_eq]; exact (E.own name).1
  exact key _ _ _ (by simp only [List.length_cons]; omega) (by show (ownR X.own name).src.length ≤ _; omega)
def goalsOf (l : List RuleS) (goals : List ByteArray) : List ByteArray := if goals.length = 0 then aimB l else goals
theorem aimB_size {l : List RuleS} {Z : Nat} (h : ∀ r, r ∈ l → (∀ t, t ∈ r.tg → t.size ≤ Z) ∧ ∀ x, x ∈ r.src → x.size ≤ Z) : ∀ g, g ∈ aimB l → g.size ≤ Z := by
  intro g hg
  unfold aimB aim1 at hg
  split at hg
  · rename_i r hr
    exact (h r (List.mem_of_find?_eq_some hr)).2 g (List.mem_of_mem_take hg)
  · unfold aim3 at hg
    split at hg
    · rename_i t ht
      rw [List.mem_singleton.1 hg]
      obtain ⟨r, hr, ht2⟩ := List.mem_flatMap.1 (List.mem_of_find?_eq_some ht)
      exact (h r hr).1 t ht2
    · cases hg
/-- What Build hands back. -/
def retB (GV NV : Value) (why : Int) (nm : ByteArray) (pat : Int) : Ending := .returned (.tuple #[.agg #[GV, NV], .agg #[.int .i64 why, .string nm, .int .i64 pat]])
def NoLoop (xs : List NX) : Prop := ∀ x, x ∈ xs → ¬ Reach (nextP (xs.map NX.nd)) x.nd.name x.nd.name
structure Bad (l : List RuleS) (files goals : List ByteArray) (why : Int) (nm : ByteArray) : Prop where
  ne : why ≠ 0
  how : joinB l = none ∨ ∃ rules, joinB l = some rules ∧ (goalsOf l goals = [] ∨ ((visV l rules files (goalsOf l goals)).why ≠ 0 ∧ why = (visV l rules files (goalsOf l goals)).why ∧ nm = (visV l rules files (goalsOf l goals)).pname) ∨
    ((visV l rules files (goalsOf l goals)).why = 0 ∧ ∃ xs, AOk (visV l rules files (goalsOf l goals)).nodes 40200 xs ∧ (Quiet l → ∀ x, x ∈ xs → x.nd.aft = []) ∧ ¬ NoLoop xs))
structure Good (l : List RuleS) (files goals gs : List ByteArray) (xs : List NX) : Prop where
  eq : gs = goalsOf l goals
  pos : gs ≠ []
  how : ∃ rules, joinB l = some rules ∧ (visV l rules files gs).why = 0 ∧ AOk (visV l rules files gs).nodes 40200 xs ∧ (Quiet l → ∀ x, x ∈ xs → x.nd.aft = []) ∧ ∀ x, x ∈ xs → x.nd.src.length ≤ 1000001
  loop : NoLoop xs
end Go.Proofs.Ytliglejbkpjamaa
