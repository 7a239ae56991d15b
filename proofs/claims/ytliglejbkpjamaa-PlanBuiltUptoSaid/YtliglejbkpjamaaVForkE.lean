/-
  A region that draws its order, where any number of effects are free: each makes something of its own, so that the order tells nothing.
-/
import Derived.Test.YtliglejbkpjamaaVFork
set_option linter.unusedVariables false
set_option linter.unusedSimpArgs false
namespace Go.Proofs.Ytliglejbkpjamaa
open Go.RowKit Go.Proofs.YtliglejbkpjamaaW.PrintLast

theorem Dn_get (m : Nat) (l : List Nat) (j : Nat) : (Dn m l)[j]? = if j < m then some (l.contains j) else none := by
  unfold Dn
  rw [List.getElem?_toArray, List.getElem?_map]
  by_cases h : j < m
  · rw [if_pos h, List.getElem?_range h]; rfl
  · rw [if_neg h, List.getElem?_eq_none (by simp; omega)]; rfl
theorem Dn_same (m : Nat) (l l' : List Nat) (h : ∀ j, j ∈ l ↔ j ∈ l') : Dn m l = Dn m l' := by
  refine Array.ext_getElem? fun j => ?_
  rw [Dn_get, Dn_get]
  have : l.contains j = l'.contains j := by rw [Bool.eq_iff_iff]; simp [h j]
  rw [this]
theorem Dn_step (m : Nat) (l : List Nat) (i : Nat) : (Dn m l).setIfInBounds i true = Dn m (i :: l) := by
  refine Array.ext_getElem? fun j => ?_
  rw [Array.getElem?_setIfInBounds, Dn_get, Dn_get]
  have hs : (Dn m l).size = m := by simp [Dn]
  by_cases h : i = j
  · subst h
    rw [if_pos rfl, hs]
    by_cases hm : i < m
    · simp [hm]
    · simp [hm]
  · rw [if_neg h]
    by_cases hm : j < m
    · rw [if_pos hm, if_pos hm]
      congr 1
      rw [Bool.eq_iff_iff]
      simp [Ne.symm h]
    · rw [if_neg hm, if_neg hm]
/-- An effect: its place, its slot, what it makes, what is known of its value. -/
structure Eff where
  i : Nat
  N : Nat
  deps : List Nat
  C : Value → List Chunk
  R : (Nat → Value) → Value → Prop
def subs : List Nat → List (List Nat)
  | [] => [[]]
  | x :: l => subs l ++ (subs l).map (x :: ·)
theorem filter_subs (p : Nat → Bool) : ∀ l : List Nat, l.filter p ∈ subs l
  | [] => by simp [subs]
  | x :: l => by
    unfold subs
    rw [List.filter_cons, List.mem_append]
    split
    · exact .inr (List.mem_map.2 ⟨_, filter_subs p l, rfl⟩)
    · exact .inl (filter_subs p l)
def effB (ops : Array Oper) (m : Nat) (es : List (Nat × List Nat)) (done : List Nat) : Bool :=
  (subs (es.map (·.1))).all fun D => D.length == es.length || (!(Region.ready .any ops (Dn m (D ++ done))).isEmpty && (Region.ready .any ops (Dn m (D ++ done))).all fun i => !D.contains i && es.any fun e => e.1 == i && e.2.all fun d => D.contains d) || !(D.all fun i => es.all fun e => e.1 != i || e.2.all fun d => D.contains d)
def putAll (A : Act) : List (Eff × Value) → Act
  | [] => A
  | p :: ρ => (putAll A ρ).put (some p.1.N) p.2
def allC (ρ : List (Eff × Value)) : List Chunk := ρ.flatMap fun p => p.1.C p.2
/-- The value of an effect that is done, by its place. -/
def got (ρ : List (Eff × Value)) (i : Nat) : Value := ((ρ.find? fun q => q.1.i == i).map (·.2)).getD undef
def allV : List Eff → (List (Eff × Value) → Prop) → Prop
  | [], p => p []
  | e :: es, p => ∀ v, allV es (fun ρ => p ((e, v) :: ρ))
theorem allV_get : ∀ (es : List Eff) (p : List (Eff × Value) → Prop) (ρ : List (Eff × Value)), allV es p → ρ.map Prod.fst = es → p ρ
  | [], p, [], h, _ => h
  | [], p, _ :: _, h, e => by cases e
  | x :: es, p, [], h, e => by cases e
  | x :: es, p, q :: ρ, h, e => by
    simp only [List.map_cons, List.cons.injEq] at e
    obtain ⟨e1, e2⟩ := e
    subst e1
    exact allV_get es _ ρ (h q.2) e2
theorem got_mem {ρ : List (Eff × Value)} (hn : (ρ.map fun q => q.1.i).Nodup) {q : Eff × Value} (hq : q ∈ ρ) : got ρ q.1.i = q.2 := by
  induction ρ with
  | nil => cases hq
  | cons p ρ ih =>
    rw [List.map_cons, List.nodup_cons] at hn
    unfold got
    rw [List.find?_cons]
    rcases List.mem_cons.1 hq with e | hq
    · subst e; simp
    · have hne : (p.1.i == q.1.i) = false := by
        rw [beq_eq_false_iff_ne]
        intro e
        exact hn.1 (e ▸ List.mem_map.2 ⟨q, hq, rfl⟩)
      rw [hne]
      exact ih hn.2 hq
theorem eval_putAll {A : Act} {ρ : List (Eff × Value)} (hn : (ρ.map fun q => q.1.N).Nodup) {q : Eff × Value} (hq : q ∈ ρ) (hz : q.1.N < A.tmps.size) : (putAll A ρ).eval (.tmp q.1.N) = q.2 := by
  have hs : ∀ ρ : List (Eff × Value), (putAll A ρ).tmps.size = A.tmps.size := fun ρ => by
    induction ρ with
    | nil => rfl
    | cons p ρ ih => unfold putAll; rw [put_size, ih]
  induction ρ with
  | nil => cases hq
  | cons p ρ ih =>
    rw [List.map_cons, List.nodup_cons] at hn
    unfold putAll
    rcases List.mem_cons.1 hq with e | hq
    · subst e; exact eval_put_self (by rw [hs]; exact hz) _
    · rw [eval_put_ne (fun e => hn.1 (by rw [e]; exact List.mem_map.2 ⟨q, hq, rfl⟩))]
      exact ih hn.2 hq
theorem eval_base {A : Act} {j : Nat} : ∀ {ρ : List (Eff × Value)}, (∀ q, q ∈ ρ → q.1.N ≠ j) → (putAll A ρ).eval (.tmp j) = A.eval (.tmp j)
  | [], _ => rfl
  | p :: ρ, h => by
    unfold putAll
    rw [eval_put_ne (h p (by simp))]
    exact eval_base (fun q hq => h q (by simp [hq]))
theorem map_perm_lift {α β : Type} (f : α → β) : ∀ {l m : List β}, l.Perm m → ∀ ρ : List α, ρ.map f = l → ∃ ρ', ρ.Perm ρ' ∧ ρ'.map f = m := by
  intro l m h
  induction h with
  | nil => intro ρ e; exact ⟨ρ, .refl _, e⟩
  | cons x _ ih =>
    intro ρ e
    cases ρ with
    | nil => cases e
    | cons a ρ =>
      simp only [List.map_cons, List.cons.injEq] at e
      obtain ⟨ρ', h1, h2⟩ := ih ρ e.2
      exact ⟨a :: ρ', h1.cons a, by rw [List.map_cons, e.1, h2]⟩
  | swap x y l =>
    intro ρ e
    cases ρ with
    | nil => cases e
    | cons a ρ =>
      cases ρ with
      | nil => cases e
      | cons b ρ =>
        simp only [List.map_cons, List.cons.injEq] at e
        exact ⟨b :: a :: ρ, .swap b a ρ, by simp only [List.map_cons]; rw [e.1, e.2.1, e.2.2]⟩
  | trans _ _ ih1 ih2 =>
    intro ρ e
    obtain ⟨ρ1, a1, b1⟩ := ih1 ρ e
    obtain ⟨ρ2, a2, b2⟩ := ih2 ρ1 b1
    exact ⟨ρ2, a1.trans a2, b2⟩
theorem putAll_perm (A : Act) {ρ ρ' : List (Eff × Value)} (h : ρ.Perm ρ') : (ρ.map (fun p => p.1.N)).Nodup → putAll A ρ = putAll A ρ' := by
  induction h with
  | nil => intro _; rfl
  | cons x _ ih =>
    intro hn
    rw [List.map_cons, List.nodup_cons] at hn
    unfold putAll
    rw [ih hn.2]
  | swap x y l =>
    intro hn
    simp only [List.map_cons, List.nodup_cons, List.mem_cons, not_or] at hn
    unfold putAll
    unfold putAll
    exact put_comm _ (fun e => hn.1.1 e.symm) _ _
  | trans h1 _ ih1 ih2 =>
    intro hn
    rw [ih1 hn, ih2 ((h1.map _).nodup_iff.1 hn)]
theorem allC_perm {ρ ρ' : List (Eff × Value)} (h : ρ.Perm ρ') : (allC ρ).Perm (allC ρ') := h.flatMap_right _

theorem nodup_perm {α : Type} : ∀ (l m : List α), l.Nodup → (∀ x, x ∈ l → x ∈ m) → m.length ≤ l.length → l.Perm m
  | [], m, _, _, h => by
    cases m with
    | nil => exact .refl _
    | cons a m => simp at h
  | x :: l, m, hn, hs, h => by
    obtain ⟨s, t, rfl⟩ := List.append_of_mem (hs x (by simp))
    rw [List.nodup_cons] at hn
    refine List.Perm.trans ?_ List.perm_middle.symm
    refine (nodup_perm l (s ++ t) hn.2 (fun y hy => ?_) (by simp at h ⊢; omega)).cons x
    have := hs y (by simp [hy])
    rw [List.mem_append, List.mem_cons] at this
    rw [List.mem_append]
    rcases this with h | h | h
    · exact .inl h
    · exact absurd (h ▸ hy) hn.1
    · exact .inr h
theorem nodup_len {α : Type} : ∀ (l m : List α), l.Nodup → (∀ x, x ∈ l → x ∈ m) → l.length ≤ m.length
  | [], m, _, _ => by simp
  | x :: l, m, hn, hs => by
    obtain ⟨s, t, rfl⟩ := List.append_of_mem (hs x (by simp))
    rw [List.nodup_cons] at hn
    have := nodup_len l (s ++ t) hn.2 (fun y hy => by
      have := hs y (by simp [hy])
      rw [List.mem_append, List.mem_cons] at this
      rw [List.mem_append]
      rcases this with h | h | h
      · exact .inl h
      · exact absurd (h ▸ hy) hn.1
      · exact .inr h)
    simp at this ⊢
    omega
section
variable {P : Program} {ops : Array Oper} {Q : Exit → Act → World → Prop} {S : World → Prop} {ds : List Nat}
/-- Effects in whatever order. -/
theorem effs {k' m : Nat} {done : List Nat} {A0 : Act} {W : World} (es : List Eff) {fp : Nat → Prop} {w0 : World} {F : List Chunk} (k : Nat) (hk : k = k' + es.length)
    (hB : effB ops m (es.map fun e => (e.i, e.deps)) done = true) (hd : (es.map Eff.i).Nodup) (hn : (es.map Eff.N).Nodup) (hz : ∀ e, e ∈ es → e.N < A0.tmps.size) (hS : ∀ G W, Mem fp w0 (G ++ F) W → S W) (HM : Mem fp w0 F W)
    (hst : ∀ e, e ∈ es → ∀ g g' v, (∀ d, d ∈ e.deps → g d = g' d) → e.R g v → e.R g' v)
    (hsp : ∀ e, e ∈ es → ∃ o, ops[e.i]? = some o ∧ ∀ (a : Act) (g : Nat → Value) W G (K : Act → World → Prop), (∀ j, (∀ e, e ∈ es → e.N ≠ j) → a.eval (.tmp j) = A0.eval (.tmp j)) → (∀ e', e' ∈ es → e'.i ∈ e.deps → a.eval (.tmp e'.N) = g e'.i ∧ e'.R g (g e'.i)) →
      Mem fp w0 (G ++ F) W → (∀ v W', e.R g v → Mem fp w0 (e.C v ++ (G ++ F)) W' → K (a.put (some e.N) v) W') → wpList P ops (Exit.then K Q) [o] a W)
    (h : allV es (fun ρ => ∀ W', (∀ q, q ∈ ρ → q.1.R (got ρ) q.2) → Mem fp w0 (allC ρ ++ F) W' → Left P ops Q S ds k' m (es.map Eff.i ++ done) (putAll A0 ρ) W')) : Left P ops Q S ds k m done A0 W := by
  have key : ∀ (n : Nat) (ρ : List (Eff × Value)) (W : World), ρ.length + n = es.length → (ρ.map Prod.fst).Nodup → (∀ q, q ∈ ρ → q.1 ∈ es ∧ q.1.R (got ρ) q.2 ∧ ∀ d, d ∈ q.1.deps → d ∈ ρ.map fun q => q.1.i) → Mem fp w0 (allC ρ ++ F) W → Left P ops Q S ds (k' + n) m ((ρ.map fun q => q.1.i) ++ done) (putAll A0 ρ) W := by
    intro n
    induction n with
    | zero =>
      intro ρ W hl hnd hin hm
      have hsub : (ρ.map Prod.fst).Perm es := by
        exact nodup_perm _ _ hnd (fun e he => by obtain ⟨q, hq, rfl⟩ := List.mem_map.1 he; exact (hin q hq).1) (by rw [List.length_map]; omega)
      obtain ⟨ρ', hp, he⟩ := map_perm_lift Prod.fst hsub ρ rfl
      have hN : (ρ.map (fun p => p.1.N)).Nodup := by
        have h1 : ρ.map (fun p => p.1.N) = (ρ.map Prod.fst).map Eff.N := by rw [List.map_map]; rfl
        rw [h1]; exact (hsub.map _).nodup_iff.2 hn
      have hI : (ρ.map (fun p => p.1.i)).Nodup := by
        have h1 : ρ.map (fun p => p.1.i) = (ρ.map Prod.fst).map Eff.i := by rw [List.map_map]; rfl
        rw [h1]; exact (hsub.map _).nodup_iff.2 hd
      have hI' : (ρ'.map (fun p => p.1.i)).Nodup := (hp.map _).nodup_iff.1 hI
      rw [putAll_perm A0 hp hN]
      have h2 := allV_get es _ ρ' h he W (fun q hq => by
        obtain ⟨a, b, c⟩ := hin q (hp.mem_iff.2 hq)
        refine hst q.1 a _ _ _ (fun d hd => ?_) b
        obtain ⟨q2, h3, rfl⟩ := List.mem_map.1 (c d hd)
        rw [got_mem hI h3, got_mem hI' (hp.mem_iff.1 h3)]) (hm.perm ((allC_perm hp).append_right _))
      have e2 : Dn m ((ρ.map fun q => q.1.i) ++ done) = Dn m (es.map Eff.i ++ done) := by
        refine Dn_same _ _ _ fun j => ?_
        rw [List.mem_append, List.mem_append]
        have h1 : ρ.map (fun p => p.1.i) = (ρ.map Prod.fst).map Eff.i := by rw [List.map_map]; rfl
        rw [h1, (hsub.map Eff.i).mem_iff]
      unfold Left at h2 ⊢
      rw [e2]; exact h2
    | succ n ih =>
      intro ρ W hl hnd hin hm
      have hDm : ∀ j, j ∈ (es.map Eff.i).filter (fun j => (ρ.map fun q => q.1.i).contains j) ↔ j ∈ ρ.map fun q => q.1.i := fun j => by
        rw [List.mem_filter]
        constructor
        · rintro ⟨_, h2⟩; simpa using h2
        · intro h2
          refine ⟨?_, by simpa using h2⟩
          obtain ⟨q, hq, rfl⟩ := List.mem_map.1 h2
          exact List.mem_map.2 ⟨q.1, (hin q hq).1, rfl⟩
      have em : (es.map fun e => (e.i, e.deps)).map (·.1) = es.map Eff.i := by rw [List.map_map]; rfl
      have hinj : ∀ e e', e ∈ es → e' ∈ es → e.i = e'.i → e = e' := by
        have : ∀ (l : List Eff), (l.map Eff.i).Nodup → ∀ e e', e ∈ l → e' ∈ l → e.i = e'.i → e = e' := by
          intro l
          induction l with
          | nil => intro _ e e' he; cases he
          | cons x l ih2 =>
            intro hn2 e e' he he' hee
            rw [List.map_cons, List.nodup_cons] at hn2
            rcases List.mem_cons.1 he with rfl | h1 <;> rcases List.mem_cons.1 he' with rfl | h2
            · rfl
            · exact absurd (hee ▸ List.mem_map.2 ⟨e', h2, rfl⟩) hn2.1
            · exact absurd (hee.symm ▸ List.mem_map.2 ⟨e, h1, rfl⟩) hn2.1
            · exact ih2 hn2.2 e e' h1 h2 hee
        exact this es hd
      have hB' := List.all_eq_true.1 hB _ (by rw [em]; exact filter_subs (fun j => (ρ.map fun q => q.1.i).contains j) (es.map Eff.i))
      have eD : Dn m ((es.map Eff.i).filter (fun j => (ρ.map fun q => q.1.i).contains j) ++ done) = Dn m ((ρ.map fun q => q.1.i) ++ done) := Dn_same _ _ _ fun j => by rw [List.mem_append, List.mem_append, hDm j]
      rw [eD] at hB'
      have hlen : ((es.map Eff.i).filter (fun j => (ρ.map fun q => q.1.i).contains j)).length ≠ (es.map Eff.i).length := by
        intro e
        have := nodup_len _ (ρ.map fun q => q.1.i) hd (fun j hj => by
          have := (List.filter_eq_self.1 (List.filter_sublist.eq_of_length e)) j hj
          simpa using this)
        simp at this
        omega
      rw [Bool.or_eq_true, Bool.or_eq_true] at hB'
      rcases hB' with (hB' | hB') | hB'
      · exact absurd (by simpa using hB') hlen
      rotate_left 1
      · exfalso
        rw [Bool.not_eq_true', ← Bool.not_eq_true] at hB'
        refine hB' (List.all_eq_true.2 fun i hi => List.all_eq_true.2 fun p hp => ?_)
        obtain ⟨e, he, rfl⟩ := List.mem_map.1 hp
        obtain ⟨q, hq, rfl⟩ := List.mem_map.1 ((hDm i).1 hi)
        by_cases hc : e.i = q.1.i
        · have := hinj e q.1 he (hin q hq).1 hc
          subst this
          rw [Bool.or_eq_true]
          refine .inr (List.all_eq_true.2 fun d hd2 => ?_)
          rw [List.contains_iff_mem]
          exact (hDm d).2 ((hin q hq).2.2 d hd2)
        · rw [Bool.or_eq_true]; exact .inl (by simpa using hc)
      rw [Bool.and_eq_true] at hB'
      obtain ⟨hne, hall⟩ := hB'
      refine wpAnyLast_all rfl (by intro e; rw [e] at hne; cases hne) (fun j hj => ?_)
      have hj2 := List.all_eq_true.1 hall j hj
      rw [Bool.and_eq_true] at hj2
      obtain ⟨hj4, hj3⟩ := hj2
      obtain ⟨p, hp, hp2⟩ := List.any_eq_true.1 hj3
      obtain ⟨e, he, rfl⟩ := List.mem_map.1 hp
      rw [Bool.and_eq_true] at hp2
      obtain ⟨hp3, hp4⟩ := hp2
      have hje : e.i = j := by simpa using hp3
      subst hje
      have hdeps : ∀ d, d ∈ e.deps → d ∈ ρ.map fun q => q.1.i := fun d hd2 => (hDm d).1 (by
        have := List.all_eq_true.1 hp4 d hd2
        rwa [List.contains_iff_mem] at this)
      have hnot : e ∉ ρ.map Prod.fst := by
        intro hc
        obtain ⟨q, hq, rfl⟩ := List.mem_map.1 hc
        have hd2 := (hDm q.1.i).2 (List.mem_map.2 ⟨q, hq, rfl⟩)
        rw [← List.contains_iff_mem] at hd2
        rw [hd2] at hj4; cases hj4
      have hnoti : e.i ∉ ρ.map fun q => q.1.i := by
        intro hc
        obtain ⟨q, hq, hqe⟩ := List.mem_map.1 hc
        exact hnot (hinj q.1 e (hin q hq).1 he hqe ▸ List.mem_map.2 ⟨q, hq, rfl⟩)
      have hI : (ρ.map (fun p => p.1.i)).Nodup := by
        have h1 : ρ.map (fun p => p.1.i) = (ρ.map Prod.fst).map Eff.i := by rw [List.map_map]; rfl
        rw [h1]
        refine List.pairwise_map.2 (List.Pairwise.imp_of_mem ?_ hnd)
        intro a b ha hb hab hc
        obtain ⟨qa, h1, rfl⟩ := List.mem_map.1 ha
        obtain ⟨qb, h2, rfl⟩ := List.mem_map.1 hb
        exact hab (hinj _ _ (hin qa h1).1 (hin qb h2).1 hc)
      have hinjN : ∀ (l : List Eff), (l.map Eff.N).Nodup → ∀ e e', e ∈ l → e' ∈ l → e.N = e'.N → e = e' := by
        intro l
        induction l with
        | nil => intro _ e e' he; cases he
        | cons x l ih2 =>
          intro hn2 e e' he he' hee
          rw [List.map_cons, List.nodup_cons] at hn2
          rcases List.mem_cons.1 he with rfl | h1 <;> rcases List.mem_cons.1 he' with rfl | h2
          · rfl
          · exact absurd (hee ▸ List.mem_map.2 ⟨e', h2, rfl⟩) hn2.1
          · exact absurd (hee.symm ▸ List.mem_map.2 ⟨e, h1, rfl⟩) hn2.1
          · exact ih2 hn2.2 e e' h1 h2 hee
      have hNn : (ρ.map (fun p => p.1.N)).Nodup := by
        have h1 : ρ.map (fun p => p.1.N) = (ρ.map Prod.fst).map Eff.N := by rw [List.map_map]; rfl
        rw [h1]
        refine List.pairwise_map.2 (List.Pairwise.imp_of_mem ?_ hnd)
        intro a b ha hb hab hc
        obtain ⟨qa, h1, rfl⟩ := List.mem_map.1 ha
        obtain ⟨qb, h2, rfl⟩ := List.mem_map.1 hb
        exact hab (hinjN es hn _ _ (hin qa h1).1 (hin qb h2).1 hc)
      obtain ⟨o, ho, hw⟩ := hsp e he
      refine wpOp_of_list ho (fun a' w' hk => hk) (hw (putAll A0 ρ) (got ρ) W (allC ρ) _ (fun j hj => eval_base fun q hq => hj q.1 (hin q hq).1) (fun e' he' hd' => ?_) hm (fun v W' hR hm' => ⟨fun hnd' _ => ?_, ?_⟩))
      · obtain ⟨q, hq, hqe⟩ := List.mem_map.1 (hdeps e'.i hd')
        have := hinj q.1 e' (hin q hq).1 he' hqe
        subst this
        rw [eval_putAll hNn hq (hz _ he'), got_mem hI hq]
        exact ⟨rfl, (hin q hq).2.1⟩
      · exact hS (e.C v ++ allC ρ) W' (by rw [List.append_assoc]; exact hm')
      · rw [Dn_step]
        have hI2 : (((e, v) :: ρ).map fun q => q.1.i).Nodup := by rw [List.map_cons, List.nodup_cons]; exact ⟨hnoti, hI⟩
        have hgs : ∀ d, (d ∈ ρ.map fun q => q.1.i) → got ρ d = got ((e, v) :: ρ) d := fun d hd2 => by
          obtain ⟨q, hq, rfl⟩ := List.mem_map.1 hd2
          rw [got_mem hI hq, got_mem hI2 (List.mem_cons_of_mem _ hq)]
        refine ih ((e, v) :: ρ) W' (by simp only [List.length_cons]; omega) (by rw [List.map_cons, List.nodup_cons]; exact ⟨hnot, hnd⟩) (fun q hq => ?_) ?_
        · rcases List.mem_cons.1 hq with rfl | hq
          · exact ⟨he, hst e he _ _ _ (fun d hd2 => hgs d (hdeps d hd2)) hR, fun d hd2 => List.mem_cons_of_mem _ (hdeps d hd2)⟩
          · obtain ⟨a, b, c⟩ := hin q hq
            exact ⟨a, hst q.1 a _ _ _ (fun d hd2 => hgs d (c d hd2)) b, fun d hd2 => List.mem_cons_of_mem _ (c d hd2)⟩
        · show Mem fp w0 (((e, v) :: ρ).flatMap (fun p => p.1.C p.2) ++ F) W'
          rw [List.flatMap_cons, List.append_assoc]; exact hm'
  have h0 := key es.length [] W (by simp) (by simp) (fun q hq => by cases hq) HM
  rw [hk]
  exact h0
end
theorem fm_congr {α β : Type _} {f g : Nat → Option α} : ∀ l : List Nat, (∀ x, x ∈ l → f x = g x) → l.filterMap f = l.filterMap g
  | [], _ => rfl
  | a :: l, h => by rw [List.filterMap_cons, List.filterMap_cons, h a (by simp), fm_congr (β := β) l (fun x hx => h x (by simp [hx]))]
/-- Some of the first chunks, in whatever order; the others stay. -/
theorem Mem.psel {fp : Nat → Prop} {w0 w : World} {L C : List Chunk} (h : Mem fp w0 (L ++ C) w) (js : List Nat) (n : Nat) (hl : L.length = n) (hn : ((js.all fun j => decide (j < n)) && decide js.Nodup) = true) : Mem fp w0 (js.filterMap (fun j => L[j]?) ++ C) w := by
  subst hl
  rw [Bool.and_eq_true, List.all_eq_true, decide_eq_true_eq] at hn
  obtain ⟨h1, h2⟩ := hn
  have h1 : ∀ j, j ∈ js → j < L.length := fun j hj => by simpa using h1 j hj
  have hs := h.sel (js ++ (List.range C.length).map (· + L.length)) (by
    rw [List.nodup_append]
    refine ⟨h2, List.pairwise_map.2 (List.Pairwise.imp (fun hab => by omega) (List.nodup_range (n := C.length))), fun a ha b hb e => ?_⟩
    obtain ⟨c, _, rfl⟩ := List.mem_map.1 hb
    have := h1 a ha
    omega)
  rw [List.filterMap_append] at hs
  have e1 : js.filterMap (fun j => (L ++ C)[j]?) = js.filterMap (fun j => L[j]?) := fm_congr (β := Chunk) _ fun j hj => List.getElem?_append_left (h1 j hj)
  have e2 : ((List.range C.length).map (· + L.length)).filterMap (fun j => (L ++ C)[j]?) = C := by
    rw [List.filterMap_map]
    have : ((fun j => (L ++ C)[j]?) ∘ fun x => x + L.length) = fun j => C[j]? := by
      funext j
      simp only [Function.comp]
      rw [List.getElem?_append_right (by omega), Nat.add_sub_cancel]
    rw [this]
    refine List.ext_getElem? fun k => ?_
    clear this e1 hs h1 h2 h
    induction C generalizing k with
    | nil => simp
    | cons c C ih =>
      rw [List.length_cons, List.range_succ_eq_map, List.filterMap_cons, List.filterMap_map]
      simp only [List.getElem?_cons_zero]
      have : ((fun j => (c :: C)[j]?) ∘ Nat.succ) = fun j => C[j]? := by funext j; simp
      rw [this]
      cases k with
      | zero => simp
      | succ k => simp only [List.getElem?_cons_succ]; exact ih k
  rw [e1, e2] at hs
  exact hs
end Go.Proofs.Ytliglejbkpjamaa
