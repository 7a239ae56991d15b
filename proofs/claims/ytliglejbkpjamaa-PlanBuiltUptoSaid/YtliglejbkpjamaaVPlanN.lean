/-
  Layer 19 (plan), without Go: what holds of a plan that was built.
-/
import Derived.Test.YtliglejbkpjamaaVPlanQ
set_option linter.unusedVariables false
set_option linter.unusedSimpArgs false
namespace Go.Proofs.Ytliglejbkpjamaa

theorem atRun_spec : ∀ (r : List Nd) (i : Nat) (m m' : List (ByteArray × Int)), atRun m i r = some m' →
    (∀ x v, mget m x = some v → mget m' x = some v) ∧ (∀ j (h : j < r.length), mget m' r[j].name = some ((i + j : Nat) : Int)) ∧
    (∀ x v, mget m' x = some v → mget m x = some v ∨ ∃ j, ∃ h : j < r.length, r[j].name = x ∧ v = ((i + j : Nat) : Int))
  | [], i, m, m', e => by
    cases e
    exact ⟨fun x v h => h, fun j h => by simp at h, fun x v h => .inl h⟩
  | x0 :: r, i, m, m', e => by
    unfold atRun at e
    split at e
    · cases e
    · rename_i hh
      have hn : mget m x0.name = none := by simpa [mhas] using hh
      obtain ⟨h1, h2, h3⟩ := atRun_spec r (i + 1) _ m' e
      refine ⟨fun x v h => h1 x v ?_, fun j hj => ?_, fun x v h => ?_⟩
      · rw [mget_put, if_neg (fun e => by rw [e, hn] at h; cases h)]; exact h
      · cases j with
        | zero => exact h1 _ _ (by rw [mget_put]; simp)
        | succ j =>
          have := h2 j (by simpa using hj)
          rw [show i + 1 + j = i + (j + 1) from by omega] at this
          simpa using this
      · rcases h3 x v h with h | ⟨j, hj, e1, e2⟩
        · rw [mget_put] at h
          split at h
          · rename_i e3
            cases h
            exact .inr ⟨0, by simp, by simp [e3], by simp⟩
          · exact .inl h
        · exact .inr ⟨j + 1, by simpa using hj, by simpa using e1, by rw [e2]; congr 1; omega⟩
theorem edRun_spec (m : List (ByteArray × Int)) (n : Nat) : ∀ (g : List Nd) (i : Nat) (acc E : List (List Int × List Int)), edRun m n i acc g = some E →
    ∃ E', E = acc ++ E' ∧ E'.length = g.length ∧ ∀ j (h : j < g.length) (h' : j < E'.length), placesOf m ((i + j : Nat) : Int) g[j].src = some E'[j].1 ∧ placesOf m (n : Int) g[j].aft = some E'[j].2
  | [], i, acc, E, e => by
    cases e
    exact ⟨[], by simp, rfl, fun j h => by simp at h⟩
  | x :: g, i, acc, E, e => by
    unfold edRun at e
    split at e
    · rename_i a b ha hb
      obtain ⟨E', h1, h2, h3⟩ := edRun_spec m n g (i + 1) _ E e
      refine ⟨(a, b) :: E', by rw [h1]; simp, by simp [h2], fun j hj hj' => ?_⟩
      cases j with
      | zero => exact ⟨by simpa using ha, by simpa using hb⟩
      | succ j =>
        have := h3 j (by simpa using hj) (by simpa using hj')
        rw [show i + 1 + j = i + (j + 1) from by omega] at this
        simpa using this
    · cases e
theorem places_map {m : List (ByteArray × Int)} {ahead : Int} : ∀ {l : List ByteArray} {a : List Int}, placesOf m ahead l = some a → l.map (mget m) = a.map some
  | [], a, h => by cases h; rfl
  | s :: l, a, h => by
    simp only [placesOf] at h
    cases hs : mget m s with
    | none => rw [hs] at h; cases h
    | some i =>
      rw [hs] at h
      simp only at h
      split at h
      · cases h
      · obtain ⟨a', h1, rfl⟩ := Option.map_eq_some_iff.1 h
        simp [hs, places_map h1]

/-- A plan as it was built of a graph. -/
structure Built (g : List Nd) (s : PS) : Prop where
  names : s.names = g.map (·.name)
  srcs : ∀ i (h : i < g.length), g[i].src.map (mget s.at_) = (s.needs.getD i []).map some
  afts : ∀ i (h : i < g.length), g[i].aft.map (mget s.at_) = (s.behind.getD i []).map some
theorem Built.sameP {g : List Nd} {s t : PS} (h : Same s t) (hb : Built g s) : Built g t := by
  obtain ⟨h1, h2, h3, h4, h5⟩ := h
  exact ⟨by rw [h1]; exact hb.names, fun i hi => by rw [h2, h3]; exact hb.srcs i hi, fun i hi => by rw [h2, h4]; exact hb.afts i hi⟩

theorem getD_map_fst {E : List (List Int × List Int)} {i : Nat} (h : i < E.length) : (E.map (·.1)).getD i [] = E[i].1 := by
  rw [List.getD_eq_getElem?_getD, List.getElem?_map, List.getElem?_eq_getElem h]; rfl
theorem getD_map_snd {E : List (List Int × List Int)} {i : Nat} (h : i < E.length) : (E.map (·.2)).getD i [] = E[i].2 := by
  rw [List.getD_eq_getElem?_getD, List.getElem?_map, List.getElem?_eq_getElem h]; rfl
theorem getD_zip {A B : List (List Int)} {n k : Nat} (ha : A.length = n) (hb : B.length = n) (hk : k < n) : (List.zipWith (· ++ ·) A B).getD k [] = A.getD k [] ++ B.getD k [] := by
  simp only [List.getD_eq_getElem?_getD]
  rw [List.getElem?_eq_getElem (by rw [List.length_zipWith]; omega), List.getElem?_eq_getElem (by omega), List.getElem?_eq_getElem (by omega)]
  simp

theorem built_all {g : List Nd} {s : PS} (hb : buildOf g = some s) : ∃ m E, atRun [] 0 g = some m ∧ edRun m g.length 0 [] g = some E ∧ s = planOf g m E ∧ loopsOf (planOf g m E) = false := by
  unfold buildOf at hb
  split at hb
  · cases hb
  · split at hb
    · cases hb
    · rename_i m hm
      split at hb
      · cases hb
      · rename_i E hE
        split at hb
        · cases hb
        · rename_i hl
          cases hb
          exact ⟨m, E, hm, hE, rfl, by simpa using hl⟩
theorem build_good {g : List Nd} {s : PS} (hb : buildOf g = some s) (ok : PlanOk s) : PG s ∧ Built g s ∧ (∀ k, stD s k = 0) ∧ s.names.length = g.length := by
  obtain ⟨m, E, hm, hE, rfl, hl⟩ := built_all hb
  obtain ⟨m1, m2, m3⟩ := atRun_spec g 0 [] m hm
  obtain ⟨E', e1, e2, e3⟩ := edRun_spec m g.length g 0 [] E hE
  rw [List.nil_append] at e1
  subst e1
  have hnl : (planOf g m E).names.length = g.length := by simp [planOf]
  have hne : (planOf g m E).needs.length = g.length := by simp [planOf, e2]
  have hbe : (planOf g m E).behind.length = g.length := by simp [planOf, e2]
  have hz : ∀ k, stD (planOf g m E) k = 0 := by
    intro k
    unfold stD planOf
    simp only
    rw [List.getD_eq_getElem?_getD, List.getElem?_replicate]; split <;> rfl
  refine ⟨⟨ok, by simp [planOf], by simp [planOf], ?_, ?_, ?_, rfl, ?_, ?_, ?_, ?_, ?_⟩, ⟨rfl, ?_, ?_⟩, hz, hnl⟩
  · simp [planOf]
  · have h1 := usRun_len (M := 50000) (planOf g m E).needs (i := 0) (B := 0) (us := List.replicate g.length []) ok.neL (fun l hl => by rw [List.mem_replicate] at hl; rw [hl.2]; simp)
    intro l hl
    have h2 := h1 l hl
    have h3 := ok.n512
    simp [planOf, e2] at h2 h3
    omega
  · intro x hx
    have : x = 0 := (List.mem_replicate.1 hx).2
    omega
  · intro k hk
    show [(g.length : Int), 0, 0, 0, 0].getD k 0 = ((List.replicate g.length (0 : Int)).count (k : Int) : Int)
    rw [List.count_replicate]
    match k, hk with
    | 0, _ => simp
    | 1, _ => simp
    | 2, _ => simp
    | 3, _ => simp
    | 4, _ => simp
  · intro x i h
    rcases m3 x i h with h | ⟨j, hj, e1, e2⟩
    · cases h
    · rw [e2]
      refine ⟨by omega, ?_⟩
      rw [Int.toNat_natCast, Nat.zero_add]
      simp [planOf, hj, e1]
  · intro i x h
    have h' : (g.map (·.name))[i]? = some x := h
    rw [List.getElem?_map] at h'
    obtain ⟨y, hy, rfl⟩ := Option.map_eq_some_iff.1 h'
    obtain ⟨hi, rfl⟩ := List.getElem?_eq_some_iff.1 hy
    have := m2 i hi
    rw [Nat.zero_add] at this
    exact this
  · intro i k hk
    have hk' : k ∈ (E.map (·.1)).getD i [] := hk
    by_cases hi : i < g.length
    · rw [getD_map_fst (by omega)] at hk'
      have := placesOf_in (n := g.length) (by have := atRun_in g (i := 0) (fun k v h => by cases h) hm; rwa [Nat.zero_add] at this) (e3 i hi (by omega)).1
      have := this.2 k hk'
      omega
    · rw [List.getD_eq_getElem?_getD, List.getElem?_eq_none (by simp; omega)] at hk'
      cases hk'
  · intro C hC
    have hA : AllR g.length (befores (planOf g m E)) := by
      intro l hl
      obtain ⟨i, hi, rfl⟩ := List.getElem_of_mem hl
      have hi' : i < (planOf g m E).needs.length ∧ i < (planOf g m E).behind.length := by simp [befores] at hi; omega
      have h1 := ok.neR _ (List.getElem_mem hi'.1)
      have h2 := ok.beR _ (List.getElem_mem hi'.2)
      rw [hnl] at h1 h2
      simp only [befores, List.getElem_zipWith]
      intro x hx
      rcases List.mem_append.1 hx with hx | hx
      · exact h1 x hx
      · exact h2 x hx
    have hll : (befores (planOf g m E)).length = g.length := by simp only [befores, List.length_zipWith]; omega
    have hK : ¬ (kahnOf g.length (befores (planOf g m E))).1 < g.length := by
      unfold loopsOf at hl
      rw [hnl] at hl
      simpa using hl
    rw [hnl] at hC ⊢
    obtain ⟨k, hk, hCk, hno⟩ := kahn_least hA hll hK C hC
    unfold befores at hno
    rw [getD_zip hne hbe hk] at hno
    exact ⟨k, hk, hCk, fun j hj => hno j (List.mem_append_left _ hj), fun j hj => hno j (List.mem_append_right _ hj)⟩
  · intro i hi
    show _ = ((E.map (·.1)).getD i []).map some
    rw [getD_map_fst (by omega)]
    exact places_map (e3 i hi (by omega)).1
  · intro i hi
    show _ = ((E.map (·.2)).getD i []).map some
    rw [getD_map_snd (by omega)]
    exact places_map (e3 i hi (by omega)).2
end Go.Proofs.Ytliglejbkpjamaa
