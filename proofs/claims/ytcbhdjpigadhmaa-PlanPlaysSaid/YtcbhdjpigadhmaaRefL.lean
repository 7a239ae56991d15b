/-
  The plain law of Right: what the reference tells, rounds and all, is whether build makes a plan.
-/
import Derived.Test.YtcbhdjpigadhmaaRefB
set_option linter.unusedVariables false
set_option linter.unusedSimpArgs false
namespace Go.Proofs.Ytcbhdjpigadhmaa
open Go.RowKit

def keepP (left : List Nd) (x : Nd) : Bool := someR x.src (namesG left) || someR x.aft (namesG left)
def keepR (left : List Nd) : List Nd := left.filter (keepP left)
/-- What is left after so many rounds. -/
def keepN (g : List Nd) : Nat → List Nd
  | 0 => g
  | k + 1 => keepR (keepN g k)
def okAt (g : List Nd) (i : Nat) (x : Nd) : Bool :=
  decide (atR ((namesG g).take i) x.name < 0) && (x.src.all (fun y => decide (0 ≤ atR ((namesG g).take i) y)) && x.aft.all (fun y => decide (0 ≤ atR (namesG g) y)))
def okUp (g : List Nd) : Nat → Bool
  | 0 => true
  | k + 1 => okUp g k && match g[k]? with
    | none => true
    | some x => okAt g k x
def rightR (g : List Nd) : Bool := decide (g.length ≤ 512) && (okUp g g.length && decide ((keepN g g.length).length = 0))

theorem someR_iff {l ins : List ByteArray} : someR l ins = true ↔ ∃ x, x ∈ l ∧ x ∈ ins := by
  unfold someR
  rw [List.any_eq_true]
  constructor
  · rintro ⟨x, h1, h2⟩; exact ⟨x, h1, atR_ge.1 (of_decide_eq_true h2)⟩
  · rintro ⟨x, h1, h2⟩; exact ⟨x, h1, decide_eq_true (atR_ge.2 h2)⟩
theorem okUp_iff {g : List Nd} : ∀ {k : Nat}, okUp g k = true ↔ ∀ i (h : i < g.length), i < k → okAt g i g[i] = true
  | 0 => by simp [okUp]
  | k + 1 => by
    unfold okUp
    rw [Bool.and_eq_true, okUp_iff (k := k)]
    constructor
    · rintro ⟨h1, h2⟩ i hi hik
      by_cases e : i = k
      · subst e; rw [List.getElem?_eq_getElem hi] at h2; exact h2
      · exact h1 i hi (by omega)
    · intro h
      refine ⟨fun i hi hik => h i hi (by omega), ?_⟩
      by_cases hk : k < g.length
      · rw [List.getElem?_eq_getElem hk]; exact h k hk (by omega)
      · rw [List.getElem?_eq_none (by omega)]
theorem mem_namesG {g : List Nd} {y : ByteArray} : y ∈ namesG g ↔ ∃ x, x ∈ g ∧ x.name = y := by unfold namesG; exact List.mem_map
theorem mem_take_names {g : List Nd} {y : ByteArray} {i : Nat} : y ∈ (namesG g).take i ↔ ∃ j, ∃ h : j < g.length, j < i ∧ g[j].name = y := by
  unfold namesG
  rw [List.mem_take_iff_getElem]
  constructor
  · rintro ⟨j, hj, e⟩
    rw [List.length_map] at hj
    rw [List.getElem_map] at e
    exact ⟨j, by omega, by omega, e⟩
  · rintro ⟨j, hj, hji, e⟩
    exact ⟨j, by rw [List.length_map]; omega, by rw [List.getElem_map]; exact e⟩
theorem keepN_sub (g : List Nd) : ∀ k x, x ∈ keepN g k → x ∈ g
  | 0, x, h => h
  | k + 1, x, h => keepN_sub g k x (List.mem_filter.1 h).1
/-- If ever one has all it needs gone, all go. -/
theorem keep_end {g : List Nd} (hl : ∀ left : List Nd, left ≠ [] → (∀ x, x ∈ left → x ∈ g) → ∃ x, x ∈ left ∧ keepP left x = false) : ∀ k, (keepN g k).length ≤ g.length - k
  | 0 => Nat.le_refl _
  | k + 1 => by
    have ih := keep_end hl k
    by_cases he : keepN g k = []
    · show (keepR (keepN g k)).length ≤ _
      rw [he]; exact Nat.zero_le _
    · obtain ⟨x, hx, hp⟩ := hl _ he (keepN_sub g k)
      have h1 : (keepR (keepN g k)).length < (keepN g k).length := by
        refine Nat.lt_of_le_of_ne (List.length_filter_le _ _) fun e => ?_
        have := List.length_filter_eq_length_iff.1 e x hx
        rw [hp] at this; cases this
      show (keepR (keepN g k)).length ≤ _
      omega
/-- A set of which each needs one stays. -/
theorem keep_stay {g : List Nd} (C : Nat → Prop) (hC : ∀ k (h : k < g.length), C k → ∃ j, ∃ h' : j < g.length, C j ∧ (g[j].name ∈ g[k].src ∨ g[j].name ∈ g[k].aft)) : ∀ n k (h : k < g.length), C k → g[k] ∈ keepN g n
  | 0, k, h, _ => List.getElem_mem h
  | n + 1, k, h, hk => by
    refine List.mem_filter.2 ⟨keep_stay C hC n k h hk, ?_⟩
    obtain ⟨j, hj, hCj, hor⟩ := hC k h hk
    have hm : g[j].name ∈ namesG (keepN g n) := mem_namesG.2 ⟨_, keep_stay C hC n j hj hCj, rfl⟩
    unfold keepP
    rw [Bool.or_eq_true]
    rcases hor with h1 | h1
    · exact .inl (someR_iff.2 ⟨_, h1, hm⟩)
    · exact .inr (someR_iff.2 ⟨_, h1, hm⟩)
theorem mhas_mput_ (m : List (ByteArray × Int)) (k x : ByteArray) (v : Int) (h : mhas (mput m k v) x = true) : x = k ∨ mhas m x = true := by
  by_cases e : x = k
  · exact .inl e
  · refine .inr ?_
    have := mget_put m k x v
    unfold mhas at h ⊢
    rw [this, if_neg e] at h
    exact h
theorem atRun_none : ∀ (r : List Nd) (i : Nat) (m : List (ByteArray × Int)), atRun m i r = none → ∃ j, ∃ h : j < r.length, mhas m r[j].name = true ∨ ∃ k, ∃ h' : k < r.length, k < j ∧ r[k].name = r[j].name
  | [], i, m, e => by simp [atRun] at e
  | x0 :: r, i, m, e => by
    unfold atRun at e
    split at e
    · rename_i hh
      exact ⟨0, by simp, .inl hh⟩
    · obtain ⟨j, hj, hor⟩ := atRun_none r (i + 1) _ e
      refine ⟨j + 1, by simpa using hj, ?_⟩
      rcases hor with h1 | ⟨k, hk, hkj, e1⟩
      · rcases mhas_mput_ _ _ _ _ h1 with h2 | h2
        · exact .inr ⟨0, by simp, by omega, by simpa using h2.symm⟩
        · exact .inl (by simpa using h2)
      · exact .inr ⟨k + 1, by simpa using hk, by omega, by simpa using e1⟩
theorem placesOf_none {m : List (ByteArray × Int)} {a : Int} : ∀ {l : List ByteArray}, placesOf m a l = none → ∃ x, x ∈ l ∧ ∀ v, mget m x = some v → a ≤ v
  | [], h => by simp [placesOf] at h
  | s :: l, h => by
    simp only [placesOf] at h
    cases hs : mget m s with
    | none => exact ⟨s, List.mem_cons_self .., fun v hv => by rw [hs] at hv; cases hv⟩
    | some i =>
      rw [hs] at h
      simp only at h
      by_cases ha : a ≤ i
      · exact ⟨s, List.mem_cons_self .., fun v hv => by rw [hs] at hv; cases hv; exact ha⟩
      · rw [if_neg ha, Option.map_eq_none_iff] at h
        obtain ⟨x, h1, h2⟩ := placesOf_none h
        exact ⟨x, List.mem_cons_of_mem _ h1, h2⟩
theorem edRun_none (m : List (ByteArray × Int)) (n : Nat) : ∀ (g : List Nd) (i : Nat) (acc : List (List Int × List Int)), edRun m n i acc g = none →
    ∃ j, ∃ h : j < g.length, placesOf m ((i + j : Nat) : Int) g[j].src = none ∨ placesOf m (n : Int) g[j].aft = none
  | [], i, acc, e => by simp [edRun] at e
  | x :: r, i, acc, e => by
    unfold edRun at e
    cases h1 : placesOf m (i : Int) x.src with
    | none => exact ⟨0, by simp, .inl (by simpa using h1)⟩
    | some a =>
      cases h2 : placesOf m (n : Int) x.aft with
      | none => exact ⟨0, by simp, .inr (by simpa using h2)⟩
      | some b =>
        rw [h1, h2] at e
        obtain ⟨j, hj, hor⟩ := edRun_none m n r (i + 1) _ e
        refine ⟨j + 1, by simpa using hj, ?_⟩
        have e3 : ((i + 1 + j : Nat) : Int) = ((i + (j + 1) : Nat) : Int) := by congr 1; omega
        rw [e3] at hor
        simpa using hor

/-- What Right tells. -/
theorem right_law (g : List Nd) : rightR g = (buildOf g).isSome := by
  unfold rightR buildOf
  by_cases h512 : 512 < g.length
  · rw [if_pos h512, decide_eq_false (by omega)]; rfl
  rw [if_neg h512, decide_eq_true (by omega : g.length ≤ 512), Bool.true_and]
  cases hm : atRun [] 0 g with
  | none =>
    obtain ⟨j, hj, hor⟩ := atRun_none g 0 [] hm
    have hko : okUp g g.length = false := by
      rw [Bool.eq_false_iff]
      intro h
      have h1 := okUp_iff.1 h j hj hj
      unfold okAt at h1
      rw [Bool.and_eq_true, decide_eq_true_eq] at h1
      rcases hor with h2 | ⟨k, hk, hkj, e⟩
      · simp [mhas, mget_nil] at h2
      · have := atR_ge.2 (mem_take_names.2 ⟨k, hk, hkj, e⟩)
        omega
    rw [hko]; rfl
  | some m =>
    obtain ⟨_, mA, mB⟩ := atRun_spec g 0 [] m hm
    have mA' : ∀ j (h : j < g.length), mget m g[j].name = some (j : Int) := fun j h => by rw [mA j h, Nat.zero_add]
    have mB' : ∀ x v, mget m x = some v → ∃ j, ∃ h : j < g.length, g[j].name = x ∧ v = (j : Int) := fun x v h => by
      rcases mB x v h with h1 | ⟨j, hj, e1, e2⟩
      · rw [mget_nil] at h1; cases h1
      · exact ⟨j, hj, e1, by rw [e2, Nat.zero_add]⟩
    have hun : ∀ i j (hi : i < g.length) (hj : j < g.length), g[i].name = g[j].name → i = j := fun i j hi hj e => by
      have h1 := mA' i hi
      rw [e, mA' j hj] at h1
      have := Option.some.inj h1; omega
    simp only
    cases hE : edRun m g.length 0 [] g with
    | none =>
      obtain ⟨j, hj, hor⟩ := edRun_none m g.length g 0 [] hE
      rw [Nat.zero_add] at hor
      have hko : okUp g g.length = false := by
        rw [Bool.eq_false_iff]
        intro h
        have h1 := okUp_iff.1 h j hj hj
        unfold okAt at h1
        rw [Bool.and_eq_true, Bool.and_eq_true, List.all_eq_true, List.all_eq_true] at h1
        rcases hor with h2 | h2
        · obtain ⟨x, hx, hv⟩ := placesOf_none h2
          have h3 := of_decide_eq_true (h1.2.1 x hx)
          obtain ⟨k, hk, hkj, e⟩ := mem_take_names.1 (atR_ge.1 h3)
          have := hv k (by rw [← e]; exact mA' k hk)
          omega
        · obtain ⟨x, hx, hv⟩ := placesOf_none h2
          have h3 := of_decide_eq_true (h1.2.2 x hx)
          obtain ⟨y, hy, e⟩ := mem_namesG.1 (atR_ge.1 h3)
          obtain ⟨k, hk, rfl⟩ := List.getElem_of_mem hy
          have := hv k (by rw [← e]; exact mA' k hk)
          omega
      rw [hko]; rfl
    | some E =>
      simp only
      obtain ⟨E', e1, e2, e3⟩ := edRun_spec m g.length g 0 [] E hE
      rw [List.nil_append] at e1
      subst e1
      have hmr : MapR g.length m := fun k v h => by obtain ⟨j, hj, _, e⟩ := mB' k v h; omega
      have eS : ∀ j (h : j < g.length), placesOf m (j : Int) g[j].src = some (E[j]'(by omega)).1 := fun j h => by have := (e3 j h (by omega)).1; rwa [Nat.zero_add] at this
      have eA : ∀ j (h : j < g.length), placesOf m (g.length : Int) g[j].aft = some (E[j]'(by omega)).2 := fun j h => (e3 j h (by omega)).2
      have hname : ∀ (a : Int) (l : List ByteArray) (ps : List Int), placesOf m a l = some ps → ∀ x, x ∈ l → ∃ k, ∃ h : k < g.length, g[k].name = x ∧ (k : Int) < a ∧ (k : Int) ∈ ps := fun a l ps hp x hx => by
        have h1 : mget m x ∈ l.map (mget m) := List.mem_map.2 ⟨x, hx, rfl⟩
        rw [places_map hp] at h1
        obtain ⟨v, hv, e⟩ := List.mem_map.1 h1
        obtain ⟨k, hk, e4, e5⟩ := mB' x v e.symm
        subst e5
        exact ⟨k, hk, e4, (placesOf_in hmr hp).2 _ hv, hv⟩
      have hplace : ∀ (a : Int) (l : List ByteArray) (ps : List Int), placesOf m a l = some ps → ∀ v, v ∈ ps → ∃ k, ∃ h : k < g.length, g[k].name ∈ l ∧ v = (k : Int) := fun a l ps hp v hv => by
        have h1 : some v ∈ ps.map some := List.mem_map.2 ⟨v, hv, rfl⟩
        rw [← places_map hp] at h1
        obtain ⟨x, hx, e⟩ := List.mem_map.1 h1
        obtain ⟨k, hk, e4, e5⟩ := mB' x v e
        exact ⟨k, hk, by rw [e4]; exact hx, e5⟩
      have hok : okUp g g.length = true := okUp_iff.2 fun i hi _ => by
        unfold okAt
        rw [Bool.and_eq_true, Bool.and_eq_true, List.all_eq_true, List.all_eq_true]
        refine ⟨decide_eq_true ?_, fun y hy => decide_eq_true (atR_ge.2 ?_), fun y hy => decide_eq_true (atR_ge.2 ?_)⟩
        · refine Int.not_le.1 fun h => ?_
          obtain ⟨k, hk, hki, e⟩ := mem_take_names.1 (atR_ge.1 h)
          have := hun k i hk hi e; omega
        · obtain ⟨k, hk, e, hki, _⟩ := hname _ _ _ (eS i hi) y hy
          exact mem_take_names.2 ⟨k, hk, by omega, e⟩
        · obtain ⟨k, hk, e, _, _⟩ := hname _ _ _ (eA i hi) y hy
          exact mem_namesG.2 ⟨_, List.getElem_mem hk, e⟩
      rw [hok, Bool.true_and]
      have hls : (befores (planOf g m E)).length = g.length := by simp [befores, planOf, e2]
      have hget : ∀ k (h : k < g.length), (befores (planOf g m E)).getD k [] = (E[k]'(by omega)).1 ++ (E[k]'(by omega)).2 := fun k h => by
        unfold befores
        rw [getD_zip (n := g.length) (by simp [planOf, e2]) (by simp [planOf, e2]) h]
        simp only [planOf]
        rw [getD_map_fst (by omega), getD_map_snd (by omega)]
      have hAll : AllR g.length (befores (planOf g m E)) := fun l hl => by
        obtain ⟨k, hk, rfl⟩ := List.getElem_of_mem hl
        have hk' : k < g.length := by omega
        have h1 := hget k hk'
        rw [List.getD_eq_getElem?_getD, List.getElem?_eq_getElem hk] at h1
        simp only [Option.getD_some] at h1
        rw [h1]
        intro v hv
        rcases List.mem_append.1 hv with hv | hv
        · exact (placesOf_in hmr (eS k hk')).1 v hv
        · exact (placesOf_in hmr (eA k hk')).1 v hv
      have hnl : (planOf g m E).names.length = g.length := by simp [planOf]
      cases hl : loopsOf (planOf g m E) with
      | true =>
        unfold loopsOf at hl
        rw [decide_eq_true_eq, hnl] at hl
        obtain ⟨C, ⟨k0, hk0, hC0⟩, hC⟩ := kahn_stuck hAll hls hl
        have hst := keep_stay (g := g) C (fun k hk hCk => by
          obtain ⟨v, hv, hCv⟩ := hC k hk hCk
          rw [hget k hk] at hv
          rcases List.mem_append.1 hv with hv | hv
          · obtain ⟨j, hj, e4, rfl⟩ := hplace _ _ _ (eS k hk) v hv
            exact ⟨j, hj, by simpa using hCv, .inl e4⟩
          · obtain ⟨j, hj, e4, rfl⟩ := hplace _ _ _ (eA k hk) v hv
            exact ⟨j, hj, by simpa using hCv, .inr e4⟩) g.length k0 hk0 hC0
        have : (keepN g g.length).length ≠ 0 := fun e => by rw [List.length_eq_zero_iff.1 e] at hst; cases hst
        rw [decide_eq_false this]; rfl
      | false =>
        unfold loopsOf at hl
        rw [decide_eq_false_iff_not, hnl] at hl
        have hend := keep_end (g := g) (fun left hne hsub => by
          obtain ⟨x0, hx0⟩ := List.exists_mem_of_ne_nil _ hne
          obtain ⟨k0, hk0, e0⟩ := List.getElem_of_mem (hsub x0 hx0)
          obtain ⟨k, hk, hCk, hno⟩ := kahn_least hAll hls hl (fun k => ∃ h : k < g.length, g[k] ∈ left) ⟨k0, hk0, hk0, by rw [e0]; exact hx0⟩
          obtain ⟨_, hCk⟩ := hCk
          refine ⟨g[k], hCk, ?_⟩
          rw [Bool.eq_false_iff]
          intro h
          unfold keepP at h
          rw [Bool.or_eq_true] at h
          have hdone : ∀ y, y ∈ namesG left → ∀ v, v ∈ (befores (planOf g m E)).getD k [] → mget m y = some v → False := fun y hy v hv hmv => by
            obtain ⟨z, hz, e⟩ := mem_namesG.1 hy
            obtain ⟨j, hj, rfl⟩ := List.getElem_of_mem (hsub z hz)
            rw [← e, mA' j hj] at hmv
            cases hmv
            exact hno _ hv ⟨by simpa using hj, by simpa using hz⟩
          rcases h with h | h
          · obtain ⟨y, hy, hyl⟩ := someR_iff.1 h
            obtain ⟨j, hj, e4, _, hv⟩ := hname _ _ _ (eS k hk) y hy
            exact hdone y hyl j (by rw [hget k hk]; exact List.mem_append_left _ hv) (by rw [← e4]; exact mA' j hj)
          · obtain ⟨y, hy, hyl⟩ := someR_iff.1 h
            obtain ⟨j, hj, e4, _, hv⟩ := hname _ _ _ (eA k hk) y hy
            exact hdone y hyl j (by rw [hget k hk]; exact List.mem_append_right _ hv) (by rw [← e4]; exact mA' j hj)) g.length
        rw [decide_eq_true (by omega)]; rfl
end Go.Proofs.Ytcbhdjpigadhmaa
