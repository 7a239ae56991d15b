/-
  Layer 19 (plan), without Go: the laws of plans.
-/
import Derived.Test.YtcbhdjpigadhmaaPlanM
import Derived.Test.YtcbhdjpigadhmaaPlanN
set_option linter.unusedVariables false
set_option linter.unusedSimpArgs false
namespace Go.Proofs.Ytcbhdjpigadhmaa

structure Inv (s : PS) : Prop where
  clos : ∀ k : Nat, k < s.names.length → stD s k = 0 → ∀ j, j ∈ s.needs.getD k [] → stD s j < 3
  run : ∀ k : Nat, k < s.names.length → 1 ≤ stD s k → stD s k ≤ 3 → (∀ j, j ∈ s.needs.getD k [] → stD s j = 2) ∧ ∀ j, j ∈ s.behind.getD k [] → 2 ≤ stD s j
/-- Whatever is skipped is so for what it needs. -/
def Why (s : PS) : Prop := ∀ k : Nat, k < s.names.length → stD s k = 4 → ∃ j, j ∈ s.needs.getD k [] ∧ 3 ≤ stD s j
theorem Inv.init {s : PS} (hz : ∀ k, stD s k = 0) : Inv s := ⟨fun k _ _ j _ => by rw [hz]; omega, fun k _ h _ => by rw [hz] at h; omega⟩
theorem Why.init {s : PS} (hz : ∀ k, stD s k = 0) : Why s := fun k _ h => by rw [hz] at h; omega
theorem ready_iff {s : PS} {i : Int} : readyB s i = true ↔ stD s i = 0 ∧ (∀ k, k ∈ s.needs.getD i.toNat [] → stD s k = 2) ∧ ∀ k, k ∈ s.behind.getD i.toNat [] → 2 ≤ stD s k := by
  unfold readyB notDone notGone
  simp only [Bool.and_eq_true, decide_eq_true_eq, Bool.not_eq_true', List.any_eq_false]
  constructor
  · rintro ⟨h1, h2, h3⟩
    exact ⟨h1, fun k hk => by simpa using h2 k hk, fun k hk => by have := h3 k hk; simp at this; omega⟩
  · rintro ⟨h1, h2, h3⟩
    exact ⟨h1, fun k hk => by simp [h2 k hk], fun k hk => by have := h3 k hk; simp; omega⟩
theorem st_turn {s : PS} (hG : PG s) {i : Nat} (hi : i < s.names.length) (st : Int) {k : Int} (hk : 0 ≤ k) : stD (turnS s i st) k = if k = i then st else stD s k :=
  stD_turn (by omega) (by have := hG.st2; rw [Int.toNat_natCast]; omega) hk
theorem need_ge {s : PS} (hG : PG s) {k : Nat} {j : Int} (h : j ∈ s.needs.getD k []) : 0 ≤ j ∧ j < (k : Int) := ⟨(hG.needR k j h).1, hG.ahead k j h⟩
theorem beh_ge {s : PS} (hG : PG s) {k : Nat} {j : Int} (h : j ∈ s.behind.getD k []) : 0 ≤ j := (hG.behR k j h).1
/-- Started: what was ready runs. -/
theorem Inv.start_ {s : PS} (hG : PG s) (h : Inv s) {i : Nat} (hi : i < s.names.length) (hr : readyB s i = true) : Inv (turnS s i 1) := by
  obtain ⟨r0, r1, r2⟩ := ready_iff.1 hr
  rw [Int.toNat_natCast] at r1 r2
  refine ⟨fun k hk h0 j hj => ?_, fun k hk h1 h3 => ⟨fun j hj => ?_, fun j hj => ?_⟩⟩
  · have hj' : j ∈ s.needs.getD k [] := hj
    rw [st_turn hG hi _ (by omega)] at h0
    rw [st_turn hG hi _ (need_ge hG hj').1]
    split
    · omega
    · split at h0
      · omega
      · exact h.clos k hk h0 j hj'
  · have hj' : j ∈ s.needs.getD k [] := hj
    rw [st_turn hG hi _ (by omega)] at h1 h3
    rw [st_turn hG hi _ (need_ge hG hj').1]
    by_cases hk' : (k : Int) = i
    · have : k = i := by omega
      subst this
      have := r1 j hj'
      split
      · rename_i e; rw [e] at this; omega
      · exact this
    · rw [if_neg hk'] at h1 h3
      have := (h.run k hk h1 h3).1 j hj'
      split
      · rename_i e; rw [e] at this; omega
      · exact this
  · have hj' : j ∈ s.behind.getD k [] := hj
    rw [st_turn hG hi _ (by omega)] at h1 h3
    rw [st_turn hG hi _ (beh_ge hG hj')]
    by_cases hk' : (k : Int) = i
    · have : k = i := by omega
      subst this
      have := r2 j hj'
      split
      · rename_i e; rw [e] at this; omega
      · exact this
    · rw [if_neg hk'] at h1 h3
      have := (h.run k hk h1 h3).2 j hj'
      split
      · rename_i e; rw [e] at this; omega
      · exact this
theorem Why.start_ {s : PS} (hG : PG s) (h : Why s) {i : Nat} (hi : i < s.names.length) (h0 : stD s i = 0) {st : Int} (hst : st < 4) : Why (turnS s i st) := by
  intro k hk h4
  rw [st_turn hG hi _ (by omega)] at h4
  split at h4
  · omega
  · obtain ⟨j, hj, h3⟩ := h k hk h4
    refine ⟨j, hj, ?_⟩
    rw [st_turn hG hi _ (need_ge hG hj).1]
    split
    · rename_i e; rw [e] at h3; omega
    · exact h3
/-- Finished: done. -/
theorem Inv.done_ {s : PS} (hG : PG s) (h : Inv s) {i : Nat} (hi : i < s.names.length) (h1 : stD s i = 1) : Inv (turnS s i 2) := by
  refine ⟨fun k hk h0 j hj => ?_, fun k hk h1' h3 => ⟨fun j hj => ?_, fun j hj => ?_⟩⟩
  · have hj' : j ∈ s.needs.getD k [] := hj
    rw [st_turn hG hi _ (by omega)] at h0
    rw [st_turn hG hi _ (need_ge hG hj').1]
    split
    · omega
    · split at h0
      · omega
      · exact h.clos k hk h0 j hj'
  · have hj' : j ∈ s.needs.getD k [] := hj
    rw [st_turn hG hi _ (by omega)] at h1' h3
    rw [st_turn hG hi _ (need_ge hG hj').1]
    split
    · rfl
    · by_cases hk' : (k : Int) = i
      · have : k = i := by omega
        subst this
        exact (h.run k hk (by omega) (by omega)).1 j hj'
      · rw [if_neg hk'] at h1' h3
        exact (h.run k hk h1' h3).1 j hj'
  · have hj' : j ∈ s.behind.getD k [] := hj
    rw [st_turn hG hi _ (by omega)] at h1' h3
    rw [st_turn hG hi _ (beh_ge hG hj')]
    split
    · omega
    · by_cases hk' : (k : Int) = i
      · have : k = i := by omega
        subst this
        exact (h.run k hk (by omega) (by omega)).2 j hj'
      · rw [if_neg hk'] at h1' h3
        exact (h.run k hk h1' h3).2 j hj'
theorem Why.done_ {s : PS} (hG : PG s) (h : Why s) {i : Nat} (hi : i < s.names.length) (h1 : stD s i = 1) {st : Int} (hst : st < 4) : Why (turnS s i st) := by
  intro k hk h4
  rw [st_turn hG hi _ (by omega)] at h4
  split at h4
  · omega
  · obtain ⟨j, hj, h3⟩ := h k hk h4
    refine ⟨j, hj, ?_⟩
    rw [st_turn hG hi _ (need_ge hG hj).1]
    split
    · rename_i e; rw [e] at h3; omega
    · exact h3
/-- Finished: failed, and what needs it skipped. -/
theorem fail_skip {s : PS} (hG : PG s) {i : Nat} (hi : i < s.names.length) : SkipR (turnS s i 3) i (skipF s.names.length (turnS s i 3) i) := by
  have hl2 := hG.st2
  have hGu : PG (turnS s i 3) := hG.turn (by omega) (by omega) (by omega) (by omega)
  exact hGu.skip (i := i) hi (by show s.names.length ≤ _; omega) (by rw [st_turn hG hi _ (by omega), if_pos rfl]; omega)
theorem Inv.fail_ {s : PS} (hG : PG s) (h : Inv s) {i : Nat} (hi : i < s.names.length) (h1 : stD s i = 1) : Inv (skipF s.names.length (turnS s i 3) i) := by
  have R := fail_skip hG hi
  obtain ⟨q1, q2, q3, q4, q5⟩ := R.sk.same
  have hn : (skipF s.names.length (turnS s i 3) i).names = s.names := q1
  have hd : (skipF s.names.length (turnS s i 3) i).needs = s.needs := q3
  have hb : (skipF s.names.length (turnS s i 3) i).behind = s.behind := q4
  refine ⟨fun k hk h0 j hj => ?_, fun k hk h1' h3 => ?_⟩
  · rw [hn] at hk
    have hj' : j ∈ s.needs.getD k [] := by rw [← hd]; exact hj
    refine Classical.byContradiction fun hge => ?_
    obtain ⟨he, hne⟩ := R.edge j k ⟨by omega, by rw [hn]; omega, by rw [Int.toNat_natCast]; exact hj, by omega, h0⟩
    obtain ⟨_, _, _, e4, e5⟩ := he
    rw [st_turn hG hi _ (need_ge hG hj').1, if_neg hne] at e4
    rw [st_turn hG hi _ (by omega)] at e5
    split at e5
    · omega
    · have := h.clos k hk e5 j hj'
      omega
  · rw [hn] at hk
    rw [hd, hb]
    have hks : stD (skipF s.names.length (turnS s i 3) i) k = stD (turnS s i 3) k := by
      rcases R.sk.st k (by omega) with e | e
      · exact e
      · omega
    rw [hks, st_turn hG hi _ (by omega)] at h1' h3
    have hrun : (∀ j, j ∈ s.needs.getD k [] → stD s j = 2) ∧ ∀ j, j ∈ s.behind.getD k [] → 2 ≤ stD s j := by
      by_cases hk' : (k : Int) = i
      · have : k = i := by omega
        subst this
        exact h.run k hk (by omega) (by omega)
      · rw [if_neg hk'] at h1' h3
        exact h.run k hk h1' h3
    refine ⟨fun j hj => ?_, fun j hj => ?_⟩
    · have h2 := hrun.1 j hj
      have hji : j ≠ i := fun e => by rw [e, h1] at h2; omega
      have hj0 := (need_ge hG hj).1
      rcases R.sk.st j hj0 with e | e
      · rw [e, st_turn hG hi _ hj0, if_neg hji]; exact h2
      · have e1 := e.1
        rw [st_turn hG hi _ hj0, if_neg hji] at e1; omega
    · have h2 := hrun.2 j hj
      have hj0 := beh_ge hG hj
      rcases R.sk.st j hj0 with e | e
      · rw [e, st_turn hG hi _ hj0]
        split
        · omega
        · exact h2
      · omega
theorem Why.fail_ {s : PS} (hG : PG s) (h : Why s) {i : Nat} (hi : i < s.names.length) (h1 : stD s i = 1) : Why (skipF s.names.length (turnS s i 3) i) := by
  have R := fail_skip hG hi
  obtain ⟨q1, q2, q3, q4, q5⟩ := R.sk.same
  have hn : (skipF s.names.length (turnS s i 3) i).names = s.names := q1
  have hd : (skipF s.names.length (turnS s i 3) i).needs = s.needs := q3
  intro k hk h4
  rw [hn] at hk
  rw [hd]
  have hw := Why.done_ hG h hi h1 (st := 3) (by omega)
  rcases R.sk.st k (by omega) with e | e
  · rw [e] at h4
    obtain ⟨j, hj, h3⟩ := hw k hk h4
    refine ⟨j, hj, ?_⟩
    rcases R.sk.st j (need_ge hG hj).1 with e | e
    · rw [e]; exact h3
    · omega
  · obtain ⟨j, hj, h3⟩ := R.why k (by omega) e.1 e.2
    exact ⟨j, by rw [Int.toNat_natCast] at hj; exact hj, h3⟩

/-- The states of a plan, counted. -/
def cN (s : PS) (k : Int) : Nat := s.states.count k
theorem count_all : ∀ {l : List Int}, (∀ x, x ∈ l → 0 ≤ x ∧ x ≤ 4) → l.count 0 + l.count 1 + l.count 2 + l.count 3 + l.count 4 = l.length
  | [], _ => rfl
  | x :: l, h => by
    have ih := count_all (l := l) (fun y hy => h y (List.mem_cons_of_mem _ hy))
    have hx := h x (List.mem_cons_self ..)
    simp only [List.count_cons, List.length_cons]
    rcases (by omega : x = 0 ∨ x = 1 ∨ x = 2 ∨ x = 3 ∨ x = 4) with rfl | rfl | rfl | rfl | rfl <;> simp <;> omega
theorem cN_all {s : PS} (hG : PG s) : cN s 0 + cN s 1 + cN s 2 + cN s 3 + cN s 4 = s.names.length := by
  have := count_all hG.stR
  have h1 := hG.st1
  have h2 := hG.st2
  unfold cN
  omega
theorem cnt_cN {s : PS} (hG : PG s) {k : Nat} (hk : k < 5) : s.counts.getD k 0 = (cN s k : Int) := hG.cnt k hk
theorem over_iff {s : PS} (hG : PG s) : overS s = true ↔ cN s 0 = 0 ∧ cN s 1 = 0 := by
  unfold overS
  have h0 := cnt_cN hG (k := 0) (by omega)
  have h1 := cnt_cN hG (k := 1) (by omega)
  rw [h0, h1, decide_eq_true_eq]
  show ((cN s 0 : Int) + (cN s 1 : Int) = 0) ↔ _
  omega
theorem cN_turn {s : PS} (hG : PG s) {i : Nat} (hi : i < s.names.length) (st y : Int) : (cN (turnS s i st) y : Int) = (cN s y : Int) - (if stD s i = y then 1 else 0) + (if st = y then 1 else 0) := by
  have hil : (i : Int).toNat < s.states.length := by have := hG.st2; rw [Int.toNat_natCast]; omega
  exact count_set hil
theorem cN_pos {s : PS} {y : Int} (h : 0 < cN s y) : ∃ i : Nat, i < s.states.length ∧ stD s i = y := by
  obtain ⟨i, hi, e⟩ := List.getElem_of_mem (List.count_pos_iff.1 h)
  exact ⟨i, hi, by unfold stD; rw [Int.toNat_natCast, List.getD_eq_getElem?_getD, List.getElem?_eq_getElem hi]; exact e⟩
theorem cN_of {s : PS} (hG : PG s) {i : Nat} (hi : i < s.names.length) {y : Int} (h : stD s i = y) : 0 < cN s y := by
  have hil : i < s.states.length := by have := hG.st2; omega
  have e : s.states[i] = y := by rw [← h]; unfold stD; rw [Int.toNat_natCast, List.getD_eq_getElem?_getD, List.getElem?_eq_getElem hil]; rfl
  exact List.count_pos_iff.2 (by rw [← e]; exact List.getElem_mem hil)
theorem skips_count : ∀ (a b : List Int), a.length = b.length → (∀ k : Nat, k < a.length → b.getD k 0 = a.getD k 0 ∨ (a.getD k 0 = 0 ∧ b.getD k 0 = 4)) → b.count 0 ≤ a.count 0 ∧ ∀ y, y ≠ 0 → y ≠ 4 → b.count y = a.count y
  | [], [], _, _ => ⟨Nat.le_refl _, fun _ _ _ => rfl⟩
  | x :: a, z :: b, hl, h => by
    obtain ⟨i1, i2⟩ := skips_count a b (by simpa using hl) (fun k hk => by simpa using h (k + 1) (by simpa using hk))
    have h0 := h 0 (by simp)
    simp only [List.getD_cons_zero] at h0
    simp only [List.count_cons]
    rcases h0 with rfl | ⟨rfl, rfl⟩
    · exact ⟨by omega, fun y hy hy4 => by rw [i2 y hy hy4]⟩
    · refine ⟨by simp; omega, fun y hy hy4 => ?_⟩
      rw [i2 y hy hy4]
      have e1 : ((4 : Int) == y) = false := by simpa using fun e => hy4 e.symm
      have e2 : ((0 : Int) == y) = false := by simpa using fun e => hy e.symm
      rw [e1, e2]
theorem Skips.counts {s t : PS} (hs : PG s) (ht : PG t) (h : Skips s t) : cN t 0 ≤ cN s 0 ∧ ∀ y, y ≠ 0 → y ≠ 4 → cN t y = cN s y := by
  have hn : t.names = s.names := h.same.1
  have a1 := hs.st1
  have a2 := hs.st2
  have b1 := ht.st1
  have b2 := ht.st2
  rw [hn] at b1 b2
  refine skips_count s.states t.states (by omega) (fun k hk => ?_)
  have := h.st k (by omega)
  unfold stD at this
  rw [Int.toNat_natCast] at this
  exact this

/-- As long as something waits, and nothing runs, something is ready. -/
theorem some_ready {s : PS} (hG : PG s) (hI : Inv s) (h1 : cN s 1 = 0) (h0 : 0 < cN s 0) : ∃ k : Nat, k < s.names.length ∧ readyB s k = true := by
  obtain ⟨i, hi, hz⟩ := cN_pos h0
  have hl1 := hG.st1
  obtain ⟨k, hk, hk0, hk1, hk2⟩ := hG.least (fun k => stD s k = 0) ⟨i, by omega, hz⟩
  have no1 : ∀ j : Nat, j < s.names.length → stD s j ≠ 1 := fun j hj e => by have := cN_of hG hj e; omega
  refine ⟨k, hk, ready_iff.2 ⟨hk0, fun j hj => ?_, fun j hj => ?_⟩⟩
  · rw [Int.toNat_natCast] at hj
    have hjr := hG.needR k j hj
    have e : ((j.toNat : Nat) : Int) = j := by omega
    have a := hk1 j hj
    rw [e] at a
    have b := no1 j.toNat (by omega)
    rw [e] at b
    have c := hI.clos k hk hk0 j hj
    have d := hG.range j
    omega
  · rw [Int.toNat_natCast] at hj
    have hjr := hG.behR k j hj
    have e : ((j.toNat : Nat) : Int) = j := by omega
    have a := hk2 j hj
    rw [e] at a
    have b := no1 j.toNat (by omega)
    rw [e] at b
    have d := hG.range j
    omega
theorem mem_ready {s : PS} {x : ByteArray} : x ∈ readyS s ↔ ∃ k : Nat, s.names[k]? = some x ∧ readyB s k = true := by
  unfold readyS readyUp
  rw [List.take_length]
  simp only [List.mem_map, List.mem_filter, Prod.exists]
  constructor
  · rintro ⟨a, b, ⟨h1, h2⟩, rfl⟩
    exact ⟨b, List.mem_zipIdx_iff_getElem?.1 h1, h2⟩
  · rintro ⟨k, h1, h2⟩
    exact ⟨x, k, ⟨List.mem_zipIdx_iff_getElem?.2 h1, h2⟩, rfl⟩
/-- What is ready may be started. -/
theorem start_ready {s : PS} (hG : PG s) {x : ByteArray} (h : x ∈ readyS s) : ∃ k : Nat, k < s.names.length ∧ mget s.at_ x = some (k : Int) ∧ readyB s k = true ∧ startS s x = (turnS s k 1, 0) := by
  obtain ⟨k, h1, h2⟩ := mem_ready.1 h
  have h3 := hG.at2 k x h1
  refine ⟨k, (List.getElem?_eq_some_iff.1 h1).1, h3, h2, ?_⟩
  unfold startS
  rw [h3]
  simp only [h2, if_true]
theorem ready_ne {s : PS} {k : Nat} (hk : k < s.names.length) (h : readyB s k = true) : readyS s ≠ [] := fun e => by
  have : s.names[k] ∈ readyS s := mem_ready.2 ⟨k, List.getElem?_eq_getElem hk, h⟩
  rw [e] at this; cases this
end Go.Proofs.Ytcbhdjpigadhmaa
