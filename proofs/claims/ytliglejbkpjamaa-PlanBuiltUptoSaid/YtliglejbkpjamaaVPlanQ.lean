/-
  Layer 19 (plan), without Go: what a plan's calls come to, and what holds of a plan all along.
-/
import Derived.Test.YtliglejbkpjamaaVPlanA
import Derived.Test.YtliglejbkpjamaaVPlanD
set_option linter.unusedVariables false
set_option linter.unusedSimpArgs false
namespace Go.Proofs.Ytliglejbkpjamaa

def stD (s : PS) (k : Int) : Int := s.states.getD k.toNat 0
def bump (c : List Int) (k d : Int) : List Int := c.set k.toNat (c.getD k.toNat 0 + d)
def turnS (s : PS) (i st : Int) : PS := { s with states := s.states.set i.toNat st, counts := bump (bump s.counts (stD s i) (-1)) st 1 }
def notDone (s : PS) (l : List Int) : Bool := l.any (fun k => decide (¬ stD s k = 2))
def notGone (s : PS) (l : List Int) : Bool := l.any (fun k => decide (stD s k < 2))
def readyB (s : PS) (i : Int) : Bool := decide (stD s i = 0) && (!(notDone s (s.needs.getD i.toNat [])) && !(notGone s (s.behind.getD i.toNat [])))
def readyUp (s : PS) (k : Nat) : List ByteArray := ((s.names.take k).zipIdx.filter (fun p => readyB s (p.2 : Int))).map (·.1)
def readyS (s : PS) : List ByteArray := readyUp s s.names.length
def startS (s : PS) (x : ByteArray) : PS × Int := match mget s.at_ x with
  | none => (s, 6)
  | some i => if readyB s i then (turnS s i 1, 0) else (s, 16)
def skipF : Nat → PS → Int → PS
  | 0, s, _ => s
  | f + 1, s, i => (s.users.getD i.toNat []).foldl (fun s k => if stD s k = 0 then skipF f (turnS s k 4) k else s) s
def finishS (s : PS) (x : ByteArray) (ok : Bool) : PS × Int := match mget s.at_ x with
  | none => (s, 6)
  | some i => if stD s i = 1 then (if ok then (turnS s i 2, 0) else (skipF s.names.length (turnS s i 3) i, 0)) else (s, 16)
def stopUp (s : PS) : Nat → PS
  | 0 => s
  | k + 1 => if stD (stopUp s k) (k : Int) = 0 then turnS (stopUp s k) k 4 else stopUp s k
def stopS (s : PS) : PS := stopUp s s.states.length
def stateS (s : PS) (x : ByteArray) : Int × Int := match mget s.at_ x with
  | none => (0, 6)
  | some i => (stD s i, 0)
def countS (s : PS) (st : Int) : Int := if st < 0 ∨ 4 < st then 0 else s.counts.getD st.toNat 0
def overS (s : PS) : Bool := decide (s.counts.getD 0 0 + s.counts.getD 1 0 = 0)

/-- The part of a plan that never turns. -/
def Same (s t : PS) : Prop := t.names = s.names ∧ t.at_ = s.at_ ∧ t.needs = s.needs ∧ t.behind = s.behind ∧ t.users = s.users
theorem Same.refl (s : PS) : Same s s := ⟨rfl, rfl, rfl, rfl, rfl⟩
theorem Same.trans {s t u : PS} (h : Same s t) (k : Same t u) : Same s u := ⟨k.1.trans h.1, k.2.1.trans h.2.1, k.2.2.1.trans h.2.2.1, k.2.2.2.1.trans h.2.2.2.1, k.2.2.2.2.trans h.2.2.2.2⟩
theorem Same.turn (s : PS) (i st : Int) : Same s (turnS s i st) := ⟨rfl, rfl, rfl, rfl, rfl⟩

/-- What holds of every plan that was made. -/
structure PG (s : PS) : Prop where
  ok : PlanOk s
  st1 : s.states.length ≤ s.names.length
  st2 : s.names.length ≤ s.states.length
  us : s.users = usRun 0 (List.replicate s.names.length []) s.needs
  usL : LenB 30000000 s.users
  stR : ∀ x, x ∈ s.states → 0 ≤ x ∧ x ≤ 4
  c5 : s.counts.length = 5
  cnt : ∀ k : Nat, k < 5 → s.counts.getD k 0 = (s.states.count (k : Int) : Int)
  at1 : ∀ x i, mget s.at_ x = some i → 0 ≤ i ∧ s.names[i.toNat]? = some x
  at2 : ∀ (i : Nat) x, s.names[i]? = some x → mget s.at_ x = some (i : Int)
  ahead : ∀ i : Nat, ∀ k, k ∈ s.needs.getD i [] → k < (i : Int)
  least : ∀ C : Nat → Prop, (∃ k, k < s.names.length ∧ C k) → ∃ k, k < s.names.length ∧ C k ∧ (∀ j, j ∈ s.needs.getD k [] → ¬ C j.toNat) ∧ (∀ j, j ∈ s.behind.getD k [] → ¬ C j.toNat)

theorem getD_set' {l : List Int} {i j : Nat} {x : Int} : (l.set i x).getD j 0 = if i = j ∧ i < l.length then x else l.getD j 0 := by
  rw [List.getD_eq_getElem?_getD, List.getElem?_set]
  by_cases hij : i = j
  · subst hij
    by_cases h : i < l.length
    · simp [h]
    · simp [h]
  · simp [hij]
theorem count_set {y x : Int} : ∀ {l : List Int} {i : Nat}, i < l.length → ((l.set i x).count y : Int) = (l.count y : Int) - (if l.getD i 0 = y then 1 else 0) + (if x = y then 1 else 0)
  | [], i, h => by simp at h
  | a :: l, 0, _ => by
    simp only [List.set_cons_zero, List.count_cons, List.getD_cons_zero]
    by_cases h1 : a = y <;> by_cases h2 : x = y <;> simp [h1, h2] <;> omega
  | a :: l, i + 1, h => by
    have := @count_set y x l i (by simpa using h)
    simp only [List.set_cons_succ, List.count_cons, List.getD_cons_succ]
    rw [Int.natCast_add, Int.natCast_add, this]
    omega

theorem PG.range {s : PS} (h : PG s) (k : Int) : 0 ≤ stD s k ∧ stD s k ≤ 4 := by
  unfold stD
  by_cases hk : k.toNat < s.states.length
  · rw [List.getD_eq_getElem?_getD, List.getElem?_eq_getElem hk]; exact h.stR _ (List.getElem_mem hk)
  · rw [List.getD_eq_getElem?_getD, List.getElem?_eq_none (by omega)]; simp
theorem stD_turn {s : PS} {i st : Int} (h0 : 0 ≤ i) (hi : i.toNat < s.states.length) {k : Int} (hk : 0 ≤ k) : stD (turnS s i st) k = if k = i then st else stD s k := by
  unfold stD turnS
  simp only
  rw [getD_set']
  by_cases e : k = i
  · subst e; simp [hi]
  · rw [if_neg (by omega), if_neg e]
theorem PlanOk.sameP {s t : PS} (hs : Same s t) (h : PlanOk s) : PlanOk t := by
  obtain ⟨h1, h2, h3, h4, h5⟩ := hs
  refine ⟨?_, ?_, ?_, ?_, ?_, ?_, ?_, ?_, ?_⟩
  all_goals (try rw [h1]); (try rw [h3]); (try rw [h4])
  · exact h.n512
  · exact h.ne1
  · exact h.ne2
  · exact h.be1
  · exact h.be2
  · exact h.neR
  · exact h.beR
  · exact h.neL
  · exact h.beL
theorem bump_len (c : List Int) (k d : Int) : (bump c k d).length = c.length := by simp [bump]
theorem bump_get {c : List Int} {k d : Int} (h0 : 0 ≤ k) (hk : k.toNat < c.length) (j : Nat) : (bump c k d).getD j 0 = c.getD j 0 + if (j : Int) = k then d else 0 := by
  unfold bump
  rw [getD_set']
  by_cases e : (j : Int) = k
  · have e' : k.toNat = j := by omega
    rw [if_pos ⟨e', hk⟩, if_pos e, e']
  · rw [if_neg (by omega), if_neg e]; omega
theorem PG.turn {s : PS} (h : PG s) {i st : Int} (h0 : 0 ≤ i) (hi : i < (s.names.length : Int)) (hs0 : 0 ≤ st) (hs4 : st ≤ 4) : PG (turnS s i st) := by
  have hl1 := h.st1
  have hl2 := h.st2
  have hil : i.toNat < s.states.length := by omega
  refine ⟨h.ok.sameP (Same.turn s i st), ?_, ?_, h.us, h.usL, ?_, ?_, ?_, h.at1, h.at2, h.ahead, h.least⟩
  · show (s.states.set _ _).length ≤ _; rw [List.length_set]; exact hl1
  · show _ ≤ (s.states.set _ _).length; rw [List.length_set]; exact hl2
  · intro x hx
    rcases List.mem_or_eq_of_mem_set hx with hx | rfl
    · exact h.stR x hx
    · exact ⟨hs0, hs4⟩
  · show (bump (bump s.counts (stD s i) (-1)) st 1).length = 5
    rw [bump_len, bump_len]; exact h.c5
  · intro k hk
    have hr := h.range i
    have hc5 := h.c5
    show (bump (bump s.counts (stD s i) (-1)) st 1).getD k 0 = ((s.states.set i.toNat st).count (k : Int) : Int)
    rw [bump_get hs0 (by rw [bump_len]; omega), bump_get hr.1 (by omega), h.cnt k hk, count_set hil]
    have e1 : s.states.getD i.toNat 0 = stD s i := rfl
    rw [e1]
    by_cases a : stD s i = (k : Int) <;> by_cases b : st = (k : Int)
    · rw [if_pos a.symm, if_pos b.symm, if_pos a, if_pos b]; omega
    · rw [if_pos a.symm, if_neg (fun e => b e.symm), if_pos a, if_neg b]; omega
    · rw [if_neg (fun e => a e.symm), if_pos b.symm, if_neg a, if_pos b]; omega
    · rw [if_neg (fun e => a e.symm), if_neg (fun e => b e.symm), if_neg a, if_neg b]; omega
theorem PG.needR {s : PS} (h : PG s) (i : Nat) : InR s.names.length (s.needs.getD i []) := getD_mem_l h.ok.neR i
theorem PG.behR {s : PS} (h : PG s) (i : Nat) : InR s.names.length (s.behind.getD i []) := getD_mem_l h.ok.beR i
theorem PG.usR {s : PS} (h : PG s) : AllR s.names.length s.users := by
  rw [h.us]
  exact usRun_in s.needs (by have := h.ok.ne1; omega) (fun l hl => by rw [List.mem_replicate] at hl; rw [hl.2]; intro x hx; cases hx)
theorem PG.usLen {s : PS} (h : PG s) : s.users.length = s.names.length := by rw [h.us, usRun_length, List.length_replicate]
theorem PG.users {s : PS} (h : PG s) (j : Nat) (x : Int) : x ∈ s.users.getD j [] ↔ 0 ≤ x ∧ (j : Int) ∈ s.needs.getD x.toNat [] := by
  have := users_mem h.ok.neR j x
  rw [← h.us] at this
  exact this
theorem PG.userR {s : PS} (h : PG s) {j : Nat} {x : Int} (hx : x ∈ s.users.getD j []) : (j : Int) < x ∧ x < (s.names.length : Int) := by
  have h1 := (h.users j x).1 hx
  have h2 := h.ahead _ _ h1.2
  have h3 : x.toNat < s.needs.length := by
    refine Classical.byContradiction fun hn => ?_
    rw [List.getD_eq_getElem?_getD, List.getElem?_eq_none (by omega)] at h1
    have := h1.2
    cases this
  have := h.ok.ne1
  exact ⟨by omega, by omega⟩

/-- A plan that has been turned from waiting to skipped here and there. -/
structure Skips (s t : PS) : Prop where
  sameP : Same s t
  st : ∀ k : Int, 0 ≤ k → stD t k = stD s k ∨ (stD s k = 0 ∧ stD t k = 4)
theorem Skips.refl (s : PS) : Skips s s := ⟨Same.refl s, fun _ _ => .inl rfl⟩
theorem Skips.trans {s t u : PS} (h : Skips s t) (k : Skips t u) : Skips s u := ⟨h.sameP.trans k.sameP, fun j hj => by
  rcases h.st j hj with h1 | h1 <;> rcases k.st j hj with k1 | k1
  · exact .inl (k1.trans h1)
  · exact .inr ⟨by rw [← h1]; exact k1.1, k1.2⟩
  · exact .inr ⟨h1.1, k1.trans h1.2⟩
  · exact .inr ⟨h1.1, k1.2⟩⟩
theorem Skips.one {s : PS} (h : PG s) {i : Int} (h0 : 0 ≤ i) (hi : i < (s.names.length : Int)) (hz : stD s i = 0) : Skips s (turnS s i 4) := ⟨Same.turn s i 4, fun k hk => by
  rw [stD_turn h0 (by have := h.st2; omega) hk]
  by_cases e : k = i
  · subst e; rw [if_pos rfl]; exact .inr ⟨hz, rfl⟩
  · rw [if_neg e]; exact .inl rfl⟩
/-- A waiting node that needs one that failed or is skipped: an edge that is broken. -/
def Edge (s : PS) (j k : Int) : Prop := 0 ≤ k ∧ k < (s.names.length : Int) ∧ j ∈ s.needs.getD k.toNat [] ∧ 3 ≤ stD s j ∧ stD s k = 0

structure SkipR (s : PS) (i : Int) (t : PS) : Prop where
  pg : PG t
  sk : Skips s t
  edge : ∀ j k, Edge t j k → Edge s j k ∧ j ≠ i
  why : ∀ k : Int, 0 ≤ k → stD s k = 0 → stD t k = 4 → ∃ j, j ∈ s.needs.getD k.toNat [] ∧ 3 ≤ stD t j

theorem skipF_spec : ∀ (f : Nat) (s : PS) (i : Int), PG s → 0 ≤ i → i < (s.names.length : Int) → 3 ≤ stD s i → (s.names.length : Int) ≤ i + f → SkipR s i (skipF f s i)
  | 0, s, i, h, h0, hi, h3, hf => by omega
  | f + 1, s, i, h, h0, hi, h3, hf => by
    have key : ∀ (l : List Int) (t : PS), (∀ k, k ∈ l → i < k ∧ k < (s.names.length : Int) ∧ i ∈ s.needs.getD k.toNat []) → PG t → Skips s t → (∀ k : Int, 0 ≤ k → stD s k = 0 → stD t k = 4 → ∃ j, j ∈ s.needs.getD k.toNat [] ∧ 3 ≤ stD t j) →
        (∀ j k, Edge t j k → Edge s j k ∧ (j = i → k ∈ l)) → 
        SkipR s i (l.foldl (fun s k => if stD s k = 0 then skipF f (turnS s k 4) k else s) t) := by
      intro l
      induction l with
      | nil =>
        intro t _ hg hs hw hE
        exact ⟨hg, hs, fun j k he => ⟨(hE j k he).1, fun hji => by have := (hE j k he).2 hji; cases this⟩, hw⟩
      | cons x l ih =>
        intro t hl hg hs hw hE
        obtain ⟨hx1, hx2, hx3⟩ := hl x (List.mem_cons_self ..)
        have hnm : t.names = s.names := hs.sameP.1
        have hnd : t.needs = s.needs := hs.sameP.2.2.1
        have hit : 3 ≤ stD t i := by
          rcases hs.st i h0 with h1 | h1
          · rw [h1]; exact h3
          · omega
        rw [List.foldl_cons]
        by_cases hz : stD t x = 0
        · rw [if_pos hz]
          have hx0 : 0 ≤ x := by omega
          have hxt : x < (t.names.length : Int) := by rw [hnm]; exact hx2
          have hxl : x.toNat < t.states.length := by have := hg.st2; omega
          have hg' := hg.turn (st := 4) hx0 hxt (by omega) (by omega)
          have hone := Skips.one hg hx0 hxt hz
          have hR := skipF_spec f (turnS t x 4) x hg' hx0 hxt (by rw [stD_turn hx0 hxl hx0, if_pos rfl]; omega) (by show (t.names.length : Int) ≤ _; rw [hnm]; omega)
          have hsk := hs.trans (hone.trans hR.sk)
          refine ih (skipF f (turnS t x 4) x) (fun k hk => hl k (List.mem_cons_of_mem _ hk)) hR.pg hsk (fun k hk hsk0 ht4 => ?_) (fun j k he => ?_)
          · by_cases htk : stD t k = 4
            · obtain ⟨j, hj, hj3⟩ := hw k hk hsk0 htk
              refine ⟨j, hj, ?_⟩
              have hjr := h.needR _ j hj
              rcases (hone.trans hR.sk).st j hjr.1 with h1 | h1
              · rw [h1]; exact hj3
              · omega
            · by_cases hkx : k = x
              · subst hkx
                refine ⟨i, hx3, ?_⟩
                rcases (hone.trans hR.sk).st i h0 with h1 | h1
                · rw [h1]; exact hit
                · omega
              · have ht0 : stD t k = 0 := by
                  rcases hs.st k hk with h1 | h1
                  · rw [h1]; exact hsk0
                  · exact absurd h1.2 htk
                obtain ⟨j, hj, hj3⟩ := hR.why k hk (by rw [stD_turn hx0 hxl hk, if_neg hkx]; exact ht0) ht4
                refine ⟨j, ?_, hj3⟩
                have e : (turnS t x 4).needs = s.needs := hnd
                rw [e] at hj; exact hj
          · obtain ⟨he', hjx⟩ := hR.edge j k he
            obtain ⟨e1, e2, e3, e4, e5⟩ := he'
            have e3' : j ∈ t.needs.getD k.toNat [] := e3
            have hjr := h.needR k.toNat j (by rw [hnd] at e3'; exact e3')
            rw [stD_turn hx0 hxl hjr.1, if_neg hjx] at e4
            have hkx : k ≠ x := by
              rintro rfl
              rw [stD_turn hx0 hxl e1, if_pos rfl] at e5
              omega
            rw [stD_turn hx0 hxl e1, if_neg hkx] at e5
            obtain ⟨r1, r2⟩ := hE j k ⟨e1, e2, e3', e4, e5⟩
            refine ⟨r1, fun hji => ?_⟩
            rcases List.mem_cons.1 (r2 hji) with r | r
            · exact absurd r hkx
            · exact r
        · rw [if_neg hz]
          refine ih t (fun k hk => hl k (List.mem_cons_of_mem _ hk)) hg hs hw (fun j k he => ?_)
          obtain ⟨r1, r2⟩ := hE j k he
          refine ⟨r1, fun hji => ?_⟩
          rcases List.mem_cons.1 (r2 hji) with r | r
          · subst r; exact absurd he.2.2.2.2 hz
          · exact r
    have e0 : ((i.toNat : Nat) : Int) = i := by omega
    refine key (s.users.getD i.toNat []) s (fun k hk => ?_) h (Skips.refl s) (fun k hk hs0 hs4 => by omega) (fun j k he => ⟨he, fun hji => ?_⟩)
    · have h1 := h.userR hk
      have h2 := (h.users _ _).1 hk
      rw [e0] at h1 h2
      exact ⟨h1.1, h1.2, h2.2⟩
    · rw [h.users, e0, ← hji]
      exact ⟨he.1, he.2.2.1⟩
end Go.Proofs.Ytliglejbkpjamaa
