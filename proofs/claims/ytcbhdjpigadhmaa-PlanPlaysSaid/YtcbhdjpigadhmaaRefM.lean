/-
  The plain laws between a plan and the reference's: what each call tells, and leaves.
-/
import Derived.Test.YtcbhdjpigadhmaaRefD
import Derived.Test.YtcbhdjpigadhmaaRefF
import Derived.Test.YtcbhdjpigadhmaaRefL
import Derived.Test.YtcbhdjpigadhmaaPlanZ
set_option linter.unusedVariables false
set_option linter.unusedSimpArgs false
namespace Go.Proofs.Ytcbhdjpigadhmaa
open Go.RowKit

/-- A plan, and the graph that it was made of. -/
structure Twin (g : List Nd) (s0 : PS) (s : PS) (st : Bool) : Prop where
  k : OrdK s0 st s
  bt : Built g s
  len : s.names.length = g.length
theorem Twin.names {g : List Nd} {s0 s : PS} {st : Bool} (h : Twin g s0 s st) : s.names = namesG g := h.bt.names
theorem Twin.at_some {g : List Nd} {s0 s : PS} {st : Bool} (h : Twin g s0 s st) {x : ByteArray} {i : Int} (hx : mget s.at_ x = some i) : atR (namesG g) x = i ∧ 0 ≤ i ∧ i < (g.length : Int) := by
  obtain ⟨k, rfl, hk⟩ := place_of h.k.pg hx
  obtain ⟨_, h2⟩ := h.k.pg.at1 x _ hx
  rw [Int.toNat_natCast, h.names] at h2
  refine ⟨atR_hit h2 fun j hj e => ?_, by omega, by have := h.len; omega⟩
  have h3 := h.k.pg.at2 j x (by rw [h.names]; exact e)
  rw [hx] at h3
  have := Option.some.inj h3; omega
theorem Twin.at_none {g : List Nd} {s0 s : PS} {st : Bool} (h : Twin g s0 s st) {x : ByteArray} (hx : mget s.at_ x = none) : atR (namesG g) x = -1 := by
  refine atR_no fun j hj e => ?_
  rw [h.k.pg.at2 j x (by rw [h.names]; exact e)] at hx
  cases hx
theorem Twin.stEq {g : List Nd} {s0 s : PS} {st : Bool} (h : Twin g s0 s st) {x : ByteArray} {j : Int} (hx : mget s.at_ x = some j) : stR (namesG g) s.states x = stD s j := by
  unfold stR stD
  rw [(h.at_some hx).1]
theorem Twin.state {g : List Nd} {s0 s : PS} {st : Bool} (h : Twin g s0 s st) (x : ByteArray) : rstate (namesG g) s.states x = stateS s x := by
  unfold rstate stateS
  cases hx : mget s.at_ x with
  | none => rw [h.at_none hx]; rfl
  | some i =>
    obtain ⟨h1, h2, h3⟩ := h.at_some hx
    rw [if_neg (by omega), h.stEq hx]
theorem Twin.src_needs {g : List Nd} {s0 s : PS} {st : Bool} (h : Twin g s0 s st) {i : Nat} (hi : i < g.length) (P : Int → Prop) : (∀ x, x ∈ g[i].src → P (stR (namesG g) s.states x)) ↔ ∀ j, j ∈ s.needs.getD i [] → P (stD s j) := by
  have hs := h.bt.srcs i hi
  constructor
  · intro hx j hj
    have h1 : some j ∈ (s.needs.getD i []).map some := List.mem_map.2 ⟨j, hj, rfl⟩
    rw [← hs] at h1
    obtain ⟨x, hxm, e⟩ := List.mem_map.1 h1
    rw [← h.stEq e]; exact hx x hxm
  · intro hj x hx
    have h1 : mget s.at_ x ∈ g[i].src.map (mget s.at_) := List.mem_map.2 ⟨x, hx, rfl⟩
    rw [hs] at h1
    obtain ⟨j, hjm, e⟩ := List.mem_map.1 h1
    rw [h.stEq e.symm]; exact hj j hjm
theorem Twin.aft_behind {g : List Nd} {s0 s : PS} {st : Bool} (h : Twin g s0 s st) {i : Nat} (hi : i < g.length) (P : Int → Prop) : (∀ x, x ∈ g[i].aft → P (stR (namesG g) s.states x)) ↔ ∀ j, j ∈ s.behind.getD i [] → P (stD s j) := by
  have hs := h.bt.afts i hi
  constructor
  · intro hx j hj
    have h1 : some j ∈ (s.behind.getD i []).map some := List.mem_map.2 ⟨j, hj, rfl⟩
    rw [← hs] at h1
    obtain ⟨x, hxm, e⟩ := List.mem_map.1 h1
    rw [← h.stEq e]; exact hx x hxm
  · intro hj x hx
    have h1 : mget s.at_ x ∈ g[i].aft.map (mget s.at_) := List.mem_map.2 ⟨x, hx, rfl⟩
    rw [hs] at h1
    obtain ⟨j, hjm, e⟩ := List.mem_map.1 h1
    rw [h.stEq e.symm]; exact hj j hjm
theorem Twin.ready {g : List Nd} {s0 s : PS} {st : Bool} (h : Twin g s0 s st) {i : Nat} (hi : i < g.length) : rready (namesG g) s.states g[i] i = readyB s (i : Int) := by
  rw [Bool.eq_iff_iff, ready_iff]
  unfold rready
  rw [Bool.and_eq_true, Bool.and_eq_true, List.all_eq_true, List.all_eq_true, decide_eq_true_eq]
  have e : s.states.getD i 0 = stD s (i : Int) := by unfold stD; rw [Int.toNat_natCast]
  have h1 := h.src_needs hi (fun v => v = 2)
  have h2 := h.aft_behind hi (fun v => 2 ≤ v)
  rw [e, Int.toNat_natCast]
  constructor
  · rintro ⟨a, b, c⟩
    exact ⟨a, h1.1 fun x hx => of_decide_eq_true (b x hx), h2.1 fun x hx => of_decide_eq_true (c x hx)⟩
  · rintro ⟨a, b, c⟩
    exact ⟨a, fun x hx => decide_eq_true (h1.2 b x hx), fun x hx => decide_eq_true (h2.2 c x hx)⟩
theorem Twin.readyAll {g : List Nd} {s0 s : PS} {st : Bool} (h : Twin g s0 s st) : upTo (namesG g) (readyB s) g.length = readyS s := by
  unfold readyS readyUp upTo
  rw [h.len, h.names]
theorem Twin.start {g : List Nd} {s0 s : PS} {st : Bool} (h : Twin g s0 s st) (x : ByteArray) : rstart g s.states x = ((startS s x).1.states, (startS s x).2) := by
  unfold rstart startS
  cases hx : mget s.at_ x with
  | none => rw [h.at_none hx]; rfl
  | some i =>
    obtain ⟨h1, h2, h3⟩ := h.at_some hx
    obtain ⟨i, rfl⟩ : ∃ k : Nat, i = (k : Int) := ⟨i.toNat, by omega⟩
    have hi : i < g.length := by omega
    rw [h1, if_neg (by omega), Int.toNat_natCast, List.getElem?_eq_getElem hi]
    dsimp only
    rw [h.ready hi]
    by_cases hr : readyB s (i : Int) = true
    · rw [if_pos hr, if_pos hr]; rfl
    · rw [if_neg hr, if_neg hr]
theorem Twin.count {g : List Nd} {s0 s : PS} {st : Bool} (h : Twin g s0 s st) {k : Nat} (hk : k < 6) : countS s (k : Int) = countR s.states (k : Int) := by
  unfold countS countR
  by_cases h5 : k < 5
  · rw [if_neg (by omega), Int.toNat_natCast, h.k.pg.cnt k h5]
  · rw [if_pos (by omega)]
    have : s.states.count (k : Int) = 0 := List.count_eq_zero.2 fun hm => by have := h.k.pg.stR _ hm; omega
    rw [this]; rfl
theorem Twin.over {g : List Nd} {s0 s : PS} {st : Bool} (h : Twin g s0 s st) : overR s.states = overS s := by
  unfold overR overS countR
  rw [h.k.pg.cnt 0 (by omega), h.k.pg.cnt 1 (by omega)]; rfl
theorem stopUp_states {s : PS} : ∀ k, k ≤ s.states.length → (stopUp s k).states = stopUpR s.states k
  | 0, _ => by simp [stopUp, stopUpR]
  | k + 1, hk => by
    have ih := stopUp_states (s := s) k (by omega)
    have hk' : k < s.states.length := by omega
    rw [stopUpR_succ hk']
    have hget : stD (stopUp s k) (k : Int) = s.states[k] := by
      unfold stD
      rw [ih, Int.toNat_natCast, List.getD_eq_getElem?_getD, stopUpR_get hk']; rfl
    show (if stD (stopUp s k) (k : Int) = 0 then turnS (stopUp s k) k 4 else stopUp s k).states = _
    rw [hget]
    by_cases hz : s.states[k] = 0
    · rw [if_pos hz, if_pos hz, ← ih]; rfl
    · rw [if_neg hz, if_neg hz, ih]
theorem Twin.stop {g : List Nd} {s0 s : PS} {st : Bool} (h : Twin g s0 s st) : stopUpR s.states s.states.length = (stopS s).states ∧ countR s.states 0 = s.counts.getD 0 0 := by
  refine ⟨(stopUp_states _ (Nat.le_refl _)).symm, ?_⟩
  unfold countR
  rw [h.k.pg.cnt 0 (by omega)]; rfl

theorem skipRow_eq {names : List ByteArray} {k : Nat} : ∀ (xs : List ByteArray) (l : List Int), k < l.length → (∀ x, x ∈ xs → (atR names x).toNat ≠ k) →
    skipRow names k xs l = if l.getD k 0 = 0 ∧ ∃ x, x ∈ xs ∧ 3 ≤ stR names l x then l.set k 4 else l
  | [], l, _, _ => by rw [if_neg (by rintro ⟨_, x, hx, _⟩; cases hx)]; rfl
  | x :: xs, l, hk, hx => by
    show skipRow names k xs (skipStep names k l x) = _
    have ih := fun l' hl' => skipRow_eq (names := names) (k := k) xs l' hl' fun y hy => hx y (List.mem_cons_of_mem _ hy)
    unfold skipStep
    by_cases hz : l.getD k 0 = 0
    · by_cases h3 : 3 ≤ stR names l x
      · rw [if_pos ⟨hz, h3⟩, if_pos ⟨hz, x, List.mem_cons_self .., h3⟩, ih _ (by rw [List.length_set]; exact hk), if_neg]
        rintro ⟨h4, _⟩
        rw [getD_set', if_pos ⟨rfl, hk⟩] at h4
        omega
      · rw [if_neg (fun h => h3 h.2), ih _ hk]
        by_cases he : ∃ y, y ∈ xs ∧ 3 ≤ stR names l y
        · obtain ⟨y, hy, h5⟩ := he
          rw [if_pos ⟨hz, y, hy, h5⟩, if_pos ⟨hz, y, List.mem_cons_of_mem _ hy, h5⟩]
        · rw [if_neg (fun h => he h.2), if_neg]
          rintro ⟨_, y, hy, h5⟩
          rcases List.mem_cons.1 hy with rfl | hy
          · exact h3 h5
          · exact he ⟨y, hy, h5⟩
    · rw [if_neg (fun h => hz h.1), ih _ hk, if_neg (fun h => hz h.1), if_neg (fun h => hz h.1)]
theorem Twin.fail {g : List Nd} {s0 s : PS} {st : Bool} (h : Twin g s0 s st) {i : Nat} (hi : i < g.length) (h1 : stD s i = 1) : skipUp g (s.states.set i 3) g.length = (skipF s.names.length (turnS s i 3) i).states := by
  have hG := h.k.pg
  have hin : i < s.names.length := by rw [h.len]; exact hi
  have R := fail_skip hG hin
  have hI := h.k.inv.fail_ hG hin h1
  have hlen := h.len
  have hs1 := hG.st1
  have hs2 := hG.st2
  have hlT : (skipF s.names.length (turnS s i 3) i).states.length = g.length := by
    have e := R.sk.same.1
    have a1 := R.pg.st1
    have a2 := R.pg.st2
    have e' : (turnS s i 3).names = s.names := rfl
    rw [e'] at e
    rw [e] at a1 a2; omega
  have hneeds : (skipF s.names.length (turnS s i 3) i).needs = s.needs := R.sk.same.2.2.1
  have hnames : (skipF s.names.length (turnS s i 3) i).names = s.names := R.sk.same.1
  obtain ⟨t, ht⟩ : ∃ t, skipF s.names.length (turnS s i 3) i = t := ⟨_, rfl⟩
  rw [ht] at R hI hlT hneeds hnames ⊢
  have hl0 : (s.states.set i 3).length = g.length := by rw [List.length_set]; omega
  have hσ : ∀ k : Nat, (s.states.set i 3).getD k 0 = stD (turnS s i 3) (k : Int) := fun k => by
    unfold stD turnS; simp only [Int.toNat_natCast]
  have key : ∀ k, k ≤ g.length → ∀ j, j < g.length → (skipUp g (s.states.set i 3) k).getD j 0 = if j < k then stD t (j : Int) else stD (turnS s i 3) (j : Int) := by
    intro k
    induction k with
    | zero => intro _ j hj; rw [if_neg (by omega)]; exact hσ j
    | succ k ih =>
      intro hk j hj
      have hkg : k < g.length := by omega
      have ihk := ih (by omega)
      have hLl : k < (skipUp g (s.states.set i 3) k).length := by rw [skipUp_len, hl0]; exact hkg
      have hplace : ∀ x, x ∈ g[k].src → ∃ p : Nat, atR (namesG g) x = (p : Int) ∧ p < k ∧ (p : Int) ∈ s.needs.getD k [] := fun x hx => by
        have hm : mget s.at_ x ∈ g[k].src.map (mget s.at_) := List.mem_map.2 ⟨x, hx, rfl⟩
        rw [h.bt.srcs k hkg] at hm
        obtain ⟨v, hv, e⟩ := List.mem_map.1 hm
        have a := h.at_some e.symm
        have b := need_ge hG hv
        exact ⟨v.toNat, by rw [a.1]; omega, by omega, by rw [Int.toNat_of_nonneg b.1]; exact hv⟩
      have hrow : skipUp g (s.states.set i 3) (k + 1) = skipRow (namesG g) k g[k].src (skipUp g (s.states.set i 3) k) := by
        rw [skipUp, List.getElem?_eq_getElem hkg]
      rw [hrow, skipRow_eq _ _ hLl (fun x hx => by obtain ⟨p, e, hp, _⟩ := hplace x hx; rw [e, Int.toNat_natCast]; omega), ihk k hkg, if_neg (Nat.lt_irrefl k)]
      have hex : (∃ x, x ∈ g[k].src ∧ 3 ≤ stR (namesG g) (skipUp g (s.states.set i 3) k) x) ↔ ∃ v, v ∈ s.needs.getD k [] ∧ 3 ≤ stD t v := by
        constructor
        · rintro ⟨x, hx, h3⟩
          obtain ⟨p, e, hp, hm⟩ := hplace x hx
          unfold stR at h3
          rw [e, Int.toNat_natCast, ihk p (by omega), if_pos hp] at h3
          exact ⟨_, hm, h3⟩
        · rintro ⟨v, hv, h3⟩
          have hm : some v ∈ (s.needs.getD k []).map some := List.mem_map.2 ⟨v, hv, rfl⟩
          rw [← h.bt.srcs k hkg] at hm
          obtain ⟨x, hx, e⟩ := List.mem_map.1 hm
          have a := h.at_some e
          have b := need_ge hG hv
          refine ⟨x, hx, ?_⟩
          unfold stR
          rw [a.1, ihk v.toNat (by omega), if_pos (by omega), Int.toNat_of_nonneg b.1]
          exact h3
      have hT : stD t (k : Int) = if stD (turnS s i 3) (k : Int) = 0 ∧ ∃ v, v ∈ s.needs.getD k [] ∧ 3 ≤ stD t v then 4 else stD (turnS s i 3) (k : Int) := by
        rcases R.sk.st k (by omega) with e | ⟨e1, e2⟩
        · by_cases hc : stD (turnS s i 3) (k : Int) = 0 ∧ ∃ v, v ∈ s.needs.getD k [] ∧ 3 ≤ stD t v
          · obtain ⟨hz, v, hv, h3⟩ := hc
            have := hI.clos k (by rw [hnames]; omega) (by rw [e, hz]) v (by rw [hneeds]; exact hv)
            omega
          · rw [if_neg hc, e]
        · obtain ⟨v, hv, h3⟩ := R.why k (by omega) e1 e2
          rw [if_pos ⟨e1, v, by rw [Int.toNat_natCast] at hv; exact hv, h3⟩, e2]
      by_cases hjk : j = k
      · subst hjk
        rw [if_pos (Nat.lt_succ_self j), hT]
        by_cases hc : stD (turnS s i 3) (j : Int) = 0 ∧ ∃ v, v ∈ s.needs.getD j [] ∧ 3 ≤ stD t v
        · rw [if_pos hc, if_pos ⟨hc.1, hex.2 hc.2⟩, getD_set', if_pos ⟨rfl, hLl⟩]
        · rw [if_neg hc, if_neg (fun h => hc ⟨h.1, hex.1 h.2⟩), ihk j hj, if_neg (Nat.lt_irrefl j)]
      · have e1 : (if j < k + 1 then stD t (j : Int) else stD (turnS s i 3) (j : Int)) = if j < k then stD t (j : Int) else stD (turnS s i 3) (j : Int) := by
          by_cases hj2 : j < k
          · rw [if_pos (by omega), if_pos hj2]
          · rw [if_neg (by omega), if_neg hj2]
        rw [e1]
        split
        · rw [getD_set', if_neg (fun h => hjk h.1.symm)]; exact ihk j hj
        · exact ihk j hj
  refine List.ext_getElem? fun j => ?_
  by_cases hj : j < g.length
  · have a := key g.length (Nat.le_refl _) j hj
    rw [if_pos hj] at a
    unfold stD at a
    rw [Int.toNat_natCast, List.getD_eq_getElem?_getD, List.getD_eq_getElem?_getD, List.getElem?_eq_getElem (by rw [skipUp_len, hl0]; exact hj), List.getElem?_eq_getElem (by omega)] at a
    simp only [Option.getD_some] at a
    rw [List.getElem?_eq_getElem (by rw [skipUp_len, hl0]; exact hj), List.getElem?_eq_getElem (by omega), a]
  · rw [List.getElem?_eq_none (by rw [skipUp_len, hl0]; omega), List.getElem?_eq_none (by omega)]
theorem Twin.finish {g : List Nd} {s0 s : PS} {st : Bool} (h : Twin g s0 s st) (x : ByteArray) (ok : Bool) : rfinish g s.states x ok = ((finishS s x ok).1.states, (finishS s x ok).2) := by
  unfold rfinish finishS
  cases hx : mget s.at_ x with
  | none => rw [h.at_none hx]; rfl
  | some i =>
    obtain ⟨h1, h2, h3⟩ := h.at_some hx
    obtain ⟨i, rfl⟩ : ∃ k : Nat, i = (k : Int) := ⟨i.toNat, by omega⟩
    have hi : i < g.length := by omega
    have e : s.states.getD i 0 = stD s (i : Int) := by unfold stD; rw [Int.toNat_natCast]
    rw [h1, if_neg (by omega), Int.toNat_natCast, e]
    dsimp only
    by_cases hr : stD s (i : Int) = 1
    · rw [if_pos hr, if_pos hr]
      cases ok with
      | true => rfl
      | false => rw [if_neg (by decide), if_neg (by decide), h.fail hi hr]
    · rw [if_neg hr, if_neg hr]
theorem Twin.rg {g : List Nd} {s0 s : PS} {st : Bool} (h : Twin g s0 s st) (hf : ∀ i (h : i < g.length), g[i].src.length ≤ 1000 ∧ g[i].aft.length ≤ 1000) : RG g s.states := by
  have h1 := h.k.pg.st1
  have h2 := h.k.pg.st2
  have h3 := h.len
  have h4 := h.k.pg.ok.n512
  have hin : ∀ y, (∃ j, mget s.at_ y = some j) → y ∈ namesG g := fun y ⟨j, e⟩ => by
    have a := h.at_some e
    exact atR_ge.1 (by rw [a.1]; exact a.2.1)
  refine ⟨by omega, by omega, hf, fun i hi y hy => hin y ?_, fun i hi y hy => hin y ?_⟩
  · have hm : mget s.at_ y ∈ g[i].src.map (mget s.at_) := List.mem_map.2 ⟨y, hy, rfl⟩
    rw [h.bt.srcs i hi] at hm
    obtain ⟨v, _, e⟩ := List.mem_map.1 hm
    exact ⟨v, e.symm⟩
  · have hm : mget s.at_ y ∈ g[i].aft.map (mget s.at_) := List.mem_map.2 ⟨y, hy, rfl⟩
    rw [h.bt.afts i hi] at hm
    obtain ⟨v, _, e⟩ := List.mem_map.1 hm
    exact ⟨v, e.symm⟩
end Go.Proofs.Ytcbhdjpigadhmaa
