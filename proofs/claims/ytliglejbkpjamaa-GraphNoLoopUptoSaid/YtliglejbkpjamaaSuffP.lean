/-
  Layer 15 (suff), without Go: what the walk over all names comes to.
-/
import Derived.Test.YtliglejbkpjamaaSuffD
set_option linter.unusedVariables false
set_option linter.unusedSimpArgs false
namespace Go.Proofs.Ytliglejbkpjamaa

section
variable {ways : List (ByteArray × ByteArray)} {name : ByteArray}

def fin_ : WS ⊕ (WS × ByteArray) → WS × ByteArray
  | .inl s => (s, ⟨#[]⟩)
  | .inr e => e

def Ext (s s' : WS) : Prop := s.all <+: s'.all ∧ s.makes <+: s'.makes
theorem Ext.refl (s : WS) : Ext s s := ⟨List.prefix_refl _, List.prefix_refl _⟩
theorem Ext.trans {a b c : WS} (h : Ext a b) (k : Ext b c) : Ext a c := ⟨h.1.trans k.1, h.2.trans k.2⟩
theorem mem_nil (y : ByteArray) : mem [] y = false := rfl
theorem mget_none {m : List (ByteArray × ByteArray)} {y : ByteArray} (h : mhas m y = false) : mget m y = none := by
  unfold mhas at h; cases hh : mget m y <;> simp_all
theorem prefix_put {m : List (ByteArray × ByteArray)} {y x : ByteArray} (h : mhas m y = false) : m <+: mput m y x := by
  rw [mput_new (mget_none h)]
  exact List.prefix_append _ _

theorem stepY_ext (there : List ByteArray) (x : ByteArray) (s : WS) (y : ByteArray) : Ext s (fin_ (stepY there x s y)).1 := by
  unfold stepY
  cases hh : mhas s.makes y
  · simp only [Bool.false_eq_true, if_false]
    split
    · exact Ext.refl _
    · split
      · exact ⟨List.prefix_append _ _, prefix_put hh⟩
      · exact ⟨List.prefix_append _ _, prefix_put hh⟩
  · simp only [if_true]; exact Ext.refl _
theorem runY_ext (there : List ByteArray) (x : ByteArray) : ∀ (l : List ByteArray) (s : WS), Ext s (fin_ (runY there x s l)).1
  | [], s => Ext.refl _
  | y :: l, s => by
    have h := stepY_ext there x s y
    unfold runY
    cases hh : stepY there x s y with
    | inl s' => rw [hh] at h; exact h.trans (runY_ext there x l s')
    | inr e => rw [hh] at h; exact h
theorem runX_ext (there : List ByteArray) : ∀ (l : List ByteArray) (s : WS), Ext s (fin_ (runX ways there s l)).1
  | [], s => Ext.refl _
  | x :: l, s => by
    have h := runY_ext there x (nextOf x ways) s
    unfold runX
    cases hh : runY there x s (nextOf x ways) with
    | inl s' => rw [hh] at h; exact h.trans (runX_ext there l s')
    | inr e => rw [hh] at h; exact h
theorem runR_ext (there : List ByteArray) : ∀ (n : Nat) (s : WS) (round : List ByteArray), Ext s (runR ways there n s round).1
  | 0, s, _ => Ext.refl _
  | n + 1, s, round => by
    have h := runX_ext (ways := ways) there round { s with more := [] }
    unfold runR
    cases hh : runX ways there { s with more := [] } round with
    | inl s' => rw [hh] at h; exact (show Ext s s' from h).trans (runR_ext there n s' s'.more)
    | inr e => rw [hh] at h; exact h

/-- What a run with something there comes to, held against the run with nothing there. -/
def RelS (there : List ByteArray) (s : WS) (r f : WS ⊕ (WS × ByteArray)) : Prop :=
  (r = f ∧ ∃ l, (fin_ f).1.all = s.all ++ l ∧ ∀ y, y ∈ l → y ∉ there) ∨
  ∃ s1 pre y, r = .inr (s1, y) ∧ s1.all = s.all ++ pre ++ [y] ∧ (∀ z, z ∈ pre → z ∉ there) ∧ y ∈ there ∧ Ext s1 (fin_ f).1

theorem RelS.comb {there : List ByteArray} {s s2 : WS} {r f : WS ⊕ (WS × ByteArray)} {l1 : List ByteArray} (h1 : s2.all = s.all ++ l1) (h2 : ∀ y, y ∈ l1 → y ∉ there) (h : RelS there s2 r f) : RelS there s r f := by
  rcases h with ⟨e, l, e1, hn⟩ | ⟨s1, pre, y, e, e1, hp, hy, hx⟩
  · refine .inl ⟨e, l1 ++ l, by rw [e1, h1, List.append_assoc], fun y hy => ?_⟩
    rcases List.mem_append.1 hy with hy | hy
    · exact h2 y hy
    · exact hn y hy
  · refine .inr ⟨s1, l1 ++ pre, y, e, by rw [e1, h1]; simp, fun z hz => ?_, hy, hx⟩
    rcases List.mem_append.1 hz with hz | hz
    · exact h2 z hz
    · exact hp z hz

theorem stepY_rel (there : List ByteArray) (x : ByteArray) (s : WS) (y : ByteArray) : RelS there s (stepY there x s y) (stepY [] x s y) := by
  unfold stepY
  cases hh : mhas s.makes y
  · simp only [Bool.false_eq_true, if_false, mem_nil]
    split
    · exact .inl ⟨rfl, [], by simp [fin_], by simp⟩
    · cases hm : mem there y
      · simp only [Bool.false_eq_true, if_false]
        exact .inl ⟨rfl, [y], rfl, by simpa using (mem_false there y).1 hm⟩
      · simp only [if_true]
        exact .inr ⟨_, [], y, rfl, by simp, by simp, (mem_iff there y).1 hm, Ext.refl _⟩
  · simp only [if_true]
    exact .inl ⟨rfl, [], by simp [fin_], by simp⟩
theorem runY_rel (there : List ByteArray) (x : ByteArray) : ∀ (l : List ByteArray) (s : WS), RelS there s (runY there x s l) (runY [] x s l)
  | [], s => .inl ⟨rfl, [], by simp [fin_, runY], by simp⟩
  | y :: l, s => by
    rcases stepY_rel there x s y with ⟨e, l1, e1, hn⟩ | ⟨s1, pre, z, e, e1, hp, hz, hx⟩
    · unfold runY
      rw [e]
      cases hh : stepY [] x s y with
      | inl s' => rw [hh] at e1; exact RelS.comb e1 hn (runY_rel there x l s')
      | inr p => rw [hh] at e1; exact .inl ⟨rfl, l1, e1, hn⟩
    · refine .inr ⟨s1, pre, z, by rw [runY, e], e1, hp, hz, hx.trans ?_⟩
      rw [runY]
      cases hh : stepY [] x s y with
      | inl s' => exact runY_ext [] x l s'
      | inr p => exact Ext.refl _
theorem runX_rel (there : List ByteArray) : ∀ (l : List ByteArray) (s : WS), RelS there s (runX ways there s l) (runX ways [] s l)
  | [], s => .inl ⟨rfl, [], by simp [fin_, runX], by simp⟩
  | x :: l, s => by
    rcases runY_rel there x (nextOf x ways) s with ⟨e, l1, e1, hn⟩ | ⟨s1, pre, z, e, e1, hp, hz, hx⟩
    · unfold runX
      rw [e]
      cases hh : runY [] x s (nextOf x ways) with
      | inl s' => rw [hh] at e1; exact RelS.comb e1 hn (runX_rel there l s')
      | inr p => rw [hh] at e1; exact .inl ⟨rfl, l1, e1, hn⟩
    · refine .inr ⟨s1, pre, z, by rw [runX, e], e1, hp, hz, hx.trans ?_⟩
      rw [runX]
      cases hh : runY [] x s (nextOf x ways) with
      | inl s' => exact runX_ext [] l s'
      | inr p => exact Ext.refl _
theorem runR_rel (there : List ByteArray) : ∀ (n : Nat) (s : WS) (round : List ByteArray), RelS there s (.inr (runR ways there n s round)) (.inr (runR ways [] n s round))
  | 0, s, _ => .inl ⟨rfl, [], by simp [fin_, runR], by simp⟩
  | n + 1, s, round => by
    rcases runX_rel (ways := ways) there round { s with more := [] } with ⟨e, l1, e1, hn⟩ | ⟨s1, pre, z, e, e1, hp, hz, hx⟩
    · unfold runR
      rw [e]
      cases hh : runX ways [] { s with more := [] } round with
      | inl s' => rw [hh] at e1; exact RelS.comb e1 hn (runR_rel there n s' s'.more)
      | inr p => rw [hh] at e1; exact .inl ⟨rfl, l1, e1, hn⟩
    · refine .inr ⟨s1, pre, z, by rw [runR, e], e1, hp, hz, hx.trans ?_⟩
      rw [runR]
      cases hh : runX ways [] { s with more := [] } round with
      | inl s' => exact runR_ext [] n s' s'.more
      | inr p => exact Ext.refl _

/-- All that can be reached. -/
def reachOf (ways : List (ByteArray × ByteArray)) (name : ByteArray) : List ByteArray := (walkOf ways name []).1.all

theorem walk_rel (there : List ByteArray) : (walkOf ways name there = walkOf ways name [] ∧ ∀ y, y ∈ reachOf ways name → y ∉ there) ∨
    ∃ pre y post, reachOf ways name = pre ++ y :: post ∧ (∀ z, z ∈ pre → z ∉ there) ∧ y ∈ there ∧ (walkOf ways name there).2 = y ∧ (walkOf ways name there).1.all = pre ++ [y] ∧ (walkOf ways name there).1.makes <+: (walkOf ways name []).1.makes := by
  rcases runR_rel (ways := ways) there 7 ⟨[(name, name)], [], []⟩ [name] with ⟨e, l, e1, hn⟩ | ⟨s1, pre, y, e, e1, hp, hy, hx⟩
  · refine .inl ⟨Sum.inr.inj e, fun y hy => hn y ?_⟩
    have : (walkOf ways name []).1.all = [] ++ l := e1
    unfold reachOf at hy
    rw [this] at hy; simpa using hy
  · obtain ⟨post, hpost⟩ := hx.1
    have e' : walkOf ways name there = (s1, y) := Sum.inr.inj e
    refine .inr ⟨pre, y, post, ?_, hp, hy, by rw [e'], by rw [e']; simpa using e1, by rw [e']; exact hx.2⟩
    show (walkOf ways name []).1.all = _
    have : s1.all ++ post = (walkOf ways name []).1.all := hpost
    rw [← this, e1]; simp

/-- There is a chain just where something that can be reached is there. -/
theorem hit_iff (there : List ByteArray) : hit ways name there = true ↔ ∃ y, y ∈ reachOf ways name ∧ y ∈ there := by
  unfold hit
  rcases walk_rel (ways := ways) (name := name) there with ⟨e, hn⟩ | ⟨pre, y, post, e, hp, hy, e1, e2, _⟩
  · rw [e]
    constructor
    · intro h
      split at h
      · cases h
      · rename_i x hx
        rw [Bool.and_eq_true, strEq, decide_eq_true_eq] at h
        have hx' : x ∈ (walkOf ways name []).1.all := List.mem_of_getLast? hx
        exact ⟨_, by rw [← h.1]; exact hx', (mem_iff _ _).1 h.2⟩
    · rintro ⟨y, h1, h2⟩
      exact absurd h2 (hn y h1)
  · constructor
    · intro _; exact ⟨y, by rw [e]; simp, hy⟩
    · intro _
      rw [e2, e1]
      simp only [List.getLast?_append, List.getLast?_singleton, Option.some_or]
      rw [strEq, (mem_iff there y).2 hy]; simp

/-- y is n ways off the name. -/
inductive Path (m : List (ByteArray × ByteArray)) (name : ByteArray) : ByteArray → Nat → Prop
  | base : Path m name name 0
  | step {y x : ByteArray} {n : Nat} : y ≠ name → mget m y = some x → Path m name x n → Path m name y (n + 1)

theorem mget_prefix {m m' : List (ByteArray × ByteArray)} (h : m <+: m') {y x : ByteArray} (hg : mget m y = some x) : mget m' y = some x := by
  obtain ⟨t, rfl⟩ := h
  induction m with
  | nil => cases hg
  | cons p m ih =>
    rw [List.cons_append, mget_cons]
    rw [mget_cons] at hg
    by_cases h : y = p.1
    · rw [if_pos h] at hg ⊢; exact hg
    · rw [if_neg h] at hg ⊢; exact ih hg
theorem Path.mono {m m' : List (ByteArray × ByteArray)} (h : m <+: m') {y : ByteArray} {n : Nat} (hp : Path m name y n) : Path m' name y n := by
  induction hp with
  | base => exact .base
  | step h1 h2 _ ih => exact .step h1 (mget_prefix h h2) ih
theorem Path.det {m : List (ByteArray × ByteArray)} {y : ByteArray} {n n' : Nat} (h : Path m name y n) (k : Path m name y n') : n = n' := by
  induction h generalizing n' with
  | base => cases k with
    | base => rfl
    | step h1 _ _ => exact absurd rfl h1
  | step h1 h2 h3 ih => cases k with
    | base => exact absurd rfl h1
    | step k1 k2 k3 =>
      rw [h2] at k2
      cases k2
      rw [ih k3]
theorem Path.up_ {m : List (ByteArray × ByteArray)} {y : ByteArray} {n : Nat} (h : Path m name y n) : ∃ l, up m name (n + 1) y = some l ∧ l.length = n ∧ (∀ i, i ≤ n → ∃ z, (y :: l)[i]? = some z ∧ Path m name z (n - i)) ∧
    ∀ i, i < n → ∃ z x, (y :: l)[i]? = some z ∧ (y :: l)[i + 1]? = some x ∧ mget m z = some x ∧ z ≠ name := by
  induction h with
  | base => exact ⟨[], by unfold up; simp, rfl, fun i hi => ⟨name, by simp [show i = 0 from by omega], by simp; exact .base⟩, fun i hi => by omega⟩
  | @step y x n h1 h2 h3 ih =>
    obtain ⟨l, e1, e2, e3, e4⟩ := ih
    have hv : mval m y = x := by unfold mval; rw [h2]; rfl
    refine ⟨x :: l, by rw [up, if_neg h1, hv, e1]; rfl, by simp [e2], fun i hi => ?_, fun i hi => ?_⟩
    · cases i with
      | zero => exact ⟨y, rfl, .step h1 h2 h3⟩
      | succ i =>
        obtain ⟨z, k1, k2⟩ := e3 i (by omega)
        exact ⟨z, k1, by rw [show n + 1 - (i + 1) = n - i from by omega]; exact k2⟩
    · cases i with
      | zero => exact ⟨y, x, rfl, rfl, h2, h1⟩
      | succ i =>
        obtain ⟨z, x', k1, k2, k3⟩ := e4 i (by omega)
        exact ⟨z, x', k1, k2, k3⟩

structure Jn (ways : List (ByteArray × ByteArray)) (name : ByteArray) (s : WS) (R : Nat) : Prop where
  keys : s.makes.map (·.1) = name :: s.all
  nd : (name :: s.all).Nodup
  nxt : ∀ y x, mget s.makes y = some x → y ≠ name → y ∈ nextOf x ways
  dep : ∃ al : List (ByteArray × Nat), al.map (·.1) = s.all ∧ (al.map (·.2)).Pairwise (· ≤ ·) ∧ ∀ p, p ∈ al → p.2 ≤ R ∧ Path s.makes name p.1 p.2
  more : ∀ y, y ∈ s.more → Path s.makes name y R

theorem mhas_keys {κ ν : Type} [DecidableEq κ] (m : List (κ × ν)) (k : κ) : mhas m k = true ↔ k ∈ m.map (·.1) := by
  unfold mhas
  induction m with
  | nil => simp [mget_nil]
  | cons p m ih =>
    rw [mget_cons]
    by_cases h : k = p.1
    · simp [h]
    · rw [if_neg h, ih]; simp [h]

theorem Jn.add {s : WS} {r : Nat} {x y : ByteArray} (h : Jn ways name s (r + 1)) (hx : Path s.makes name x r) (hy : y ∈ nextOf x ways) (hn : mhas s.makes y = false) :
    Jn ways name ⟨mput s.makes y x, s.more ++ [y], s.all ++ [y]⟩ (r + 1) := by
  have hnk : y ∉ name :: s.all := by
    rw [← h.keys]
    intro hm
    have := (mhas_keys s.makes y).2 hm
    rw [hn] at this; cases this
  have hpre : s.makes <+: mput s.makes y x := prefix_put hn
  have hyp : Path (mput s.makes y x) name y (r + 1) := .step (fun e => hnk (by simp [e])) (by rw [mget_put, if_pos rfl]) (hx.mono hpre)
  obtain ⟨al, e1, e2, e3⟩ := h.dep
  refine ⟨?_, ?_, fun z u hz hne => ?_, ⟨al ++ [(y, r + 1)], by simp [e1], ?_, fun p hp => ?_⟩, fun z hz => ?_⟩
  · show (mput s.makes y x).map (·.1) = _
    rw [mput_new (mget_none hn), List.map_append, h.keys]; simp
  · show (name :: (s.all ++ [y])).Nodup
    rw [← List.cons_append, List.nodup_append]
    refine ⟨h.nd, by simp, fun a ha b hb => ?_⟩
    simp at hb; subst hb
    exact fun e => hnk (e ▸ ha)
  · have hz' : mget (mput s.makes y x) z = some u := hz
    rw [mget_put] at hz'
    split at hz'
    · rename_i e; cases hz'; rw [e]; exact hy
    · exact h.nxt z u hz' hne
  · rw [List.map_append, List.pairwise_append]
    refine ⟨e2, by simp, fun a ha b hb => ?_⟩
    simp at hb; subst hb
    obtain ⟨p, hp, rfl⟩ := List.mem_map.1 ha
    exact (e3 p hp).1
  · rcases List.mem_append.1 hp with hp | hp
    · exact ⟨(e3 p hp).1, (e3 p hp).2.mono hpre⟩
    · simp at hp; subst hp; exact ⟨Nat.le_refl _, hyp⟩
  · rcases List.mem_append.1 hz with hz | hz
    · exact (h.more z hz).mono hpre
    · simp at hz; subst hz; exact hyp

theorem stepY_jn (there : List ByteArray) {s : WS} {r : Nat} {x y : ByteArray} (h : Jn ways name s (r + 1)) (hx : Path s.makes name x r) (hy : y ∈ nextOf x ways) : Jn ways name (fin_ (stepY there x s y)).1 (r + 1) := by
  unfold stepY
  cases hh : mhas s.makes y
  · simp only [Bool.false_eq_true, if_false]
    split
    · exact h
    · split
      · exact h.add hx hy hh
      · exact h.add hx hy hh
  · simp only [if_true]; exact h
theorem runY_jn (there : List ByteArray) {r : Nat} {x : ByteArray} : ∀ (l : List ByteArray) (s : WS), Jn ways name s (r + 1) → Path s.makes name x r → (∀ y, y ∈ l → y ∈ nextOf x ways) → Jn ways name (fin_ (runY there x s l)).1 (r + 1)
  | [], s, h, _, _ => h
  | y :: l, s, h, hx, hl => by
    have h1 := stepY_jn there h hx (hl y (by simp))
    have h2 := stepY_ext there x s y
    unfold runY
    cases hh : stepY there x s y with
    | inl s' => rw [hh] at h1 h2; exact runY_jn there l s' h1 (hx.mono h2.2) (fun z hz => hl z (by simp [hz]))
    | inr e => rw [hh] at h1; exact h1
theorem runX_jn (there : List ByteArray) {r : Nat} : ∀ (l : List ByteArray) (s : WS), Jn ways name s (r + 1) → (∀ x, x ∈ l → Path s.makes name x r) → Jn ways name (fin_ (runX ways there s l)).1 (r + 1)
  | [], s, h, _ => h
  | x :: l, s, h, hl => by
    have h1 := runY_jn there (nextOf x ways) s h (hl x (by simp)) (fun _ h => h)
    have h2 := runY_ext there x (nextOf x ways) s
    unfold runX
    cases hh : runY there x s (nextOf x ways) with
    | inl s' => rw [hh] at h1 h2; exact runX_jn there l s' h1 (fun z hz => (hl z (by simp [hz])).mono h2.2)
    | inr e => rw [hh] at h1; exact h1
theorem Jn.weaken {s : WS} {R R' : Nat} (h : Jn ways name s R) (hR : R ≤ R') (m : List ByteArray) (hm : ∀ y, y ∈ m → Path s.makes name y R') : Jn ways name { s with more := m } R' := by
  obtain ⟨al, e1, e2, e3⟩ := h.dep
  exact ⟨h.keys, h.nd, h.nxt, ⟨al, e1, e2, fun p hp => ⟨Nat.le_trans (e3 p hp).1 hR, (e3 p hp).2⟩⟩, hm⟩
theorem runR_jn (there : List ByteArray) : ∀ (n r : Nat) (s : WS) (round : List ByteArray), Jn ways name s r → (∀ x, x ∈ round → Path s.makes name x r) → ∃ R, R ≤ r + n ∧ Jn ways name (runR ways there n s round).1 R
  | 0, r, s, _, h, _ => ⟨r, Nat.le_refl _, h⟩
  | n + 1, r, s, round, h, hl => by
    have h1 := runX_jn there round { s with more := [] } (h.weaken (Nat.le_succ r) [] (by simp)) hl
    unfold runR
    cases hh : runX ways there { s with more := [] } round with
    | inl s' =>
      rw [hh] at h1
      obtain ⟨R, hR, hJ⟩ := runR_jn there n (r + 1) s' s'.more h1 h1.more
      exact ⟨R, by omega, hJ⟩
    | inr e => rw [hh] at h1; exact ⟨r + 1, by omega, h1⟩
theorem walk_jn (there : List ByteArray) : ∃ R, R ≤ 7 ∧ Jn ways name (walkOf ways name there).1 R := by
  obtain ⟨R, hR, h⟩ := runR_jn (ways := ways) (name := name) there 7 0 ⟨[(name, name)], [], []⟩ [name] ⟨rfl, by simp, fun y x hy hne => (by
      rw [mget_cons, if_neg hne] at hy
      cases hy), ⟨[], rfl, by simp, by simp⟩, by simp⟩ (fun x hx => by simp at hx; subst hx; exact .base)
  exact ⟨R, by omega, h⟩
theorem Path.zero {m : List (ByteArray × ByteArray)} {y : ByteArray} (h : Path m name y 0) : y = name := by cases h; rfl

/-- A chain, if there is one. -/
theorem chain_facts {there : List ByteArray} (hh : hit ways name there = true) : ∃ n l, 1 ≤ n ∧ n ≤ 7 ∧ up (walkOf ways name there).1.makes name (n + 1) (walkOf ways name there).2 = some l ∧ l.length = n ∧
    Path (walkOf ways name []).1.makes name (walkOf ways name there).2 n ∧ (walkOf ways name there).2 ∈ there ∧
    ((walkOf ways name there).2 :: l)[n]? = some name ∧
    ∀ i, i < n → ∃ z x, ((walkOf ways name there).2 :: l)[i]? = some z ∧ ((walkOf ways name there).2 :: l)[i + 1]? = some x ∧ z ∈ nextOf x ways ∧ (0 < i → z ∉ there) := by
  obtain ⟨y0, hr0, ht0⟩ := (hit_iff there).1 hh
  rcases walk_rel (ways := ways) (name := name) there with ⟨_, hn⟩ | ⟨pre, y, post, e, hp, hy, e1, e2, e3⟩
  · exact absurd ht0 (hn y0 hr0)
  obtain ⟨R, hR, hJ⟩ := walk_jn (ways := ways) (name := name) there
  rw [e1]
  have hyall : y ∈ (walkOf ways name there).1.all := by rw [e2]; simp
  have hyne : y ≠ name := by
    intro e
    have := (List.nodup_cons.1 hJ.nd).1
    exact this (e ▸ hyall)
  obtain ⟨al, a1, a2, a3⟩ := hJ.dep
  rw [← a1] at hyall
  obtain ⟨p, hp', rfl⟩ := List.mem_map.1 hyall
  obtain ⟨hle, hpath⟩ := a3 p hp'
  obtain ⟨l, u1, u2, u3, u4⟩ := hpath.up_
  refine ⟨p.2, l, ?_, by omega, u1, u2, hpath.mono e3, hy, ?_, fun i hi => ?_⟩
  · rcases Nat.eq_zero_or_pos p.2 with h0 | h0
    · rw [h0] at hpath; exact absurd hpath.zero hyne
    · exact h0
  · obtain ⟨z, k1, k2⟩ := u3 p.2 (Nat.le_refl _)
    rw [Nat.sub_self] at k2
    rw [k1, k2.zero]
  · obtain ⟨z, x, k1, k2, k3, k4⟩ := u4 i hi
    refine ⟨z, x, k1, k2, hJ.nxt z x k3 k4, fun h0 => ?_⟩
    obtain ⟨z', j1, j2⟩ := u3 i (by omega)
    rw [k1] at j1; cases j1
    have hz : z ∈ (walkOf ways name there).1.all := by
      have : z ∈ name :: (walkOf ways name there).1.all := by
        rw [← hJ.keys, ← mhas_keys]
        unfold mhas; rw [k3]; rfl
      rcases List.mem_cons.1 this with h | h
      · exact absurd h k4
      · exact h
    rw [e2] at hz
    rcases List.mem_append.1 hz with h | h
    · exact hp z h
    · simp at h
      rw [h] at j2
      have := hpath.det j2
      omega

theorem stepY_len (there : List ByteArray) (x : ByteArray) (s : WS) (y : ByteArray) (h : s.makes.length ≤ 512) : (fin_ (stepY there x s y)).1.makes.length ≤ 512 := by
  unfold stepY
  cases hh : mhas s.makes y
  · simp only [Bool.false_eq_true, if_false]
    split
    · exact h
    · have : (mput s.makes y x).length ≤ 512 := by rw [mput_length, hh]; simp; omega
      split
      · exact this
      · exact this
  · simp only [if_true]; exact h
theorem runY_len (there : List ByteArray) (x : ByteArray) : ∀ (l : List ByteArray) (s : WS), s.makes.length ≤ 512 → (fin_ (runY there x s l)).1.makes.length ≤ 512
  | [], s, h => h
  | y :: l, s, h => by
    have h1 := stepY_len there x s y h
    unfold runY
    cases hh : stepY there x s y with
    | inl s' => rw [hh] at h1; exact runY_len there x l s' h1
    | inr e => rw [hh] at h1; exact h1
theorem runX_len (there : List ByteArray) : ∀ (l : List ByteArray) (s : WS), s.makes.length ≤ 512 → (fin_ (runX ways there s l)).1.makes.length ≤ 512
  | [], s, h => h
  | x :: l, s, h => by
    have h1 := runY_len there x (nextOf x ways) s h
    unfold runX
    cases hh : runY there x s (nextOf x ways) with
    | inl s' => rw [hh] at h1; exact runX_len there l s' h1
    | inr e => rw [hh] at h1; exact h1
theorem runR_len (there : List ByteArray) : ∀ (n : Nat) (s : WS) (round : List ByteArray), s.makes.length ≤ 512 → (runR ways there n s round).1.makes.length ≤ 512
  | 0, s, _, h => h
  | n + 1, s, round, h => by
    have h1 := runX_len (ways := ways) there round { s with more := [] } h
    unfold runR
    cases hh : runX ways there { s with more := [] } round with
    | inl s' => rw [hh] at h1; exact runR_len there n s' s'.more h1
    | inr e => rw [hh] at h1; exact h1
theorem reach_facts : (name :: reachOf ways name).Nodup ∧ (reachOf ways name).length < 512 := by
  obtain ⟨R, _, hJ⟩ := walk_jn (ways := ways) (name := name) []
  refine ⟨hJ.nd, ?_⟩
  have h1 : (walkOf ways name []).1.makes.length ≤ 512 := runR_len [] 7 ⟨[(name, name)], [], []⟩ [name] (by simp)
  have h2 := congrArg List.length hJ.keys
  simp at h2
  unfold reachOf
  omega

/-- More that is there makes no chain longer. -/
theorem chain_more {t1 t2 : List ByteArray} (hsub : ∀ y, y ∈ t1 → y ∈ t2) {n1 n2 : Nat} (h1 : hit ways name t1 = true)
    (p1 : Path (walkOf ways name []).1.makes name (walkOf ways name t1).2 n1) (p2 : Path (walkOf ways name []).1.makes name (walkOf ways name t2).2 n2) : hit ways name t2 = true ∧ n2 ≤ n1 := by
  obtain ⟨y0, hr0, ht0⟩ := (hit_iff t1).1 h1
  have h2 : hit ways name t2 = true := (hit_iff t2).2 ⟨y0, hr0, hsub y0 ht0⟩
  refine ⟨h2, ?_⟩
  rcases walk_rel (ways := ways) (name := name) t1 with ⟨_, hn⟩ | ⟨pre1, y1, post1, e1, hp1, hy1, f1, _, _⟩
  · exact absurd ht0 (hn y0 hr0)
  rcases walk_rel (ways := ways) (name := name) t2 with ⟨_, hn⟩ | ⟨pre2, y2, post2, e2, hp2, hy2, f2, _, _⟩
  · exact absurd (hsub y0 ht0) (hn y0 hr0)
  rw [f1] at p1
  rw [f2] at p2
  obtain ⟨R, _, hJ⟩ := walk_jn (ways := ways) (name := name) []
  obtain ⟨al, a1, a2, a3⟩ := hJ.dep
  have hL : (walkOf ways name []).1.all = pre2 ++ y2 :: post2 := e2
  rw [hL] at a1
  obtain ⟨al1, al2, rfl, b1, b2⟩ := List.map_eq_append_iff.1 a1
  obtain ⟨q2, al3, rfl, c1, c2⟩ := List.map_eq_cons_iff.1 b2
  have hm : y1 ∈ pre2 ++ y2 :: post2 := by rw [← e2, e1]; simp
  rcases List.mem_append.1 hm with hm | hm
  · exact absurd (hsub y1 hy1) (hp2 y1 hm)
  · rcases List.mem_cons.1 hm with hm | hm
    · rw [hm] at p1; rw [p1.det p2]; exact Nat.le_refl _
    · rw [← c2] at hm
      obtain ⟨q1, hq1, e⟩ := List.mem_map.1 hm
      have d1 := (a3 q1 (by simp [hq1])).2
      have d2 := (a3 q2 (by simp)).2
      rw [e] at d1
      rw [c1] at d2
      rw [p1.det d1, p2.det d2]
      rw [List.map_append, List.pairwise_append] at a2
      have := a2.2.1
      rw [List.map_cons, List.pairwise_cons] at this
      exact this.1 q1.2 (List.mem_map.2 ⟨q1, hq1, rfl⟩)
theorem chain_none {t1 t2 : List ByteArray} (hsub : ∀ y, y ∈ t1 → y ∈ t2) (h2 : hit ways name t2 = false) : hit ways name t1 = false := by
  cases h : hit ways name t1
  · rfl
  · obtain ⟨y0, hr0, ht0⟩ := (hit_iff t1).1 h
    rw [(hit_iff t2).2 ⟨y0, hr0, hsub y0 ht0⟩] at h2; cases h2
end

/-- Ways go between suffixes. -/
theorem wayRun_in (met : List (ByteArray × Unit)) : ∀ (m : List ((ByteArray × ByteArray) × Unit)) (l : List (ByteArray × ByteArray)), wayRun met m l = true → ∀ p, p ∈ l → mhas met p.1 = true
  | _, [], _, p, hp => by cases hp
  | m, q :: l, h, p, hp => by
    unfold wayRun at h
    split at h
    · cases h
    · rename_i hc
      rcases List.mem_cons.1 hp with rfl | hp
      · simp at hc; exact hc.1.1.2
      · exact wayRun_in met _ l h p hp
theorem sufRun_in : ∀ (l : List ByteArray) (m met : List (ByteArray × Unit)), sufRun m l = some met → ∀ x, mhas met x = true → mhas m x = true ∨ x ∈ l
  | [], m, met, h, x, hx => by cases h; exact .inl hx
  | s :: l, m, met, h, x, hx => by
    unfold sufRun at h
    split at h
    · cases h
    · rcases sufRun_in l _ met h x hx with h' | h'
      · unfold mhas at h'
        rw [mget_put] at h'
        by_cases e : x = s
        · exact .inr (by simp [e])
        · rw [if_neg e] at h'; exact .inl h'
      · exact .inr (by simp [h'])
theorem right_in {s : List ByteArray} {ways : List (ByteArray × ByteArray)} (h : rightOf s ways = true) : (∀ p, p ∈ ways → p.1 ∈ s) ∧ ways.length ≤ 256 := by
  unfold rightOf at h
  split at h
  · cases h
  · split at h
    · cases h
    · rename_i h2
      refine ⟨fun p hp => ?_, by omega⟩
      cases hs : sufRun [] s with
      | none => rw [hs] at h; cases h
      | some met =>
        rw [hs] at h
        rcases sufRun_in s [] met hs p.1 (wayRun_in met [] ways h p hp) with h' | h'
        · cases h'
        · exact h'
end Go.Proofs.Ytliglejbkpjamaa
