/-
  Layer 16 (graph): nodes that nothing left is needed for go one by one, and none is left.
-/
import Derived.Test.YtliglejbkpjamaaGrX0
set_option linter.unusedVariables false
set_option linter.unusedSimpArgs false
set_option maxRecDepth 20000
namespace Go.Proofs.Ytliglejbkpjamaa
open Go.RowKit

theorem nx_of {xs : List NX} (hnd : (xs.map fun x => x.nd.name).Nodup) {x : NX} (hx : x ∈ xs) : nx (nextP (xs.map NX.nd)) x.nd.name = x.nd.src ++ x.nd.aft := by
  unfold nx nextP
  induction xs with
  | nil => cases hx
  | cons y ys ih =>
    obtain ⟨h1, h2⟩ := List.nodup_cons.1 (by simpa using hnd : (y.nd.name :: ys.map fun x => x.nd.name).Nodup)
    rw [List.map_cons, List.map_cons, mget_cons]
    by_cases e : x.nd.name = y.nd.name
    · rw [if_pos e]
      rcases List.mem_cons.1 hx with rfl | hx
      · rfl
      · exact absurd (List.mem_map.2 ⟨x, hx, e⟩) h1
    · rw [if_neg e]
      rcases List.mem_cons.1 hx with rfl | hx
      · exact absurd rfl e
      · exact ih h2 hx
theorem Reach.left {P : NextP} {a b c : ByteArray} (h : b ∈ nx P a) (k : Reach P b c) : Reach P a c := by
  induction k with
  | one h2 => exact .more (.one h) h2
  | more _ h2 ih => exact .more ih h2
theorem countP_lt {α : Type} (p q : α → Bool) (hpq : ∀ y, p y = true → q y = true) : ∀ l : List α, (∃ y, y ∈ l ∧ q y = true ∧ p y = false) → l.countP p < l.countP q
  | [], h => by obtain ⟨_, h, _⟩ := h; cases h
  | x :: l, h => by
    have hle : l.countP p ≤ l.countP q := List.countP_mono_left (fun y _ hy => hpq y hy)
    rw [List.countP_cons, List.countP_cons]
    obtain ⟨y, hy, h1, h2⟩ := h
    rcases List.mem_cons.1 hy with rfl | hy
    · simp only [h1, h2, if_true, Bool.false_eq_true, if_false]; omega
    · have := countP_lt p q hpq l ⟨y, hy, h1, h2⟩
      cases hp : p x
      · simp only [Bool.false_eq_true, if_false]
        split <;> omega
      · simp only [hpq x hp, if_true]; omega
section
variable {ν : Type}
def lackB (m : List (ByteArray × ν)) (l : List ByteArray) : Bool := l.all fun s => !mhas m s
def stepM (m : List (ByteArray × ν)) (x : NX) : List (ByteArray × ν) := if mhas m x.nd.name = true ∧ lackB m (x.nd.src ++ x.nd.aft) = true then mdel m x.nd.name else m
def passM (xs : List NX) (m : List (ByteArray × ν)) : List (ByteArray × ν) := xs.foldl stepM m
def iterM (xs : List NX) (m : List (ByteArray × ν)) : Nat → List (ByteArray × ν)
  | 0 => m
  | k + 1 => passM xs (iterM xs m k)
theorem mdel_sub (m : List (ByteArray × ν)) (k : ByteArray) : (mdel m k).Sublist m := by
  unfold mdel
  split
  · exact List.eraseIdx_sublist _ _
  · exact List.Sublist.refl _
theorem mhas_mem (m : List (ByteArray × ν)) (s : ByteArray) : mhas m s = true ↔ s ∈ m.map Prod.fst := by
  unfold mhas
  induction m with
  | nil => simp [mget_nil]
  | cons p m ih =>
    rw [mget_cons, List.map_cons, List.mem_cons]
    by_cases e : s = p.1
    · rw [if_pos e]; simp [e]
    · rw [if_neg e, ih]
      exact ⟨.inr, fun h => h.resolve_left e⟩
theorem mdel_len {m : List (ByteArray × ν)} {k : ByteArray} (h : mhas m k = true) : (mdel m k).length < m.length := by
  induction m with
  | nil => simp [mhas, mget_nil] at h
  | cons p m ih =>
    rw [mdel_cons]
    by_cases e : k = p.1
    · rw [if_pos e]; simp
    · rw [if_neg e, List.length_cons, List.length_cons]
      unfold mhas at h ih
      rw [mget_cons, if_neg e] at h
      have := ih h
      omega
theorem mhas_sub {m m' : List (ByteArray × ν)} (h : m'.Sublist m) {s : ByteArray} (hs : mhas m s = false) : mhas m' s = false := by
  cases h1 : mhas m' s
  · rfl
  · have := (mhas_mem m s).2 ((h.map Prod.fst).subset ((mhas_mem m' s).1 h1))
    rw [hs] at this; cases this
theorem stepM_sub (m : List (ByteArray × ν)) (x : NX) : (stepM m x).Sublist m := by
  unfold stepM
  split
  · exact mdel_sub _ _
  · exact List.Sublist.refl _
theorem passM_sub (xs : List NX) : ∀ m : List (ByteArray × ν), (passM xs m).Sublist m := by
  unfold passM
  induction xs with
  | nil => exact fun m => List.Sublist.refl _
  | cons x xs ih => exact fun m => (ih _).trans (stepM_sub m x)
theorem lackB_sub {m m' : List (ByteArray × ν)} (h : m'.Sublist m) {l : List ByteArray} (hl : lackB m l = true) : lackB m' l = true := by
  unfold lackB at hl ⊢
  rw [List.all_eq_true] at hl ⊢
  intro s hs
  have := hl s hs
  simp only [Bool.not_eq_true'] at this ⊢
  exact mhas_sub h this
theorem passM_less (m : List (ByteArray × ν)) (x : NX) (hx : mhas m x.nd.name = true) (hl : lackB m (x.nd.src ++ x.nd.aft) = true) : ∀ (xs : List NX) (m' : List (ByteArray × ν)), m'.Sublist m → x ∈ xs → (passM xs m').length < m.length := by
  intro xs
  induction xs with
  | nil => intro _ _ h; cases h
  | cons y xs ih =>
    intro m' hs hx2
    have e : passM (y :: xs) m' = passM xs (stepM m' y) := rfl
    rw [e]
    by_cases hxy : x ∈ xs
    · exact ih _ ((stepM_sub m' y).trans hs) hxy
    · obtain rfl : x = y := (List.mem_cons.1 hx2).resolve_right hxy
      refine Nat.lt_of_le_of_lt (passM_sub xs _).length_le ?_
      unfold stepM
      cases h1 : mhas m' x.nd.name
      · rw [if_neg (by simp)]
        rcases Nat.lt_or_ge m'.length m.length with h2 | h2
        · exact h2
        · have := hs.eq_of_length_le h2
          rw [this, hx] at h1; cases h1
      · rw [if_pos ⟨rfl, lackB_sub hs hl⟩]
        exact Nat.lt_of_lt_of_le (mdel_len h1) hs.length_le
theorem least {gs : List ByteArray} {xs : List NX} (h : Laid gs xs) (m : List (ByteArray × ν)) (hm : ∀ s, mhas m s = true → s ∈ xs.map fun x => x.nd.name) (hne : m ≠ []) : ∃ x, x ∈ xs ∧ mhas m x.nd.name = true ∧ lackB m (x.nd.src ++ x.nd.aft) = true := by
  classical
  refine Classical.byContradiction fun hno => ?_
  have key : ∀ (n : Nat) (a : ByteArray), mhas m a = true → (m.map Prod.fst).countP (fun y => decide (Reach (nextP (xs.map NX.nd)) a y)) = n → False := by
    intro n
    induction n using Nat.strongRecOn with
    | ind n ih =>
      intro a ha hn
      obtain ⟨x, hx, rfl⟩ := List.mem_map.1 (hm a ha)
      have hl : ¬ lackB m (x.nd.src ++ x.nd.aft) = true := fun hl => hno ⟨x, hx, ha, hl⟩
      unfold lackB at hl
      rw [List.all_eq_true] at hl
      obtain ⟨s, hs, hs2⟩ : ∃ s, s ∈ x.nd.src ++ x.nd.aft ∧ mhas m s = true := by
        refine Classical.byContradiction fun h2 => hl fun s hs => ?_
        cases h3 : mhas m s
        · rfl
        · exact absurd ⟨s, hs, h3⟩ h2
      have hsx : s ∈ nx (nextP (xs.map NX.nd)) x.nd.name := by rw [nx_of h.nd hx]; exact hs
      obtain ⟨z, hz, hze⟩ := List.mem_map.1 (hm s hs2)
      refine ih _ ?_ s hs2 rfl
      rw [← hn]
      refine countP_lt _ _ (fun y hy => ?_) _ ⟨s, (mhas_mem m s).1 hs2, ?_, ?_⟩
      · exact decide_eq_true (Reach.left hsx (of_decide_eq_true hy))
      · exact decide_eq_true (.one hsx)
      · refine decide_eq_false ?_
        rw [← hze]
        exact h.loop z hz
  cases m with
  | nil => exact hne rfl
  | cons p m => exact key _ p.1 ((mhas_mem _ _).2 (by simp)) rfl
theorem iterM_len {gs : List ByteArray} {xs : List NX} (h : Laid gs xs) (m : List (ByteArray × ν)) (hm : m.map Prod.fst = xs.map fun x => x.nd.name) : ∀ k, (iterM xs m k).Sublist m ∧ ((iterM xs m k).length + k ≤ m.length ∨ iterM xs m k = [])
  | 0 => ⟨List.Sublist.refl _, .inl (Nat.le_refl _)⟩
  | k + 1 => by
    obtain ⟨h1, h2⟩ := iterM_len h m hm k
    refine ⟨(passM_sub xs _).trans h1, ?_⟩
    by_cases hne : iterM xs m k = []
    · refine .inr ?_
      have := (passM_sub xs (iterM xs m k)).length_le
      rw [hne] at this
      show passM xs (iterM xs m k) = []
      rw [hne]
      exact List.length_eq_zero_iff.1 (Nat.le_zero.1 this)
    · refine .inl ?_
      have h3 := h2.resolve_right hne
      obtain ⟨x, hx, hx1, hx2⟩ := least h (iterM xs m k) (fun s hs => by
        have := (h1.map Prod.fst).subset ((mhas_mem _ s).1 hs)
        rw [hm] at this
        exact this) hne
      have h4 := passM_less (iterM xs m k) x hx1 hx2 xs _ (List.Sublist.refl _) hx
      show (passM xs (iterM xs m k)).length + (k + 1) ≤ m.length
      omega
theorem kahn {gs : List ByteArray} {xs : List NX} (h : Laid gs xs) (m : List (ByteArray × ν)) (hm : m.map Prod.fst = xs.map fun x => x.nd.name) : iterM xs m xs.length = [] := by
  obtain ⟨_, h2⟩ := iterM_len h m hm xs.length
  have hl : m.length = xs.length := by
    have := congrArg List.length hm
    simpa using this
  rcases h2 with h2 | h2
  · exact List.length_eq_zero_iff.1 (by omega)
  · exact h2
end
end Go.Proofs.Ytliglejbkpjamaa
