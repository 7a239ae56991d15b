/-
  Layer 16 (graph): collect, plainly, and what its walk wants.
-/
import Derived.Test.YtliglejbkpjamaaGrM0
import Derived.Test.YtliglejbkpjamaaGrF
set_option linter.unusedVariables false
set_option linter.unusedSimpArgs false
set_option maxRecDepth 20000
namespace Go.Proofs.Ytliglejbkpjamaa
open Go.RowKit

abbrev MarkP := List (ByteArray × List (ByteArray × Unit))
/-- The marks, as they are found. -/
def markR (s : MarkP) (r : RuleS) : MarkP :=
  if classB (r.tg.headD ⟨#[]⟩) = 0 then s else mput s (r.tg.headD ⟨#[]⟩) (r.src.foldl (fun m x => mput m x ()) ((mget s (r.tg.headD ⟨#[]⟩)).getD []))
def madeR (suf : List ByteArray) (m : List (ByteArray × Unit)) (r : RuleS) : List (ByteArray × Unit) :=
  if (sufx (r.tg.headD ⟨#[]⟩) suf suf).2.2 && decide (0 < r.cmd.length) then mput m (r.tg.headD ⟨#[]⟩) () else m
abbrev OwnP := List (ByteArray × RuleS)
abbrev CS := OwnP × List ByteArray
def ownS (made : List (ByteArray × Unit)) (s : CS) (r : RuleS) : CS :=
  if classB (r.tg.headD ⟨#[]⟩) ≠ 0 ∨ mhas made (r.tg.headD ⟨#[]⟩) = true then s
  else match mget s.1 (r.tg.headD ⟨#[]⟩) with
    | some x => (mput s.1 (r.tg.headD ⟨#[]⟩) ⟨x.tg, x.kind, x.src ++ r.src, x.cmd ++ r.cmd, x.at_⟩, s.2)
    | none => (mput s.1 (r.tg.headD ⟨#[]⟩) ⟨[], r.kind, r.src, r.cmd, 0⟩, s.2 ++ [r.tg.headD ⟨#[]⟩])
def marksB (l : List RuleS) : MarkP := l.foldl markR []
def madeB (suf : List ByteArray) (l : List RuleS) : List (ByteArray × Unit) := l.foldl (madeR suf) []
def ownB (suf : List ByteArray) (l : List RuleS) (there : List ByteArray) : CS := l.foldl (ownS (madeB suf l)) ([], there)
def ownP (own : List (ByteArray × RX)) : OwnP := own.map fun q => (q.1, q.2.r)
def markP (marks : List (ByteArray × MarkS)) : MarkP := marks.map fun q => (q.1, q.2.2)
section
variable {κ ν μ : Type} [DecidableEq κ]
theorem mget_map (f : ν → μ) (k : κ) : ∀ m : List (κ × ν), mget (m.map fun q => (q.1, f q.2)) k = (mget m k).map f
  | [] => rfl
  | p :: m => by
    rw [List.map_cons, mget_cons, mget_cons, mget_map f k m]
    split <;> rfl
theorem mput_map (f : ν → μ) (k : κ) (v : ν) : ∀ m : List (κ × ν), (mput m k v).map (fun q => (q.1, f q.2)) = mput (m.map fun q => (q.1, f q.2)) k (f v)
  | [] => rfl
  | p :: m => by
    rw [List.map_cons, mput_cons, mput_cons]
    split
    · rfl
    · rw [List.map_cons, mput_map f k v m]
theorem mhas_map (f : ν → μ) (m : List (κ × ν)) (k : κ) : mhas (m.map fun q => (q.1, f q.2)) k = mhas m k := by
  unfold mhas
  rw [mget_map]
  cases mget m k <;> rfl
/-- Where a key stands. -/
theorem mget_at {m : List (κ × ν)} {k : κ} {v : ν} (h : mget m k = some v) : ∃ i, ∃ hi : i < m.length, m[i] = (k, v) ∧ ∀ u, mput m k u = m.set i (k, u) := by
  induction m with
  | nil => cases h
  | cons p m ih =>
    rw [mget_cons] at h
    by_cases hk : k = p.1
    · rw [if_pos hk] at h
      cases h
      exact ⟨0, by simp, by simp [hk], fun u => by rw [mput_cons, if_pos hk]; rfl⟩
    · rw [if_neg hk] at h
      obtain ⟨i, hi, e1, e2⟩ := ih h
      exact ⟨i + 1, by simpa using hi, by simpa using e1, fun u => by rw [mput_cons, if_neg hk, e2 u]; rfl⟩
end
theorem ownR_plain {own : List (ByteArray × RX)} {O : OwnP} (h : ownP own = O) (name : ByteArray) : mget O name = (mget own name).map RX.r := by
  rw [← h]
  unfold ownP
  rw [mget_map RX.r]
theorem ownR_of {own : List (ByteArray × RX)} {O : OwnP} (h : ownP own = O) (name : ByteArray) : ownR own name = (mget O name).getD ⟨[], 0, [], [], 0⟩ := by
  rw [ownR_plain h]
  unfold ownR
  cases mget own name <;> rfl
theorem mark_of {marks : List (ByteArray × MarkS)} {M : MarkP} (h : markP marks = M) (k name : ByteArray) : mark marks k name = match mget M k with | some l => mhas l name | none => false := by
  rw [← h]
  unfold markP mark
  rw [mget_map Prod.snd]
  cases mget marks k <;> rfl
/-- Bounds on the way: k rules are done. -/
structure OwnOk (B k n : Nat) (s : CS) : Prop where
  own : ∀ t y, mget s.1 t = some y → y.src.length ≤ k * B ∧ y.cmd.length ≤ k * B
  len : s.2.length ≤ n + k
theorem ownS_ok {B k n : Nat} {made : List (ByteArray × Unit)} {s : CS} {r : RuleS} (h : OwnOk B k n s) (h1 : r.src.length ≤ B ∧ r.cmd.length ≤ B) : OwnOk B (k + 1) n (ownS made s r) := by
  have hup : ∀ t y, mget s.1 t = some y → y.src.length ≤ (k + 1) * B ∧ y.cmd.length ≤ (k + 1) * B := fun t y hy => by
    have := h.own t y hy
    rw [Nat.add_mul]; omega
  unfold ownS
  split
  · exact ⟨hup, by have := h.len; omega⟩
  · split
    · rename_i x hx
      refine ⟨fun t y hy => ?_, by have := h.len; show s.2.length ≤ _; omega⟩
      simp only at hy
      rw [mget_put] at hy
      split at hy
      · cases hy
        have := h.own _ x hx
        simp only [List.length_append]
        rw [Nat.add_mul]; omega
      · exact hup t y hy
    · refine ⟨fun t y hy => ?_, by have := h.len; show (s.2 ++ [_]).length ≤ _; simp; omega⟩
      simp only at hy
      rw [mget_put] at hy
      split at hy
      · cases hy
        simp only
        rw [Nat.add_mul]; omega
      · exact hup t y hy
theorem ownAll_ok {B n : Nat} {made : List (ByteArray × Unit)} : ∀ (l : List RuleS) (k : Nat) (s : CS), OwnOk B k n s → (∀ r, r ∈ l → r.src.length ≤ B ∧ r.cmd.length ≤ B) → OwnOk B (k + l.length) n (l.foldl (ownS made) s)
  | [], k, s, h, _ => h
  | r :: l, k, s, h, hb => by
    rw [List.foldl_cons, List.length_cons, show k + (l.length + 1) = k + 1 + l.length from by omega]
    exact ownAll_ok l (k + 1) _ (ownS_ok h (hb r (by simp))) (fun r hr => hb r (by simp [hr]))
/-- Each source of an own rule is a rule's. -/
theorem ownAll_src {P : ByteArray → Prop} {made : List (ByteArray × Unit)} : ∀ (l : List RuleS) (s : CS), (∀ t y, mget s.1 t = some y → ∀ x, x ∈ y.src → P x) → (∀ r, r ∈ l → ∀ x, x ∈ r.src → P x) → ∀ t y, mget (l.foldl (ownS made) s).1 t = some y → ∀ x, x ∈ y.src → P x
  | [], s, h, _ => h
  | r :: l, s, h, hr => by
    rw [List.foldl_cons]
    refine ownAll_src l _ ?_ (fun r hr' => hr r (by simp [hr']))
    have h1 := hr r (by simp)
    unfold ownS
    split
    · exact h
    · split
      · rename_i x hx
        intro t y hy z hz
        simp only at hy
        rw [mget_put] at hy
        split at hy
        · cases hy
          rcases List.mem_append.1 hz with hz | hz
          · exact h _ x hx z hz
          · exact h1 z hz
        · exact h t y hy z hz
      · intro t y hy z hz
        simp only at hy
        rw [mget_put] at hy
        split at hy
        · cases hy
          exact h1 z hz
        · exact h t y hy z hz
theorem marksB_snoc (l : List RuleS) (k : Nat) (h : k < l.length) : marksB (l.take (k + 1)) = markR (marksB (l.take k)) l[k] := by
  rw [List.take_succ_eq_append_getElem h]
  unfold marksB
  rw [List.foldl_append]; rfl
theorem madeB_snoc (suf : List ByteArray) (l : List RuleS) (k : Nat) (h : k < l.length) : madeB suf (l.take (k + 1)) = madeR suf (madeB suf (l.take k)) l[k] := by
  rw [List.take_succ_eq_append_getElem h]
  unfold madeB
  rw [List.foldl_append]; rfl
theorem ownRun_snoc (made : List (ByteArray × Unit)) (l : List RuleS) (s : CS) (k : Nat) (h : k < l.length) : (l.take (k + 1)).foldl (ownS made) s = ownS made ((l.take k).foldl (ownS made) s) l[k] := by
  rw [List.take_succ_eq_append_getElem h, List.foldl_append]; rfl
/-- The outer map tells the inner maps' blocks alone. -/
theorem markC_same {b : Nat} {m m' : List (ByteArray × MarkS)} (h : m.map (fun p => (p.1, p.2.1)) = m'.map fun p => (p.1, p.2.1)) {w : World} (hw : (MapC b Value.string markV m).ok w) : (MapC b Value.string markV m').ok w := by
  obtain ⟨es, clk, h1, h2, h3⟩ := hw
  refine ⟨es, clk, h1, h2.trans ?_, h3⟩
  have := congrArg (List.map fun p : ByteArray × Nat => (Value.string p.1, Value.map (some p.2))) h
  rw [List.map_map, List.map_map] at this
  exact this
theorem map_flat {α β : Type} (f : α → β) (l : List α) : l.map f = l.flatMap (fun x => [f x]) := by induction l <;> simp_all
theorem map_out {α β : Type} (f : α → β) (xs : List α) (i : Nat) (hi : i < xs.length) : (xs.map f).Perm (f xs[i] :: (xs.eraseIdx i).map f) := by
  rw [map_flat, map_flat]
  exact flat_out (fun x => [f x]) xs i hi
theorem map_in {α β : Type} (f : α → β) (xs : List α) (i : Nat) (hi : i < xs.length) (y : α) : (f y :: (xs.eraseIdx i).map f).Perm ((xs.set i y).map f) := by
  rw [map_flat, map_flat]
  exact flat_in (fun x => [f x]) xs i hi y
end Go.Proofs.Ytliglejbkpjamaa
