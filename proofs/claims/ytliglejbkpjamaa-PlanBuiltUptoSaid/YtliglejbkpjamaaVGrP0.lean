/-
  Layer 16 (graph): collect, plainly, and what its walk wants.
-/
/-
  Layer 16 (graph): the builder's marks and own rules in memory, taken apart and put together.
-/
import Derived.Test.YtliglejbkpjamaaVGrM0
import Derived.Test.YtliglejbkpjamaaVGrE
import Derived.Test.YtliglejbkpjamaaVGrN
set_option linter.unusedVariables false
set_option linter.unusedSimpArgs false
section
set_option maxRecDepth 20000
namespace Go.Proofs.Ytliglejbkpjamaa
open Go.RowKit

abbrev MarkP := List (ByteArray × List (ByteArray × Unit))
/-- The marks, as they are found. -/
def markR (s : MarkP) (r : RuleS) : MarkP :=
  if classB (r.tg.headD ⟨#[]⟩) = 0 then s else mput s (r.tg.headD ⟨#[]⟩) (r.src.foldl (fun m x => mput m x ()) ((mget s (r.tg.headD ⟨#[]⟩)).getD []))
def madeR (suf : List ByteArray) (m : List (ByteArray × Unit)) (r : RuleS) : List (ByteArray × Unit) :=
  if (sufx (r.tg.headD ⟨#[]⟩) suf suf).2.2 && decide (0 < r.cmd.length) then mput m (r.tg.headD ⟨#[]⟩) () else m
abbrev OwnP := List (ByteArray × RuleS)
abbrev CS := OwnP × List ByteArray
def ownS (made : List (ByteArray × Unit)) (s : CS) (r : RuleS) : CS :=
  if classB (r.tg.headD ⟨#[]⟩) ≠ 0 ∨ mhas made (r.tg.headD ⟨#[]⟩) = true then s
  else match mget s.1 (r.tg.headD ⟨#[]⟩) with
    | some x => (mput s.1 (r.tg.headD ⟨#[]⟩) ⟨x.tg, x.kind, x.src ++ r.src, x.cmd ++ r.cmd, x.at_⟩, s.2)
    | none => (mput s.1 (r.tg.headD ⟨#[]⟩) ⟨[], r.kind, r.src, r.cmd, 0⟩, s.2 ++ [r.tg.headD ⟨#[]⟩])
def marksB (l : List RuleS) : MarkP := l.foldl markR []
def madeB (suf : List ByteArray) (l : List RuleS) : List (ByteArray × Unit) := l.foldl (madeR suf) []
def ownB (suf : List ByteArray) (l : List RuleS) (there : List ByteArray) : CS := l.foldl (ownS (madeB suf l)) ([], there)
def ownP (own : List (ByteArray × RX)) : OwnP := own.map fun q => (q.1, q.2.r)
def markP (marks : List (ByteArray × MarkS)) : MarkP := marks.map fun q => (q.1, q.2.2)
section
variable {κ ν μ : Type} [DecidableEq κ]
theorem mget_map (f : ν → μ) (k : κ) : ∀ m : List (κ × ν), mget (m.map fun q => (q.1, f q.2)) k = (mget m k).map f
  | [] => rfl
  | p :: m => by
    rw [List.map_cons, mget_cons, mget_cons, mget_map f k m]
    split <;> rfl
theorem mput_map (f : ν → μ) (k : κ) (v : ν) : ∀ m : List (κ × ν), (mput m k v).map (fun q => (q.1, f q.2)) = mput (m.map fun q => (q.1, f q.2)) k (f v)
  | [] => rfl
  | p :: m => by
    rw [List.map_cons, mput_cons, mput_cons]
    split
    · rfl
    · rw [List.map_cons, mput_map f k v m]
theorem mhas_map (f : ν → μ) (m : List (κ × ν)) (k : κ) : mhas (m.map fun q => (q.1, f q.2)) k = mhas m k := by
  unfold mhas
  rw [mget_map]
  cases mget m k <;> rfl
/-- Where a key stands. -/
theorem mget_at {m : List (κ × ν)} {k : κ} {v : ν} (h : mget m k = some v) : ∃ i, ∃ hi : i < m.length, m[i] = (k, v) ∧ ∀ u, mput m k u = m.set i (k, u) := by
  induction m with
  | nil => cases h
  | cons p m ih =>
    rw [mget_cons] at h
    by_cases hk : k = p.1
    · rw [if_pos hk] at h
      cases h
      exact ⟨0, by simp, by simp [hk], fun u => by rw [mput_cons, if_pos hk]; rfl⟩
    · rw [if_neg hk] at h
      obtain ⟨i, hi, e1, e2⟩ := ih h
      exact ⟨i + 1, by simpa using hi, by simpa using e1, fun u => by rw [mput_cons, if_neg hk, e2 u]; rfl⟩
end
theorem ownR_plain {own : List (ByteArray × RX)} {O : OwnP} (h : ownP own = O) (name : ByteArray) : mget O name = (mget own name).map RX.r := by
  rw [← h]
  unfold ownP
  rw [mget_map RX.r]
theorem ownR_of {own : List (ByteArray × RX)} {O : OwnP} (h : ownP own = O) (name : ByteArray) : ownR own name = (mget O name).getD ⟨[], 0, [], [], 0⟩ := by
  rw [ownR_plain h]
  unfold ownR
  cases mget own name <;> rfl
theorem mark_of {marks : List (ByteArray × MarkS)} {M : MarkP} (h : markP marks = M) (k name : ByteArray) : mark marks k name = match mget M k with | some l => mhas l name | none => false := by
  rw [← h]
  unfold markP mark
  rw [mget_map Prod.snd]
  cases mget marks k <;> rfl
/-- Bounds on the way: k rules are done. -/
structure OwnOk (B k n : Nat) (s : CS) : Prop where
  own : ∀ t y, mget s.1 t = some y → y.src.length ≤ k * B ∧ y.cmd.length ≤ k * B
  len : s.2.length ≤ n + k
theorem ownS_ok {B k n : Nat} {made : List (ByteArray × Unit)} {s : CS} {r : RuleS} (h : OwnOk B k n s) (h1 : r.src.length ≤ B ∧ r.cmd.length ≤ B) : OwnOk B (k + 1) n (ownS made s r) := by
  have hup : ∀ t y, mget s.1 t = some y → y.src.length ≤ (k + 1) * B ∧ y.cmd.length ≤ (k + 1) * B := fun t y hy => by
    have := h.own t y hy
    rw [Nat.add_mul]; omega
  unfold ownS
  split
  · exact ⟨hup, by have := h.len; omega⟩
  · split
    · rename_i x hx
      refine ⟨fun t y hy => ?_, by have := h.len; show s.2.length ≤ _; omega⟩
      simp only at hy
      rw [mget_put] at hy
      split at hy
      · cases hy
        have := h.own _ x hx
        simp only [List.length_append]
        rw [Nat.add_mul]; omega
      · exact hup t y hy
    · refine ⟨fun t y hy => ?_, by have := h.len; show (s.2 ++ [_]).length ≤ _; simp; omega⟩
      simp only at hy
      rw [mget_put] at hy
      split at hy
      · cases hy
        simp only
        rw [Nat.add_mul]; omega
      · exact hup t y hy
theorem ownAll_ok {B n : Nat} {made : List (ByteArray × Unit)} : ∀ (l : List RuleS) (k : Nat) (s : CS), OwnOk B k n s → (∀ r, r ∈ l → r.src.length ≤ B ∧ r.cmd.length ≤ B) → OwnOk B (k + l.length) n (l.foldl (ownS made) s)
  | [], k, s, h, _ => h
  | r :: l, k, s, h, hb => by
    rw [List.foldl_cons, List.length_cons, show k + (l.length + 1) = k + 1 + l.length from by omega]
    exact ownAll_ok l (k + 1) _ (ownS_ok h (hb r (by simp))) (fun r hr => hb r (by simp [hr]))
/-- Each source of an own rule is a rule's. -/
theorem ownAll_src {P : ByteArray → Prop} {made : List (ByteArray × Unit)} : ∀ (l : List RuleS) (s : CS), (∀ t y, mget s.1 t = some y → ∀ x, x ∈ y.src → P x) → (∀ r, r ∈ l → ∀ x, x ∈ r.src → P x) → ∀ t y, mget (l.foldl (ownS made) s).1 t = some y → ∀ x, x ∈ y.src → P x
  | [], s, h, _ => h
  | r :: l, s, h, hr => by
    rw [List.foldl_cons]
    refine ownAll_src l _ ?_ (fun r hr' => hr r (by simp [hr']))
    have h1 := hr r (by simp)
    unfold ownS
    split
    · exact h
    · split
      · rename_i x hx
        intro t y hy z hz
        simp only at hy
        rw [mget_put] at hy
        split at hy
        · cases hy
          rcases List.mem_append.1 hz with hz | hz
          · exact h _ x hx z hz
          · exact h1 z hz
        · exact h t y hy z hz
      · intro t y hy z hz
        simp only at hy
        rw [mget_put] at hy
        split at hy
        · cases hy
          exact h1 z hz
        · exact h t y hy z hz
theorem marksB_snoc (l : List RuleS) (k : Nat) (h : k < l.length) : marksB (l.take (k + 1)) = markR (marksB (l.take k)) l[k] := by
  rw [List.take_succ_eq_append_getElem h]
  unfold marksB
  rw [List.foldl_append]; rfl
theorem madeB_snoc (suf : List ByteArray) (l : List RuleS) (k : Nat) (h : k < l.length) : madeB suf (l.take (k + 1)) = madeR suf (madeB suf (l.take k)) l[k] := by
  rw [List.take_succ_eq_append_getElem h]
  unfold madeB
  rw [List.foldl_append]; rfl
theorem ownRun_snoc (made : List (ByteArray × Unit)) (l : List RuleS) (s : CS) (k : Nat) (h : k < l.length) : (l.take (k + 1)).foldl (ownS made) s = ownS made ((l.take k).foldl (ownS made) s) l[k] := by
  rw [List.take_succ_eq_append_getElem h, List.foldl_append]; rfl
/-- The outer map tells the inner maps' blocks alone. -/
theorem markC_same {b : Nat} {m m' : List (ByteArray × MarkS)} (h : m.map (fun p => (p.1, p.2.1)) = m'.map fun p => (p.1, p.2.1)) {w : World} (hw : (MapC b Value.string markV m).ok w) : (MapC b Value.string markV m').ok w := by
  obtain ⟨es, clk, h1, h2, h3⟩ := hw
  refine ⟨es, clk, h1, h2.trans ?_, h3⟩
  have := congrArg (List.map fun p : ByteArray × Nat => (Value.string p.1, Value.map (some p.2))) h
  rw [List.map_map, List.map_map] at this
  exact this
theorem map_flat {α β : Type} (f : α → β) (l : List α) : l.map f = l.flatMap (fun x => [f x]) := by induction l <;> simp_all
theorem map_out {α β : Type} (f : α → β) (xs : List α) (i : Nat) (hi : i < xs.length) : (xs.map f).Perm (f xs[i] :: (xs.eraseIdx i).map f) := by
  rw [map_flat, map_flat]
  exact flat_out (fun x => [f x]) xs i hi
theorem map_in {α β : Type} (f : α → β) (xs : List α) (i : Nat) (hi : i < xs.length) (y : α) : (f y :: (xs.eraseIdx i).map f).Perm ((xs.set i y).map f) := by
  rw [map_flat, map_flat]
  exact flat_in (fun x => [f x]) xs i hi y
end Go.Proofs.Ytliglejbkpjamaa
end
section
set_option maxRecDepth 20000
namespace Go.Proofs.Ytliglejbkpjamaa
open Go.RowKit

theorem mapC_eq {κ ν : Type} [DecidableEq κ] {b : Nat} {kenc : κ → Value} {venc : ν → Value} {m m' : List (κ × ν)} (h : m.map (fun p => (kenc p.1, venc p.2)) = m'.map fun p => (kenc p.1, venc p.2)) : MapC b kenc venc m = MapC b kenc venc m' := by
  unfold MapC
  simp only [h]
theorem mput_put {κ ν : Type} [DecidableEq κ] (k : κ) (u v : ν) : ∀ m : List (κ × ν), mput (mput m k u) k v = mput m k v
  | [] => by rw [mput_nil, mput_cons, if_pos rfl, mput_nil]
  | p :: m => by
    rw [mput_cons]
    by_cases h : k = p.1
    · rw [if_pos h, mput_cons, if_pos rfl, mput_cons, if_pos h]
    · rw [if_neg h, mput_cons, if_neg h, mput_cons, if_neg h, mput_put k u v m]
theorem mput_enc {κ ν : Type} [DecidableEq κ] {kenc : κ → Value} {venc : ν → Value} {m : List (κ × ν)} {k : κ} {u v : ν} (hg : mget m k = some u) (he : venc u = venc v) : (mput m k v).map (fun p => (kenc p.1, venc p.2)) = m.map fun p => (kenc p.1, venc p.2) := by
  obtain ⟨i, hi, e1, e2⟩ := mget_at hg
  rw [e2]
  refine List.ext_getElem? fun j => ?_
  rw [List.getElem?_map, List.getElem?_map, List.getElem?_set]
  by_cases hj : i = j
  · subst hj
    rw [if_pos rfl, if_pos hi, List.getElem?_eq_getElem hi, e1]
    simp only [Option.map_some, he]
  · rw [if_neg hj]
def BS.noM (X : BS) (ms : List (ByteArray × MarkS)) (F : List Chunk) : List Chunk := X.heads ++ (Cls (X.own.map (·.2)) ++ (ms.map markC ++ X.nodes.flatMap NX.own) ++ F)
def BS.noO (X : BS) (os : List RX) (F : List Chunk) : List Chunk := X.heads ++ (Cls os ++ (X.marks.map markC ++ X.nodes.flatMap NX.own) ++ F)
section
variable {fp : Nat → Prop} {w0 w : World} {X : BS} {L F : List Chunk} {t : ByteArray}
theorem inner_perm {a a' b c h F L : List Chunk} {x : List Chunk} (hp : a.Perm (x ++ a')) : (L ++ (h ++ (b ++ (a ++ c) ++ F))).Perm (x ++ (L ++ (h ++ (b ++ (a' ++ c) ++ F)))) := by
  have e1 : L ++ (h ++ (b ++ (a ++ c) ++ F)) = (L ++ (h ++ b)) ++ (a ++ (c ++ F)) := by simp only [List.append_assoc]
  have e2 : x ++ (L ++ (h ++ (b ++ (a' ++ c) ++ F))) = x ++ ((L ++ (h ++ b)) ++ (a' ++ (c ++ F))) := by simp only [List.append_assoc]
  rw [e1, e2]
  refine ((hp.append_right _).append_left _).trans ?_
  simpa only [List.append_assoc] using List.perm_append_comm_assoc (L ++ (h ++ b)) x (a' ++ (c ++ F))
theorem outer_perm {a a' c h F L : List Chunk} {x : List Chunk} (hp : a.Perm (x ++ a')) : (L ++ (h ++ (a ++ c ++ F))).Perm (x ++ (L ++ (h ++ (a' ++ c ++ F)))) := by
  have e1 : L ++ (h ++ (a ++ c ++ F)) = (L ++ h) ++ (a ++ (c ++ F)) := by simp only [List.append_assoc]
  have e2 : x ++ (L ++ (h ++ (a' ++ c ++ F))) = x ++ ((L ++ h) ++ (a' ++ (c ++ F))) := by simp only [List.append_assoc]
  rw [e1, e2]
  refine ((hp.append_right _).append_left _).trans ?_
  simpa only [List.append_assoc] using List.perm_append_comm_assoc (L ++ h) x (a' ++ (c ++ F))
/-- The marks of one name, out of the others. -/
structure MarkAt (X : BS) (t : ByteArray) (q : Nat) (m0 : List (ByteArray × Unit)) (ms : List (ByteArray × MarkS)) : Prop where
  get : mget X.marks t = some (q, m0)
  perm : ∀ m, (MapC q Value.string setV m :: ms.map markC).Perm ((mput X.marks t (q, m)).map markC)
theorem marks_get (h : Mem fp w0 (L ++ X.mem F) w) {q : Nat} {m0 : List (ByteArray × Unit)} (hp : mget X.marks t = some (q, m0)) : ∃ ms, MarkAt X t q m0 ms ∧ Mem fp w0 (MapC q Value.string setV m0 :: (L ++ X.noM ms F)) w := by
  obtain ⟨i, hi, e1, e2⟩ := mget_at hp
  refine ⟨X.marks.eraseIdx i, ⟨hp, fun m => ?_⟩, h.perm ?_⟩
  · rw [e2]
    exact map_in markC X.marks i hi (t, (q, m))
  · have := map_out markC X.marks i hi
    rw [e1] at this
    exact inner_perm (x := [MapC q Value.string setV m0]) this
theorem marks_new {q : Nat} (h : Mem fp w0 (MapC X.mb Value.string markV (mput X.marks t (q, [])) :: MapC q Value.string setV [] :: (L ++ ([Blk X.b 67 X.cells, StrRow X.SV X.suf, PrsRow X.WV X.ways, MapC X.fb Value.string setV X.files, MapC X.ob Value.string RX.val X.own, StrRow X.TH X.there, MapC X.lb Value.string Value.string X.links, MapC X.sb Value.string (Value.int .i64) X.state, NRow X.NV X.nodes] ++ (X.tails ++ F)))) w) (hp : mget X.marks t = none) :
    MarkAt { X with marks := mput X.marks t (q, []) } t q [] X.marks ∧ Mem fp w0 (MapC q Value.string setV [] :: (L ++ ({ X with marks := mput X.marks t (q, []) } : BS).noM X.marks F)) w := by
  refine ⟨⟨by show mget (mput X.marks t (q, [])) t = _; rw [mget_put, if_pos rfl], fun m => ?_⟩, h.perm ?_⟩
  · show List.Perm _ ((mput (mput X.marks t (q, [])) t (q, m)).map markC)
    rw [mput_put, mput_new hp, List.map_append]
    exact List.perm_append_comm (l₁ := [MapC q Value.string setV m])
  · unfold BS.noM BS.heads BS.tails
    generalize Cls (X.own.map (·.2)) ++ (X.marks.map markC ++ X.nodes.flatMap NX.own) ++ F = C
    refine (List.Perm.swap _ _ _).trans (List.Perm.cons _ ?_)
    have := List.perm_middle (a := MapC X.mb Value.string markV (mput X.marks t (q, []))) (l₁ := L ++ [Blk X.b 67 X.cells, StrRow X.SV X.suf, PrsRow X.WV X.ways, MapC X.fb Value.string setV X.files, MapC X.ob Value.string RX.val X.own, StrRow X.TH X.there]) (l₂ := [MapC X.lb Value.string Value.string X.links, MapC X.sb Value.string (Value.int .i64) X.state, NRow X.NV X.nodes] ++ C)
    rw [List.append_assoc, List.append_assoc] at this
    exact this.symm
theorem marks_put {q : Nat} {m0 m : List (ByteArray × Unit)} {ms : List (ByteArray × MarkS)} (ha : MarkAt X t q m0 ms) (h : Mem fp w0 (MapC q Value.string setV m :: (L ++ X.noM ms F)) w) : Mem fp w0 (L ++ ({ X with marks := mput X.marks t (q, m) } : BS).mem F) w := by
  have e1 : MapC X.mb Value.string markV (mput X.marks t (q, m)) = MapC X.mb Value.string markV X.marks := mapC_eq (mput_enc ha.get rfl)
  have e2 : ({ X with marks := mput X.marks t (q, m) } : BS).heads = X.heads := by unfold BS.heads; rw [e1]; rfl
  unfold BS.mem BS.tails
  rw [e2]
  exact h.perm (inner_perm (x := [MapC q Value.string setV m]) (ha.perm m).symm).symm
theorem markR_at {marks marks1 : List (ByteArray × MarkS)} {t : ByteArray} {q : Nat} {m0 : List (ByteArray × Unit)} {r : RuleS} (ht : r.tg.headD ⟨#[]⟩ = t) (hc : ¬ classB t = 0) (h0 : (mget (markP marks) t).getD [] = m0)
    (h1 : ∀ m, mput marks1 t (q, m) = mput marks t (q, m)) : markP (mput marks1 t (q, r.src.foldl (fun m x => mput m x ()) m0)) = markR (markP marks) r := by
  rw [h1]
  unfold markR
  rw [ht, if_neg hc, h0]
  exact mput_map Prod.snd t _ marks
/-- The own rule of one name, out of the others. -/
theorem own_get (h : Mem fp w0 (L ++ X.mem F) w) (t : ByteArray) : ∃ os, (∀ y : RX, (y.own ++ Cls os).Perm (Cls ((mput X.own t y).map (·.2)))) ∧ Mem fp w0 ((ownX X.own t).own ++ (L ++ X.noO os F)) w := by
  cases hg : mget X.own t with
  | none =>
    refine ⟨X.own.map (·.2), fun y => ?_, ?_⟩
    · rw [mput_new hg, List.map_append]
      show List.Perm _ (Cls (X.own.map (·.2) ++ [y]))
      rw [Cls_snoc]
      exact List.perm_append_comm
    · have e : ownX X.own t = noRX := by unfold ownX; rw [hg]; rfl
      rw [e]
      exact h.nilS.nilS.nilS
  | some x =>
    obtain ⟨i, hi, e1, e2⟩ := mget_at hg
    have hi' : i < (X.own.map (·.2)).length := by simpa using hi
    have e3 : (X.own.map (·.2))[i] = x := by rw [List.getElem_map, e1]
    refine ⟨(X.own.map (·.2)).eraseIdx i, fun y => ?_, ?_⟩
    · rw [e2, List.map_set]
      exact flat_in RX.own (X.own.map (·.2)) i hi' y
    · have e : ownX X.own t = x := by unfold ownX; rw [hg]; rfl
      rw [e]
      have := flat_out RX.own (X.own.map (·.2)) i hi'
      rw [e3] at this
      exact h.perm (outer_perm this)
theorem own_put {os : List RX} {y : RX} (hp : (y.own ++ Cls os).Perm (Cls ((mput X.own t y).map (·.2)))) (h : Mem fp w0 (y.own ++ (L ++ ({ X with own := mput X.own t y } : BS).noO os F)) w) : Mem fp w0 (L ++ ({ X with own := mput X.own t y } : BS).mem F) w :=
  h.perm (outer_perm hp.symm).symm
end
end Go.Proofs.Ytliglejbkpjamaa
end
