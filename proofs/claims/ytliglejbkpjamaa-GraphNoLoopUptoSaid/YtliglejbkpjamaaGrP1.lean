/-
  Layer 16 (graph): the builder's marks and own rules in memory, taken apart and put together.
-/
import Derived.Test.YtliglejbkpjamaaGrN
import Derived.Test.YtliglejbkpjamaaGrP0
set_option linter.unusedVariables false
set_option linter.unusedSimpArgs false
set_option maxRecDepth 20000
namespace Go.Proofs.Ytliglejbkpjamaa
open Go.RowKit

theorem mapC_eq {κ ν : Type} [DecidableEq κ] {b : Nat} {kenc : κ → Value} {venc : ν → Value} {m m' : List (κ × ν)} (h : m.map (fun p => (kenc p.1, venc p.2)) = m'.map fun p => (kenc p.1, venc p.2)) : MapC b kenc venc m = MapC b kenc venc m' := by
  unfold MapC
  simp only [h]
theorem mput_put {κ ν : Type} [DecidableEq κ] (k : κ) (u v : ν) : ∀ m : List (κ × ν), mput (mput m k u) k v = mput m k v
  | [] => by rw [mput_nil, mput_cons, if_pos rfl, mput_nil]
  | p :: m => by
    rw [mput_cons]
    by_cases h : k = p.1
    · rw [if_pos h, mput_cons, if_pos rfl, mput_cons, if_pos h]
    · rw [if_neg h, mput_cons, if_neg h, mput_cons, if_neg h, mput_put k u v m]
theorem mput_enc {κ ν : Type} [DecidableEq κ] {kenc : κ → Value} {venc : ν → Value} {m : List (κ × ν)} {k : κ} {u v : ν} (hg : mget m k = some u) (he : venc u = venc v) : (mput m k v).map (fun p => (kenc p.1, venc p.2)) = m.map fun p => (kenc p.1, venc p.2) := by
  obtain ⟨i, hi, e1, e2⟩ := mget_at hg
  rw [e2]
  refine List.ext_getElem? fun j => ?_
  rw [List.getElem?_map, List.getElem?_map, List.getElem?_set]
  by_cases hj : i = j
  · subst hj
    rw [if_pos rfl, if_pos hi, List.getElem?_eq_getElem hi, e1]
    simp only [Option.map_some, he]
  · rw [if_neg hj]
def BS.noM (X : BS) (ms : List (ByteArray × MarkS)) (F : List Chunk) : List Chunk := X.heads ++ (Cls (X.own.map (·.2)) ++ (ms.map markC ++ X.nodes.flatMap NX.own) ++ F)
def BS.noO (X : BS) (os : List RX) (F : List Chunk) : List Chunk := X.heads ++ (Cls os ++ (X.marks.map markC ++ X.nodes.flatMap NX.own) ++ F)
section
variable {fp : Nat → Prop} {w0 w : World} {X : BS} {L F : List Chunk} {t : ByteArray}
theorem inner_perm {a a' b c h F L : List Chunk} {x : List Chunk} (hp : a.Perm (x ++ a')) : (L ++ (h ++ (b ++ (a ++ c) ++ F))).Perm (x ++ (L ++ (h ++ (b ++ (a' ++ c) ++ F)))) := by
  have e1 : L ++ (h ++ (b ++ (a ++ c) ++ F)) = (L ++ (h ++ b)) ++ (a ++ (c ++ F)) := by simp only [List.append_assoc]
  have e2 : x ++ (L ++ (h ++ (b ++ (a' ++ c) ++ F))) = x ++ ((L ++ (h ++ b)) ++ (a' ++ (c ++ F))) := by simp only [List.append_assoc]
  rw [e1, e2]
  refine ((hp.append_right _).append_left _).trans ?_
  simpa only [List.append_assoc] using List.perm_append_comm_assoc (L ++ (h ++ b)) x (a' ++ (c ++ F))
theorem outer_perm {a a' c h F L : List Chunk} {x : List Chunk} (hp : a.Perm (x ++ a')) : (L ++ (h ++ (a ++ c ++ F))).Perm (x ++ (L ++ (h ++ (a' ++ c ++ F)))) := by
  have e1 : L ++ (h ++ (a ++ c ++ F)) = (L ++ h) ++ (a ++ (c ++ F)) := by simp only [List.append_assoc]
  have e2 : x ++ (L ++ (h ++ (a' ++ c ++ F))) = x ++ ((L ++ h) ++ (a' ++ (c ++ F))) := by simp only [List.append_assoc]
  rw [e1, e2]
  refine ((hp.append_right _).append_left _).trans ?_
  simpa only [List.append_assoc] using List.perm_append_comm_assoc (L ++ h) x (a' ++ (c ++ F))
/-- The marks of one name, out of the others. -/
structure MarkAt (X : BS) (t : ByteArray) (q : Nat) (m0 : List (ByteArray × Unit)) (ms : List (ByteArray × MarkS)) : Prop where
  get : mget X.marks t = some (q, m0)
  perm : ∀ m, (MapC q Value.string setV m :: ms.map markC).Perm ((mput X.marks t (q, m)).map markC)
theorem marks_get (h : Mem fp w0 (L ++ X.mem F) w) {q : Nat} {m0 : List (ByteArray × Unit)} (hp : mget X.marks t = some (q, m0)) : ∃ ms, MarkAt X t q m0 ms ∧ Mem fp w0 (MapC q Value.string setV m0 :: (L ++ X.noM ms F)) w := by
  obtain ⟨i, hi, e1, e2⟩ := mget_at hp
  refine ⟨X.marks.eraseIdx i, ⟨hp, fun m => ?_⟩, h.perm ?_⟩
  · rw [e2]
    exact map_in markC X.marks i hi (t, (q, m))
  · have := map_out markC X.marks i hi
    rw [e1] at this
    exact inner_perm (x := [MapC q Value.string setV m0]) this
theorem marks_new {q : Nat} (h : Mem fp w0 (MapC X.mb Value.string markV (mput X.marks t (q, [])) :: MapC q Value.string setV [] :: (L ++ ([Blk X.b 67 X.cells, StrRow X.SV X.suf, PrsRow X.WV X.ways, MapC X.fb Value.string setV X.files, MapC X.ob Value.string RX.val X.own, StrRow X.TH X.there, MapC X.lb Value.string Value.string X.links, MapC X.sb Value.string (Value.int .i64) X.state, NRow X.NV X.nodes] ++ (X.tails ++ F)))) w) (hp : mget X.marks t = none) :
    MarkAt { X with marks := mput X.marks t (q, []) } t q [] X.marks ∧ Mem fp w0 (MapC q Value.string setV [] :: (L ++ ({ X with marks := mput X.marks t (q, []) } : BS).noM X.marks F)) w := by
  refine ⟨⟨by show mget (mput X.marks t (q, [])) t = _; rw [mget_put, if_pos rfl], fun m => ?_⟩, h.perm ?_⟩
  · show List.Perm _ ((mput (mput X.marks t (q, [])) t (q, m)).map markC)
    rw [mput_put, mput_new hp, List.map_append]
    exact List.perm_append_comm (l₁ := [MapC q Value.string setV m])
  · unfold BS.noM BS.heads BS.tails
    generalize Cls (X.own.map (·.2)) ++ (X.marks.map markC ++ X.nodes.flatMap NX.own) ++ F = C
    refine (List.Perm.swap _ _ _).trans (List.Perm.cons _ ?_)
    have := List.perm_middle (a := MapC X.mb Value.string markV (mput X.marks t (q, []))) (l₁ := L ++ [Blk X.b 67 X.cells, StrRow X.SV X.suf, PrsRow X.WV X.ways, MapC X.fb Value.string setV X.files, MapC X.ob Value.string RX.val X.own, StrRow X.TH X.there]) (l₂ := [MapC X.lb Value.string Value.string X.links, MapC X.sb Value.string (Value.int .i64) X.state, NRow X.NV X.nodes] ++ C)
    rw [List.append_assoc, List.append_assoc] at this
    exact this.symm
theorem marks_put {q : Nat} {m0 m : List (ByteArray × Unit)} {ms : List (ByteArray × MarkS)} (ha : MarkAt X t q m0 ms) (h : Mem fp w0 (MapC q Value.string setV m :: (L ++ X.noM ms F)) w) : Mem fp w0 (L ++ ({ X with marks := mput X.marks t (q, m) } : BS).mem F) w := by
  have e1 : MapC X.mb Value.string markV (mput X.marks t (q, m)) = MapC X.mb Value.string markV X.marks := mapC_eq (mput_enc ha.get rfl)
  have e2 : ({ X with marks := mput X.marks t (q, m) } : BS).heads = X.heads := by unfold BS.heads; rw [e1]; rfl
  unfold BS.mem BS.tails
  rw [e2]
  exact h.perm (inner_perm (x := [MapC q Value.string setV m]) (ha.perm m).symm).symm
theorem markR_at {marks marks1 : List (ByteArray × MarkS)} {t : ByteArray} {q : Nat} {m0 : List (ByteArray × Unit)} {r : RuleS} (ht : r.tg.headD ⟨#[]⟩ = t) (hc : ¬ classB t = 0) (h0 : (mget (markP marks) t).getD [] = m0)
    (h1 : ∀ m, mput marks1 t (q, m) = mput marks t (q, m)) : markP (mput marks1 t (q, r.src.foldl (fun m x => mput m x ()) m0)) = markR (markP marks) r := by
  rw [h1]
  unfold markR
  rw [ht, if_neg hc, h0]
  exact mput_map Prod.snd t _ marks
/-- The own rule of one name, out of the others. -/
theorem own_get (h : Mem fp w0 (L ++ X.mem F) w) (t : ByteArray) : ∃ os, (∀ y : RX, (y.own ++ Cls os).Perm (Cls ((mput X.own t y).map (·.2)))) ∧ Mem fp w0 ((ownX X.own t).own ++ (L ++ X.noO os F)) w := by
  cases hg : mget X.own t with
  | none =>
    refine ⟨X.own.map (·.2), fun y => ?_, ?_⟩
    · rw [mput_new hg, List.map_append]
      show List.Perm _ (Cls (X.own.map (·.2) ++ [y]))
      rw [Cls_snoc]
      exact List.perm_append_comm
    · have e : ownX X.own t = noRX := by unfold ownX; rw [hg]; rfl
      rw [e]
      exact h.nilS.nilS.nilS
  | some x =>
    obtain ⟨i, hi, e1, e2⟩ := mget_at hg
    have hi' : i < (X.own.map (·.2)).length := by simpa using hi
    have e3 : (X.own.map (·.2))[i] = x := by rw [List.getElem_map, e1]
    refine ⟨(X.own.map (·.2)).eraseIdx i, fun y => ?_, ?_⟩
    · rw [e2, List.map_set]
      exact flat_in RX.own (X.own.map (·.2)) i hi' y
    · have e : ownX X.own t = x := by unfold ownX; rw [hg]; rfl
      rw [e]
      have := flat_out RX.own (X.own.map (·.2)) i hi'
      rw [e3] at this
      exact h.perm (outer_perm this)
theorem own_put {os : List RX} {y : RX} (hp : (y.own ++ Cls os).Perm (Cls ((mput X.own t y).map (·.2)))) (h : Mem fp w0 (y.own ++ (L ++ ({ X with own := mput X.own t y } : BS).noO os F)) w) : Mem fp w0 (L ++ ({ X with own := mput X.own t y } : BS).mem F) w :=
  h.perm (outer_perm hp.symm).symm
end
end Go.Proofs.Ytliglejbkpjamaa
