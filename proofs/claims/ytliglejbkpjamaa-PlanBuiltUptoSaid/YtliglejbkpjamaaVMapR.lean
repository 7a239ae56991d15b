/-
  Maps that the call has made: ranging over them (in whatever order), and delete.
-/
import Derived.Test.YtliglejbkpjamaaVMaps
import Derived.Maps.RangeWalk
import Derived.Maps.RangeRun
set_option linter.unusedVariables false
set_option linter.unusedSimpArgs false
namespace Go.Proofs.Ytliglejbkpjamaa
open Go.RowKit
open Go.ChangeMaps (setBlock)

section
variable {κ ν : Type} [DecidableEq κ]
def mdel (m : List (κ × ν)) (k : κ) : List (κ × ν) := match m.findIdx? (fun p => decide (k = p.1)) with | some i => m.eraseIdx i | none => m
theorem mdel_nil (k : κ) : mdel ([] : List (κ × ν)) k = [] := rfl
theorem mdel_cons (p : κ × ν) (m : List (κ × ν)) (k : κ) : mdel (p :: m) k = if k = p.1 then m else p :: mdel m k := by
  unfold mdel
  by_cases h : k = p.1
  · simp [List.findIdx?_cons, h]
  · simp only [List.findIdx?_cons, h, decide_false, Bool.false_eq_true, if_false]
    cases m.findIdx? (fun p => decide (k = p.1)) <;> simp
variable {kenc : κ → Value} {venc : ν → Value} {b : Nat} {m : List (κ × ν)} {w : World}
/-- A map's block, its entries named. -/
structure MapZ (b : Nat) (kenc : κ → Value) (venc : ν → Value) (m : List (κ × ν)) (es : Array MapEntry) (clk : Nat) (w : World) : Prop where
  hb : w.heap[b]? = some (.map es clk)
  he : es.toList.map (fun e => (e.key, e.val)) = m.map (fun p => (kenc p.1, venc p.2))
  lt : ∀ e, e ∈ es.toList → e.born < clk
  nd : (es.toList.map (·.born)).Nodup
omit [DecidableEq κ] in
theorem MapC.z (h : (MapC b kenc venc m).ok w) : ∃ es clk, MapZ b kenc venc m es clk w := by
  obtain ⟨es, clk, h1, h2, h3, h4⟩ := h
  exact ⟨es, clk, h1, h2, h3, h4⟩
omit [DecidableEq κ] in
theorem MapZ.pure {es : Array MapEntry} {clk : Nat} {w' : World} (h : MapZ b kenc venc m es clk w) (hp : Pure w w') : MapZ b kenc venc m es clk w' :=
  ⟨(hp.block b (Array.getElem?_eq_some_iff.1 h.hb).1 (fun h => h)).trans h.hb, h.he, h.lt, h.nd⟩
/-- An iterator over a map: what it has seen. -/
def IterC (r mb since : Nat) (seen : Array Nat) : Chunk where
  fp k := k = r
  ok w := w.heap[r]? = some (.mapIter (some mb) since seen since)
  loc w w' h hw := (h r rfl).trans hw
  lt w k hw hk := by subst hk; exact (Array.getElem?_eq_some_iff.1 hw).1
/-- What is still to come. -/
def leftZ (es : Array MapEntry) (m : List (κ × ν)) (seen : Array Nat) : List (κ × ν) := ((es.toList.zip m).filter (fun z => !seen.contains z.1.born)).map (·.2)
omit [DecidableEq κ] in
theorem leftZ_start (es : Array MapEntry) (m : List (κ × ν)) (h : es.toList.length = m.length) : leftZ es m #[] = m := by
  unfold leftZ
  rw [List.filter_eq_self.2 (by simp)]
  rw [List.map_snd_zip (by omega)]
theorem filter_push {β : Type} (f : β → Nat) (seen : Array Nat) : ∀ (l : List β) (x : β), (l.map f).Nodup → x ∈ l → seen.contains (f x) = false →
    (l.filter (fun z => !seen.contains (f z))).Perm (x :: l.filter (fun z => !(seen.push (f x)).contains (f z)))
  | [], x, _, hx, _ => by cases hx
  | y :: l, x, hn, hx, hs => by
    rw [List.map_cons, List.nodup_cons] at hn
    rcases List.mem_cons.1 hx with rfl | hx
    · rw [List.filter_cons, hs, List.filter_cons]
      have e1 : (seen.push (f x)).contains (f x) = true := by simp
      rw [e1]
      simp only [Bool.not_false, if_true, Bool.not_true, Bool.false_eq_true, if_false]
      have e2 : l.filter (fun z => !(seen.push (f x)).contains (f z)) = l.filter (fun z => !seen.contains (f z)) := List.filter_congr fun z hz => by
        have : f z ≠ f x := fun e => hn.1 (e ▸ List.mem_map_of_mem hz)
        simp [this]
      rw [e2]
    · have hne : f y ≠ f x := fun e => hn.1 (e ▸ List.mem_map_of_mem hx)
      have e1 : (seen.push (f x)).contains (f y) = seen.contains (f y) := by simp [hne]
      rw [List.filter_cons, List.filter_cons, e1]
      have ih := filter_push f seen l x hn.2 hx hs
      split
      · exact (List.Perm.cons y ih).trans (List.Perm.swap x y _)
      · exact ih
omit [DecidableEq κ] in
theorem MapZ.len {es : Array MapEntry} {clk : Nat} (h : MapZ b kenc venc m es clk w) : es.toList.length = m.length := by
  have := congrArg List.length h.he
  simpa using this
omit [DecidableEq κ] in
theorem MapZ.step {es : Array MapEntry} {clk : Nat} (h : MapZ b kenc venc m es clk w) {seen : Array Nat} {e : MapEntry} (he : e ∈ (leftOf es seen).toList) :
    ∃ k v, e.key = kenc k ∧ e.val = venc v ∧ (leftZ es m seen).Perm ((k, v) :: leftZ es m (seen.push e.born)) := by
  obtain ⟨h1, h2⟩ := mem_left he
  obtain ⟨i, hi, rfl⟩ := List.getElem_of_mem h1
  have hl := h.len
  have him : i < m.length := by omega
  have hz : (es.toList[i], m[i]) ∈ es.toList.zip m := by
    have : (es.toList.zip m)[i]'(by rw [List.length_zip]; omega) = (es.toList[i], m[i]) := by simp
    rw [← this]; exact List.getElem_mem _
  have hp := congrArg (fun l => l[i]?) h.he
  simp only [List.getElem?_map, List.getElem?_eq_getElem hi, List.getElem?_eq_getElem him, Option.map_some, Option.some.injEq, Prod.mk.injEq] at hp
  refine ⟨m[i].1, m[i].2, hp.1, hp.2, ?_⟩
  have hn : ((es.toList.zip m).map (fun z => z.1.born)).Nodup := by
    have e : (es.toList.zip m).map (fun z => z.1.born) = es.toList.map (·.born) := by
      have := congrArg (List.map MapEntry.born) (List.map_fst_zip (l₁ := es.toList) (l₂ := m) (by omega))
      rw [List.map_map] at this
      exact this
    rw [e]; exact h.nd
  have := (filter_push (fun z : MapEntry × (κ × ν) => z.1.born) seen (es.toList.zip m) (es.toList[i], m[i]) hn hz h2).map (·.2)
  exact this
omit [DecidableEq κ] in
theorem MapZ.done {es : Array MapEntry} {clk : Nat} (h : MapZ b kenc venc m es clk w) {seen : Array Nat} (h0 : (leftOf es seen).size = 0) : leftZ es m seen = [] := by
  unfold leftZ
  rw [List.map_eq_nil_iff, List.filter_eq_nil_iff]
  intro z hz hc
  have h1 : z.1 ∈ es.toList := (List.of_mem_zip (a := z.1) (b := z.2) hz).1
  have : leftOf es seen = #[] := Array.eq_empty_of_size_eq_zero h0
  unfold leftOf at this
  rw [Array.filter_eq_empty_iff] at this
  exact this z.1 (by simpa using h1) hc
end

section
variable {P : Program} {ops : Array Oper} {rest : List Oper} {o : Oper} {a : Act} {Q : Exit → Act → World → Prop} {t kt et : TypeId} {κ ν : Type} [DecidableEq κ] {kenc : κ → Value} {venc : ν → Value} {b : Nat} {m : List (κ × ν)} {W w0 : World}
  {fp : Nat → Prop} {F : List Chunk} {es : Array MapEntry} {clk r : Nat} {seen : Array Nat}
omit [DecidableEq κ] in
/-- 'range m'. -/
theorem wpList_rangeM (hg : o.guard = none) (x : Operand) (t : TypeId) (hop : o.op = .range t x) (ht : P.underlying t = some (.map kt et)) (hm : a.eval x = .map (some b)) (HM : Mem fp w0 F W) (hz : MapZ b kenc venc m es clk W)
    (h : ∀ w', Mem fp w0 (IterC W.heap.size b clk #[] :: F) w' → Pure W w' → wpList P ops Q rest (a.put o.dst (.pointer (some ⟨W.heap.size, 0, none⟩))) w') :
    wpList P ops Q (o :: rest) a W := by
  refine wpList_plain hg fun K' hK' => ?_
  have hrun : (Instr.range t (.map (some b))).run P W = .ok (.pointer (some ⟨W.heap.size, 0, none⟩)) (W.alloc (.mapIter (some b) clk #[] clk)) := by
    simp [Instr.range, run_underlying ht, getObj, Sem.run, hz.hb]
  have hp : Pure W (W.alloc (.mapIter (some b) clk #[] clk)) := (Mut.refl _ _).alloc _
  unfold Oper.wp
  simp only [execOp, hop, hm, hrun, Sem.run_bind, Result.andThen_ok]
  exact hK' _ _ (h _ (HM.new hp (heap_alloc_new W _) (fun b hb => Nat.le_of_eq hb.symm)) hp)
omit [DecidableEq κ] in
/-- A round's step. -/
theorem wpList_nextM (hg : o.guard = none) (it : Operand) (hop : o.op = .next it false) (HM : Mem fp w0 (IterC r b clk seen :: F) W) (hz : MapZ b kenc venc m es clk W) (hit : a.eval it = .pointer (some ⟨r, 0, none⟩))
    (hDone : leftZ es m seen = [] → wpList P ops Q rest (a.put o.dst (.tuple #[.bool false])) W)
    (hMore : ∀ k v seen' w', (leftZ es m seen).Perm ((k, v) :: leftZ es m seen') → Mem fp w0 (IterC r b clk seen' :: F) w' → Mut (fun i => i = r) W w' →
      (Instr.entry (.pointer (some ⟨r, 0, none⟩))).run P w' = .ok (.tuple #[kenc k, venc v]) w' → wpList P ops Q rest (a.put o.dst (.tuple #[.bool true, kenc k, venc v])) w') :
    wpList P ops Q (o :: rest) a W := by
  refine wpList_plain hg fun K' hK' => ?_
  have hr : W.heap[r]? = some (.mapIter (some b) clk seen clk) := HM.head
  have hrb : r ≠ b := by
    intro e
    subst e
    rw [hz.hb] at hr
    cases hr
  unfold Oper.wp
  rcases run_next_at (P := P) W o.type r b clk clk seen es clk hr hz.hb (fun x hx => hz.lt x hx) (Nat.le_refl _) with ⟨h0, hrun⟩ | ⟨e, he, w1, hw1, hrun⟩
  · simp only [execOp, hop, hit, hrun, Sem.run_bind, Result.andThen_ok]
    exact hK' _ _ (hDone (hz.done h0))
  · obtain ⟨k, v, ek, ev, hpm⟩ := hz.step he
    rw [ek, ev] at hrun
    simp only [execOp, hop, hit, hrun, Sem.run_bind, Result.andThen_ok]
    have hp1 : Pure W w1 := by
      rcases hw1 with rfl | rfl
      · exact Mut.refl _ _
      · exact (Mut.refl _ _).drew
    have hr1 : w1.heap[r]? = some (.mapIter (some b) clk seen clk) := (hp1.block r (Array.getElem?_eq_some_iff.1 hr).1 (fun h => h)).trans hr
    have hlt : r < w1.heap.size := (Array.getElem?_eq_some_iff.1 hr1).1
    have hz1 := hz.pure hp1
    have hset : Mut (fun i => i = r) w1 (setBlock w1 r (.mapIter (some b) clk (seen.push e.born) clk)) :=
      ⟨rfl, rfl, rfl, by simp [setBlock], fun i hi hn => by
        show (w1.heap.setIfInBounds r _)[i]? = _
        rw [Array.getElem?_setIfInBounds_ne (fun e => hn e.symm)]⟩
    have hnew : (setBlock w1 r (.mapIter (some b) clk (seen.push e.born) clk)).heap[r]? = some (.mapIter (some b) clk (seen.push e.born) clk) := by simp [setBlock, hlt]
    have hmu : Mut (fun i => i = r) W (setBlock w1 r (.mapIter (some b) clk (seen.push e.born) clk)) := (Mut.mono hp1 (fun _ _ h => h.elim)).trans hset (fun _ _ h => h)
    have hmb : (setBlock w1 r (.mapIter (some b) clk (seen.push e.born) clk)).heap[b]? = some (.map es clk) := by
      show (w1.heap.setIfInBounds r _)[b]? = _
      rw [Array.getElem?_setIfInBounds_ne hrb]; exact hz1.hb
    refine hK' _ _ (hMore k v _ _ hpm (HM.turn hmu hnew (fun i hi => .inl hi)) hmu ?_)
    have := run_entry_at (P := P) _ r b clk seen es clk e hnew hmb (mem_left he).1 hz.nd
    rw [ek, ev] at this
    exact this

theorem MapC.delete (K : KeyOk P kt kenc) (ht : P.underlying t = some (.map kt et)) {w : World} (h : Mem fp w0 (MapC b kenc venc m :: F) w) (k : κ) (t2 ty : TypeId) :
    ∃ w', (Builtin.delete_ #[t, t2] ty #[.map (some b), kenc k]).run P w = .ok (.tuple #[]) w' ∧ Mem fp w0 (MapC b kenc venc (mdel m k) :: F) w' ∧ Mut (fun i => i = b) w w' := by
  obtain ⟨es, clk, hb, he, hbo⟩ := h.head
  have hf := MapC.find (venc := venc) K he k w
  have hlt : b < w.heap.size := (Array.getElem?_eq_some_iff.1 hb).1
  have hset : ∀ o, Mut (fun i => i = b) w { w with heap := w.heap.setIfInBounds b o } := fun o =>
    ⟨rfl, rfl, rfl, by simp, fun i hi hn => by rw [Array.getElem?_setIfInBounds_ne (fun e => hn e.symm)]⟩
  have hnew : ∀ o, ({ w with heap := w.heap.setIfInBounds b o } : World).heap[b]? = some o := fun o => by simp [hlt]
  unfold Builtin.delete_
  cases hh : m.findIdx? (fun p => decide (k = p.1)) with
  | none =>
    refine ⟨{ w with heap := w.heap.setIfInBounds b (.map es clk) }, ?_, h.turn (hset _) ⟨_, _, hnew _, ?_, hbo.1, hbo.2⟩ (fun i hi => .inl hi), hset _⟩
    · rw [hh] at hf
      simp [run_underlying ht, getObj, Sem.run, hb, K.check, hf, setObj]
    · simp [mdel, hh, he]
  | some i =>
    have hi : i < m.length := (List.findIdx?_eq_some_iff_getElem.1 hh).1
    have hil : i < es.size := by have := congrArg List.length he; simp at this; omega
    have e1 : (es.eraseIdxIfInBounds i).toList = es.toList.eraseIdx i := by
      unfold Array.eraseIdxIfInBounds
      rw [dif_pos hil, Array.toList_eraseIdx]
    refine ⟨{ w with heap := w.heap.setIfInBounds b (.map (es.eraseIdxIfInBounds i) clk) }, ?_, h.turn (hset _) ⟨_, _, hnew _, ?_, fun e hee => hbo.1 e ?_, ?_⟩ (fun i hi => .inl hi), hset _⟩
    · rw [hh] at hf
      simp [run_underlying ht, getObj, Sem.run, hb, K.check, hf, setObj, hi]
    · rw [e1, ChangeMaps.map_eraseIdx, he, ← ChangeMaps.map_eraseIdx]
      simp [mdel, hh]
    · rw [e1] at hee; exact List.mem_of_mem_eraseIdx hee
    · rw [e1, ChangeMaps.map_eraseIdx]
      exact hbo.2.sublist (List.eraseIdx_sublist _ _)
/-- 'delete(m, k)'. -/
theorem wpList_delM (K : KeyOk P kt kenc) (ht : P.underlying t = some (.map kt et)) (hg : o.guard = none) (x y : Operand) (t2 : TypeId) (hop : o.op = .call { callee := .builtin .delete, args := #[x, y], argTypes := #[t, t2] })
    (HM : Mem fp w0 (MapC b kenc venc m :: F) W) (hm : a.eval x = .map (some b)) (k : κ) (hx : a.eval y = kenc k)
    (h : ∀ w', Mem fp w0 (MapC b kenc venc (mdel m k) :: F) w' → Mut (fun i => i = b) W w' → wpList P ops Q rest (a.put o.dst (.tuple #[])) w') : wpList P ops Q (o :: rest) a W := by
  refine wpList_plain hg fun K' hK' => ?_
  obtain ⟨w', hrun, hM', hU⟩ := MapC.delete K ht HM k t2 o.type
  unfold Oper.wp
  simp only [execOp, hop, resolve, invoke, builtin, Sem.run_bind, Sem.run_pure, Result.andThen_ok, List.map_toArray, List.map_cons, List.map_nil, hm, hx, hrun]
  exact hK' _ _ (h w' hM' hU)
end
end Go.Proofs.Ytliglejbkpjamaa
