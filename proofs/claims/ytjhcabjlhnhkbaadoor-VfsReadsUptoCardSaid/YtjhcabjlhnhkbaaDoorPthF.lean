/-
  A range over a function, where memory is told in chunks: the law.
-/
import Derived.Test.YtjhcabjlhnhkbaaDoorHeapP
import Derived.RangeFuncNested
import Derived.RangeFuncBound
import Derived.RangeFuncCalls
import Derived.RangeFuncLeaves
set_option linter.unusedVariables false
set_option linter.unusedSimpArgs false
namespace Go.Proofs.YtjhcabjlhnhkbaaDoor
open Go.RowKit

/-- A block that holds no cells. -/
def ObjC (b : Nat) (o : Obj) : Chunk where
  fp k := k = b
  ok w := w.heap[b]? = some o
  loc w w' h hw := (h b rfl).trans hw
  lt w k hw hk := by subst hk; exact (Array.getElem?_eq_some_iff.1 hw).1
section
variable {fp : Nat → Prop} {w0 w : World} {F : List Chunk}
theorem Mem.putObj {l : Nat} {o : Obj} (h : Mem fp w0 (ObjC l o :: F) w) (o' : Obj) : Mem fp w0 (ObjC l o' :: F) (w.putObj l o') := by
  have hl : l < w.heap.size := (Array.getElem?_eq_some_iff.1 h.head).1
  refine h.turn (d := ObjC l o') ⟨rfl, rfl, rfl, by simp, fun k hk hn => World.putObj_heap_other hn⟩ (World.putObj_heap_same hl) (fun b hb => .inl hb)
theorem Mem.obj (h : Mem fp w0 F w) (o : Obj) : Mem fp w0 (ObjC w.heap.size o :: F) (w.alloc o) :=
  h.new ((Mut.refl _ _).alloc _) (World.alloc_heap_new w o) (fun b hb => Nat.le_of_eq hb.symm)
end
section
variable {P : Program} {n : Nat}
/-- 'for x := range seq { .. }', a body that never leaves; memory in chunks: the iterator's (S), the body's (CH). -/
theorem wpIn_rangeFunc_mem {g : Operand} {ps : Array Tmp} {assign body : Code} {Q : Exit → Act → World → Prop} {a : Act} {w : World} {gf : Nat} {lb : Array Value}
    (hg : a.eval g = .func (.func gf) #[] lb) (eg : ∀ args w, (callFunc gf args).run P w = .ok (.enter gf args) w) {α : Type} {encs : α → Array Value} (hps : ∀ x, (encs x).size = ps.size)
    {fp : Nat → Prop} {w0 : World} {ι κ : Type} (S : ι → List Chunk) (CH : κ → List α → List Chunk) (xs : List α) (s0 : ι) (y0 : κ) (HM : Mem fp w0 (S s0 ++ CH y0 []) w) (okx : List α → α → Prop)
    (hiter : ∀ (l : Nat) (CH' : κ → List α → List Chunk) (W : World), (∀ cur pre x W1, (∃ y, Mem fp w0 (S cur ++ CH' y pre) W1) → okx pre x → YieldAt Fence.wide (n - 1 - 1) P l (encs x) W1 fun e W' => e = .returned (.bool true) ∧ ∃ y, Mem fp w0 (S cur ++ CH' y (pre ++ [x])) W') →
      (∃ y, Mem fp w0 (S s0 ++ CH' y []) W) → CallsIn Fence.wide (n - 1) P gf (#[.func (.yield l) #[] #[]] ++ lb) W fun e W' => (∃ v, e = .returned v) ∧ ∃ cur y, Mem fp w0 (S cur ++ CH' y xs) W')
    (a₁ : α → Act)
    (hassign : ∀ (l : Nat) (x : α) (W : World) (K : Act → World → Prop), K (a₁ x) W →
      assign.wpIn (Fence.wide.inRound l) (n - 1 - 1) P (Exit.then K (fun _ _ _ => False)) { tmps := (ps.zip (encs x)).foldl (fun t (p, v) => t.setIfInBounds p v) a.tmps, defers := [] } W)
    (hbody : ∀ (l : Nat) (cur : ι) (y : κ) (pre : List α) (x : α) (W : World) (R : List Chunk), Mem fp w0 (S cur ++ (CH y pre ++ R)) W → okx pre x →
      body.wpIn (Fence.wide.inRound l) (n - 1 - 1) P (fun e _ W' => e = .normal ∧ ∃ y, Mem fp w0 (S cur ++ (CH y (pre ++ [x]) ++ R)) W') (a₁ x) W)
    (hdone : ∀ (D : Nat) (cur : ι) (y : κ) (W : World), Mem fp w0 (S cur ++ (CH y xs ++ [ObjC D (.deferred (some []))])) W → Q .normal { a with defers := { target := .collected D, args := #[] } :: a.defers } W) :
    (Code.rangeFunc g ps assign body).wpIn Fence.wide n P Q a w := by
  refine wpIn_rangeFunc ?_
  intro fn hfn
  obtain ⟨rec, hrec⟩ : ∃ rec : LoopState → Option Code → Loop, rec = fun st pe => { state := st, pending := pe, fn, tmps := a.tmps, params := ps, assign, body, defers := w.heap.size } := ⟨_, rfl⟩
  obtain ⟨W1, hW1⟩ : ∃ W1, (w.alloc (.deferred (some []))).alloc (.loop (rec .ready none)) = W1 := ⟨_, rfl⟩
  obtain ⟨CH', hCH⟩ : ∃ CH' : LoopState → κ → List α → List Chunk, CH' = fun st y pre => CH y pre ++ [ObjC (w.heap.size + 1) (.loop (rec st none)), ObjC w.heap.size (.deferred (some []))] := ⟨_, rfl⟩
  have fr : ∀ {st : LoopState} {cur : ι} {y : κ} {pre : List α} {W : World}, Mem fp w0 (S cur ++ CH' st y pre) W ↔ Mem fp w0 (ObjC (w.heap.size + 1) (.loop (rec st none)) :: (S cur ++ (CH y pre ++ [ObjC w.heap.size (.deferred (some []))]))) W := by
    intro st cur y pre W
    rw [hCH]
    have hp : (S cur ++ (CH y pre ++ [ObjC (w.heap.size + 1) (.loop (rec st none)), ObjC w.heap.size (.deferred (some []))])).Perm (ObjC (w.heap.size + 1) (.loop (rec st none)) :: (S cur ++ (CH y pre ++ [ObjC w.heap.size (.deferred (some []))]))) := by
      rw [← List.append_assoc, ← List.append_assoc]
      exact List.perm_middle
    exact ⟨fun h => h.perm hp, fun h => h.perm hp.symm⟩
  have hM1 : Mem fp w0 (S s0 ++ CH' .ready y0 []) W1 := by
    rw [fr, ← hW1]
    have h1 := (HM.obj (.deferred (some []))).obj (.loop (rec .ready none))
    rw [World.size_alloc] at h1
    refine h1.perm (List.Perm.cons _ ?_)
    rw [← List.append_assoc]
    exact (List.perm_append_comm (l₁ := [ObjC w.heap.size (.deferred (some []))]) (l₂ := S s0 ++ CH y0 []))
  have hL : ∀ {st : LoopState} {cur : ι} {y : κ} {pre : List α} {W : World}, Mem fp w0 (S cur ++ CH' st y pre) W → W.heap[w.heap.size + 1]? = some (.loop (rec st none)) := fun h => (fr.1 h).head
  have hT : ∀ {st st' : LoopState} {cur : ι} {y : κ} {pre : List α} {W : World}, Mem fp w0 (S cur ++ CH' st y pre) W → Mem fp w0 (S cur ++ CH' st' y pre) (W.putObj (w.heap.size + 1) (.loop (rec st' none))) := fun h => fr.2 ((fr.1 h).putObj _)
  refine ⟨w.heap.size + 1, [{ target := .collected w.heap.size, args := #[] }], W1, { target := .fn (.func gf) lb, args := #[.func (.yield (w.heap.size + 1)) #[] #[]] }, W1, gf,
    #[.func (.yield (w.heap.size + 1)) #[] #[]] ++ lb, W1, ?_, ?_, ?_, ?_, fun h => (by cases h), ?_⟩
  · rw [← hW1, hrec]; exact run_enterLoop_outer _ _ _ _ _
  · simp only [resolve, hg]
    simp [go_sem]
  · intro f' hf'; trivial
  · simp [invoke, go_sem, eg]
  · refine (hiter (w.heap.size + 1) (CH' .ready) W1 ?_ ⟨y0, hM1⟩).mono ?_
    · rintro cur pre x W ⟨y, hM⟩ hok
      have hy := run_yield (P := P) (args := encs x) (hL hM) (by rw [hrec]; exact hps x)
      rw [hrec] at hy
      refine ⟨fn, _, assign, body, hy, roundIn_of_wpIn hfn (hassign _ x W _ ⟨_, run_beginRound (hL hM) (by rw [hrec]), ?_⟩)⟩
      have hM2 : Mem fp w0 (S cur ++ CH' .busy y pre) (W.putObj (w.heap.size + 1) (.loop { rec .ready none with state := .busy })) := by
        have e : ({ rec .ready none with state := .busy } : Loop) = rec .busy none := by rw [hrec]
        rw [e]; exact hT hM
      have hb := hbody (w.heap.size + 1) cur y pre x _ [ObjC (w.heap.size + 1) (.loop (rec .busy none)), ObjC w.heap.size (.deferred (some []))] (by rw [hCH] at hM2; exact hM2) hok
      refine wpIn_mono hb ?_
      rintro e a3 W3 ⟨rfl, y3, hM3⟩
      have hM3' : Mem fp w0 (S cur ++ CH' .busy y3 (pre ++ [x])) W3 := by rw [hCH]; exact hM3
      have hr := run_endRound (P := P) none (hL hM3')
      refine ⟨_, _, hr, rfl, y3, ?_⟩
      have e : ({ rec .busy none with state := if (none : Option Code).isNone then .ready else .done, pending := none } : Loop) = rec .ready none := by rw [hrec]; rfl
      rw [e]; exact hT hM3'
    · rintro e W2 ⟨⟨v, rfl⟩, cur, y, hM2⟩
      have hr := run_endLoop (P := P) (hL hM2) (by rw [hrec]; simp)
      refine ⟨(rec .ready none).pending, _, hr, ?_⟩
      have e : (rec .ready none).pending = none := by rw [hrec]
      rw [e]
      refine hdone _ cur y _ ?_
      exact Mem.tail ((fr.1 hM2).putObj _)
end
end Go.Proofs.YtjhcabjlhnhkbaaDoor
