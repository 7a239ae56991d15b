/-
  Layer 19 (plan): what a plan is in memory; the walk of loops.
-/
import Derived.Test.YtcbhdjpigadhmaaPlanB
import Derived.Test.YtcbhdjpigadhmaaDraw
set_option linter.unusedVariables false
set_option linter.unusedSimpArgs false
namespace Go.Proofs.Ytcbhdjpigadhmaa
open Go.RowKit

/-- Where the parts of a plan lie. -/
structure PV where
  vN : Value
  mb : Nat
  vE : Value
  vB : Value
  vU : Value
  vS : Value
  es : List Value
  bs : List Value
  us : List Value
def PV.cells (V : PV) (s : PS) : Array Value := ([V.vN, .map (some V.mb), V.vE, V.vB, V.vU, V.vS] ++ ints s.counts).toArray
/-- A plan at a block: what never turns behind its making, and what does. -/
def PlanF (V : PV) (s : PS) : List Chunk := [StrRow V.vN s.names, MapC V.mb Value.string (Value.int .i64) s.at_, Many (NestC V.vE V.es s.needs), Many (NestC V.vB V.bs s.behind), Many (NestC V.vU V.us s.users)]
def PlanC (b : Nat) (V : PV) (s : PS) : Chunk := Many ([Blk b 62 (V.cells s), IRow V.vS s.states] ++ PlanF V s)

def LenB (B : Nat) (ls : List (List Int)) : Prop := ∀ l, l ∈ ls → l.length ≤ B
theorem push_len {B : Nat} {ls : List (List Int)} (i k : Int) (h : LenB B ls) : LenB (B + 1) (push i ls k) := by
  intro x hx
  rcases List.mem_or_eq_of_mem_set hx with hx | rfl
  · exact Nat.le_succ_of_le (h x hx)
  · rw [List.length_append, List.length_singleton]
    refine Nat.succ_le_succ ?_
    by_cases hk : k.toNat < ls.length
    · rw [List.getD_eq_getElem?_getD, List.getElem?_eq_getElem hk]; exact h _ (List.getElem_mem hk)
    · rw [List.getD_eq_getElem?_getD, List.getElem?_eq_none (by omega)]; exact Nat.zero_le _
theorem pushAll_len (i : Int) : ∀ (a : List Int) {B : Nat} {ls : List (List Int)}, LenB B ls → LenB (B + a.length) (pushAll i ls a)
  | [], B, ls, h => h
  | k :: a, B, ls, h => by
    have := pushAll_len i a (push_len i k h)
    rw [List.length_cons, show B + (a.length + 1) = B + 1 + a.length from by omega]
    exact this
theorem usRun_len {M : Nat} : ∀ (r : List (List Int)) {i B : Nat} {us : List (List Int)}, LenB M r → LenB B us → LenB (B + M * r.length) (usRun i us r)
  | [], i, B, us, _, h => h
  | a :: r, i, B, us, hm, h => by
    have h1 := usRun_len r (i := i + 1) (fun l hl => hm l (List.mem_cons_of_mem _ hl)) (pushAll_len i a h)
    have h2 := hm a (List.mem_cons_self ..)
    intro l hl
    have h3 := h1 l hl
    rw [List.length_cons, Nat.mul_add]
    omega

/-- The parts of a plan, as they read. -/
structure PlanR (b : Nat) (V : PV) (s : PS) (w : World) : Prop where
  blk : (Blk b 62 (V.cells s)).ok w
  st : (IRow V.vS s.states).ok w
  nm : (StrRow V.vN s.names).ok w
  mp : (MapC V.mb Value.string (Value.int .i64) s.at_).ok w
  ne : Star (NestC V.vE V.es s.needs) w
  be : Star (NestC V.vB V.bs s.behind) w
  us : Star (NestC V.vU V.us s.users) w
theorem PlanC.reads {b : Nat} {V : PV} {s : PS} {w : World} (h : (PlanC b V s).ok w) : PlanR b V s w := by
  have h' : Star ([Blk b 62 (V.cells s), IRow V.vS s.states] ++ PlanF V s) w := h
  exact ⟨h'.1 _ (by simp), h'.1 _ (by simp), h'.1 _ (by simp [PlanF]), h'.1 _ (by simp [PlanF]), h'.1 (Many _) (by simp [PlanF]), h'.1 (Many _) (by simp [PlanF]), h'.1 (Many _) (by simp [PlanF])⟩
theorem Pure.chunk {w w' : World} (hp : Pure w w') {c : Chunk} (h : c.ok w) : c.ok w' := c.loc w w' (fun b hb => hp.block b (c.lt w b h hb) (fun h => h)) h
theorem Star.chunks {w w' : World} (hp : Pure w w') {cs : List Chunk} (h : Star cs w) : Star cs w' := ⟨fun c hc => Pure.chunk hp (h.1 c hc), h.2⟩
theorem PlanR.pure {b : Nat} {V : PV} {s : PS} {w w' : World} (hp : Pure w w') (h : PlanR b V s w) : PlanR b V s w' :=
  ⟨Pure.chunk hp h.blk, Pure.chunk hp h.st, Pure.chunk hp h.nm, Pure.chunk hp h.mp, Star.chunks hp h.ne, Star.chunks hp h.be, Star.chunks hp h.us⟩
section
variable {b : Nat} {V : PV} {s : PS} {w : World}
theorem PlanR.c0 (h : PlanR b V s w) : w.cell? ⟨b, 0, none⟩ = some V.vN := by rw [Blk.cell_ h.blk]; rfl
theorem PlanR.c1 (h : PlanR b V s w) : w.cell? ⟨b, 1, none⟩ = some (.map (some V.mb)) := by rw [Blk.cell_ h.blk]; rfl
theorem PlanR.c2 (h : PlanR b V s w) : w.cell? ⟨b, 2, none⟩ = some V.vE := by rw [Blk.cell_ h.blk]; rfl
theorem PlanR.c3 (h : PlanR b V s w) : w.cell? ⟨b, 3, none⟩ = some V.vB := by rw [Blk.cell_ h.blk]; rfl
theorem PlanR.c4 (h : PlanR b V s w) : w.cell? ⟨b, 4, none⟩ = some V.vU := by rw [Blk.cell_ h.blk]; rfl
theorem PlanR.c5 (h : PlanR b V s w) : w.cell? ⟨b, 5, none⟩ = some V.vS := by rw [Blk.cell_ h.blk]; rfl
theorem PlanR.cn (h : PlanR b V s w) {k : Nat} (hk : k < s.counts.length) : w.cell? ⟨b, 6 + k, none⟩ = some (.int .i64 s.counts[k]) := by
  rw [Blk.cell_ h.blk]
  have e : (V.cells s)[6 + k]? = (ints s.counts)[k]? := by
    unfold PV.cells
    rw [List.getElem?_toArray, List.getElem?_append_right (by simp)]
    simp
  rw [e, ints_get hk]
end

theorem made_cells (u : Value) (n : Nat) : madeCells #[u] n = (List.replicate n u).toArray := by
  apply Array.ext
  · simp [madeCells]
  · intro i h1 h2
    simp [madeCells, Nat.mod_one]
theorem madeI (n : Nat) (hn : n ≤ 1000000) (w : World) : (Instr.makeSlice 59 (.int .i64 (n : Int)) (.int .i64 (n : Int))).run Try.prog w = .ok (.slice (some ⟨w.heap.size, 0, none⟩) n n) (w.alloc (.cells (ints (List.replicate n 0)).toArray 3)) := by
  obtain ⟨i, e1, e2, e3, e4⟩ := infoI
  have hr := run_make (P := Try.prog) w 59 3 i _ Try.underlying59 e1 e2 .i64 .i64 n n (by omega) (by omega) (by rw [e4]; omega) (by omega)
  rw [hr, e3, Nat.mul_one, Int.toNat_natCast]
  have e : madeCells (Value.int .i64 0).cells n = (ints (List.replicate n 0)).toArray := by
    rw [show (Value.int .i64 0).cells = #[.int .i64 0] from rfl, made_cells]
    simp [ints]
  rw [e]
theorem infoL : ∃ i, Try.prog.info? 59 = some i ∧ i.zero = some (.slice none 0 0) ∧ i.size = 1 ∧ i.bytes = 24 := by
  obtain ⟨i, e1, e2, e3, e4⟩ := info_parts (P := Try.prog) (e := 59) (z := .slice none 0 0) (size := 1) (bytes := 24) (by kernel_rfl)
  exact ⟨i, e1, e2, e3, e4⟩
theorem madeL (n : Nat) (hn : n ≤ 1000000) (w : World) : (Instr.makeSlice 58 (.int .i64 (n : Int)) (.int .i64 (n : Int))).run Try.prog w = .ok (.slice (some ⟨w.heap.size, 0, none⟩) n n) (w.alloc (.cells (List.replicate n (.slice none 0 0)).toArray 59)) := by
  obtain ⟨i, e1, e2, e3, e4⟩ := infoL
  have hr := run_make (P := Try.prog) w 58 59 i _ Try.underlying58 e1 e2 .i64 .i64 n n (by omega) (by omega) (by rw [e4]; omega) (by omega)
  rw [hr, e3, Nat.mul_one, Int.toNat_natCast]
  rw [show (Value.slice none 0 0).cells = #[.slice none 0 0] from rfl, made_cells]
/-- A new row of numbers, all nought. -/
theorem Mem.zerosI {fp : Nat → Prop} {w0 W : World} {F : List Chunk} (h : Mem fp w0 F W) (n : Nat) (hn : n ≤ 1000000) :
    Mem fp w0 (IRow (.slice (some ⟨W.heap.size, 0, none⟩) n n) (List.replicate n 0) :: F) (W.alloc (.cells (ints (List.replicate n 0)).toArray 3)) := by
  have := h.lit 3 1 n (ints (List.replicate n 0)) (by rw [ints_length]; simp) (by unfold maxLen; omega)
  unfold IRow
  rw [List.length_replicate]
  exact this
theorem nil_rows (k : Nat) : List.zipWith IRow (List.replicate k (.slice none 0 0)) (List.replicate k []) = List.replicate k (IRow (.slice none 0 0) []) := by simp
theorem Mem.nils {fp : Nat → Prop} {w0 W : World} {F : List Chunk} (h : Mem fp w0 F W) : ∀ k : Nat, Mem fp w0 (List.replicate k (IRow (.slice none 0 0) []) ++ F) W
  | 0 => h
  | k + 1 => (Mem.nils h k).nilI
/-- A new row of rows, all nil. -/
theorem Mem.zerosL {fp : Nat → Prop} {w0 W : World} {F : List Chunk} (h : Mem fp w0 F W) (n : Nat) (hn : n ≤ 1000000) :
    Mem fp w0 (Row 59 1 (.slice (some ⟨W.heap.size, 0, none⟩) n n) n (List.replicate n (.slice none 0 0)) :: F ++ List.zipWith IRow (List.replicate n (.slice none 0 0)) (List.replicate n [])) (W.alloc (.cells (List.replicate n (.slice none 0 0)).toArray 59)) := by
  have h1 := h.lit 59 1 n (List.replicate n (.slice none 0 0)) (by simp) (by unfold maxLen; omega)
  rw [nil_rows]
  exact (h1.nils n).perm List.perm_append_comm
/-- The numbers have not gone far. -/
def Bd (T : Nat) (l : List Int) : Prop := ∀ x, x ∈ l → -(T : Int) ≤ x ∧ x ≤ 1000000
theorem Bd.at_ {T : Nat} {l : List Int} (h : Bd T l) (k : Nat) : -(T : Int) ≤ l.getD k 0 ∧ l.getD k 0 ≤ 1000000 := by
  by_cases hk : k < l.length
  · rw [List.getD_eq_getElem?_getD, List.getElem?_eq_getElem hk]; exact h _ (List.getElem_mem hk)
  · rw [List.getD_eq_getElem?_getD, List.getElem?_eq_none (by omega)]; exact ⟨by simp, by simp⟩
theorem Bd.relax {T : Nat} {s : List Int × List Int} (h : Bd T s.1) (k : Int) : Bd (T + 1) (Go.Proofs.Ytcbhdjpigadhmaa.relax s k).1 := by
  intro x hx
  have := h.at_ k.toNat
  rcases List.mem_or_eq_of_mem_set hx with hx | rfl
  · have := h x hx; omega
  · omega
theorem relax_len (s : List Int × List Int) (k : Int) : s.2.length ≤ (Go.Proofs.Ytcbhdjpigadhmaa.relax s k).2.length := by
  unfold Go.Proofs.Ytcbhdjpigadhmaa.relax
  simp only
  split
  · simp
  · exact Nat.le_refl _
end Go.Proofs.Ytcbhdjpigadhmaa
