/-
  More words for memory: chunks of chunks, rows of numbers, rows of rows, and stores into what is owned.
-/
import Derived.Test.YtliglejbkpjamaaVBase
set_option linter.unusedVariables false
set_option linter.unusedSimpArgs false
namespace Go.Proofs.Ytliglejbkpjamaa
open Go.RowKit

/-- Several chunks as one. -/
def Many (cs : List Chunk) : Chunk where
  fp b := ∃ c, c ∈ cs ∧ c.fp b
  ok w := Star cs w
  loc w w' h hw := ⟨fun c hc => c.loc w w' (fun b hb => h b ⟨c, hc, hb⟩) (hw.1 c hc), hw.2⟩
  lt w b hw hb := by obtain ⟨c, hc, hb⟩ := hb; exact c.lt w b (hw.1 c hc) hb

section
variable {fp gp : Nat → Prop} {w0 w w' : World} {c d : Chunk} {cs ds F : List Chunk}
theorem Mem.open_ (h : Mem fp w0 (Many cs :: F) w) : Mem fp w0 (cs ++ F) w := by
  have hh : Star cs w := h.star.head
  refine ⟨h.mu, ⟨fun c hc => ?_, ?_⟩, fun c hc b hb => ?_⟩
  · rcases List.mem_append.1 hc with hc | hc
    · exact hh.1 c hc
    · exact h.star.1 c (by simp [hc])
  · refine List.pairwise_append.2 ⟨hh.2, h.star.tail.2, fun c hc d hd b hb hdb => ?_⟩
    exact h.star.apart hd b ⟨c, hc, hb⟩ hdb
  · rcases List.mem_append.1 hc with hc | hc
    · exact h.inn _ (List.mem_cons_self ..) b ⟨c, hc, hb⟩
    · exact h.inn c (by simp [hc]) b hb
theorem Mem.shut_ (h : Mem fp w0 (cs ++ F) w) : Mem fp w0 (Many cs :: F) w := by
  have hp := List.pairwise_append.1 h.star.2
  refine ⟨h.mu, ⟨fun c hc => ?_, ?_⟩, fun c hc b hb => ?_⟩
  · rcases List.mem_cons.1 hc with rfl | hc
    · exact ⟨fun c hc => h.star.1 c (by simp [hc]), hp.1⟩
    · exact h.star.1 c (by simp [hc])
  · refine List.pairwise_cons.2 ⟨fun d hd b hb hdb => ?_, hp.2.1⟩
    obtain ⟨c, hc, hb⟩ := hb
    exact hp.2.2 c hc d hd b hb hdb
  · rcases List.mem_cons.1 hc with rfl | hc
    · obtain ⟨c, hc, hb⟩ := hb
      exact h.inn c (by simp [hc]) b hb
    · exact h.inn c (by simp [hc]) b hb
/-- What the call began with: a chunk that it may turn. -/
theorem Mem.from (h : c.ok w) : Mem c.fp w [c] w := ⟨Mut.refl _ _, ⟨fun d hd => by rw [List.mem_singleton.1 hd]; exact h, List.pairwise_singleton _ _⟩, fun d hd b hb => by rw [List.mem_singleton.1 hd] at hb; exact .inl hb⟩
/-- A callee that turns one chunk. -/
theorem Mem.call1 (h : Mem fp w0 (c :: F) w) (k : Mem c.fp w ds w') : Mem fp w0 (ds ++ F) w' :=
  Mem.call (cs := [c]) h k (fun b _ hb => ⟨c, by simp, hb⟩) (fun b hb => c.lt w b h.head hb)
end

section
variable {fp : Nat → Prop} {w0 w : World} {c : Chunk}
theorem Mem.front (A : List Chunk) {B : List Chunk} (h : Mem fp w0 (A ++ c :: B) w) : Mem fp w0 (c :: (A ++ B)) w := h.perm List.perm_middle
theorem Mem.back (A : List Chunk) {B : List Chunk} (h : Mem fp w0 (c :: (A ++ B)) w) : Mem fp w0 (A ++ c :: B) w := h.perm List.perm_middle.symm
end

theorem Mem.box {fp : Nat → Prop} {w0 w : World} {F : List Chunk} (h : Mem fp w0 F w) (cs : Array Value) (t : Nat) : Mem fp w0 (Blk w.heap.size t cs :: F) (w.alloc (.cells cs t)) :=
  h.new ((Mut.refl _ _).alloc _) (heap_alloc_new w _) (fun b hb => Nat.le_of_eq hb.symm)
/-- A row of numbers. -/
def ints (l : List Int) : List Value := l.map (Value.int .i64)
abbrev IRow (v : Value) (l : List Int) : Chunk := Row 3 1 v l.length (ints l)
abbrev Ints (w : World) (v : Value) (l : List Int) : Prop := Sl w v 1 l.length (ints l)
theorem ints_get {l : List Int} {k : Nat} (h : k < l.length) : (ints l)[k]? = some (.int .i64 l[k]) := by simp [ints, h]
theorem ints_length (l : List Int) : (ints l).length = l.length := by simp [ints]
theorem ints_append (l m : List Int) : ints (l ++ m) = ints l ++ ints m := by simp [ints]
theorem ints_set (l : List Int) (k : Nat) (x : Int) : ints (l.set k x) = (ints l).set k (.int .i64 x) := by simp [ints]
theorem ints_one (l : List Int) : ∀ u ∈ ints l, u.oneCell' = true := by
  intro u hu
  obtain ⟨x, _, rfl⟩ := List.mem_map.1 hu
  rfl
theorem Mem.nilI {fp : Nat → Prop} {w0 W : World} {F : List Chunk} (h : Mem fp w0 F W) : Mem fp w0 (IRow (.slice none 0 0) [] :: F) W :=
  Mem.new h (Mut.refl _ _) (by exact World.ownsRow_nil _ _ _ _) (by intro b hb; cases hb)
theorem Row.cell {e size n c g : Nat} {cells : List Value} {w : World} (h : (Row e size (.slice (some ⟨g, 0, none⟩) n c) n cells).ok w) {j : Nat} {u : Value} (hj : cells[j]? = some u) : w.cell? ⟨g, j, none⟩ = some u := by
  obtain ⟨A, c', e1, _, _, h3, h4⟩ := Row.sl h
  cases e1
  have hl := (List.getElem?_eq_some_iff.1 hj).1
  rcases h4 with h4 | ⟨b, o, e2, hc⟩
  · rw [h4, Nat.zero_mul] at h3; omega
  · cases e2
    have := hc j u hj
    rwa [Nat.zero_add] at this
/-- A row that has something lies in a block of its own. -/
theorem Row.at_ {e size n : Nat} {v : Value} {cells : List Value} {w : World} (h : (Row e size v n cells).ok w) (hn : 0 < n) : ∃ g c, v = .slice (some ⟨g, 0, none⟩) n c ∧ n ≤ c ∧ c ≤ maxLen := by
  obtain ⟨h1, h2⟩ := h
  rcases h2 with ⟨rfl, rfl⟩ | ⟨g, cap, cur, rfl, hg, hh, hle, hcap, hsz, htk⟩
  · omega
  · exact ⟨g, cap, rfl, hle, hcap⟩
theorem Row.any_ {e size n : Nat} {v : Value} {cells : List Value} {w : World} (h : (Row e size v n cells).ok w) : ∃ A c, v = .slice A n c ∧ n ≤ c ∧ c ≤ maxLen := by
  obtain ⟨A, c, rfl, h1, h2, _⟩ := Row.sl h
  exact ⟨A, c, rfl, h1, h2⟩
theorem Sl.any_ {w : World} {v : Value} {size n : Nat} {cells : List Value} (h : Sl w v size n cells) : ∃ A c, v = .slice A n c ∧ n ≤ c ∧ c ≤ maxLen := by
  obtain ⟨A, c, rfl, h1, h2, _⟩ := h
  exact ⟨A, c, rfl, h1, h2⟩
theorem Row.frozen {e size n c g : Nat} {cells : List Value} {w : World} (h : (Row e size (.slice (some ⟨g, 0, none⟩) n c) n cells).ok w) (j : Nat) : w.frozen? ⟨g, j, none⟩ = false := by
  obtain ⟨h1, h2⟩ := h
  rcases h2 with ⟨e1, _⟩ | ⟨g', cap, cur, e1, hg, hh, _⟩
  · cases e1
  · cases e1; simp [World.frozen?, hh]
theorem Blk.frozen {b t : Nat} {cs : Array Value} {w : World} (h : (Blk b t cs).ok w) (j : Nat) : w.frozen? ⟨b, j, none⟩ = false := by
  have h' : w.heap[b]? = some (.cells cs t (0, 0)) := h
  simp [World.frozen?, h']
theorem Blk.cell_ {b t : Nat} {cs : Array Value} {w : World} (h : (Blk b t cs).ok w) (j : Nat) : w.cell? ⟨b, j, none⟩ = cs[j]? := by
  have h' : w.heap[b]? = some (.cells cs t (0, 0)) := h
  unfold World.cell?
  rw [h']
  rfl
theorem heap_set (w : World) (b j : Nat) (u : Value) {cs : Array Value} {t : Nat} {fz : Nat × Nat} (h : w.heap[b]? = some (.cells cs t fz)) : (w.setCell ⟨b, j, none⟩ u).heap[b]? = some (.cells (cs.setIfInBounds j u) t fz) := by
  simp [World.setCell, Array.getElem?_modify, h]

section
variable {fp : Nat → Prop} {w0 w : World} {F : List Chunk}
theorem Mem.blkSet {b t : Nat} {cs : Array Value} (h : Mem fp w0 (Blk b t cs :: F) w) (j : Nat) (u : Value) : Mem fp w0 (Blk b t (cs.setIfInBounds j u) :: F) (w.setCell ⟨b, j, none⟩ u) :=
  h.turn (Mut.setCell (fp := (Blk b t cs).fp) (Mut.refl _ _) (p := ⟨b, j, none⟩) (.inl rfl) u) (heap_set w b j u h.head) (fun b hb => .inl hb)
theorem Mem.rowSet {e size n c g : Nat} {cells : List Value} (h : Mem fp w0 (Row e size (.slice (some ⟨g, 0, none⟩) n c) n cells :: F) w) {j : Nat} (hj : j < n * size) (u : Value) :
    Mem fp w0 (Row e size (.slice (some ⟨g, 0, none⟩) n c) n (cells.set j u) :: F) (w.setCell ⟨g, j, none⟩ u) := by
  refine h.turn (Mut.setCell (fp := (Row e size (.slice (some ⟨g, 0, none⟩) n c) n cells).fp) (Mut.refl _ _) (p := ⟨g, j, none⟩) (.inl rfl) u) ?_ (fun b hb => .inl hb)
  obtain ⟨h1, h2⟩ := h.head
  rcases h2 with ⟨e1, _⟩ | ⟨g', cap, cur, e1, hg, hh, hle, hcap, hsz, htk⟩
  · cases e1
  · cases e1
    refine ⟨by rw [List.length_set]; exact h1, .inr ⟨g, c, cur.setIfInBounds j u, rfl, hg, heap_set w g j u hh, hle, hcap, by rw [Array.size_setIfInBounds]; exact hsz, ?_⟩⟩
    rw [Array.toList_setIfInBounds, List.take_set, htk]
theorem Mem.irowSet {c g : Nat} {l : List Int} (h : Mem fp w0 (IRow (.slice (some ⟨g, 0, none⟩) l.length c) l :: F) w) {j : Nat} (hj : j < l.length) (x : Int) :
    Mem fp w0 (IRow (.slice (some ⟨g, 0, none⟩) l.length c) (l.set j x) :: F) (w.setCell ⟨g, j, none⟩ (.int .i64 x)) := by
  have := h.rowSet (j := j) (by omega) (.int .i64 x)
  unfold IRow
  rw [List.length_set, ints_set]
  exact this
end

theorem Mem.irowSet' {fp : Nat → Prop} {w0 w : World} {F : List Chunk} {c g n : Nat} {l : List Int} (h : Mem fp w0 (IRow (.slice (some ⟨g, 0, none⟩) n c) l :: F) w) (hl : l.length = n) {j : Nat} (hj : j < n) (x : Int) :
    Mem fp w0 (IRow (.slice (some ⟨g, 0, none⟩) n c) (l.set j x) :: F) (w.setCell ⟨g, j, none⟩ (.int .i64 x)) := by
  subst hl
  exact h.irowSet hj x
theorem IRow.cell {w : World} {c g n : Nat} {l : List Int} (h : (IRow (.slice (some ⟨g, 0, none⟩) n c) l).ok w) (hl : l.length = n) {j : Nat} (hj : j < l.length) : w.cell? ⟨g, j, none⟩ = some (.int .i64 l[j]) := by
  subst hl
  exact Row.cell h (ints_get hj)
theorem IRow.frozen {w : World} {c g n : Nat} {l : List Int} (h : (IRow (.slice (some ⟨g, 0, none⟩) n c) l).ok w) (hl : l.length = n) (j : Nat) : w.frozen? ⟨g, j, none⟩ = false := by
  subst hl
  exact Row.frozen h j
/-- A row of slices, of which each is a row of numbers of its own. -/
def NestC (v : Value) (vs : List Value) (ls : List (List Int)) : List Chunk := Row 78 1 v ls.length vs :: List.zipWith IRow vs ls
theorem zip_perm {α β γ : Type} (f : α → β → γ) : ∀ (l : List α) (m : List β) (k : Nat) (h1 : k < l.length) (h2 : k < m.length), (List.zipWith f l m).Perm (f l[k] m[k] :: (List.zipWith f l m).eraseIdx k)
  | a :: l, b :: m, 0, _, _ => by simp
  | a :: l, b :: m, k + 1, h1, h2 => by
    simp only [List.zipWith_cons_cons, List.getElem_cons_succ, List.eraseIdx_cons_succ]
    exact ((zip_perm f l m k (by simpa using h1) (by simpa using h2)).cons _).trans (List.Perm.swap _ _ _)
theorem zip_set {α β γ : Type} (f : α → β → γ) : ∀ (l : List α) (m : List β) (k : Nat) (a : α) (b : β), (List.zipWith f (l.set k a) (m.set k b)).eraseIdx k = (List.zipWith f l m).eraseIdx k
  | [], m, k, a, b => by simp
  | a :: l, [], k, _, _ => by simp
  | a :: l, b :: m, 0, _, _ => by simp
  | a :: l, b :: m, k + 1, x, y => by simp [zip_set f l m k x y]
section
variable {fp : Nat → Prop} {w0 w : World} {F : List Chunk} {v : Value} {vs : List Value} {ls : List (List Int)}
theorem Star.nest_len (h : Star (NestC v vs ls) w) : vs.length = ls.length := by have := h.head.1; simpa using this
theorem Mem.nestOut (h : Mem fp w0 (List.zipWith IRow vs ls ++ F) w) (hl : vs.length = ls.length) {k : Nat} (hk : k < ls.length) : Mem fp w0 (IRow (vs[k]'(by omega)) ls[k] :: ((List.zipWith IRow vs ls).eraseIdx k ++ F)) w :=
  h.perm ((zip_perm IRow vs ls k (by omega) hk).append_right F)
theorem Mem.nestIn {k : Nat} {u : Value} {l : List Int} (h : Mem fp w0 (IRow u l :: ((List.zipWith IRow vs ls).eraseIdx k ++ F)) w) (hl : vs.length = ls.length) (hk : k < ls.length) :
    Mem fp w0 (List.zipWith IRow (vs.set k u) (ls.set k l) ++ F) w := by
  refine h.perm (List.Perm.symm ?_)
  have := zip_perm IRow (vs.set k u) (ls.set k l) k (by rw [List.length_set]; omega) (by rw [List.length_set]; omega)
  rw [zip_set] at this
  simp only [List.getElem_set_self] at this
  exact this.append_right F
theorem Mem.nestOut' (A : List Chunk) (h : Mem fp w0 (A ++ List.zipWith IRow vs ls) w) (hl : vs.length = ls.length) {k : Nat} (hk : k < ls.length) : Mem fp w0 (IRow (vs[k]'(by omega)) ls[k] :: (A ++ (List.zipWith IRow vs ls).eraseIdx k)) w :=
  h.perm (((zip_perm IRow vs ls k (by omega) hk).append_left A).trans List.perm_middle)
theorem Mem.nestIn' (A : List Chunk) {k : Nat} {u : Value} {l : List Int} (h : Mem fp w0 (IRow u l :: (A ++ (List.zipWith IRow vs ls).eraseIdx k)) w) (hl : vs.length = ls.length) (hk : k < ls.length) :
    Mem fp w0 (A ++ List.zipWith IRow (vs.set k u) (ls.set k l)) w := by
  have := zip_perm IRow (vs.set k u) (ls.set k l) k (by rw [List.length_set]; omega) (by rw [List.length_set]; omega)
  rw [zip_set] at this
  simp only [List.getElem_set_self] at this
  exact h.perm ((List.perm_middle.symm).trans (this.symm.append_left A))
theorem Mem.nestAt (A : List Chunk) (h : Mem fp w0 (A ++ List.zipWith IRow vs ls) w) {k : Nat} (hk : k < ls.length) (hv : k < vs.length) : (IRow vs[k] ls[k]).ok w := by
  refine h.star.1 _ (List.mem_append_right _ ?_)
  exact ((zip_perm IRow vs ls k hv hk).mem_iff).2 (List.mem_cons_self ..)
theorem Star.nestAt (h : Star (NestC v vs ls) w) {k : Nat} (hk : k < ls.length) (hv : k < vs.length) : (IRow vs[k] ls[k]).ok w := by
  refine h.1 _ (List.mem_cons_of_mem _ ?_)
  exact ((zip_perm IRow vs ls k hv hk).mem_iff).2 (List.mem_cons_self ..)
end
end Go.Proofs.Ytliglejbkpjamaa
