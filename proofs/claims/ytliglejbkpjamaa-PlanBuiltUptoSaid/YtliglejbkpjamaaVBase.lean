/-
  Words for what memory holds, used by all walks of this seat: chunks of memory that lie apart, and what a step may turn.
-/
import Derived.WalkKit
import Derived.WalkSpells
import Derived.WalkLawsBesides
import Derived.Maps.AppendAt
import Derived.KernelRfl
import Derived.Lib.Hide
import Derived.Deep.QuietTactic
import Derived.BigQuiet
set_option linter.unusedVariables false
set_option linter.unusedSimpArgs false
namespace Go.Proofs.Ytliglejbkpjamaa
open Go.RowKit

/-- What a step may turn: blocks of fp, and new ones. -/
structure Mut (fp : Nat → Prop) (w w' : World) : Prop where
  os : w'.os = w.os
  tape : w'.tape = w.tape
  output : w'.output = w.output
  size : w.heap.size ≤ w'.heap.size
  block : ∀ k, k < w.heap.size → ¬ fp k → w'.heap[k]? = w.heap[k]?

abbrev Pure (w w' : World) : Prop := Mut (fun _ => False) w w'

theorem Mut.refl (fp : Nat → Prop) (w : World) : Mut fp w w := ⟨rfl, rfl, rfl, Nat.le_refl _, fun _ _ _ => rfl⟩
theorem Mut.mono {fp fp' : Nat → Prop} {w w' : World} (h : Mut fp w w') (hf : ∀ k, k < w.heap.size → fp k → fp' k) : Mut fp' w w' :=
  ⟨h.os, h.tape, h.output, h.size, fun k hk hn => h.block k hk (fun hc => hn (hf k hk hc))⟩
theorem Mut.any {fp : Nat → Prop} {w w' : World} (h : Pure w w') : Mut fp w w' := h.mono (fun _ _ h => h.elim)
theorem Mut.trans {fp fp' : Nat → Prop} {a b c : World} (h : Mut fp a b) (k : Mut fp' b c) (hf : ∀ i, i < a.heap.size → fp' i → fp i) : Mut fp a c :=
  ⟨k.os.trans h.os, k.tape.trans h.tape, k.output.trans h.output, Nat.le_trans h.size k.size,
   fun i hi hn => (k.block i (Nat.lt_of_lt_of_le hi h.size) (fun hc => hn (hf i hi hc))).trans (h.block i hi hn)⟩
theorem Pure.trans {a b c : World} (h : Pure a b) (k : Pure b c) : Pure a c := Mut.trans h k (fun _ _ h => h)
theorem Mut.of_below {w w' : World} (h : Below w.heap.size w w') : Pure w w' := ⟨h.os, h.tape, h.output, h.size, fun k hk _ => h.block k hk⟩
theorem Mut.below {fp : Nat → Prop} {w w' : World} {B : Nat} (h : Mut fp w w') (hB : B ≤ w.heap.size) (hf : ∀ k, k < B → ¬ fp k) : Below B w w' :=
  ⟨h.os, h.tape, h.output, h.size, fun k hk => h.block k (by omega) (hf k hk)⟩
theorem Mut.of_grown {w w' : World} {row : Option Nat} (h : w.grownBy w' row) : Mut (fun k => row = some k) w w' :=
  ⟨h.os, h.tape, h.output, h.size, fun k hk hn => h.block k hk (fun e => hn e.symm)⟩
theorem Mut.alloc {fp : Nat → Prop} {a w : World} (h : Mut fp a w) (o : Obj) : Mut fp a (w.alloc o) :=
  ⟨h.os, h.tape, h.output, by have := h.size; simp; omega, fun k hk hn => by
    rw [Below.heap_alloc _ _ _ (Nat.lt_of_lt_of_le hk h.size)]; exact h.block k hk hn⟩
theorem Mut.drew {fp : Nat → Prop} {a w : World} (h : Mut fp a w) : Mut fp a w.drew := ⟨h.os, h.tape, h.output, h.size, h.block⟩
theorem Mut.drewN {fp : Nat → Prop} {a w : World} (h : Mut fp a w) (n : Nat) : Mut fp a (w.drewN n) := ⟨h.os, h.tape, h.output, h.size, h.block⟩
theorem Mut.setCell {fp : Nat → Prop} {a w : World} (h : Mut fp a w) {p : Addr} (hp : fp p.block ∨ a.heap.size ≤ p.block) (u : Value) : Mut fp a (w.setCell p u) :=
  ⟨h.os, h.tape, h.output, by have := h.size; simp [World.setCell]; omega, fun k hk hn => by
    have hne : k ≠ p.block := by
      rintro rfl
      rcases hp with hp | hp
      · exact hn hp
      · omega
    rw [Below.heap_setCell _ _ _ _ hne]; exact h.block k hk hn⟩
theorem Mut.size_lt {fp : Nat → Prop} {w w' : World} (h : Mut fp w w') {k : Nat} (hk : k < w.heap.size) : k < w'.heap.size := Nat.lt_of_lt_of_le hk h.size

/-- Something in memory: the blocks that it has, and what holds of them. -/
structure Chunk where
  fp : Nat → Prop
  ok : World → Prop
  loc : ∀ w w', (∀ b, fp b → w'.heap[b]? = w.heap[b]?) → ok w → ok w'
  lt : ∀ w b, ok w → fp b → b < w.heap.size

/-- All of them hold, and lie apart. -/
def Star (cs : List Chunk) (w : World) : Prop := (∀ c, c ∈ cs → c.ok w) ∧ cs.Pairwise (fun c d => ∀ b, c.fp b → ¬ d.fp b)

theorem Star.nil (w : World) : Star [] w := ⟨fun _ h => (by cases h), .nil⟩
theorem Star.ok {cs : List Chunk} {w : World} (h : Star cs w) {c : Chunk} (hc : c ∈ cs) : c.ok w := h.1 c hc
theorem Star.head {c : Chunk} {cs : List Chunk} {w : World} (h : Star (c :: cs) w) : c.ok w := h.1 c (by simp)
theorem Star.tail {c : Chunk} {cs : List Chunk} {w : World} (h : Star (c :: cs) w) : Star cs w := ⟨fun d hd => h.1 d (by simp [hd]), h.2.of_cons⟩
theorem Star.apart {c : Chunk} {cs : List Chunk} {w : World} (h : Star (c :: cs) w) {d : Chunk} (hd : d ∈ cs) : ∀ b, c.fp b → ¬ d.fp b := (List.pairwise_cons.1 h.2).1 d hd
theorem Star.perm {cs ds : List Chunk} {w : World} (h : Star cs w) (hp : cs.Perm ds) : Star ds w :=
  ⟨fun c hc => h.1 c (hp.mem_iff.2 hc), hp.pairwise h.2 (fun hcd b hd hc => hcd b hc hd)⟩
/-- A step that turns the first chunks alone: what stands in their place lies where they lay, or is new. -/
theorem Star.step {cs ds F : List Chunk} {w w' : World} {fp : Nat → Prop} (h : Star (cs ++ F) w) (hm : Mut fp w w') (hfp : ∀ b, b < w.heap.size → fp b → ∃ c, c ∈ cs ∧ c.fp b)
    (hd : Star ds w') (hin : ∀ d, d ∈ ds → ∀ b, d.fp b → (∃ c, c ∈ cs ∧ c.fp b) ∨ w.heap.size ≤ b) : Star (ds ++ F) w' := by
  have hap := List.pairwise_append.1 h.2
  have hF : ∀ c, c ∈ F → c.ok w := fun c hc => h.1 c (by simp [hc])
  refine ⟨fun c hc => ?_, List.pairwise_append.2 ⟨hd.2, hap.2.1, fun d hdd f hf b hb hfb => ?_⟩⟩
  · rcases List.mem_append.1 hc with hc | hc
    · exact hd.1 c hc
    · refine c.loc w w' (fun b hb => hm.block b (c.lt w b (hF c hc) hb) (fun hfb => ?_)) (hF c hc)
      obtain ⟨c', hc', hb'⟩ := hfp b (c.lt w b (hF c hc) hb) hfb
      exact hap.2.2 c' hc' c hc b hb' hb
  · rcases hin d hdd b hb with ⟨c, hc, hcb⟩ | hge
    · exact hap.2.2 c hc f hf b hcb hfb
    · have := f.lt w b (hF f hf) hfb; omega
/-- One chunk turns. -/
theorem Star.turn {c d : Chunk} {F : List Chunk} {w w' : World} {fp : Nat → Prop} (h : Star (c :: F) w) (hm : Mut fp w w') (hfp : ∀ b, b < w.heap.size → fp b → c.fp b)
    (hd : d.ok w') (hin : ∀ b, d.fp b → c.fp b ∨ w.heap.size ≤ b) : Star (d :: F) w' :=
  Star.step (cs := [c]) (ds := [d]) h hm (fun b hb hf => ⟨c, by simp, hfp b hb hf⟩) ⟨fun x hx => by rw [List.mem_singleton.1 hx]; exact hd, List.pairwise_singleton _ _⟩
    (fun x hx b hb => by rw [List.mem_singleton.1 hx] at hb; exact (hin b hb).imp (fun h => ⟨c, by simp, h⟩) id)
/-- Nothing old turns. -/
theorem Star.keep {F : List Chunk} {w w' : World} (h : Star F w) (hm : Pure w w') : Star F w' :=
  Star.step (cs := []) (ds := []) h hm (fun _ _ h => h.elim) (Star.nil _) (fun _ h => by cases h)
/-- Something new. -/
theorem Star.new {d : Chunk} {F : List Chunk} {w w' : World} (h : Star F w) (hm : Pure w w') (hd : d.ok w') (hin : ∀ b, d.fp b → w.heap.size ≤ b) : Star (d :: F) w' :=
  Star.step (cs := []) (ds := [d]) h hm (fun _ _ h => h.elim) ⟨fun x hx => by rw [List.mem_singleton.1 hx]; exact hd, List.pairwise_singleton _ _⟩
    (fun x hx b hb => by rw [List.mem_singleton.1 hx] at hb; exact .inr (hin b hb))

/-- The memory of a call under way: what it began with has turned in fp alone; the chunks hold, lie apart, and lie in fp or are new. -/
structure Mem (fp : Nat → Prop) (w0 : World) (cs : List Chunk) (w : World) : Prop where
  mu : Mut fp w0 w
  star : Star cs w
  inn : ∀ c, c ∈ cs → ∀ b, c.fp b → fp b ∨ w0.heap.size ≤ b

abbrev none_ : Nat → Prop := fun _ => False

section
variable {fp gp : Nat → Prop} {w0 w w' : World} {c d : Chunk} {cs ds F : List Chunk}
theorem Mem.start (w : World) : Mem fp w [] w := ⟨Mut.refl _ _, Star.nil _, fun _ h => by cases h⟩
theorem Mem.keep (h : Mem fp w0 cs w) (hm : Pure w w') : Mem fp w0 cs w' := ⟨h.mu.trans hm (fun _ _ h => h.elim), h.star.keep hm, h.inn⟩
theorem Mem.alloc (h : Mem fp w0 cs w) (o : Obj) : Mem fp w0 cs (w.alloc o) := h.keep ((Mut.refl _ _).alloc o)
theorem Mem.drew (h : Mem fp w0 cs w) : Mem fp w0 cs w.drew := h.keep (Mut.refl _ _).drew
theorem Mem.drewN (h : Mem fp w0 cs w) (n : Nat) : Mem fp w0 cs (w.drewN n) := h.keep ((Mut.refl _ _).drewN n)
theorem Mem.perm (h : Mem fp w0 cs w) (hp : cs.Perm ds) : Mem fp w0 ds w := ⟨h.mu, h.star.perm hp, fun c hc => h.inn c (hp.mem_iff.2 hc)⟩
theorem Mem.head (h : Mem fp w0 (c :: cs) w) : c.ok w := h.star.head
theorem Mem.tail (h : Mem fp w0 (c :: cs) w) : Mem fp w0 cs w := ⟨h.mu, h.star.tail, fun d hd => h.inn d (by simp [hd])⟩
/-- A callee that turns the first chunks, and hands back others in their place. -/
theorem Mem.call (h : Mem fp w0 (cs ++ F) w) (k : Mem gp w ds w') (hg : ∀ b, b < w.heap.size → gp b → ∃ c, c ∈ cs ∧ c.fp b) (hg' : ∀ b, gp b → b < w.heap.size) : Mem fp w0 (ds ++ F) w' := by
  refine ⟨h.mu.trans k.mu (fun i hi hgi => ?_), h.star.step k.mu hg k.star (fun d hd b hb => ?_), fun x hx b hb => ?_⟩
  · obtain ⟨c, hc, hb⟩ := hg i (Nat.lt_of_lt_of_le hi h.mu.size) hgi
    rcases h.inn c (by simp [hc]) i hb with h1 | h1
    · exact h1
    · omega
  · rcases k.inn d hd b hb with h1 | h1
    · exact .inl (hg b (hg' b h1) h1)
    · exact .inr h1
  · rcases List.mem_append.1 hx with hx | hx
    · rcases k.inn x hx b hb with h1 | h1
      · obtain ⟨c, hc, hcb⟩ := hg b (hg' b h1) h1
        exact h.inn c (by simp [hc]) b hcb
      · exact .inr (Nat.le_trans h.mu.size h1)
    · exact h.inn x (by simp [hx]) b hb
/-- A callee that turns nothing old, and hands back something new. -/
theorem Mem.got (h : Mem fp w0 F w) (k : Mem none_ w ds w') : Mem fp w0 (ds ++ F) w' := Mem.call (cs := []) h k (fun _ _ h => h.elim) (fun _ h => h.elim)
/-- A step that turns the first chunk. -/
theorem Mem.turn (h : Mem fp w0 (c :: F) w) (hm : Mut c.fp w w') (hd : d.ok w') (hin : ∀ b, d.fp b → c.fp b ∨ w.heap.size ≤ b) : Mem fp w0 (d :: F) w' := by
  refine Mem.call (cs := [c]) (ds := [d]) (gp := c.fp) h ⟨hm, ⟨fun x hx => by rw [List.mem_singleton.1 hx]; exact hd, List.pairwise_singleton _ _⟩, fun x hx b hb => by rw [List.mem_singleton.1 hx] at hb; exact hin b hb⟩
    (fun b _ hb => ⟨c, by simp, hb⟩) (fun b hb => c.lt w b h.head hb)
/-- A step that makes something. -/
theorem Mem.new (h : Mem fp w0 F w) (hm : Pure w w') (hd : d.ok w') (hin : ∀ b, d.fp b → w.heap.size ≤ b) : Mem fp w0 (d :: F) w' :=
  Mem.got (ds := [d]) h ⟨hm, ⟨fun x hx => by rw [List.mem_singleton.1 hx]; exact hd, List.pairwise_singleton _ _⟩, fun x hx b hb => by rw [List.mem_singleton.1 hx] at hb; exact .inr (hin b hb)⟩
theorem Mem.drop (h : Mem fp w0 (cs ++ F) w) : Mem fp w0 F w := ⟨h.mu, ⟨fun c hc => h.star.1 c (by simp [hc]), (List.pairwise_append.1 h.star.2).2.1⟩, fun c hc => h.inn c (by simp [hc])⟩
theorem Mem.only (h : Mem fp w0 cs w) (hd : ∀ d, d ∈ ds → d ∈ cs) (hp : ds.Pairwise (fun c d => ∀ b, c.fp b → ¬ d.fp b)) : Mem fp w0 ds w := ⟨h.mu, ⟨fun c hc => h.star.1 c (hd c hc), hp⟩, fun c hc => h.inn c (hd c hc)⟩
/-- Some of the chunks, in whatever order, by their places. -/
theorem Mem.sel (h : Mem fp w0 cs w) (js : List Nat) (hn : js.Nodup) : Mem fp w0 (js.filterMap (fun j => cs[j]?)) w := by
  refine ⟨h.mu, ⟨fun c hc => ?_, ?_⟩, fun c hc => ?_⟩
  · obtain ⟨j, _, hj⟩ := List.mem_filterMap.1 hc
    exact h.star.1 c (List.mem_of_getElem? hj)
  · rw [List.pairwise_filterMap]
    refine List.Pairwise.imp ?_ hn
    intro i j hij c hc d hd b hcb hdb
    have hc' : cs[i]? = some c := hc
    have hd' : cs[j]? = some d := hd
    obtain ⟨hi, rfl⟩ := List.getElem?_eq_some_iff.1 hc'
    obtain ⟨hj, rfl⟩ := List.getElem?_eq_some_iff.1 hd'
    rcases Nat.lt_or_gt_of_ne hij with hlt | hlt
    · exact List.pairwise_iff_getElem.1 h.star.2 i j hi hj hlt b hcb hdb
    · exact List.pairwise_iff_getElem.1 h.star.2 j i hj hi hlt b hdb hcb
  · obtain ⟨j, _, hj⟩ := List.mem_filterMap.1 hc
    exact h.inn c (List.mem_of_getElem? hj)
theorem Mem.below (h : Mem none_ w0 cs w) : Below w0.heap.size w0 w := h.mu.below (Nat.le_refl _) (fun _ _ h => h)
end

/-- A slice that the call has made, and may append to. -/
def Row (e size : Nat) (v : Value) (n : Nat) (cells : List Value) : Chunk where
  fp b := v.ownBlock = some b
  ok w := w.ownsRow 0 e size v n cells
  loc w w' h hw := by
    obtain ⟨h1, h2⟩ := hw
    refine ⟨h1, h2.imp id ?_⟩
    rintro ⟨g, cap, cur, rfl, hg, hh, r⟩
    exact ⟨g, cap, cur, rfl, hg, (h g rfl).trans hh, r⟩
  lt w b hw hb := (World.ownsRow.lt hw b hb).2

/-- A block known whole. -/
def Blk (b t : Nat) (cells : Array Value) : Chunk where
  fp k := k = b
  ok w := w.heap[b]? = some (.cells cells t (0, 0))
  loc w w' h hw := (h b rfl).trans hw
  lt w k hw hk := by subst hk; exact (Array.getElem?_eq_some_iff.1 hw).1

/-- What a slice reads as: its cells. -/
def Sl (w : World) (v : Value) (size n : Nat) (cells : List Value) : Prop :=
  ∃ A c, v = .slice A n c ∧ n ≤ c ∧ c ≤ maxLen ∧ cells.length = n * size ∧ (n = 0 ∨ ∃ b o, A = some ⟨b, o, none⟩ ∧ ∀ j u, cells[j]? = some u → w.cell? ⟨b, o + j, none⟩ = some u)

theorem cell_lt {w : World} {a : Addr} {v : Value} (h : w.cell? a = some v) : a.block < w.heap.size := by
  unfold World.cell? at h
  split at h
  · rename_i h1; exact (Array.getElem?_eq_some_iff.1 h1).1
  · cases h
theorem cell_of_block {w w' : World} {a : Addr} {v : Value} (h : w'.heap[a.block]? = w.heap[a.block]?) (hc : w.cell? a = some v) : w'.cell? a = some v := (World.cell?_of_block h).trans hc
theorem Pure.cell {w w' : World} (h : Pure w w') {a : Addr} {v : Value} (hc : w.cell? a = some v) : w'.cell? a = some v := cell_of_block (h.block _ (cell_lt hc) (fun h => h)) hc
theorem Mut.cell {fp : Nat → Prop} {w w' : World} (h : Mut fp w w') {a : Addr} {v : Value} (hc : w.cell? a = some v) (hn : ¬ fp a.block) : w'.cell? a = some v := cell_of_block (h.block _ (cell_lt hc) hn) hc
theorem Sl.pure {w w' : World} (h : Pure w w') {v : Value} {size n : Nat} {cells : List Value} (hs : Sl w v size n cells) : Sl w' v size n cells := by
  obtain ⟨A, c, rfl, h1, h2, h3, h4⟩ := hs
  refine ⟨A, c, rfl, h1, h2, h3, h4.imp id ?_⟩
  rintro ⟨b, o, rfl, hc⟩
  exact ⟨b, o, rfl, fun j u hu => h.cell (hc j u hu)⟩
theorem Sl.drewN {w : World} {v : Value} {size n : Nat} {cells : List Value} (hs : Sl w v size n cells) (k : Nat) : Sl (w.drewN k) v size n cells := hs.pure ((Mut.refl _ _).drewN k)
theorem Sl.take {w : World} {A : Option Addr} {c size n : Nat} {cells : List Value} (hs : Sl w (.slice A n c) size n cells) {k : Nat} (hk : k ≤ n) : Sl w (.slice A k c) size k (cells.take (k * size)) := by
  obtain ⟨A', c', e, h1, h2, h3, h4⟩ := hs
  cases e
  refine ⟨A, c, rfl, by omega, h2, ?_, ?_⟩
  · rw [List.length_take, h3]
    exact Nat.min_eq_left (Nat.mul_le_mul_right _ hk)
  · rcases Nat.eq_zero_or_pos k with h | h
    · exact .inl h
    · obtain ⟨b, o, rfl, hc⟩ := h4.resolve_left (by omega)
      refine .inr ⟨b, o, rfl, fun j u hu => hc j u ?_⟩
      rw [List.getElem?_take] at hu
      split at hu
      · exact hu
      · cases hu
theorem Row.sl {e size : Nat} {v : Value} {n : Nat} {cells : List Value} {w : World} (h : (Row e size v n cells).ok w) : Sl w v size n cells := by
  have h' := h
  obtain ⟨h1, h2⟩ := h
  rcases h2 with ⟨rfl, rfl⟩ | ⟨g, cap, cur, rfl, hg, hh, hle, hcap, hsz, htk⟩
  · exact ⟨none, 0, rfl, Nat.le_refl _, Nat.zero_le _, h1, .inl rfl⟩
  · refine ⟨some ⟨g, 0, none⟩, cap, rfl, hle, hcap, h1, .inr ⟨g, 0, rfl, fun j u hu => ?_⟩⟩
    have hj : j < (cur.toList.take (n * size)).length := by rw [htk]; exact (List.getElem?_eq_some_iff.1 hu).1
    rw [← htk] at hu
    rw [List.getElem?_take_of_lt (by simp at hj; omega)] at hu
    simp [World.cell?, hh]
    simpa using hu

/-- What append wants to know of a slice type's elements. -/
structure Elem (P : Program) (t e size bytes : Nat) : Prop where
  sl : P.underlying t = some (.slice e)
  inf : ∃ i z, P.info? e = some i ∧ i.zero = some z ∧ i.size = size ∧ i.bytes = bytes ∧ z.cells.size = size
  pos : 0 < size
  posb : 0 < bytes
theorem Elem.of {P : Program} {t e size bytes : Nat} {z : Value} (h : P.underlying t = some (.slice e)) (hi : (P.info? e).map (fun i => (i.zero, i.size, i.bytes)) = some (some z, size, bytes)) (hz : z.cells.size = size) (h1 : 0 < size) (h2 : 0 < bytes) : Elem P t e size bytes := by
  obtain ⟨i, e1, e2, e3, e4⟩ := info_parts hi
  exact ⟨h, ⟨i, z, e1, e2, e3, e4, hz⟩, h1, h2⟩

section
variable {P : Program} {ops : Array Oper} {rest : List Oper} {o : Oper} {a : Act} {Q : Exit → Act → World → Prop} {t e size bytes : Nat}
theorem wpList_app (HE : Elem P t e size bytes) (hgd : o.guard = none) (s x : Operand) (ho : o.op = .call { callee := .builtin .append, args := #[s, x], argTypes := #[t, t] })
    {fp : Nat → Prop} {w0 W : World} {F : List Chunk} {v : Value} {n : Nat} {cells : List Value} (HM : Mem fp w0 (Row e size v n cells :: F) W) (hs : a.eval s = v)
    (ad : Addr) (m c : Nat) (news : List Value) (hx : a.eval x = .slice (some ad) m c) (hl : news.length = m * size) (hnews : ∀ j u, news[j]? = some u → W.cell? (ad.add j) = some u) (h1 : ∀ u ∈ news, u.oneCell' = true)
    (hb : (n + m) * bytes ≤ 140737488355328)
    (h : ∀ v' w', Mem fp w0 (Row e size v' (n + m) (cells ++ news) :: F) w' → Mut (fun k => v.ownBlock = some k) W w' → (v' = .slice none 0 0 ↔ v = .slice none 0 0 ∧ m = 0) → wpList P ops Q rest (a.put o.dst v') w') :
    wpList P ops Q (o :: rest) a W := by
  obtain ⟨i, z, hi, hz, h2, h3, h4⟩ := HE.inf
  have h63 : n + m ≤ maxLen := by
    have := Nat.le_mul_of_pos_right (n + m) HE.posb
    unfold maxLen
    omega
  refine wpList_append_own_at W hgd s x t ho 0 e i z size bytes HE.sl hi hz h2 h3 h4 HE.pos v n cells hs HM.head ad m c news hx hl hnews h1 h63 hb (Nat.zero_le _) (fun v' w' ho' hg hn hat => h v' w' ?_ (Mut.of_grown hg) hn)
  refine HM.turn (Mut.of_grown hg) ho' (fun b hb' => ?_)
  have hb2 : v'.ownBlock = some b := hb'
  rcases hat with hat | hat
  · exact .inl (hat.symm.trans hb2)
  · rw [hat] at hb2; cases hb2; exact .inr (Nat.le_refl _)
theorem wpList_app1 (HE : Elem P t e size bytes) (hgd : o.guard = none) (s x : Operand) (ho : o.op = .call { callee := .builtin .append, args := #[s, x], argTypes := #[t, t] })
    {fp : Nat → Prop} {w0 W : World} {F : List Chunk} {v : Value} {n : Nat} {cells : List Value} (HM : Mem fp w0 (Row e size v n cells :: F) W) (hs : a.eval s = v)
    (us : Array Value) (nb : Nat) (hx : a.eval x = .slice (some ⟨nb, 0, none⟩) 1 1) (hnb : nb = W.heap.size) (hl : us.size = size) (h1 : ∀ u ∈ us.toList, u.oneCell' = true)
    (hb : (n + 1) * bytes ≤ 140737488355328)
    (h : ∀ v' w', Mem fp w0 (Row e size v' (n + 1) (cells ++ us.toList) :: F) w' → Mut (fun k => v.ownBlock = some k) W w' → wpList P ops Q rest (a.put o.dst v') w') :
    wpList P ops Q (o :: rest) a (W.alloc (.cells us e)) := by
  subst hnb
  refine wpList_app HE hgd s x ho (HM.alloc _) hs ⟨W.heap.size, 0, none⟩ 1 1 us.toList hx (by simp [hl]) (fun j u hu => ?_) h1 hb (fun v' w' hm hmu _ => h v' w' hm ?_)
  · have hne : (W.alloc (.cells us e)).heap[W.heap.size]? = some (.cells us e (0, 0)) := heap_alloc_new W _
    have : (⟨W.heap.size, 0, none⟩ : Addr).add j = ⟨W.heap.size, j, none⟩ := by unfold Addr.add; split <;> simp_all
    rw [this]
    unfold World.cell?
    rw [hne]
    simpa using hu
  · exact ((Mut.refl _ W).alloc _).trans hmu (fun _ _ h => h)
end

def strs (l : List ByteArray) : List Value := l.map Value.string
def prs (l : List (ByteArray × ByteArray)) : List Value := l.flatMap fun p => [.string p.1, .string p.2]
/-- A slice of texts. -/
abbrev Strs (w : World) (v : Value) (l : List ByteArray) : Prop := Sl w v 1 l.length (strs l)
abbrev Prs (w : World) (v : Value) (l : List (ByteArray × ByteArray)) : Prop := Sl w v 2 l.length (prs l)
abbrev StrRow (v : Value) (l : List ByteArray) : Chunk := Row 9 1 v l.length (strs l)
theorem strs_get {l : List ByteArray} {k : Nat} (h : k < l.length) : (strs l)[k]? = some (.string l[k]) := by simp [strs, h]
theorem Strs.at_ {w : World} {A : Option Addr} {n c : Nat} {l : List ByteArray} (h : Strs w (.slice A n c) l) : n = l.length ∧ n ≤ c ∧ c ≤ maxLen ∧ (n = 0 ∨ ∃ b o, A = some ⟨b, o, none⟩ ∧ ∀ k (hk : k < l.length), w.cell? ⟨b, o + k, none⟩ = some (.string l[k])) := by
  obtain ⟨A', c', e, h1, h2, _, h4⟩ := h
  cases e
  refine ⟨rfl, h1, h2, h4.imp id ?_⟩
  rintro ⟨b, o, rfl, hc⟩
  exact ⟨b, o, rfl, fun k hk => hc k _ (strs_get hk)⟩
theorem strs_take (l : List ByteArray) (k : Nat) : (strs l).take (k * 1) = strs (l.take k) := by rw [Nat.mul_one]; simp [strs, List.map_take]
theorem Strs.take {w : World} {A : Option Addr} {c : Nat} {l : List ByteArray} (h : Strs w (.slice A l.length c) l) {k : Nat} (hk : k ≤ l.length) : Strs w (.slice A k c) (l.take k) := by
  have h2 := Sl.take h hk
  rw [strs_take] at h2
  have e : (l.take k).length = k := by rw [List.length_take]; omega
  unfold Strs
  rw [e]
  exact h2
theorem prs_take (l : List (ByteArray × ByteArray)) : ∀ k, (prs l).take (k * 2) = prs (l.take k) := by
  induction l with
  | nil => intro k; simp [prs]
  | cons x l ih =>
    intro k
    cases k with
    | zero => simp [prs]
    | succ k =>
      rw [show (k + 1) * 2 = k * 2 + 1 + 1 from by omega]
      simpa [prs] using ih k
theorem Prs.take {w : World} {A : Option Addr} {c : Nat} {l : List (ByteArray × ByteArray)} (h : Prs w (.slice A l.length c) l) {k : Nat} (hk : k ≤ l.length) : Prs w (.slice A k c) (l.take k) := by
  have h2 := Sl.take h hk
  rw [prs_take] at h2
  have e : (l.take k).length = k := by rw [List.length_take]; omega
  unfold Prs
  rw [e]
  exact h2
theorem Mem.lit {fp : Nat → Prop} {w0 W : World} {F : List Chunk} (h : Mem fp w0 F W) (e size n : Nat) (cells : List Value) (hl : cells.length = n * size) (hn : n ≤ maxLen) : Mem fp w0 (Row e size (.slice (some ⟨W.heap.size, 0, none⟩) n n) n cells :: F) (W.alloc (.cells cells.toArray e)) :=
  h.new ((Mut.refl _ _).alloc _) ⟨hl, .inr ⟨W.heap.size, n, cells.toArray, rfl, Nat.zero_le _, heap_alloc_new W _, Nat.le_refl _, hn, by simpa using hl, by simp [← hl]⟩⟩ (fun b hb => by
    have hb' : some W.heap.size = some b := hb
    cases hb'; exact Nat.le_refl _)
theorem Mem.lit1 {fp : Nat → Prop} {w0 W : World} {F : List Chunk} (h : Mem fp w0 F W) (y : ByteArray) : Mem fp w0 (StrRow (.slice (some ⟨W.heap.size, 0, none⟩) 1 1) [y] :: F) (W.alloc (.cells #[.string y] 9)) :=
  h.lit 9 1 1 [.string y] rfl (by unfold maxLen; omega)
theorem strs_length (l : List ByteArray) : (strs l).length = l.length := by simp [strs]
theorem strs_append (l m : List ByteArray) : strs (l ++ m) = strs l ++ strs m := by simp [strs]
theorem strs_one (l : List ByteArray) : ∀ u ∈ strs l, u.oneCell' = true := by
  intro u hu
  obtain ⟨x, _, rfl⟩ := List.mem_map.1 hu
  rfl
section
variable {P : Program} {ops : Array Oper} {rest : List Oper} {o : Oper} {a : Act} {Q : Exit → Act → World → Prop} {t bytes : Nat}
/-- append(out, s): one text. -/
theorem wpList_appS (HE : Elem P t 9 1 bytes) (hgd : o.guard = none) (s x : Operand) (ho : o.op = .call { callee := .builtin .append, args := #[s, x], argTypes := #[t, t] })
    {fp : Nat → Prop} {w0 W : World} {F : List Chunk} {v : Value} {l : List ByteArray} (HM : Mem fp w0 (StrRow v l :: F) W) (hs : a.eval s = v)
    (y : ByteArray) (nb : Nat) (hx : a.eval x = .slice (some ⟨nb, 0, none⟩) 1 1) (hnb : nb = W.heap.size)
    (hb : (l.length + 1) * bytes ≤ 140737488355328)
    (h : ∀ v' w', Mem fp w0 (StrRow v' (l ++ [y]) :: F) w' → Mut (fun k => v.ownBlock = some k) W w' → wpList P ops Q rest (a.put o.dst v') w') :
    wpList P ops Q (o :: rest) a (W.alloc (.cells #[.string y] 9)) := by
  refine wpList_app1 HE hgd s x ho HM hs #[.string y] nb hx hnb rfl (by simp [Value.oneCell']) hb (fun v' w' hm hmu => h v' w' ?_ hmu)
  have e1 : (l ++ [y]).length = l.length + 1 := by simp
  have e2 : strs (l ++ [y]) = strs l ++ [.string y] := strs_append _ _
  unfold StrRow
  rw [e1, e2]
  exact hm
theorem Mem.nilS {fp : Nat → Prop} {w0 W : World} {F : List Chunk} (h : Mem fp w0 F W) : Mem fp w0 (StrRow (.slice none 0 0) [] :: F) W :=
  Mem.new h (Mut.refl _ _) (by exact World.ownsRow_nil _ _ _ _) (by intro b hb; cases hb)
end
end Go.Proofs.Ytliglejbkpjamaa
