/-
  Contracts of slices.Insert at this program (laid by the kit's own tools lay-shelf and lay-plain).
-/
/-
  Layer 16 (graph): Insert of one text ahead of an own row.
-/
import Derived.Ground.Names2Prog
import Derived.Shelf.Spec.SlicesInsert
import Derived.Shelf.Spec.SlicesInsertGrow
import Derived.Test.YtliglejbkpjamaaProg
import Derived.Test.YtliglejbkpjamaaVGrI0
set_option linter.unusedVariables false
set_option linter.unusedSimpArgs false
section
namespace Go.Proofs
open Go.Shelf
def Try.laysNm222_ren : Go.Shelf.Ren := ⟨fun | 22 => 65 | 29 => 77 | 30 => 78 | 36 => 97 | 17 => 109 | n => n, fun | 24 => 23 | 9 => 9 | 3 => 3 | 4 => 4 | 0 => 0 | n => n, fun | n => n⟩
theorem Try.laysNm222 : Go.Proofs.Lays2.n22 Try.prog Try.laysNm222_ren := {
  mixed := by kernel_rfl
  f17 := Try.func109.trans (congrArg some (by kernel_rfl))
  f22 := Try.func65.trans (congrArg some (by kernel_rfl))
  f29 := Try.func77.trans (congrArg some (by kernel_rfl))
  f30 := Try.func78.trans (congrArg some (by kernel_rfl))
  f36 := Try.func97.trans (congrArg some (by kernel_rfl))
  t0 := Try.underlying0
  a0 := Try.isAgg0
  z0 := Try.sizeOf0
  v0 := Try.zeroValue0
  t3 := Try.underlying3
  a3 := Try.isAgg3
  z3 := Try.sizeOf3
  v3 := Try.zeroValue3
  t4 := Try.underlying4
  a4 := Try.isAgg4
  z4 := Try.sizeOf4
  v4 := Try.zeroValue4
  t9 := Try.underlying9
  a9 := Try.isAgg9
  z9 := Try.sizeOf9
  v9 := Try.zeroValue9
  t24 := Try.underlying23
  a24 := Try.isAgg23
  z24 := Try.sizeOf23
  v24 := Try.zeroValue23
  i9 := by kernel_rfl }
end Go.Proofs
end
section
set_option maxRecDepth 20000
namespace Go.Proofs.Ytliglejbkpjamaa
open Go.RowKit

def setsA (cs : Array Value) : Nat → List Value → Array Value
  | _, [] => cs
  | o, v :: r => setsA (cs.setIfInBounds o v) (o + 1) r
theorem heap_sets (b t : Nat) (fz : Nat × Nat) : ∀ (vs : List Value) (o : Nat) (w : World) (cs : Array Value), w.heap[b]? = some (.cells cs t fz) → (w.setCells b o vs).heap[b]? = some (.cells (setsA cs o vs) t fz)
  | [], _, _, _, h => h
  | v :: r, o, w, cs, h => heap_sets b t fz r (o + 1) _ _ (heap_set w b o v h)
theorem setsA_size : ∀ (vs : List Value) (o : Nat) (cs : Array Value), (setsA cs o vs).size = cs.size
  | [], _, _ => rfl
  | v :: r, o, cs => by unfold setsA; rw [setsA_size]; simp
theorem setsA_get : ∀ (vs : List Value) (o : Nat) (cs : Array Value) (j : Nat), o + vs.length ≤ cs.size → (setsA cs o vs)[j]? = if o ≤ j ∧ j < o + vs.length then vs[j - o]? else cs[j]?
  | [], o, cs, j, _ => by unfold setsA; rw [if_neg (by simp only [List.length_nil]; omega)]
  | v :: r, o, cs, j, h => by
    unfold setsA
    simp only [List.length_cons] at h
    rw [setsA_get r (o + 1) _ j (by simp; omega)]
    by_cases hj : o + 1 ≤ j ∧ j < o + 1 + r.length
    · rw [if_pos hj, if_pos (by simp; omega), show j - o = (j - (o + 1)) + 1 from by omega, List.getElem?_cons_succ]
    · rw [if_neg hj, Array.getElem?_setIfInBounds]
      by_cases hjo : o = j
      · subst hjo
        rw [if_pos rfl, if_pos (by omega), if_pos (by simp)]; simp
      · rw [if_neg hjo, if_neg (by simp; omega)]
theorem Mut.sets {fp : Nat → Prop} {a : World} (b : Nat) (hb : fp b ∨ a.heap.size ≤ b) : ∀ (vs : List Value) (o : Nat) (w : World), Mut fp a w → Mut fp a (w.setCells b o vs)
  | [], _, _, h => h
  | v :: r, o, w, h => Mut.sets b hb r (o + 1) _ (h.setCell (p := ⟨b, o, none⟩) hb v)
theorem zc (k : Nat) : (Builtin.zeroCells (Value.string ⟨#[]⟩).cells k).size = k := by simp [size_zeroCells, Value.cells]
/-- A row that reads as told. -/
theorem row_of {w : World} {e g n cap : Nat} {cur : Array Value} {cells : List Value} (hh : w.heap[g]? = some (.cells cur e (0, 0))) (hle : n ≤ cap) (hcap : cap ≤ maxLen) (hsz : cur.size = cap) (hl : cells.length = n) (hc : ∀ j, j < n → cur[j]? = cells[j]?) :
    (Row e 1 (.slice (some ⟨g, 0, none⟩) n cap) n cells).ok w := by
  refine ⟨by omega, .inr ⟨g, cap, cur, rfl, Nat.zero_le _, hh, hle, hcap, by omega, ?_⟩⟩
  refine List.ext_getElem? fun j => ?_
  rw [Nat.mul_one, List.getElem?_take]
  split
  · rename_i hj
    rw [← hc j hj, Array.getElem?_toList]
  · rename_i hj
    rw [List.getElem?_eq_none (by omega)]
theorem insert_calls (v : Value) (l : List ByteArray) (x : ByteArray) (xb : Nat) {fp : Nat → Prop} {w0 : World} {F : List Chunk} (w : World) (HM : Mem fp w0 (StrRow v l :: StrRow (.slice (some ⟨xb, 0, none⟩) 1 1) [x] :: F) w) (hb : (l.length + 1) * 16 ≤ 140737488355328) :
    Calls Try.prog 65 #[v, .int .i64 0, .slice (some ⟨xb, 0, none⟩) 1 1] w fun e w' => ∃ v', e = .returned v' ∧ Mem fp w0 (StrRow v' (x :: l) :: F) w' := by
  obtain ⟨h1, h2⟩ := HM.head
  obtain ⟨k1, k2⟩ := HM.tail.head
  have hx : ∃ cur, w.heap[xb]? = some (.cells cur 9 (0, 0)) ∧ cur.size = 1 ∧ cur.toList.take 1 = [.string x] := by
    rcases k2 with ⟨e, _⟩ | ⟨g, cap, cur, e, _, hh, _, _, hsz, htk⟩
    · cases e
    · cases e
      exact ⟨cur, hh, by simpa using hsz, htk⟩
  obtain ⟨xc, xh, xs, xt⟩ := hx
  have hxc : xc[0]? = some (.string x) := by
    rw [← Array.getElem?_toList]
    have : (xc.toList.take 1)[0]? = some (.string x) := by rw [xt]; rfl
    simpa using this
  have hvs : ∀ (j : Nat) (u : Value), ([.string x] : List Value)[j]? = some u → w.cell? ⟨xb, 0 + j, none⟩ = some u := by
    intro j u hj
    cases j with
    | zero =>
      cases hj
      unfold World.cell?
      rw [xh]; simpa using hxc
    | succ j => simp at hj
  have hml : l.length + 1 ≤ maxLen := by unfold maxLen; omega
  have hone : ∀ u ∈ ([.string x] : List Value), u.oneCell' = true := by simp [Value.oneCell']
  have hcells : strs (x :: l) = .string x :: strs l := rfl
  have hlen : (strs l).length = l.length := strs_length l
  have hnew : ∀ {cap : Nat} {cur : Array Value} {w' : World}, Pure w w' → w'.heap[w.heap.size]? = some (.cells cur 9 (0, 0)) → l.length + 1 ≤ cap → cap ≤ maxLen → cur.size = cap → (∀ j, j < l.length + 1 → cur[j]? = (strs (x :: l))[j]?) →
      Mem fp w0 (StrRow (.slice (some ⟨w.heap.size, 0, none⟩) (l.length + 1) cap) (x :: l) :: F) w' := by
    intro cap cur w' hp hh q1 q2 q3 q4
    have := row_of hh q1 q2 q3 (by simp [strs]) q4
    exact Mem.new HM.tail.tail hp this (fun b hb => by
      have e : some w.heap.size = some b := hb
      cases e; exact Nat.le_refl _)
  rcases h2 with ⟨rfl, hn⟩ | ⟨g, cap, cur, rfl, _, hh, hle, hcap, hsz, htk⟩
  · have hl : l = [] := List.length_eq_zero_iff.1 hn
    subst hl
    refine (Any2.slices_Insert_string_end_grow Try.laysNm222 none 0 0 xb 0 1 1 [] [.string x] w (by omega) (by omega) (by omega) (by omega) rfl rfl (fun _ => rfl) (fun a h => by cases h) hvs hone).mono ?_
    rintro e w' ⟨rfl, rfl⟩
    have hg1 := grownCap_ge w (0 + 1) 0 (Try.laysNm222_ren.t 9)
    have hg2 := grownCap_le_maxLen w (0 + 1) 0 (Try.laysNm222_ren.t 9) (by unfold maxLen; omega)
    generalize grownCap w (0 + 1) 0 (Try.laysNm222_ren.t 9) = GC at *
    refine ⟨_, rfl, hnew ((Mut.refl _ _).drew.alloc _) (heap_alloc_new _ _) hg1 hg2 ?_ (fun j hj => ?_)⟩
    · rw [Array.size_append, zc]
      simp only [List.nil_append, List.size_toArray, List.length_singleton]
      omega
    · have : j = 0 := by simpa using hj
      subst this
      rw [Array.getElem?_append_left (by simp)]; rfl
  · have hsz : cur.size = cap := by omega
    have hcur : ∀ j, j < l.length → cur[j]? = (strs l)[j]? := fun j hj => by
      rw [← htk, List.getElem?_take_of_lt (by omega), Array.getElem?_toList]
    have hcs : ∀ (j : Nat) (u : Value), (strs l)[j]? = some u → w.cell? ⟨g, 0 + j, none⟩ = some u := fun j u hj => by
      have hjl : j < l.length := by have := (List.getElem?_eq_some_iff.1 hj).1; omega
      unfold World.cell?
      rw [hh, Nat.zero_add]
      simpa using (hcur j hjl).trans hj
    have hgx : xb ≠ g := fun e => HM.star.apart (List.mem_cons_self ..) g rfl (by rw [e]; rfl)
    by_cases hl : l = []
    · subst hl
      by_cases hroom : 1 ≤ cap
      · refine (Any2.slices_Insert_string_end_room Try.laysNm222 g 0 0 cap xb 0 1 1 [.string x] w (by omega) (by omega) hcap rfl (fun j hj => ?_) (fun j hj => ?_) hvs hone).mono ?_
        · have : j = 0 := by omega
          subst this
          unfold World.cell?
          rw [hh]
          simp; omega
        · unfold World.frozen?
          rw [hh]; simp
        · rintro e w' ⟨rfl, rfl⟩
          refine ⟨_, rfl, ?_⟩
          have hrow := row_of (cells := strs [x]) (heap_sets g _ _ [.string x] 0 w cur hh) (n := 1) (by omega) hcap (by rw [setsA_size]; exact hsz) rfl (fun j hj => by
            rw [setsA_get _ _ _ _ (by simp; omega), if_pos (by simp; omega), Nat.sub_zero]; rfl)
          have hmu : Mut (StrRow (.slice (some ⟨g, 0, none⟩) ([] : List ByteArray).length cap) []).fp w (w.setCells g 0 [.string x]) := Mut.sets g (.inl (show (StrRow (.slice (some ⟨g, 0, none⟩) ([] : List ByteArray).length cap) []).fp g from rfl)) _ _ _ (Mut.refl _ _)
          exact ((HM.turn hmu hrow (fun b hb => .inl hb)).perm (List.Perm.swap _ _ _)).tail
      · refine (Any2.slices_Insert_string_end_grow Try.laysNm222 (some ⟨g, 0, none⟩) 0 cap xb 0 1 1 [] [.string x] w (by omega) (by omega) (by omega) (by omega) rfl rfl (fun _ => rfl) (fun a h j u hj => by simp at hj) hvs hone).mono ?_
        rintro e w' ⟨rfl, rfl⟩
        have hg1 := grownCap_ge w (0 + 1) cap (Try.laysNm222_ren.t 9)
        have hg2 := grownCap_le_maxLen w (0 + 1) cap (Try.laysNm222_ren.t 9) (by unfold maxLen; omega)
        generalize grownCap w (0 + 1) cap (Try.laysNm222_ren.t 9) = GC at *
        refine ⟨_, rfl, hnew ((Mut.refl _ _).drew.alloc _) (heap_alloc_new _ _) hg1 hg2 ?_ (fun j hj => ?_)⟩
        · rw [Array.size_append, zc]
          simp only [List.nil_append, List.size_toArray, List.length_singleton]
          omega
        · have : j = 0 := by simpa using hj
          subst this
          rw [Array.getElem?_append_left (by simp)]; rfl
    · have hlp : 0 < l.length := List.length_pos_iff.2 hl
      by_cases hroom : l.length + 1 ≤ cap
      · refine (Any2.slices_Insert_string_shift Try.laysNm222 g 0 l.length cap 0 xb 0 1 1 (strs l) [.string x] w hlp (by omega) hroom hcap hgx hlen rfl hcs (fun j hj => ?_) (fun j hj => ?_) hvs (strs_one l) hone 9 9 xc.size cur.size ?_ ?_ (by omega) ?_ ?_).mono ?_
        · unfold World.cell?
          rw [hh]
          simp; omega
        · unfold World.frozen?
          rw [hh]; simp
        · unfold World.shape?
          rw [xh]
        · unfold World.shape?
          rw [hh]
        · unfold World.frozen?
          rw [xh]; simp
        · unfold World.frozen?
          rw [xh]; simp
        · rintro e w' ⟨rfl, rfl⟩
          refine ⟨_, rfl, ?_⟩
          have hrow := row_of (cells := strs (x :: l)) (heap_sets g _ _ [.string x] (0 + 0) _ _ (heap_sets g _ _ ((strs l).drop 0) (0 + (0 + 1)) w.drew cur hh)) (n := l.length + 1) hroom hcap (by rw [setsA_size, setsA_size]; exact hsz) (by simp [strs]) (fun j hj => by
            rw [List.drop_zero, setsA_get _ _ _ _ (by rw [setsA_size]; simp; omega)]
            cases j with
            | zero => rfl
            | succ j =>
              rw [if_neg (by simp), setsA_get _ _ _ _ (by rw [hlen]; omega), if_pos (by rw [hlen]; omega), hcells, List.getElem?_cons_succ]
              first | rfl | (congr 1; omega))
          have hmu : Mut (StrRow (.slice (some ⟨g, 0, none⟩) l.length cap) l).fp w ((w.drew.setCells g (0 + (0 + 1)) ((strs l).drop 0)).setCells g (0 + 0) [.string x]) := Mut.sets g (.inl (show (StrRow (.slice (some ⟨g, 0, none⟩) l.length cap) l).fp g from rfl)) _ _ _ (Mut.sets g (.inl (show (StrRow (.slice (some ⟨g, 0, none⟩) l.length cap) l).fp g from rfl)) _ _ _ (Mut.refl _ _).drew)
          exact ((HM.turn hmu hrow (fun b hb => .inl hb)).perm (List.Perm.swap _ _ _)).tail
      · refine (Any2.slices_Insert_string_grow Try.laysNm222 g 0 l.length cap 0 xb 0 1 1 (strs l) [.string x] w hlp (by omega) hle (by omega) hb hlen rfl hcs hvs (strs_one l) hone).mono ?_
        rintro e w' ⟨rfl, rfl⟩
        have hg1 := grownCap_ge w (l.length + 1) cap (Try.laysNm222_ren.t 9)
        have hg2 := grownCap_le_maxLen w (l.length + 1) cap (Try.laysNm222_ren.t 9) hml
        generalize grownCap w (l.length + 1) cap (Try.laysNm222_ren.t 9) = GC at *
        refine ⟨_, rfl, hnew ?_ (heap_sets w.heap.size _ _ _ _ _ _ (heap_sets w.heap.size _ _ _ _ _ _ (heap_alloc_new w _))) hg1 hg2 ?_ (fun j hj => ?_)⟩
        · exact Mut.sets w.heap.size (.inr (Nat.le_refl _)) _ _ _ (Mut.sets w.heap.size (.inr (Nat.le_refl _)) _ _ _ ((Mut.refl _ _).alloc _).drew).drew
        · rw [setsA_size, setsA_size, Array.size_append, Array.size_append, zc, zc]
          simp only [List.take_zero, List.size_toArray, List.length_nil]
          omega
        · rw [List.drop_zero, setsA_get _ _ _ _ (by rw [setsA_size, hlen, Array.size_append, Array.size_append, zc, zc]; simp only [List.take_zero, List.size_toArray, List.length_nil]; omega)]
          cases j with
          | zero =>
            rw [if_neg (by omega), setsA_get _ _ _ _ (by rw [Array.size_append, Array.size_append, zc, zc]; simp only [List.take_zero, List.size_toArray, List.length_nil, List.length_singleton]; omega), if_pos (by simp)]; rfl
          | succ j =>
            rw [if_pos (by rw [hlen]; omega), hcells, List.getElem?_cons_succ]
            first | rfl | (congr 1; omega)
end Go.Proofs.Ytliglejbkpjamaa
end
