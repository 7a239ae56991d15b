/-
  Layer 02 (path): the iterator of strings.SplitSeq: what it gives, to whatever rounds.
-/
import Derived.Test.YtjhcabjlhnhkbaaDoorPthC
import Derived.Lib.IndexLaws
import Derived.RangeFuncNested
import Derived.RangeFuncBound
import Derived.RangeFuncCalls
import Derived.RangeFuncLeaves
import Derived.Shelf.Abstract
import Derived.Shelf.RegionOpen
import Derived.OwnWalkIn
import Derived.TacticsInMore
import Derived.LoopNIn
import Derived.LoopIn
set_option linter.unusedVariables false
set_option linter.unusedSimpArgs false
namespace Go.Proofs.YtjhcabjlhnhkbaaDoor
open Go.RowKit Go.Shelf
attribute [local go_sem] Oper.semAt_some

/-- What the iterator keeps: what is left, and two constants. -/
abbrev SeqC (sb pb qb : Nat) (cur : List UInt8) : List Chunk := [Blk sb 9 #[.string (ofL cur)], Blk pb 9 #[.string ⟨#[47]⟩], Blk qb 3 #[.int .i64 0]]
def sizeAt (b : Nat) (w : World) : Nat := match w.cell? ⟨b, 0, none⟩ with
  | some (.string s) => s.size
  | _ => 0
theorem index_none {s : List UInt8} (h : Lib.indexByte s 47 = -1) : splitL 47 s = [s] := split_free fun b hb e => by
  obtain ⟨k, hk⟩ := List.getElem?_of_mem hb
  exact Lib.indexByte_none h k (by rw [hk, e])
theorem index_some {s : List UInt8} {k : Nat} (h : Lib.indexByte s 47 = (k : Int)) : k < s.length ∧ splitL 47 s = s.take k :: splitL 47 (s.drop (k + 1)) := by
  obtain ⟨h1, h2⟩ := Lib.indexByte_some h
  have hk : k < s.length := (List.getElem?_eq_some_iff.1 h1).1
  refine ⟨hk, ?_⟩
  have e : s = s.take k ++ 47 :: s.drop (k + 1) := by
    have h3 : s[k] = 47 := by rw [List.getElem?_eq_getElem hk] at h1; exact Option.some.inj h1
    rw [← h3, ← List.drop_eq_getElem_cons hk, List.take_append_drop]
  conv => lhs; rw [e]
  refine split_app _ fun x hx e2 => ?_
  obtain ⟨j, hj, rfl⟩ := List.getElem_of_mem hx
  rw [List.length_take] at hj
  rw [List.getElem_take] at e2
  exact h2 j (by omega) (by rw [List.getElem?_eq_getElem (by omega), e2])
set_option maxRecDepth 100000 in
set_option maxHeartbeats 4000000 in
theorem iter_calls (n : Nat) (l sb pb qb : Nat) (s : List UInt8) (hs : s.length ≤ 9000000) {κ : Type} (CH : κ → List (List UInt8) → List Chunk) (fp : Nat → Prop) (w0 : World)
    (hY : ∀ cur pre x W1, (∃ y, Mem fp w0 (SeqC sb pb qb cur ++ CH y pre) W1) → x.length ≤ 9000000 → pre.length ≤ 9000000 → YieldAt Fence.wide (n - 1) Tryd.prog l #[.string (ofL x)] W1 fun e W' => e = .returned (.bool true) ∧ ∃ y, Mem fp w0 (SeqC sb pb qb cur ++ CH y (pre ++ [x])) W')
    (W : World) (hM : ∃ y, Mem fp w0 (SeqC sb pb qb s ++ CH y []) W) :
    CallsIn Fence.wide n Tryd.prog 86 #[.func (.yield l) #[] #[], .pointer (some ⟨pb, 0, none⟩), .pointer (some ⟨sb, 0, none⟩), .pointer (some ⟨qb, 0, none⟩)] W fun e W' => (∃ v, e = .returned v) ∧ ∃ cur y, Mem fp w0 (SeqC sb pb qb cur ++ CH y (splitL 47 s)) W' := by
  refine callsIn_of_wp Tryd.func86 rfl trivial ?_ rfl
  simp only [Tryd.ntmps86, List.size_toArray, List.length_cons, List.length_nil, Nat.reduceAdd, Nat.reduceSub, Array.replicate_succ, Array.replicate_zero, List.push_toArray, List.append_toArray, List.nil_append, List.cons_append]
  have cells : ∀ cur pre y W1, Mem fp w0 (SeqC sb pb qb cur ++ CH y pre) W1 → W1.cell? ⟨sb, 0, none⟩ = some (.string (ofL cur)) ∧ W1.cell? ⟨pb, 0, none⟩ = some (.string ⟨#[47]⟩) ∧ W1.cell? ⟨qb, 0, none⟩ = some (.int .i64 0) ∧ W1.frozen? ⟨sb, 0, none⟩ = false := by
    intro cur pre y W1 h
    have h0 : (Blk sb 9 #[.string (ofL cur)]).ok W1 := h.at_ 0 rfl
    have h1 : (Blk pb 9 #[.string ⟨#[47]⟩]).ok W1 := h.at_ 1 rfl
    have h2 : (Blk qb 3 #[.int .i64 0]).ok W1 := h.at_ 2 rfl
    exact ⟨by rw [Blk.cell_ h0]; rfl, by rw [Blk.cell_ h1]; rfl, by rw [Blk.cell_ h2]; rfl, Blk.frozen h0 0⟩
  have Hcells := Lib.hid cells
  clear cells
  obtain ⟨y0, hM⟩ := hM
  obtain ⟨c0, c1, c2, c3⟩ := Hcells.out _ _ _ _ hM
  gi_wp2
  gi_loopw [7] (fun v7 wr => ∃ (pre : List (List UInt8)) (cur : List UInt8), splitL 47 s = pre ++ splitL 47 cur ∧ pre.length + cur.length ≤ s.length ∧ ∃ y, Mem fp w0 (SeqC sb pb qb cur ++ CH y pre) wr) (fun _ wr => sizeAt sb wr)
  case atStart => exact ⟨[], s, rfl, by simp, y0, hM⟩
  case round =>
    clear hM c0 c1 c2 c3
    obtain ⟨pre, cur, hsp, hle, y, HM⟩ := hrel
    obtain ⟨c0, c1, c2, c3⟩ := Hcells.out _ _ _ _ HM
    have hix : CallsIn Fence.wide (n - 1) Tryd.prog 88 #[.string (ofL cur), .string ⟨#[47]⟩] wr fun e w' => e = .returned (.int .i64 (Lib.indexByte cur 47)) ∧ w' = wr := by
      refine callsIn_wide.2 ?_
      have h := Tryd.strings_Index_one (ofL cur) 47 wr
      have e1 : (ofL cur).data.toList = cur := toL_of cur
      rwa [e1] at h
    by_cases hi : Lib.indexByte cur 47 = -1
    · have hsc := index_none hi
      rw [hi] at hix
      have hy := hY cur pre cur wr ⟨y, HM⟩ (by omega) (by omega)
      obtain ⟨fn, tmps, assign, body, hy, hR⟩ := hy
      have HE : Hid (splitL 47 s = pre ++ [cur]) := by unfold Hid; rw [hsp, hsc]
      clear hsp hsc hi
      gi_wp2_with fail
      refine ⟨trivial, fun h => (by cases h), ?_⟩
      refine hix.mono ?_
      rintro e w6 ⟨rfl, rfl⟩
      clear hix
      gi_wp2_with fail
      refine ⟨fun h => (by cases h), ?_⟩
      refine hR.mono ?_
      rintro e W3 ⟨rfl, y3, HM3⟩
      rw [← HE.out] at HM3
      gi_wp2_with fail
      go_end0
      exact ⟨⟨_, rfl⟩, cur, y3, HM3⟩
    · obtain ⟨k, hk⟩ : ∃ k : Nat, Lib.indexByte cur 47 = (k : Int) := ⟨(Lib.indexByte cur 47).toNat, by have := Lib.indexByte_ge cur 47; omega⟩
      obtain ⟨hkl, hsc⟩ := index_some hk
      have hm1 : Hid (sizeAt sb wr = cur.length) := by
        unfold Hid sizeAt
        rw [c0]; exact ofL_size cur
      rw [hk] at hix
      have hz := ofL_size cur
      have hkt : (cur.take k).length ≤ 9000000 := by rw [List.length_take]; omega
      have hy := hY cur pre (cur.take k) wr ⟨y, HM⟩ hkt (by omega)
      obtain ⟨fn, tmps, assign, body, hy, hR⟩ := hy
      have HE : Hid (splitL 47 s = (pre ++ [cur.take k]) ++ splitL 47 (cur.drop (k + 1))) := by unfold Hid; rw [hsp, hsc, List.append_assoc]; rfl
      have hdl : (cur.drop (k + 1)).length = cur.length - (k + 1) := List.length_drop ..
      have d1 : decide ((k : Int) < 0) = false := decide_eq_false (by omega)
      have d2 : (k : Int) + 0 = (k : Int) := by omega
      have hkb : k ≤ 9000000 := by omega
      have hx1 : Hid (ofL (cur.take k) = (ofL cur).extract 0 k) := by unfold Hid; rw [extract_ofL, List.drop_zero]
      have hx2 : Hid ((ofL cur).extract (k + 1) cur.length = ofL (cur.drop (k + 1))) := by unfold Hid; rw [extract_ofL, List.take_length]
      have hz2 := ofL_size (cur.drop (k + 1))
      rw [hx1.out] at hy
      clear hsp hsc hi hk
      gi_wp2_with fail
      refine ⟨trivial, fun h => (by cases h), ?_⟩
      refine hix.mono ?_
      rintro e w6 ⟨rfl, rfl⟩
      clear hix
      gi_wp2_with fail
      refine ⟨fun h => (by cases h), ?_⟩
      refine hR.mono ?_
      rintro e W3 ⟨rfl, y3, HM3⟩
      clear hR hy HM c0 c1 c2 c3
      obtain ⟨c0, c1, c2, c3⟩ := Hcells.out _ _ _ _ HM3
      have HM4 : Mem fp w0 (SeqC sb pb qb (cur.drop (k + 1)) ++ CH y3 (pre ++ [cur.take k])) _ := HM3.blkSet 0 (.string (ofL (cur.drop (k + 1))))
      have hm2 : Hid (sizeAt sb (W3.setCell ⟨sb, 0, none⟩ (.string ((ofL cur).extract (k + 1) cur.length))) = (cur.drop (k + 1)).length) := by
        unfold Hid sizeAt
        rw [hx2.out, (Hcells.out _ _ _ _ HM4).1]
        exact ofL_size _
      rw [← hx2.out] at HM4
      gi_wp2_with fail
      go_roundw
      case rel => exact ⟨pre ++ [cur.take k], cur.drop (k + 1), HE.out, by rw [List.length_append, List.length_singleton, hdl]; omega, y3, HM4⟩
      case measure => rw [hm1.out, hm2.out, hdl]; omega
end Go.Proofs.YtjhcabjlhnhkbaaDoor
