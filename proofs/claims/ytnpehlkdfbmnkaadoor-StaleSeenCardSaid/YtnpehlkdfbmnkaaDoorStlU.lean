/-
  Layer 18 (stale): cutting, telling, meaning.
  Layer 18 (stale): what a line means, the code's.
-/
import Derived.Test.YtnpehlkdfbmnkaaDoorStlW
import Derived.Test.YtnpehlkdfbmnkaaDoorStlT
import Derived.Test.YtnpehlkdfbmnkaaDoorPthC
set_option linter.unusedVariables false
set_option linter.unusedSimpArgs false
namespace Go.Proofs.YtnpehlkdfbmnkaaDoor
section
set_option maxRecDepth 20000
open Go.RowKit

/-- The library's own variable (how long a text is searched at once) reads as a number. -/
abbrev MaxV (w : World) : Prop := ∃ m, w.cell? ⟨0, 0, none⟩ = some (.int .i64 m)
theorem MaxV.pure {w w' : World} (h : Pure w w') (hm : MaxV w) : MaxV w' := by
  obtain ⟨m, hm⟩ := hm
  exact ⟨m, h.cell hm⟩
theorem toList_ofL (s : List UInt8) : (ofL s).data.toList = s := by simp [ofL]
theorem cut_none (s : List UInt8) (c : UInt8) (w : World) (hm : MaxV w) (hs : s.length ≤ 4000000000) (h : cutB c s = none) :
    Calls Tryd.prog 58 #[.string (ofL s), .string ⟨#[c]⟩] w fun e w' => e = .returned (.tuple #[.string (ofL s), .string ⟨#[]⟩, .bool false]) ∧ ∃ n, w' = w.drewN n := by
  obtain ⟨m, hm⟩ := hm
  refine (Tryd.strings_Cut (ofL s) (ofL [c]) m w (by rw [ofL_size]; omega) hm).mono ?_
  rintro e w' ⟨rfl, n, rfl⟩
  refine ⟨?_, n, rfl⟩
  rw [toList_ofL, toList_ofL, cut_one, h]; rfl
theorem cut_some (s : List UInt8) (c : UInt8) (a b : List UInt8) (w : World) (hm : MaxV w) (hs : s.length ≤ 4000000000) (h : cutB c s = some (a, b)) :
    Calls Tryd.prog 58 #[.string (ofL s), .string ⟨#[c]⟩] w fun e w' => e = .returned (.tuple #[.string (ofL a), .string (ofL b), .bool true]) ∧ ∃ n, w' = w.drewN n := by
  obtain ⟨m, hm⟩ := hm
  refine (Tryd.strings_Cut (ofL s) (ofL [c]) m w (by rw [ofL_size]; omega) hm).mono ?_
  rintro e w' ⟨rfl, n, rfl⟩
  refine ⟨?_, n, rfl⟩
  rw [toList_ofL, toList_ofL, cut_one, h]; rfl
def repB (c : UInt8) (r : List UInt8) (x : UInt8) : List UInt8 := if x = c then r else [x]
theorem rep_len (c : UInt8) (r : List UInt8) (hr : r.length ≤ 2) (hr1 : 1 ≤ r.length) : ∀ s : List UInt8, (s.flatMap (repB c r)).length ≤ 2 * s.length
  | [] => by simp
  | x :: s => by
    have := rep_len c r hr hr1 s
    rw [List.flatMap_cons, List.length_append, List.length_cons]
    have : (repB c r x).length ≤ 2 := by
      unfold repB
      split
      · exact hr
      · simp
    omega
theorem replace_calls (s : List UInt8) (c : UInt8) (r : List UInt8) (w : World) (hm : MaxV w) (hs : s.length ≤ 4000000000) (hr : r.length = 2) :
    Calls Tryd.prog 51 #[.string (ofL s), .string ⟨#[c]⟩, .string (ofL r)] w fun e w' => e = .returned (.string (ofL (s.flatMap (repB c r)))) ∧ Pure w w' := by
  obtain ⟨m, hm⟩ := hm
  have hc := Lib.countB_le (ofL [c]) (by rw [ofL_size]; exact Nat.le_refl _) _ (ofL s) (Nat.le_refl _)
  rw [ofL_size] at hc
  refine (Tryd.strings_ReplaceAll (ofL s) (ofL [c]) (ofL r) m w (by rw [ofL_size]; omega) hm (by rw [ofL_size]; exact Nat.le_refl _) ?_).mono ?_
  · rw [ofL_size, ofL_size, hr]; omega
  · rintro e w' ⟨rfl, hb⟩
    refine ⟨?_, Mut.of_below hb⟩
    rw [toList_ofL, toList_ofL, toList_ofL, replaceAll_one _ _ _ (by intro e; rw [e] at hr; simp at hr)]; rfl
theorem tell_rep (s : List UInt8) : (s.flatMap (repB 92 [92, 92])).flatMap (repB 10 [92, 110]) = tellL s := by
  unfold tellL
  rw [List.flatMap_assoc]
  congr 1
  funext c
  unfold repB escB
  by_cases h : c = 92
  · rw [if_pos h, if_pos h]; rfl
  · rw [if_neg h, if_neg h]; simp
theorem told_calls (s : List UInt8) (w : World) (hm : MaxV w) (hs : s.length ≤ 1000000000) :
    Calls Tryd.prog 53 #[.string (ofL s)] w fun e w' => e = .returned (.string (ofL (tellL s))) ∧ Pure w w' := by
  have h1 := replace_calls s 92 [92, 92] w hm (by omega) rfl
  have hl := rep_len 92 [92, 92] (Nat.le_refl _) (by decide) s
  have h2 := fun wx (hx : Pure w wx) => replace_calls (s.flatMap (repB 92 [92, 92])) 10 [92, 110] wx (MaxV.pure hx hm) (by omega) rfl
  rw [tell_rep] at h2
  generalize s.flatMap (repB 92 [92, 92]) = t at *
  generalize tellL s = u at *
  clear hl hm
  go_enter Tryd.func53, Tryd.ntmps53
  go_wp2_with fail
  refine h1.mono ?_
  rintro e w1 ⟨rfl, hp1⟩
  have h2' := h2 w1 hp1
  clear h1 h2
  go_wp2_with fail
  refine h2'.mono ?_
  rintro e w2 ⟨rfl, hp2⟩
  clear h2'
  go_wp2_with fail
  go_ret
  exact ⟨rfl, hp1.trans hp2⟩
end
section
set_option maxRecDepth 20000
open Go.RowKit

theorem meant_cons {c : UInt8} (h : c ≠ 92) : ∀ s : List UInt8, meantL (c :: s) = (meantL s).map (c :: ·)
  | [] => by simp [meantL, h]
  | d :: r => by rw [meantL, if_neg h]
theorem meant_pre : ∀ {h : List UInt8}, (92 : UInt8) ∉ h → ∀ t, meantL (h ++ t) = (meantL t).map (h ++ ·)
  | [], _, t => by simp
  | x :: h, hn, t => by
    simp only [List.mem_cons, not_or] at hn
    rw [List.cons_append, meant_cons (fun e => hn.1 e.symm), meant_pre hn.2 t, Option.map_map]
    rfl
theorem meant_none {s : List UInt8} (h : cutB 92 s = none) : meantL s = some s := by
  have := meant_pre (cutB_none h) []
  rw [List.append_nil] at this
  rw [this]; simp [meantL]
def meantT (a : List UInt8) : List UInt8 → Option (List UInt8)
  | [] => none
  | x :: r => if x = 92 then (meantL r).map (fun y => (a ++ [92]) ++ y) else if x = 110 then (meantL r).map (fun y => (a ++ [10]) ++ y) else none
theorem meant_some {s a t : List UInt8} (h : cutB 92 s = some (a, t)) : meantL s = meantT a t := by
  obtain ⟨e1, e2⟩ := cutB_len h
  rw [e1, meant_pre e2]
  cases t with
  | nil => simp [meantL, meantT]
  | cons x r =>
    rw [meantL, if_pos rfl, meantT]
    split
    · rw [Option.map_map]; congr 1; funext y; simp
    · split
      · rw [Option.map_map]; congr 1; funext y; simp
      · rfl
def strLen : Value → Nat
  | .string s => s.size
  | _ => 0
theorem pfx_one (s : List UInt8) (c : UInt8) (w : World) :
    Calls Tryd.prog 80 #[.string (ofL s), .string ⟨#[c]⟩] w fun e w' => e = .returned (.bool (decide (s.head? = some c))) ∧ w = w' := by
  refine (Tryd.strings_HasPrefix (ofL s) (ofL [c]) w).mono ?_
  rintro e w' ⟨rfl, rfl⟩
  refine ⟨?_, rfl⟩
  rw [toList_ofL, toList_ofL]
  congr 2
  unfold Lib.hasPrefix
  cases s with
  | nil => rfl
  | cons x r =>
    simp only [List.isPrefixOf, List.head?_cons, Bool.and_true, Option.some.injEq]
    by_cases h : c = x
    · subst h; simp
    · have : ¬ x = c := fun e => h e.symm
      simp [h, this]

set_option maxHeartbeats 4000000 in
theorem meant_calls (s : List UInt8) (w : World) (hm : MaxV w) (hs : s.length ≤ 1000000000) :
    Calls Tryd.prog 59 #[.string (ofL s)] w fun e w' => e = .returned (.tuple #[.string (ofL ((meantL s).getD [])), .bool (meantL s).isSome]) ∧ Pure w w' := by
  obtain ⟨R, hR⟩ : ∃ R, meantL s = R := ⟨_, rfl⟩
  rw [hR]
  have HR := Lib.hid hR
  clear hR
  have hB := bnew w
  have hb0 := (Below.refl w.heap.size w).alloc (Nat.le_refl _) (.cells #[.pointer none, .slice none 0 0] 110)
  have hq0 : w.heap.size ≤ (w.alloc (.cells #[.pointer none, .slice none 0 0] 110)).heap.size := by simp
  go_enter Tryd.func59, Tryd.ntmps59
  go_wp2_with fail
  generalize hbb : w.heap.size = bb at *
  generalize w.alloc _ = W0 at *
  go_loopw [0, 5, 6, 7] (fun v0 v5 v6 v7 wr => ∃ (r acc : List UInt8), v0 = .string (ofL r) ∧ acc.length + r.length ≤ s.length ∧ BldB bb acc wr ∧ Below bb w wr ∧ bb ≤ wr.heap.size ∧ Hid (R = (meantL r).map (acc ++ ·))) (fun v0 _ _ _ _ => strLen v0)
  case atStart => exact ⟨s, [], rfl, by simp, hB, hb0, hq0, by unfold Hid; rw [← HR.out]; simp⟩
  case round =>
    clear hB hb0 hq0 HR
    obtain ⟨r, acc, rfl, hlen, hB, hb, hq, HR⟩ := hrel
    have hp : Pure w wr := Mut.of_below (hbb ▸ hb)
    have hmr := MaxV.pure hp hm
    clear hm
    cases hc : cutB 92 r with
    | none =>
      have hC := cut_none r 92 wr hmr (by omega) hc
      have HE : Hid (R = some (acc ++ r)) := by unfold Hid; rw [HR.out, meant_none hc]; rfl
      clear hc HR
      go_wp2_with fail
      refine hC.mono ?_
      rintro e w1 ⟨rfl, n, rfl⟩
      have hB1 : BldB bb acc (wr.drewN n) := hB
      have hb1 : Below bb w (wr.drewN n) := ⟨hb.os, hb.tape, hb.output, hb.size, hb.block⟩
      have hq1 : bb ≤ (wr.drewN n).heap.size := hq
      generalize wr.drewN n = w1 at *
      have hW := bws_calls bb acc r w1 hB1 (by omega) hq1
      clear hC hB hb hq hp hmr hB1
      go_wp2_with fail
      refine hW.mono ?_
      rintro e w2 ⟨rfl, hB2, hb2⟩
      have hS := bstr_calls bb (acc ++ r) w2 hB2 (Nat.le_trans hq1 hb2.size)
      have hb3 := hb1.trans hb2
      clear hW hB2 hb1 hb2
      go_wp2_with fail
      refine hS.mono ?_
      rintro e w3 ⟨rfl, hb4⟩
      have hb5 := hb3.trans hb4
      clear hS hb3 hb4
      go_wp2_with fail
      refine bodyPost_ret (v := .tuple #[.string (ofL (acc ++ r)), .bool true]) (by simp [results, Tryd.results59, go_sem]) rfl ⟨?_, Mut.of_below (hbb ▸ hb5)⟩
      rw [HE.out]; rfl
    | some p =>
      obtain ⟨a, t⟩ := p
      have hC := cut_some r 92 a t wr hmr (by omega) hc
      obtain ⟨e1, _⟩ := cutB_len hc
      have hl2 := congrArg List.length e1
      rw [List.length_append, List.length_cons] at hl2
      have HE : Hid (R = (meantT a t).map (acc ++ ·)) := by unfold Hid; rw [HR.out, meant_some hc]
      clear hc HR e1
      go_wp2_with fail
      refine hC.mono ?_
      rintro e w1 ⟨rfl, n, rfl⟩
      have hB1 : BldB bb acc (wr.drewN n) := hB
      have hb1 : Below bb w (wr.drewN n) := ⟨hb.os, hb.tape, hb.output, hb.size, hb.block⟩
      have hq1 : bb ≤ (wr.drewN n).heap.size := hq
      generalize wr.drewN n = w1 at *
      have hW := bws_calls bb acc a w1 hB1 (by omega) hq1
      clear hC hB hb hq hp hmr hB1
      go_wp2_with fail
      refine hW.mono ?_
      rintro e w2 ⟨rfl, hB2, hb2⟩
      have hq2 := Nat.le_trans hq1 hb2.size
      have hb3 := hb1.trans hb2
      have hH := pfx_one t 92 w2
      clear hW hb1 hb2 hq1
      cases t with
      | nil =>
        have hI := pfx_one [] 110 w2
        have q1 : decide (([] : List UInt8).head? = some 92) = false := rfl
        have q2 : decide (([] : List UInt8).head? = some 110) = false := rfl
        rw [q1] at hH
        rw [q2] at hI
        clear q1 q2
        go_wp2_with fail
        refine hH.mono ?_
        rintro e wx ⟨rfl, rfl⟩
        clear hH
        go_wp2_with fail
        refine hI.mono ?_
        rintro e wx ⟨rfl, rfl⟩
        clear hI
        go_wp2_with fail
        refine bodyPost_ret (v := .tuple #[.string ⟨#[]⟩, .bool false]) (by simp [results, Tryd.results59, go_sem]) rfl ⟨?_, Mut.of_below (hbb ▸ hb3)⟩
        rw [HE.out]; rfl
      | cons x r' =>
        have hI := pfx_one (x :: r') 110 w2
        by_cases hx : x = 92
        · have q1 : decide ((x :: r').head? = some 92) = true := by simp [hx]
          rw [q1] at hH
          have HF : Hid (R = (meantL r').map ((acc ++ a ++ [92]) ++ ·)) := by
            unfold Hid; rw [HE.out, meantT, if_pos hx, Option.map_map]; congr 1; funext y; simp
          clear q1 hI hx HE
          have hT : Hid ((ofL (x :: r')).extract 1 (x :: r').length = ofL r') := by unfold Hid; rw [extract_ofL, List.take_length]; rfl
          have hW := bwb_calls bb (acc ++ a) 92 92 rfl w2 hB2 (by rw [List.length_append]; omega) hq2
          have hz := ofL_size (x :: r')
          have hone : 1 ≤ (x :: r').length := by simp
          have hl3 : (acc ++ a ++ [92]).length + r'.length ≤ s.length := by simp only [List.length_append, List.length_cons, List.length_nil] at hl2 hlen ⊢; omega
          have hmx : strLen (.string (ofL r')) < strLen (.string (ofL r)) := by
            simp only [strLen, ofL_size]
            simp only [List.length_cons] at hl2
            omega
          clear hl2 hlen hB2
          generalize ofL (x :: r') = T at *
          generalize (x :: r').length = TL at *
          go_wp2_with fail
          refine hH.mono ?_
          rintro e wx ⟨rfl, rfl⟩
          clear hH
          go_wp2_with fail
          refine hW.mono ?_
          rintro e w4 ⟨rfl, hB4, hb4⟩
          have hb5 := hb3.trans hb4
          have hq5 := Nat.le_trans hq2 hb4.size
          clear hW hb3 hb4 hq2
          go_wp2_with fail
          go_roundw
          case rel => exact ⟨r', acc ++ a ++ [92], by rw [hT.out], hl3, hB4, hb5, hq5, HF⟩
          case measure => rw [hT.out]; exact hmx
        · have q1 : decide ((x :: r').head? = some 92) = false := by simp [hx]
          rw [q1] at hH
          by_cases hy : x = 110
          · have q2 : decide ((x :: r').head? = some 110) = true := by simp [hy]
            rw [q2] at hI
            have HF : Hid (R = (meantL r').map ((acc ++ a ++ [10]) ++ ·)) := by
              unfold Hid; rw [HE.out, meantT, if_neg hx, if_pos hy, Option.map_map]; congr 1; funext y; simp
            clear q1 q2 hx hy HE
            have hT : Hid ((ofL (x :: r')).extract 1 (x :: r').length = ofL r') := by unfold Hid; rw [extract_ofL, List.take_length]; rfl
            have hW := bwb_calls bb (acc ++ a) 10 10 rfl w2 hB2 (by rw [List.length_append]; omega) hq2
            have hz := ofL_size (x :: r')
            have hone : 1 ≤ (x :: r').length := by simp
            have hl3 : (acc ++ a ++ [10]).length + r'.length ≤ s.length := by simp only [List.length_append, List.length_cons, List.length_nil] at hl2 hlen ⊢; omega
            have hmx : strLen (.string (ofL r')) < strLen (.string (ofL r)) := by
              simp only [strLen, ofL_size]
              simp only [List.length_cons] at hl2
              omega
            clear hl2 hlen hB2
            generalize ofL (x :: r') = T at *
            generalize (x :: r').length = TL at *
            go_wp2_with fail
            refine hH.mono ?_
            rintro e wx ⟨rfl, rfl⟩
            clear hH
            go_wp2_with fail
            refine hI.mono ?_
            rintro e wx ⟨rfl, rfl⟩
            clear hI
            go_wp2_with fail
            refine hW.mono ?_
            rintro e w4 ⟨rfl, hB4, hb4⟩
            have hb5 := hb3.trans hb4
            have hq5 := Nat.le_trans hq2 hb4.size
            clear hW hb3 hb4 hq2
            go_wp2_with fail
            go_roundw
            case rel => exact ⟨r', acc ++ a ++ [10], by rw [hT.out], hl3, hB4, hb5, hq5, HF⟩
            case measure => rw [hT.out]; exact hmx
          · have q2 : decide ((x :: r').head? = some 110) = false := by simp [hy]
            rw [q2] at hI
            have HE' : Hid (R = none) := by unfold Hid; rw [HE.out, meantT, if_neg hx, if_neg hy]; rfl
            clear q1 q2 hx hy HE
            rename Hid (R = none) => HE
            go_wp2_with fail
            refine hH.mono ?_
            rintro e wx ⟨rfl, rfl⟩
            clear hH
            go_wp2_with fail
            refine hI.mono ?_
            rintro e wx ⟨rfl, rfl⟩
            clear hI
            go_wp2_with fail
            refine bodyPost_ret (v := .tuple #[.string ⟨#[]⟩, .bool false]) (by simp [results, Tryd.results59, go_sem]) rfl ⟨?_, Mut.of_below (hbb ▸ hb3)⟩
            rw [HE.out]; rfl
end
end Go.Proofs.YtnpehlkdfbmnkaaDoor
