/-
  Layer 02 (path): the walks of the statements.
-/
import Derived.Test.YtclpbifcngohmaaDoorPthJ
set_option linter.unusedVariables false
set_option linter.unusedSimpArgs false
namespace Go.Proofs.YtclpbifcngohmaaDoor
open Go.RowKit

theorem lit_self (x : List UInt8) : ((ofL x).toList == (ofL x).toList) = true := by rw [strsEq]; exact decide_eq_true rfl
theorem Mem.litT {fp : Nat → Prop} {w0 W : World} {F : List Chunk} (h : Mem fp w0 F W) (l : List (List UInt8)) (hl : l.length ≤ 1000) : Mem fp w0 (TRow (.slice (some ⟨W.heap.size, 0, none⟩) l.length l.length) l :: F) (W.alloc (.cells (strs (l.map ofL)).toArray 9)) :=
  h.lit 9 1 l.length (strs (l.map ofL)) (by rw [strs_length, List.length_map]; omega) (by unfold maxLen; omega)
theorem clean1 : cleanL [97, 47, 47, 46, 47, 98, 47, 46, 46, 47, 99] = [97, 47, 99] := by decide +kernel
theorem clean2 : cleanL [47, 46, 46, 47, 120] = [47, 120] := by decide +kernel
theorem join1 : JoinL [[97], [], [98]] = [97, 47, 98] := by decide +kernel
theorem suf1 : suffixL [100, 47, 120, 46, 99] = [46, 99] := by decide +kernel
theorem alive_calls (w : World) : Calls Tryd.prog 10 #[] w fun e w' => e = .returned (.bool true) ∧ Mem none_ w [] w' := by
  have h1 := pclean_calls [97, 47, 47, 46, 47, 98, 47, 46, 46, 47, 99] w (by decide)
  have h2 := fun wx => pclean_calls [47, 46, 46, 47, 120] wx (by decide)
  rw [clean1] at h1
  rw [clean2] at h2
  have h3 := fun wx => psuffix_calls [100, 47, 120, 46, 99] wx (by decide)
  rw [suf1] at h3
  have e1 : ((ofL [97, 47, 99]).toList == [97, 47, 99]) = true := (lit_eq _ _).trans (by decide)
  have e2 : ((ofL [47, 120]).toList == [47, 120]) = true := (lit_eq _ _).trans (by decide)
  have e3 : ((ofL [97, 47, 98]).toList == [97, 47, 98]) = true := (lit_eq _ _).trans (by decide)
  have e4 : ((ofL [46, 99]).toList == [46, 99]) = true := (lit_eq _ _).trans (by decide)
  have HM0 := Mem.start (fp := none_) w
  go_enter Tryd.func10, Tryd.ntmps10
  go_wp2_with fail
  refine h1.mono ?_
  rintro e w1 ⟨rfl, HM1⟩
  have HM2 := HM0.got HM1
  simp only [List.nil_append] at HM2
  have h2 := h2 w1
  clear h1 HM0 HM1
  go_wp2_with fail
  refine h2.mono ?_
  rintro e w2 ⟨rfl, HM3⟩
  have HM4 := HM2.got HM3
  simp only [List.nil_append] at HM4
  clear h2 HM2 HM3
  have HM5 := HM4.litT [[97], [], [98]] (by decide)
  have h4 := pjoin_calls (.slice (some ⟨w2.heap.size, 0, none⟩) 3 3) [[97], [], [98]] _ (Row.sl HM5.head) (by decide)
  rw [join1] at h4
  go_wp2_with fail
  refine h4.mono ?_
  rintro e w3 ⟨rfl, HM6⟩
  have HM7 := (HM5.got HM6).sel [] (by decide)
  have h3 := h3 w3
  clear h4 HM4 HM5 HM6
  go_wp2_with fail
  refine h3.mono ?_
  rintro e w4 ⟨rfl, rfl⟩
  clear h3
  go_wp2_with fail
  go_ret
  exact ⟨rfl, HM7⟩
def farB (l : List (List UInt8)) : Bool := l.any (fun x => decide (3000 < x.length))
set_option maxHeartbeats 1000000 in
theorem far_calls (V : Value) (l : List (List UInt8)) (w : World) (hV : Txts w V l) (hl : l.length ≤ 140737488351232) :
    Calls Tryd.prog 9 #[V] w fun e w' => e = .returned (.bool (farB l)) ∧ w = w' := by
  obtain ⟨A, c, rfl, h1, h2, h3, h4⟩ := hV
  unfold maxLen at h2
  go_enter Tryd.func9, Tryd.ntmps9
  go_wp2_with fail
  go_loop [7] (fun v7 => ∃ k : Nat, k ≤ l.length ∧ v7 = .int .i64 k ∧ Hid (farB (l.take k) = false)) (fun v => l.length - (intOf v).toNat)
  case atStart => exact ⟨0, Nat.zero_le _, rfl, rfl⟩
  case round =>
    obtain ⟨k, hk, rfl, hno⟩ := hrel
    by_cases hlt : k < l.length
    · have hlt' : decide ((k : Int) < (l.length : Int)) = true := decide_eq_true (by omega)
      obtain ⟨b, o, rfl, hcells⟩ := h4.resolve_left (by omega)
      have hx0 : w.cell? ⟨b, o + k, none⟩ = some (.string (ofL l[k])) := hcells k _ (tx_get hlt)
      have hz := ofL_size l[k]
      have hsn : farB (l.take (k + 1)) = (farB (l.take k) || decide (3000 < l[k].length)) := by
        unfold farB
        rw [List.take_succ_eq_append_getElem hlt, List.any_append]; simp
      rw [hno.out, Bool.false_or] at hsn
      clear hcells h4
      by_cases hx : 3000 < l[k].length
      · have HR : Hid (farB l = true) := by
          unfold Hid farB
          rw [List.any_eq_true]
          exact ⟨l[k], List.getElem_mem hlt, decide_eq_true hx⟩
        have d1 : decide (3000 < (l[k].length : Int)) = true := decide_eq_true (by omega)
        clear hsn
        generalize l[k] = x at *
        go_wp2_with fail
        go_ret
        exact ⟨by rw [HR.out]; rfl, rfl⟩
      · rw [decide_eq_false hx] at hsn
        have Hsn := Lib.hid hsn
        have d1 : decide (3000 < (l[k].length : Int)) = false := decide_eq_false (by omega)
        clear hsn
        generalize l[k] = x at *
        go_wp2_with fail
        go_round
        case rel => exact ⟨k + 1, by omega, by go_num, Hsn⟩
        case measure => simp [intOf]; omega
    · have e : k = l.length := by omega
      subst e
      have HR : Hid (farB l = false) := by have := hno.out; rw [List.take_length] at this; exact Lib.hid this
      go_wp2_with fail
      go_ret
      exact ⟨by rw [HR.out]; rfl, rfl⟩
set_option maxHeartbeats 2000000 in
theorem cuts_calls (s : List UInt8) (w : World) (hs : s.length ≤ 140737488351232) :
    Calls Tryd.prog 7 #[.string (ofL s)] w fun e w' => e = .returned (.bool true) ∧ Mem none_ w [] w' := by
  have a1 := pdir_calls s w hs
  have a2 := rdir_calls s w hs
  have b1 := pname_calls s w hs
  have b2 := rname_calls s w hs
  have c1 := psuffix_calls s w hs
  have c2 := rsuffix_calls s w hs
  have d1 := proot_calls s w hs
  have d2 := rroot_calls s w hs
  have e1 := lit_self (dirL s)
  have e2 := lit_self (nameL s)
  have e3 := lit_self (suffixL s)
  have e4 := lit_self (rootL s)
  have hal := alive_calls w
  generalize dirL s = x1 at *
  generalize nameL s = x2 at *
  generalize suffixL s = x3 at *
  generalize rootL s = x4 at *
  go_enter Tryd.func7, Tryd.ntmps7
  go_wp2_with fail
  refine a1.mono ?_
  rintro e w1 ⟨rfl, rfl⟩
  go_wp2_with fail
  refine a2.mono ?_
  rintro e w1 ⟨rfl, rfl⟩
  go_wp2_with fail
  refine b1.mono ?_
  rintro e w1 ⟨rfl, rfl⟩
  go_wp2_with fail
  refine b2.mono ?_
  rintro e w1 ⟨rfl, rfl⟩
  go_wp2_with fail
  refine c1.mono ?_
  rintro e w1 ⟨rfl, rfl⟩
  go_wp2_with fail
  refine c2.mono ?_
  rintro e w1 ⟨rfl, rfl⟩
  go_wp2_with fail
  refine d1.mono ?_
  rintro e w1 ⟨rfl, rfl⟩
  go_wp2_with fail
  refine d2.mono ?_
  rintro e w1 ⟨rfl, rfl⟩
  go_wp2_with fail
  refine hal.mono ?_
  rintro e w1 ⟨rfl, HM⟩
  clear a1 a2 b1 b2 c1 c2 d1 d2 hal
  go_wp2_with fail
  go_ret
  exact ⟨rfl, HM⟩
end Go.Proofs.YtclpbifcngohmaaDoor
