/-
  Layer 18 (stale): alive.
-/
import Derived.Test.YtnpehlkdfbmnkaaDoorStlX
import Derived.Test.YtnpehlkdfbmnkaaDoorStlD
set_option linter.unusedVariables false
set_option linter.unusedSimpArgs false
set_option maxRecDepth 20000
namespace Go.Proofs.YtnpehlkdfbmnkaaDoor
open Go.RowKit

def aL : List (List UInt8 × List UInt8) := [([97], []), ([116], []), ([98], [])]
def aN : NdS := ⟨[116], 1, [[97], [98]], 1, false⟩
theorem a_newer : newerS (storeS aL) aN [] = [[98]] := by decide +kernel
theorem a_why : whyS (storeS aL) aN [] = 5 := by decide +kernel
theorem a_parse : parseT [67, 32, 120, 10, 82, 32, 97, 10] = ([[120]], [(1, [97])], 0, 0) := by decide +kernel
theorem nilTx (w : World) : Txts w (.slice none 0 0) [] := ⟨none, 0, rfl, Nat.le_refl _, Nat.zero_le _, rfl, .inl rfl⟩

set_option maxHeartbeats 8000000 in
theorem alive_calls (w : World) (hm : MaxV w) : Calls Tryd.prog 11 #[] w fun e w' => e = .returned (.bool true) ∧ Mem none_ w [] w' := by
  have HM0 := (Mem.start (fp := none_) w).lit 76 2 3 (prf aL) rfl (by unfold maxLen; omega)
  have hS := stores_calls _ aL _ (Row.sl HM0.head) (by decide) (by decide)
  have eC : (prf aL).toArray = #[.string ⟨#[97]⟩, .string ⟨#[]⟩, .string ⟨#[116]⟩, .string ⟨#[]⟩, .string ⟨#[98]⟩, .string ⟨#[]⟩] := rfl
  rw [eC] at hS HM0
  go_enter Tryd.func11, Tryd.ntmps11
  go_wp2_with fail
  refine hS.mono ?_
  rintro e w1 ⟨sb, mb, nv, rb, lv, rn, rfl, HM1⟩
  have HM2 := HM0.got HM1
  clear hS HM0 HM1 eC
  generalize World.alloc _ _ = W0 at *
  have HM3 := (HM2.lit 9 1 2 (strs ([[97], [98]].map ofL)) rfl (by unfold maxLen; omega))
  have HM4 := (HM3.lit 9 1 1 (strs ([[120]].map ofL)) rfl (by unfold maxLen; omega))
  have e1 : (strs ([[97], [98]].map ofL)).toArray = #[.string ⟨#[97]⟩, .string ⟨#[98]⟩] := rfl
  have e2 : (strs ([[120]].map ofL)).toArray = #[.string ⟨#[120]⟩] := rfl
  rw [e2, e1] at HM4
  clear e1 e2 HM3
  have e1 : (w1.alloc (.cells #[.string ⟨#[97]⟩, .string ⟨#[98]⟩] 9)).heap.size = w1.heap.size + 1 := by simp
  have e2 : ((w1.alloc (.cells #[.string ⟨#[97]⟩, .string ⟨#[98]⟩] 9)).alloc (.cells #[.string ⟨#[120]⟩] 9)).heap.size = w1.heap.size + 1 + 1 := by simp
  rw [e1] at HM4
  have HM5 := HM4.box #[.string ⟨#[]⟩, .int .i64 0, .slice none 0 0, .slice none 0 0, .slice none 0 0, .string ⟨#[]⟩, .bool false, .bool false, .bool false, .bool false] 32
  have HM6 := HM4.box #[.string ⟨#[116]⟩, .int .i64 1, .slice (some ⟨w1.heap.size, 0, none⟩) 2 2, .slice (some ⟨w1.heap.size + 1, 0, none⟩) 1 1, .slice none 0 0, .string ⟨#[]⟩, .bool false, .bool false, .bool false, .bool false] 32
  rw [e2] at HM5 HM6
  have z0 := Blk.cell_ (HM5.at_ 0 rfl) 0
  have z1 := Blk.cell_ (HM5.at_ 0 rfl) 1
  have z2 := Blk.cell_ (HM5.at_ 0 rfl) 2
  have z3 := Blk.cell_ (HM5.at_ 0 rfl) 3
  have z4 := Blk.cell_ (HM5.at_ 0 rfl) 4
  have z5 := Blk.cell_ (HM5.at_ 0 rfl) 5
  have z6 := Blk.cell_ (HM5.at_ 0 rfl) 6
  have z7 := Blk.cell_ (HM5.at_ 0 rfl) 7
  have z8 := Blk.cell_ (HM5.at_ 0 rfl) 8
  have z9 := Blk.cell_ (HM5.at_ 0 rfl) 9
  simp only [List.getElem?_toArray, List.getElem?_cons_succ, List.getElem?_cons_zero] at z0 z1 z2 z3 z4 z5 z6 z7 z8 z9
  have f0 := Blk.frozen (HM5.at_ 0 rfl) 0
  have f1 := Blk.frozen (HM5.at_ 0 rfl) 1
  have f2 := Blk.frozen (HM5.at_ 0 rfl) 2
  have f3 := Blk.frozen (HM5.at_ 0 rfl) 3
  have f4 := Blk.frozen (HM5.at_ 0 rfl) 4
  have f5 := Blk.frozen (HM5.at_ 0 rfl) 5
  have f6 := Blk.frozen (HM5.at_ 0 rfl) 6
  have f7 := Blk.frozen (HM5.at_ 0 rfl) 7
  have f8 := Blk.frozen (HM5.at_ 0 rfl) 8
  have f9 := Blk.frozen (HM5.at_ 0 rfl) 9
  have y0 := Blk.cell_ (HM6.at_ 0 rfl) 0
  have y1 := Blk.cell_ (HM6.at_ 0 rfl) 1
  have y2 := Blk.cell_ (HM6.at_ 0 rfl) 2
  have y3 := Blk.cell_ (HM6.at_ 0 rfl) 3
  have y4 := Blk.cell_ (HM6.at_ 0 rfl) 4
  have y5 := Blk.cell_ (HM6.at_ 0 rfl) 5
  have y6 := Blk.cell_ (HM6.at_ 0 rfl) 6
  have y7 := Blk.cell_ (HM6.at_ 0 rfl) 7
  have y8 := Blk.cell_ (HM6.at_ 0 rfl) 8
  have y9 := Blk.cell_ (HM6.at_ 0 rfl) 9
  simp only [List.getElem?_toArray, List.getElem?_cons_succ, List.getElem?_cons_zero] at y0 y1 y2 y3 y4 y5 y6 y7 y8 y9
  have hN := newer_calls (HM6.at_ 3 rfl) aN (.slice (some ⟨w1.heap.size, 0, none⟩) 2 2) (.slice (some ⟨w1.heap.size + 1, 0, none⟩) 1 1) (.slice none 0 0) (.slice none 0 0) ⟨#[]⟩ false false false [] (Row.sl (HM6.at_ 2 rfl)) (nilTx _) (by decide) (by decide) (by decide) (by decide) ⟨_, _, _, rfl⟩ ⟨_, _, _, rfl⟩
  rw [a_newer] at hN
  unfold ndC at hN
  have en : ofL aN.name = ⟨#[116]⟩ := rfl
  rw [en] at hN
  clear HM2 HM4 HM5 e1 e2 en
  go_wp2_with fail
  clear z0 z1 z2 z3 z4 z5 z6 z7 z8 z9 f0 f1 f2 f3 f4 f5 f6 f7 f8 f9 y0 y1 y2 y3 y4 y5 y6 y7 y8 y9
  generalize World.alloc _ _ = W1 at *
  generalize w1.heap.size + 1 + 1 = bn at *
  generalize w1.heap.size + 1 = bx at *
  generalize w1.heap.size = bs at *
  refine hN.mono ?_
  rintro e w2 ⟨v4, rfl, HM7⟩
  clear hN
  have HM8 := HM6.got HM7
  simp only [List.cons_append, List.nil_append] at HM8
  clear HM6 HM7
  obtain ⟨A4, c4, rfl, _, _⟩ := Row.any_ (HM8.at_ 0 rfl)
  have hP := parse_calls [67, 32, 120, 10, 82, 32, 97, 10] w2 (MaxV.pure HM8.mu hm) (by decide)
  rw [a_parse] at hP
  have ep : ofL [67, 32, 120, 10, 82, 32, 97, 10] = ⟨#[67, 32, 120, 10, 82, 32, 97, 10]⟩ := rfl
  rw [ep] at hP
  clear ep
  go_wp2_with fail
  refine hP.mono ?_
  rintro e w3 ⟨cv, tv, rfl, HM9⟩
  clear hP
  have HMa := HM8.got HM9
  simp only [List.cons_append, List.nil_append] at HMa
  clear HM8 HM9
  obtain ⟨A5, c5, rfl, _, _⟩ := Row.any_ (HMa.at_ 0 rfl)
  obtain ⟨A6, c6, rfl, _, _⟩ := Row.any_ (HMa.at_ 1 rfl)
  simp only [List.length_cons, List.length_nil, Nat.zero_add] at HMa ⊢
  have HMb := (HMa.box #[.slice none 0 0, .slice none 0 0] 56).box #[.int .i64 0, .int .i64 0] 60
  have HMc := (HMa.box #[.slice A5 1 c5, .slice A6 1 c6] 56).box #[.int .i64 0, .int .i64 0] 60
  have e1 : (w3.alloc (.cells #[.slice none 0 0, .slice none 0 0] 56)).heap.size = w3.heap.size + 1 := by simp
  have e2 : (w3.alloc (.cells #[.slice A5 1 c5, .slice A6 1 c6] 56)).heap.size = w3.heap.size + 1 := by simp
  rw [e1] at HMb
  rw [e2] at HMc
  have a0 := Blk.cell_ (HMb.at_ 0 rfl) 0
  have a1 := Blk.cell_ (HMb.at_ 0 rfl) 1
  simp only [List.getElem?_toArray, List.getElem?_cons_succ, List.getElem?_cons_zero] at a0 a1
  have fa0 := Blk.frozen (HMb.at_ 0 rfl) 0
  have fa1 := Blk.frozen (HMb.at_ 0 rfl) 1
  have b0 := Blk.cell_ (HMb.at_ 1 rfl) 0
  have b1 := Blk.cell_ (HMb.at_ 1 rfl) 1
  simp only [List.getElem?_toArray, List.getElem?_cons_succ, List.getElem?_cons_zero] at b0 b1
  have fb0 := Blk.frozen (HMb.at_ 1 rfl) 0
  have fb1 := Blk.frozen (HMb.at_ 1 rfl) 1
  have y0 := Blk.cell_ (HMc.at_ 5 rfl) 0
  have y1 := Blk.cell_ (HMc.at_ 5 rfl) 1
  have y2 := Blk.cell_ (HMc.at_ 5 rfl) 2
  have y3 := Blk.cell_ (HMc.at_ 5 rfl) 3
  have y4 := Blk.cell_ (HMc.at_ 5 rfl) 4
  have y5 := Blk.cell_ (HMc.at_ 5 rfl) 5
  have y6 := Blk.cell_ (HMc.at_ 5 rfl) 6
  have y7 := Blk.cell_ (HMc.at_ 5 rfl) 7
  have y8 := Blk.cell_ (HMc.at_ 5 rfl) 8
  have y9 := Blk.cell_ (HMc.at_ 5 rfl) 9
  simp only [List.getElem?_toArray, List.getElem?_cons_succ, List.getElem?_cons_zero] at y0 y1 y2 y3 y4 y5 y6 y7 y8 y9
  have hW := why_calls (HMc.at_ 8 rfl) aN (.slice (some ⟨bs, 0, none⟩) 2 2) (.slice (some ⟨bx, 0, none⟩) 1 1) (.slice none 0 0) (.slice none 0 0) ⟨#[]⟩ false false false [] (Row.sl (HMc.at_ 7 rfl)) (nilTx _) (by decide) (by decide) (by decide) (by decide) ⟨_, _, rfl⟩ ⟨_, _, _, rfl⟩
  rw [a_why] at hW
  unfold ndC at hW
  have en : ofL aN.name = ⟨#[116]⟩ := rfl
  rw [en] at hW
  clear HMa HMb e1 e2 en
  go_wp2_with fail
  clear a0 a1 b0 b1 fa0 fa1 fb0 fb1 y0 y1 y2 y3 y4 y5 y6 y7 y8 y9
  generalize World.alloc _ _ = W5 at *
  generalize w3.heap.size + 1 = bf at *
  generalize w3.heap.size = bm at *
  refine hW.mono ?_
  rintro e w6 ⟨rfl, HMd⟩
  have HMe := HMc.got HMd
  simp only [List.cons_append, List.nil_append] at HMe
  clear hW HMc HMd
  have HMf := (HMe.lit 9 1 1 (strs ([[98]].map ofL)) rfl (by unfold maxLen; omega))
  have e1 : (strs ([[98]].map ofL)).toArray = #[.string ⟨#[98]⟩] := rfl
  rw [e1] at HMf
  have hSm := sameT_calls (.slice A4 1 c4) (.slice (some ⟨w6.heap.size, 0, none⟩) 1 1) [[98]] [[98]] _ (Row.sl (HMf.at_ 5 rfl)) (Row.sl (HMf.at_ 0 rfl))
  have ed : decide (([[98]] : List (List UInt8)) = [[98]]) = true := rfl
  rw [ed] at hSm
  clear HMe e1 ed
  go_wp2_with fail
  generalize World.alloc _ _ = W6 at *
  refine hSm.mono ?_
  rintro e w7 ⟨rfl, HMg⟩
  have HMh := HMf.got HMg
  simp only [List.cons_append, List.nil_append] at HMh
  have a0 := Blk.cell_ (HMh.at_ 1 rfl) 0
  have a1 := Blk.cell_ (HMh.at_ 1 rfl) 1
  simp only [List.getElem?_toArray, List.getElem?_cons_succ, List.getElem?_cons_zero] at a0 a1
  have b0 := Blk.cell_ (HMh.at_ 2 rfl) 0
  have b1 := Blk.cell_ (HMh.at_ 2 rfl) 1
  simp only [List.getElem?_toArray, List.getElem?_cons_succ, List.getElem?_cons_zero] at b0 b1
  have HMi := HMh.sel [] (by decide)
  clear hSm HMf HMg HMh
  go_wp2_with fail
  go_ret
  exact ⟨rfl, HMi⟩
end Go.Proofs.YtnpehlkdfbmnkaaDoor
