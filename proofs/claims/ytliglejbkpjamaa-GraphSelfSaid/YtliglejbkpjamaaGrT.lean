/-
  Layer 16 (graph): the small graph in Go; alive.
-/
import Derived.Test.YtliglejbkpjamaaGrS
import Derived.Test.YtliglejbkpjamaaGrT0
set_option linter.unusedVariables false
set_option linter.unusedSimpArgs false
set_option maxRecDepth 100000
namespace Go.Proofs.Ytliglejbkpjamaa
open Go.RowKit

def smallX (b : Nat) : List RX := [⟨.slice (some ⟨b, 0, none⟩) 1 1, .slice (some ⟨b + 1, 0, none⟩) 2 2, .slice none 0 0, ⟨[⟨#[46, 83, 85, 70, 70, 73, 88, 69, 83]⟩], 1, [⟨#[46, 99]⟩, ⟨#[46, 111]⟩], [], 0⟩⟩,
  ⟨.slice (some ⟨b + 1 + 1, 0, none⟩) 1 1, .slice none 0 0, .slice (some ⟨b + 1 + 1 + 1, 0, none⟩) 1 1, ⟨[⟨#[46, 99, 46, 111]⟩], 1, [], [⟨#[99, 99]⟩], 0⟩⟩,
  ⟨.slice (some ⟨b + 1 + 1 + 1 + 1, 0, none⟩) 1 1, .slice (some ⟨b + 1 + 1 + 1 + 1 + 1, 0, none⟩) 1 1, .slice (some ⟨b + 1 + 1 + 1 + 1 + 1 + 1, 0, none⟩) 1 1, ⟨[⟨#[112]⟩], 1, [aoN], [⟨#[108, 100]⟩], 0⟩⟩]
set_option maxHeartbeats 4000000 in
theorem small_calls (w : World) : Calls Try.prog 31 #[] w fun e w' => ∃ v xs, e = .returned v ∧ xs.map RX.r = smallR ∧ Mem none_ w (RRow v xs :: Cls xs) w' := by
  have h1 := (Mem.start (fp := none_) w).lit1 ⟨#[46, 83, 85, 70, 70, 73, 88, 69, 83]⟩
  have h2 := h1.lit 9 1 2 [.string ⟨#[46, 99]⟩, .string ⟨#[46, 111]⟩] rfl (by unfold maxLen; omega)
  have h3 := h2.lit1 ⟨#[46, 99, 46, 111]⟩
  have h4 := h3.lit1 ⟨#[99, 99]⟩
  have h5 := h4.lit1 ⟨#[112]⟩
  have h6 := h5.lit1 aoN
  have h7 := h6.lit1 ⟨#[108, 100]⟩
  have h8 := h7.lit 25 5 3 ((smallX w.heap.size).flatMap RX.cells) rfl (by unfold maxLen; omega)
  simp only [sz_alloc] at h8
  have HM : Hid (Mem none_ w (RRow (.slice (some ⟨w.heap.size + 1 + 1 + 1 + 1 + 1 + 1 + 1, 0, none⟩) 3 3) (smallX w.heap.size) :: Cls (smallX w.heap.size)) _) := h8.nilS.nilS.psel (L := [_, _, _, _, _, _, _, _, _, _]) [2, 9, 8, 0, 7, 1, 6, 5, 4, 3] 10 rfl (by decide)
  clear h1 h2 h3 h4 h5 h6 h7 h8
  go_enter Try.func31, Try.ntmps31
  go_wp2_with fail
  go_ret
  exact ⟨_, smallX w.heap.size, rfl, rfl, HM.out⟩
theorem eqP0 (w : World) : (binOp .eql 32 (.agg #[.int .i64 0, .string ⟨#[]⟩, .int .i64 0]) (.agg #[.int .i64 0, .string ⟨#[]⟩, .int .i64 0])).run Try.prog w = .ok (.bool true) w := by kernel_rfl
theorem three_of {α β : Type} {f : α → β} {xs : List α} {p q r : β} (h : xs.map f = [p, q, r]) : ∃ a b c, xs = [a, b, c] := by
  have hl := congrArg List.length h
  rw [List.length_map] at hl
  rcases xs with _ | ⟨a, _ | ⟨b, _ | ⟨c, _ | ⟨d, l⟩⟩⟩⟩
  · cases hl
  · cases hl
  · cases hl
  · exact ⟨a, b, c, rfl⟩
  · simp at hl
set_option maxHeartbeats 8000000 in
theorem alive_calls (w : World) : Calls Try.prog 12 #[] w fun e w' => e = .returned (.bool true) ∧ Mem none_ w [] w' := by
  have hS := small_calls w
  have hp := eqP0
  go_enter Try.func12, Try.ntmps12
  go_wp2_with (first | (go_at_call 31; refine hS.mono ?_; clear hS; rintro e w1 ⟨v, xs, rfl, hxs, hm⟩; have HM1 := Lib.hid (hm.lit1 acN); have hxs := Lib.hid hxs; clear hm))
  have hL : Rules (w1.alloc (.cells #[.string acN] 9)) v smallR := by
    have h := Mem.rules (F := []) (xs := xs) (V := v) (by rw [List.append_nil]; exact HM1.out.tail)
    rw [hxs.out] at h
    exact h
  refine (build_calls v _ (.slice none 0 0) smallR [acN] [] 10 10 10 10 _ hL (Row.sl HM1.out.head) (strs_nil _) small_sized (fun g hg => by cases hg) (by decide) (by decide)).mono ?_
  rintro e w2 (⟨why, nm, pat, hbad, _⟩ | ⟨gs, xs2, GO, NV, hg, rfl, hm2⟩)
  · exact absurd hbad small_not_bad
  have h3 := small_good hg
  obtain ⟨x0, x1, x2, rfl⟩ := three_of h3
  simp only [List.map_cons, List.map_nil, List.cons.injEq, Prod.mk.injEq, and_true] at h3
  obtain ⟨⟨n0, _, _⟩, ⟨_, i1, l1⟩, ⟨n2, _, _⟩⟩ := h3
  obtain ⟨g, c, e1, _, _⟩ := Row.at_ (hm2.at_ 1 rfl) (by simp)
  have e1 : NV = .slice (some ⟨g, 0, none⟩) 3 c := e1
  subst e1
  obtain ⟨Ao, no, co, eo⟩ : ∃ A n c, GO = .slice A n c := by
    obtain ⟨A, c, e, _⟩ := Row.any_ (hm2.at_ 0 rfl)
    exact ⟨A, _, c, e⟩
  subst eo
  obtain ⟨A6, c6, e6, _⟩ := Row.any_ (hm2.at_ 6 rfl)
  rw [l1] at e6
  have HM2 := Lib.hid ((hm2.box #[.slice Ao no co, .slice (some ⟨g, 0, none⟩) 3 c] 29).box #[.int .i64 0, .string ⟨#[]⟩, .int .i64 0] 32)
  have hrow : (NRow (.slice (some ⟨g, 0, none⟩) 3 c) [x0, x1, x2]).ok _ := HM2.out.at_ 3 rfl
  have y0 : World.cell? _ ⟨g, 0, none⟩ = some (.string ⟨#[97, 46, 99]⟩) := (Row.cell hrow (j := 0) rfl).trans (by rw [n0]; rfl)
  have y1 : World.cell? _ ⟨g, 15, none⟩ = some (.string ⟨#[97, 46, 99]⟩) := (Row.cell hrow (j := 15) rfl).trans (by rw [i1]; rfl)
  have y2 : World.cell? _ ⟨g, 13, none⟩ = some (.slice A6 1 c6) := (Row.cell hrow (j := 13) rfl).trans (by rw [e6])
  have y3 : World.cell? _ ⟨g, 20, none⟩ = some (.string ⟨#[112]⟩) := (Row.cell hrow (j := 20) rfl).trans (by rw [n2])
  have HMe := Lib.hid (((HM1.out.got hm2).box #[.slice Ao no co, .slice (some ⟨g, 0, none⟩) 3 c] 29).box #[.int .i64 0, .string ⟨#[]⟩, .int .i64 0] 32)
  have q1 : ((⟨#[97, 46, 99]⟩ : ByteArray).toList == [97, 46, 99]) = true := by decide +kernel
  have q2 : (⟨#[97, 46, 99]⟩ : ByteArray).toList = [97, 46, 99] := by decide +kernel
  have q3 : ((⟨#[112]⟩ : ByteArray).toList == [112]) = true := by decide +kernel
  have q4 : (⟨#[112]⟩ : ByteArray).toList = [112] := by decide +kernel
  clear n0 i1 l1 n2 e6 hrow hL
  unfold retB
  go_wp2_with fail
  go_ret
  exact ⟨rfl, HMe.out.only (fun d hd => by cases hd) .nil⟩
end Go.Proofs.Ytliglejbkpjamaa
