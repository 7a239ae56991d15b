/-
  Layer 16 (graph): without After no way leads back; the small graph, plainly.
  Layer 16 (graph): the small graph in Go; alive.
-/
import Derived.Test.YtliglejbkpjamaaVGrS0
import Derived.Test.YtliglejbkpjamaaVGrS
set_option linter.unusedVariables false
set_option linter.unusedSimpArgs false
namespace Go.Proofs.Ytliglejbkpjamaa
section
set_option maxRecDepth 20000
open Go.RowKit

theorem aok_get {s0 : List NodeS} {K : Nat} {xs : List NX} (h : AOk s0 K xs) {i : Nat} (hi : i < xs.length) : ∃ hj : i < s0.length, strip xs[i].nd = strip s0[i] := by
  have hj : i < s0.length := by rw [← h.size]; exact hi
  refine ⟨hj, ?_⟩
  have := congrArg (fun l => l[i]?) h.same
  simp only [List.getElem?_map, List.getElem?_eq_getElem hi, List.getElem?_eq_getElem hj, Option.map_some, Option.some.injEq] at this
  exact this
theorem nx_at {xs : List NX} {a b : ByteArray} (h : b ∈ nx (nextP (xs.map NX.nd)) a) : ∃ i, ∃ hi : i < xs.length, xs[i].nd.name = a ∧ b ∈ xs[i].nd.src ++ xs[i].nd.aft := by
  unfold nx at h
  cases hg : mget (nextP (xs.map NX.nd)) a with
  | none => rw [hg] at h; cases h
  | some l =>
    rw [hg] at h
    obtain ⟨i, hi, e, _⟩ := mget_at hg
    have hi' : i < xs.length := by simpa [nextP] using hi
    simp only [nextP, List.getElem_map, Prod.mk.injEq] at e
    exact ⟨i, hi', e.1, by rw [e.2]; exact h⟩
theorem noloop_of {s : VS} {K : Nat} {xs : List NX} (hi : Inv s) (h : AOk s.nodes K xs) (hq : ∀ x, x ∈ xs → x.nd.aft = []) : NoLoop xs := by
  have hnm : ∀ i (h1 : i < xs.length), ∃ h2 : i < s.nodes.length, s.nodes[i].name = xs[i].nd.name ∧ s.nodes[i].src = xs[i].nd.src := fun i h1 => by
    obtain ⟨h2, e⟩ := aok_get h h1
    exact ⟨h2, (congrArg NodeS.name e : (strip _).name = (strip _).name).symm, (congrArg NodeS.src e : (strip _).src = (strip _).src).symm⟩
  have huniq : ∀ i j (h1 : i < xs.length) (h2 : j < xs.length), xs[i].nd.name = xs[j].nd.name → i = j := fun i j h1 h2 e => by
    obtain ⟨a1, a2, _⟩ := hnm i h1
    obtain ⟨b1, b2, _⟩ := hnm j h2
    rcases Nat.lt_trichotomy i j with hl | hl | hl
    · have := List.pairwise_iff_getElem.1 hi.nd i j (by simpa using a1) (by simpa using b1) hl
      rw [List.getElem_map, List.getElem_map, a2, b2] at this
      exact absurd e this
    · exact hl
    · have := List.pairwise_iff_getElem.1 hi.nd j i (by simpa using b1) (by simpa using a1) hl
      rw [List.getElem_map, List.getElem_map, a2, b2] at this
      exact absurd e.symm this
  have hstep : ∀ a b, b ∈ nx (nextP (xs.map NX.nd)) a → ∃ i j, ∃ h1 : i < xs.length, ∃ h2 : j < xs.length, xs[i].nd.name = a ∧ xs[j].nd.name = b ∧ j < i := fun a b hab => by
    obtain ⟨i, h1, e1, e2⟩ := nx_at hab
    rw [hq _ (List.getElem_mem h1), List.append_nil] at e2
    obtain ⟨h2, e3, e4⟩ := hnm i h1
    rw [← e4] at e2
    obtain ⟨j, m, hj, hm, hmn⟩ := hi.src i s.nodes[i] (List.getElem?_eq_getElem h2) b e2
    have hjx : j < xs.length := by omega
    obtain ⟨h3, e5, _⟩ := hnm j hjx
    rw [List.getElem?_eq_getElem h3] at hm
    cases hm
    exact ⟨i, j, h1, hjx, e1, by rw [← e5]; exact hmn, hj⟩
  have hreach : ∀ a b, Reach (nextP (xs.map NX.nd)) a b → ∃ i j, ∃ h1 : i < xs.length, ∃ h2 : j < xs.length, xs[i].nd.name = a ∧ xs[j].nd.name = b ∧ j < i := fun a b hr => by
    induction hr with
    | one h => exact hstep _ _ h
    | more h1 h2 ih =>
      obtain ⟨i, j, a1, a2, a3, a4, a5⟩ := ih
      obtain ⟨i', j', b1, b2, b3, b4, b5⟩ := hstep _ _ h2
      have := huniq i' j b1 a2 (by rw [b3, a4])
      exact ⟨i, j', a1, b2, a3, b4, by omega⟩
  intro x hx hr
  obtain ⟨i, j, a1, a2, a3, a4, a5⟩ := hreach _ _ hr
  have := huniq i j a1 a2 (by rw [a3, a4])
  omega
def acN : ByteArray := ⟨#[97, 46, 99]⟩
def aoN : ByteArray := ⟨#[97, 46, 111]⟩
def smallR : List RuleS := [⟨[⟨#[46, 83, 85, 70, 70, 73, 88, 69, 83]⟩], 1, [⟨#[46, 99]⟩, ⟨#[46, 111]⟩], [], 0⟩, ⟨[⟨#[46, 99, 46, 111]⟩], 1, [], [⟨#[99, 99]⟩], 0⟩, ⟨[⟨#[112]⟩], 1, [aoN], [⟨#[108, 100]⟩], 0⟩]
def smallB : Bool := match joinB smallR with
  | none => false
  | some rules => decide (goalsOf smallR [] = [⟨#[112]⟩]) && decide ((visV smallR rules [acN] [⟨#[112]⟩]).why = 0) && decide ((visV smallR rules [acN] [⟨#[112]⟩]).nodes.map (fun n => (n.name, n.impl, n.cmd.length)) = [(acN, ⟨#[]⟩, 0), (aoN, acN, 1), (⟨#[112]⟩, ⟨#[]⟩, 1)])
set_option maxRecDepth 100000 in
theorem smallB_true : smallB = true := by decide +kernel
theorem small_quiet : Quiet smallR := by
  intro r hr
  simp only [smallR, List.mem_cons, List.not_mem_nil, or_false] at hr
  rcases hr with rfl | rfl | rfl <;> exact ⟨by decide +kernel, by decide +kernel⟩
theorem small_sized : Sized smallR 10 10 10 10 := by
  refine ⟨fun r hr => ?_, by decide, by decide, by decide, by decide, by decide, by decide⟩
  simp only [smallR, List.mem_cons, List.not_mem_nil, or_false] at hr
  rcases hr with rfl | rfl | rfl <;> exact ⟨by decide, by decide, by decide, by decide⟩
/-- The small graph is built, as it should. -/
theorem small_not_bad {why : Int} {nm : ByteArray} (h : Bad smallR [acN] [] why nm) : False := by
  have hb := smallB_true
  unfold smallB at hb
  rcases h.how with h1 | ⟨rules, hj, h1⟩
  · rw [h1] at hb; cases hb
  · rw [hj] at hb
    simp only [Bool.and_eq_true, decide_eq_true_eq] at hb
    obtain ⟨⟨b1, b2⟩, b3⟩ := hb
    rw [b1] at h1
    rcases h1 with h1 | ⟨h1, _⟩ | ⟨_, xs, hA, hq, hn⟩
    · cases h1
    · exact h1 b2
    · exact hn (noloop_of (visV_goes _ _ _ _ b2).inv hA (hq small_quiet))
theorem small_good {gs : List ByteArray} {xs : List NX} (h : Good smallR [acN] [] gs xs) : xs.map (fun x => (x.nd.name, x.nd.impl, x.nd.cmd.length)) = [(acN, ⟨#[]⟩, 0), (aoN, acN, 1), (⟨#[112]⟩, ⟨#[]⟩, 1)] := by
  have hb := smallB_true
  unfold smallB at hb
  obtain ⟨rules, hj, _, hA, _⟩ := h.how
  rw [hj] at hb
  simp only [Bool.and_eq_true, decide_eq_true_eq] at hb
  obtain ⟨⟨b1, b2⟩, b3⟩ := hb
  rw [h.eq, b1] at hA
  have := congrArg (List.map fun n : NodeS => (n.name, n.impl, n.cmd.length)) hA.same
  rw [List.map_map, List.map_map] at this
  exact this.trans b3
end
section
set_option maxRecDepth 100000
open Go.RowKit

def smallX (b : Nat) : List RX := [⟨.slice (some ⟨b, 0, none⟩) 1 1, .slice (some ⟨b + 1, 0, none⟩) 2 2, .slice none 0 0, ⟨[⟨#[46, 83, 85, 70, 70, 73, 88, 69, 83]⟩], 1, [⟨#[46, 99]⟩, ⟨#[46, 111]⟩], [], 0⟩⟩,
  ⟨.slice (some ⟨b + 1 + 1, 0, none⟩) 1 1, .slice none 0 0, .slice (some ⟨b + 1 + 1 + 1, 0, none⟩) 1 1, ⟨[⟨#[46, 99, 46, 111]⟩], 1, [], [⟨#[99, 99]⟩], 0⟩⟩,
  ⟨.slice (some ⟨b + 1 + 1 + 1 + 1, 0, none⟩) 1 1, .slice (some ⟨b + 1 + 1 + 1 + 1 + 1, 0, none⟩) 1 1, .slice (some ⟨b + 1 + 1 + 1 + 1 + 1 + 1, 0, none⟩) 1 1, ⟨[⟨#[112]⟩], 1, [aoN], [⟨#[108, 100]⟩], 0⟩⟩]
set_option maxHeartbeats 4000000 in
theorem small_calls (w : World) : Calls Try.prog 31 #[] w fun e w' => ∃ v xs, e = .returned v ∧ xs.map RX.r = smallR ∧ Mem none_ w (RRow v xs :: Cls xs) w' := by
  have h1 := (Mem.start (fp := none_) w).lit1 ⟨#[46, 83, 85, 70, 70, 73, 88, 69, 83]⟩
  have h2 := h1.lit 9 1 2 [.string ⟨#[46, 99]⟩, .string ⟨#[46, 111]⟩] rfl (by unfold maxLen; omega)
  have h3 := h2.lit1 ⟨#[46, 99, 46, 111]⟩
  have h4 := h3.lit1 ⟨#[99, 99]⟩
  have h5 := h4.lit1 ⟨#[112]⟩
  have h6 := h5.lit1 aoN
  have h7 := h6.lit1 ⟨#[108, 100]⟩
  have h8 := h7.lit 25 5 3 ((smallX w.heap.size).flatMap RX.cells) rfl (by unfold maxLen; omega)
  simp only [sz_alloc] at h8
  have HM : Hid (Mem none_ w (RRow (.slice (some ⟨w.heap.size + 1 + 1 + 1 + 1 + 1 + 1 + 1, 0, none⟩) 3 3) (smallX w.heap.size) :: Cls (smallX w.heap.size)) _) := h8.nilS.nilS.psel (L := [_, _, _, _, _, _, _, _, _, _]) [2, 9, 8, 0, 7, 1, 6, 5, 4, 3] 10 rfl (by decide)
  clear h1 h2 h3 h4 h5 h6 h7 h8
  go_enter Try.func31, Try.ntmps31
  go_wp2_with fail
  go_ret
  exact ⟨_, smallX w.heap.size, rfl, rfl, HM.out⟩
theorem eqP0 (w : World) : (binOp .eql 32 (.agg #[.int .i64 0, .string ⟨#[]⟩, .int .i64 0]) (.agg #[.int .i64 0, .string ⟨#[]⟩, .int .i64 0])).run Try.prog w = .ok (.bool true) w := by kernel_rfl
theorem three_of {α β : Type} {f : α → β} {xs : List α} {p q r : β} (h : xs.map f = [p, q, r]) : ∃ a b c, xs = [a, b, c] := by
  have hl := congrArg List.length h
  rw [List.length_map] at hl
  rcases xs with _ | ⟨a, _ | ⟨b, _ | ⟨c, _ | ⟨d, l⟩⟩⟩⟩
  · cases hl
  · cases hl
  · cases hl
  · exact ⟨a, b, c, rfl⟩
  · simp at hl
set_option maxHeartbeats 8000000 in
theorem alive_calls (w : World) : Calls Try.prog 12 #[] w fun e w' => e = .returned (.bool true) ∧ Mem none_ w [] w' := by
  have hS := small_calls w
  have hp := eqP0
  go_enter Try.func12, Try.ntmps12
  go_wp2_with (first | (go_at_call 31; refine hS.mono ?_; clear hS; rintro e w1 ⟨v, xs, rfl, hxs, hm⟩; have HM1 := Lib.hid (hm.lit1 acN); have hxs := Lib.hid hxs; clear hm))
  have hL : Rules (w1.alloc (.cells #[.string acN] 9)) v smallR := by
    have h := Mem.rules (F := []) (xs := xs) (V := v) (by rw [List.append_nil]; exact HM1.out.tail)
    rw [hxs.out] at h
    exact h
  refine (build_calls v _ (.slice none 0 0) smallR [acN] [] 10 10 10 10 _ hL (Row.sl HM1.out.head) (strs_nil _) small_sized (fun g hg => by cases hg) (by decide) (by decide)).mono ?_
  rintro e w2 (⟨why, nm, pat, hbad, _⟩ | ⟨gs, xs2, GO, NV, hg, rfl, hm2⟩)
  · exact absurd hbad small_not_bad
  have h3 := small_good hg
  obtain ⟨x0, x1, x2, rfl⟩ := three_of h3
  simp only [List.map_cons, List.map_nil, List.cons.injEq, Prod.mk.injEq, and_true] at h3
  obtain ⟨⟨n0, _, _⟩, ⟨_, i1, l1⟩, ⟨n2, _, _⟩⟩ := h3
  obtain ⟨g, c, e1, _, _⟩ := Row.at_ (hm2.at_ 1 rfl) (by simp)
  have e1 : NV = .slice (some ⟨g, 0, none⟩) 3 c := e1
  subst e1
  obtain ⟨Ao, no, co, eo⟩ : ∃ A n c, GO = .slice A n c := by
    obtain ⟨A, c, e, _⟩ := Row.any_ (hm2.at_ 0 rfl)
    exact ⟨A, _, c, e⟩
  subst eo
  obtain ⟨A6, c6, e6, _⟩ := Row.any_ (hm2.at_ 6 rfl)
  rw [l1] at e6
  have HM2 := Lib.hid ((hm2.box #[.slice Ao no co, .slice (some ⟨g, 0, none⟩) 3 c] 29).box #[.int .i64 0, .string ⟨#[]⟩, .int .i64 0] 32)
  have hrow : (NRow (.slice (some ⟨g, 0, none⟩) 3 c) [x0, x1, x2]).ok _ := HM2.out.at_ 3 rfl
  have y0 : World.cell? _ ⟨g, 0, none⟩ = some (.string ⟨#[97, 46, 99]⟩) := (Row.cell hrow (j := 0) rfl).trans (by rw [n0]; rfl)
  have y1 : World.cell? _ ⟨g, 15, none⟩ = some (.string ⟨#[97, 46, 99]⟩) := (Row.cell hrow (j := 15) rfl).trans (by rw [i1]; rfl)
  have y2 : World.cell? _ ⟨g, 13, none⟩ = some (.slice A6 1 c6) := (Row.cell hrow (j := 13) rfl).trans (by rw [e6])
  have y3 : World.cell? _ ⟨g, 20, none⟩ = some (.string ⟨#[112]⟩) := (Row.cell hrow (j := 20) rfl).trans (by rw [n2])
  have HMe := Lib.hid (((HM1.out.got hm2).box #[.slice Ao no co, .slice (some ⟨g, 0, none⟩) 3 c] 29).box #[.int .i64 0, .string ⟨#[]⟩, .int .i64 0] 32)
  have q1 : ((⟨#[97, 46, 99]⟩ : ByteArray).toList == [97, 46, 99]) = true := by decide +kernel
  have q2 : (⟨#[97, 46, 99]⟩ : ByteArray).toList = [97, 46, 99] := by decide +kernel
  have q3 : ((⟨#[112]⟩ : ByteArray).toList == [112]) = true := by decide +kernel
  have q4 : (⟨#[112]⟩ : ByteArray).toList = [112] := by decide +kernel
  clear n0 i1 l1 n2 e6 hrow hL
  unfold retB
  go_wp2_with fail
  go_ret
  exact ⟨rfl, HMe.out.only (fun d hd => by cases hd) .nil⟩
end
end Go.Proofs.Ytliglejbkpjamaa
