/-
  Layer 16 (graph): without After no way leads back; the small graph, plainly.
-/
import Derived.Test.YtliglejbkpjamaaGrS1
set_option linter.unusedVariables false
set_option linter.unusedSimpArgs false
set_option maxRecDepth 20000
namespace Go.Proofs.Ytliglejbkpjamaa
open Go.RowKit

theorem aok_get {s0 : List NodeS} {K : Nat} {xs : List NX} (h : AOk s0 K xs) {i : Nat} (hi : i < xs.length) : ∃ hj : i < s0.length, strip xs[i].nd = strip s0[i] := by
  have hj : i < s0.length := by rw [← h.size]; exact hi
  refine ⟨hj, ?_⟩
  have := congrArg (fun l => l[i]?) h.same
  simp only [List.getElem?_map, List.getElem?_eq_getElem hi, List.getElem?_eq_getElem hj, Option.map_some, Option.some.injEq] at this
  exact this
theorem nx_at {xs : List NX} {a b : ByteArray} (h : b ∈ nx (nextP (xs.map NX.nd)) a) : ∃ i, ∃ hi : i < xs.length, xs[i].nd.name = a ∧ b ∈ xs[i].nd.src ++ xs[i].nd.aft := by
  unfold nx at h
  cases hg : mget (nextP (xs.map NX.nd)) a with
  | none => rw [hg] at h; cases h
  | some l =>
    rw [hg] at h
    obtain ⟨i, hi, e, _⟩ := mget_at hg
    have hi' : i < xs.length := by simpa [nextP] using hi
    simp only [nextP, List.getElem_map, Prod.mk.injEq] at e
    exact ⟨i, hi', e.1, by rw [e.2]; exact h⟩
theorem noloop_of {s : VS} {K : Nat} {xs : List NX} (hi : Inv s) (h : AOk s.nodes K xs) (hq : ∀ x, x ∈ xs → x.nd.aft = []) : NoLoop xs := by
  have hnm : ∀ i (h1 : i < xs.length), ∃ h2 : i < s.nodes.length, s.nodes[i].name = xs[i].nd.name ∧ s.nodes[i].src = xs[i].nd.src := fun i h1 => by
    obtain ⟨h2, e⟩ := aok_get h h1
    exact ⟨h2, (congrArg NodeS.name e : (strip _).name = (strip _).name).symm, (congrArg NodeS.src e : (strip _).src = (strip _).src).symm⟩
  have huniq : ∀ i j (h1 : i < xs.length) (h2 : j < xs.length), xs[i].nd.name = xs[j].nd.name → i = j := fun i j h1 h2 e => by
    obtain ⟨a1, a2, _⟩ := hnm i h1
    obtain ⟨b1, b2, _⟩ := hnm j h2
    rcases Nat.lt_trichotomy i j with hl | hl | hl
    · have := List.pairwise_iff_getElem.1 hi.nd i j (by simpa using a1) (by simpa using b1) hl
      rw [List.getElem_map, List.getElem_map, a2, b2] at this
      exact absurd e this
    · exact hl
    · have := List.pairwise_iff_getElem.1 hi.nd j i (by simpa using b1) (by simpa using a1) hl
      rw [List.getElem_map, List.getElem_map, a2, b2] at this
      exact absurd e.symm this
  have hstep : ∀ a b, b ∈ nx (nextP (xs.map NX.nd)) a → ∃ i j, ∃ h1 : i < xs.length, ∃ h2 : j < xs.length, xs[i].nd.name = a ∧ xs[j].nd.name = b ∧ j < i := fun a b hab => by
    obtain ⟨i, h1, e1, e2⟩ := nx_at hab
    rw [hq _ (List.getElem_mem h1), List.append_nil] at e2
    obtain ⟨h2, e3, e4⟩ := hnm i h1
    rw [← e4] at e2
    obtain ⟨j, m, hj, hm, hmn⟩ := hi.src i s.nodes[i] (List.getElem?_eq_getElem h2) b e2
    have hjx : j < xs.length := by omega
    obtain ⟨h3, e5, _⟩ := hnm j hjx
    rw [List.getElem?_eq_getElem h3] at hm
    cases hm
    exact ⟨i, j, h1, hjx, e1, by rw [← e5]; exact hmn, hj⟩
  have hreach : ∀ a b, Reach (nextP (xs.map NX.nd)) a b → ∃ i j, ∃ h1 : i < xs.length, ∃ h2 : j < xs.length, xs[i].nd.name = a ∧ xs[j].nd.name = b ∧ j < i := fun a b hr => by
    induction hr with
    | one h => exact hstep _ _ h
    | more h1 h2 ih =>
      obtain ⟨i, j, a1, a2, a3, a4, a5⟩ := ih
      obtain ⟨i', j', b1, b2, b3, b4, b5⟩ := hstep _ _ h2
      have := huniq i' j b1 a2 (by rw [b3, a4])
      exact ⟨i, j', a1, b2, a3, b4, by omega⟩
  intro x hx hr
  obtain ⟨i, j, a1, a2, a3, a4, a5⟩ := hreach _ _ hr
  have := huniq i j a1 a2 (by rw [a3, a4])
  omega
def acN : ByteArray := ⟨#[97, 46, 99]⟩
def aoN : ByteArray := ⟨#[97, 46, 111]⟩
def smallR : List RuleS := [⟨[⟨#[46, 83, 85, 70, 70, 73, 88, 69, 83]⟩], 1, [⟨#[46, 99]⟩, ⟨#[46, 111]⟩], [], 0⟩, ⟨[⟨#[46, 99, 46, 111]⟩], 1, [], [⟨#[99, 99]⟩], 0⟩, ⟨[⟨#[112]⟩], 1, [aoN], [⟨#[108, 100]⟩], 0⟩]
def smallB : Bool := match joinB smallR with
  | none => false
  | some rules => decide (goalsOf smallR [] = [⟨#[112]⟩]) && decide ((visV smallR rules [acN] [⟨#[112]⟩]).why = 0) && decide ((visV smallR rules [acN] [⟨#[112]⟩]).nodes.map (fun n => (n.name, n.impl, n.cmd.length)) = [(acN, ⟨#[]⟩, 0), (aoN, acN, 1), (⟨#[112]⟩, ⟨#[]⟩, 1)])
set_option maxRecDepth 100000 in
theorem smallB_true : smallB = true := by decide +kernel
theorem small_quiet : Quiet smallR := by
  intro r hr
  simp only [smallR, List.mem_cons, List.not_mem_nil, or_false] at hr
  rcases hr with rfl | rfl | rfl <;> exact ⟨by decide +kernel, by decide +kernel⟩
theorem small_sized : Sized smallR 10 10 10 10 := by
  refine ⟨fun r hr => ?_, by decide, by decide, by decide, by decide, by decide, by decide⟩
  simp only [smallR, List.mem_cons, List.not_mem_nil, or_false] at hr
  rcases hr with rfl | rfl | rfl <;> exact ⟨by decide, by decide, by decide, by decide⟩
/-- The small graph is built, as it should. -/
theorem small_not_bad {why : Int} {nm : ByteArray} (h : Bad smallR [acN] [] why nm) : False := by
  have hb := smallB_true
  unfold smallB at hb
  rcases h.how with h1 | ⟨rules, hj, h1⟩
  · rw [h1] at hb; cases hb
  · rw [hj] at hb
    simp only [Bool.and_eq_true, decide_eq_true_eq] at hb
    obtain ⟨⟨b1, b2⟩, b3⟩ := hb
    rw [b1] at h1
    rcases h1 with h1 | ⟨h1, _⟩ | ⟨_, xs, hA, hq, hn⟩
    · cases h1
    · exact h1 b2
    · exact hn (noloop_of (visV_goes _ _ _ _ b2).inv hA (hq small_quiet))
theorem small_good {gs : List ByteArray} {xs : List NX} (h : Good smallR [acN] [] gs xs) : xs.map (fun x => (x.nd.name, x.nd.impl, x.nd.cmd.length)) = [(acN, ⟨#[]⟩, 0), (aoN, acN, 1), (⟨#[112]⟩, ⟨#[]⟩, 1)] := by
  have hb := smallB_true
  unfold smallB at hb
  obtain ⟨rules, hj, _, hA, _⟩ := h.how
  rw [hj] at hb
  simp only [Bool.and_eq_true, decide_eq_true_eq] at hb
  obtain ⟨⟨b1, b2⟩, b3⟩ := hb
  rw [h.eq, b1] at hA
  have := congrArg (List.map fun n : NodeS => (n.name, n.impl, n.cmd.length)) hA.same
  rw [List.map_map, List.map_map] at this
  exact this.trans b3
end Go.Proofs.Ytliglejbkpjamaa
