/-
  The walks of layer 19 (plan): theirs, alive.
-/
/-
  The walks of layer 19 (plan): alive.
-/
import Derived.Test.YtliglejbkpjamaaVPlanS
set_option linter.unusedVariables false
set_option linter.unusedSimpArgs false
section
namespace Go.Proofs.Ytliglejbkpjamaa
open Go.RowKit

theorem nodE : Elem Try.prog 27 38 10 120 := Elem.of (z := .agg #[.string ⟨#[]⟩, .int .i64 0, .slice none 0 0, .slice none 0 0, .slice none 0 0, .string ⟨#[]⟩, .bool false, .bool false, .bool false, .bool false]) Try.underlying27 (by kernel_rfl) rfl (by decide) (by decide)

end Go.Proofs.Ytliglejbkpjamaa
end
section
namespace Go.Proofs.Ytliglejbkpjamaa
open Go.RowKit

abbrev sa : ByteArray := ⟨#[97]⟩
abbrev sb : ByteArray := ⟨#[98]⟩
abbrev sc : ByteArray := ⟨#[99]⟩
def gAlive : List Nd := [⟨sa, [], []⟩, ⟨sb, [sa], []⟩, ⟨sc, [sa], []⟩]
def pAlive0 : PS := (buildOf gAlive).getD ⟨[], [], [], [], [], [], []⟩
theorem alive_built : buildOf gAlive = some pAlive0 := by kernel_rfl
theorem alive_r0 : readyS pAlive0 = [sa] := by kernel_rfl
theorem alive_b : startS pAlive0 sb = (pAlive0, 16) := by kernel_rfl
def pAlive1 : PS := (startS pAlive0 sa).1
theorem alive_a : startS pAlive0 sa = (pAlive1, 0) := by kernel_rfl
def pAlive2 : PS := (finishS pAlive1 sa true).1
theorem alive_f : finishS pAlive1 sa true = (pAlive2, 0) := by kernel_rfl
theorem alive_r2 : readyS pAlive2 = [sb, sc] := by kernel_rfl
theorem alive_o : overS pAlive2 = false := by kernel_rfl

def cAlive (v w : Value) : List Value := [.string sa, .int .i64 0, .slice none 0 0, .slice none 0 0, .slice none 0 0, .string ⟨#[]⟩, .bool false, .bool false, .bool false, .bool false,
  .string sb, .int .i64 0, v, .slice none 0 0, .slice none 0 0, .string ⟨#[]⟩, .bool false, .bool false, .bool false, .bool false,
  .string sc, .int .i64 0, w, .slice none 0 0, .slice none 0 0, .string ⟨#[]⟩, .bool false, .bool false, .bool false, .bool false]
theorem strs_nilP (w : World) : Strs w (.slice none 0 0) [] := ⟨none, 0, rfl, Nat.le_refl _, Nat.zero_le _, rfl, .inl rfl⟩

theorem alive_nodes {fp : Nat → Prop} {w0 W : World} {c0 : Chunk} {v x y : Value} (h : Mem fp w0 [c0, Row 38 10 v 3 (cAlive x y), StrRow y [sa], StrRow x [sa]] W) : Nodes W v gAlive := by
  refine ⟨_, Row.sl (h.at_ 1 rfl), fun i hi => ?_⟩
  match i, hi with
  | 0, _ => exact ⟨0, _, none, 0, 0, _, ⟨#[]⟩, false, false, false, false, rfl, strs_nilP _, strs_nilP _⟩
  | 1, _ => exact ⟨0, _, none, 0, 0, _, ⟨#[]⟩, false, false, false, false, rfl, Row.sl (h.at_ 3 rfl), strs_nilP _⟩
  | 2, _ => exact ⟨0, _, none, 0, 0, _, ⟨#[]⟩, false, false, false, false, rfl, Row.sl (h.at_ 2 rfl), strs_nilP _⟩

set_option maxHeartbeats 4000000 in
theorem alive_callsP (w : World) : Calls Try.prog 8 #[] w fun e w' => e = .returned (.bool true) ∧ Mem none_ w [] w' := by
  have HM0 := ((((Mem.start (fp := none_) w).lit1 sa).lit1 sa).lit 38 10 3 (cAlive (.slice (some ⟨w.heap.size, 0, none⟩) 1 1) (.slice (some ⟨w.heap.size + 1, 0, none⟩) 1 1)) rfl (by unfold maxLen; omega)).box #[.slice none 0 0, .slice (some ⟨w.heap.size + 1 + 1, 0, none⟩) 3 3] 29
  simp only [World.size_alloc] at HM0
  have hN := alive_nodes HM0
  have hnew := New_calls (.slice none 0 0) _ gAlive _ hN (by decide) (by decide)
  have HMs := HM0.sel [] (by decide)
  clear hN HM0
  simp only [cAlive] at hnew HMs
  go_enter Try.func8, Try.ntmps8
  go_wp2_with fail
  refine hnew.mono ?_
  rintro e w1 ⟨_, h1⟩
  obtain ⟨b, V, rfl, hO, HM1'⟩ := h1 _ alive_built
  have HM1 : Mem none_ w [PlanC b V pAlive0] w1 := HMs.got HM1'
  have hG0 := (build_good alive_built hO).1
  have hG1 : PG pAlive1 := hG0.start sa
  have hG2 : PG pAlive2 := hG1.finish sa true
  clear h1 hnew HMs HM1' hO
  go_wp2_with fail
  refine (Ready_calls b V pAlive0 _ (HM1.at_ 0 rfl) hG0).mono ?_
  rintro e w2 ⟨v2, rfl, HM2'⟩
  have HM2 := HM1.got HM2'
  clear HM1 HM2'
  rw [alive_r0] at HM2
  have HM3 := HM2.lit1 sa
  go_wp2_with fail
  refine (same_callsP _ _ [sa] [sa] _ (Row.sl (HM3.at_ 1 rfl)) (Row.sl (HM3.at_ 0 rfl))).mono ?_
  rintro e w3 ⟨rfl, HM4'⟩
  have HM4 : Mem none_ w [PlanC b V pAlive0] w3 := (HM3.got HM4').sel [2] (by decide)
  clear HM2 HM3 HM4'
  have e1 : sameP [sa] [sa] = true := decide_eq_true rfl
  rw [e1]
  go_wp2_with fail
  refine (Start_calls b V pAlive0 sb _ (HM4.at_ 0 rfl) hG0).mono ?_
  rintro e w4 ⟨rfl, HM5'⟩
  rw [alive_b] at HM5' ⊢
  have HM5 : Mem none_ w [PlanC b V pAlive0] w4 := HM4.call1 HM5'
  clear HM4 HM5' e1
  go_wp2_with fail
  refine (Start_calls b V pAlive0 sa _ (HM5.at_ 0 rfl) hG0).mono ?_
  rintro e w5 ⟨rfl, HM6'⟩
  rw [alive_a] at HM6' ⊢
  have HM6 : Mem none_ w [PlanC b V pAlive1] w5 := HM5.call1 HM6'
  clear HM5 HM6'
  go_wp2_with fail
  refine (Finish_calls b V pAlive1 sa true _ (HM6.at_ 0 rfl) hG1).mono ?_
  rintro e w6 ⟨rfl, HM7'⟩
  rw [alive_f] at HM7' ⊢
  have HM7 : Mem none_ w [PlanC b V pAlive2] w6 := HM6.call1 HM7'
  clear HM6 HM7'
  go_wp2_with fail
  refine (Ready_calls b V pAlive2 _ (HM7.at_ 0 rfl) hG2).mono ?_
  rintro e w7 ⟨v7, rfl, HM8'⟩
  have HM8 := HM7.got HM8'
  clear HM7 HM8'
  rw [alive_r2] at HM8
  have HM9 := HM8.lit 9 1 2 [.string sb, .string sc] rfl (by unfold maxLen; omega)
  go_wp2_with fail
  refine (same_callsP _ _ [sb, sc] [sb, sc] _ (Row.sl (HM9.at_ 1 rfl)) (Row.sl (HM9.at_ 0 rfl))).mono ?_
  rintro e w8 ⟨rfl, HM10'⟩
  have HM10 : Mem none_ w [PlanC b V pAlive2] w8 := (HM9.got HM10').sel [2] (by decide)
  clear HM8 HM9 HM10'
  have e1 : sameP [sb, sc] [sb, sc] = true := decide_eq_true rfl
  rw [e1]
  go_wp2_with fail
  refine (Over_calls b V pAlive2 _ (HM10.at_ 0 rfl) hG2).mono ?_
  rintro e w9 ⟨rfl, hp⟩
  have HM11 := (HM10.keep hp).sel [] (by decide)
  rw [alive_o]
  clear HM10 hp e1
  go_wp2
  go_ret
  exact ⟨rfl, HM11⟩
end Go.Proofs.Ytliglejbkpjamaa
end
