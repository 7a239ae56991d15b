/-
  Layer 18 (stale): Newer, Why, plainly; Contains and Has.
-/
import Derived.Test.YtnpehlkdfbmnkaaDoorStlB
import Derived.Test.YtnpehlkdfbmnkaaDoorPthJ
set_option linter.unusedVariables false
set_option linter.unusedSimpArgs false
set_option maxRecDepth 20000
namespace Go.Proofs.YtnpehlkdfbmnkaaDoor
open Go.RowKit

/-- A node, as far as these statements look. -/
structure NdS where
  name : List UInt8
  kind : Int
  src : List (List UInt8)
  cmds : Nat
  phony : Bool
def newerB (s : St) (n : NdS) (made : List (List UInt8)) (x : List UInt8) : Bool :=
  decide ((findS s n.name).2.2 ≠ 0) || decide ((findS s x).2.2 ≠ 0) || decide ((findS s n.name).2.1.time < (findS s x).2.1.time) || decide (x ∈ made)
def newerS (s : St) (n : NdS) (made : List (List UInt8)) : List (List UInt8) := n.src.filter (newerB s n made)
def whyS (s : St) (n : NdS) (made : List (List UInt8)) : Int :=
  if n.cmds = 0 then 0 else if n.phony = true ∨ n.kind = 2 then 2 else if (findS s n.name).2.2 ≠ 0 then 3 else if n.kind = 3 ∧ n.src = [] then 4 else if newerS s n made ≠ [] then 5 else 0

set_option maxHeartbeats 2000000 in
theorem has_calls (V : Value) (l : List (List UInt8)) (x : List UInt8) (w : World) (hV : Txts w V l) :
    Calls Tryd.prog 16 #[V, .string (ofL x)] w fun e w' => e = .returned (.bool (decide (x ∈ l))) ∧ w = w' := by
  obtain ⟨A, c, rfl, h1, h2, h3, h4⟩ := hV
  unfold maxLen at h2
  obtain ⟨R, hR⟩ : ∃ R, decide (x ∈ l) = R := ⟨_, rfl⟩
  rw [hR]
  have HR := Lib.hid hR
  clear hR
  go_enter Tryd.func16, Tryd.ntmps16
  go_wp2_with fail
  go_loop [5] (fun v5 => ∃ k : Nat, k ≤ l.length ∧ v5 = .int .i64 k ∧ x ∉ l.take k) (fun v => l.length - (intOf v).toNat)
  case atStart => exact ⟨0, Nat.zero_le _, rfl, by simp⟩
  case round =>
    obtain ⟨k, hk, rfl, hn⟩ := hrel
    have Hn := Lib.hid hn
    clear hn
    by_cases hlt : k < l.length
    · have hlt' : decide ((k : Int) < (l.length : Int)) = true := decide_eq_true (by omega)
      obtain ⟨b, o, rfl, hcells⟩ := h4.resolve_left (by omega)
      have hx0 : w.cell? ⟨b, o + k, none⟩ = some (.string (ofL l[k])) := hcells k _ (tx_get hlt)
      have hse := str_eq l[k] x
      have HS : Hid (l.take (k + 1) = l.take k ++ [l[k]]) := List.take_succ_eq_append_getElem hlt
      have Hm : Hid (l[k] ∈ l) := List.getElem_mem hlt
      clear hcells h4 h3
      generalize l[k] = y at *
      by_cases hx : y = x
      · rw [decide_eq_true hx] at hse
        have HE : Hid (R = true) := by unfold Hid; rw [← HR.out]; exact decide_eq_true (hx ▸ Hm.out)
        clear hx
        go_wp2_with fail
        go_ret
        exact ⟨by rw [HE.out]; rfl, rfl⟩
      · rw [decide_eq_false hx] at hse
        have Hx := Lib.hid hx
        clear hx
        go_wp2_with fail
        go_round
        case rel =>
          refine ⟨k + 1, by omega, by go_num, ?_⟩
          rw [HS.out, List.mem_append, List.mem_singleton]
          rintro (e | e)
          · exact Hn.out e
          · exact Hx.out e.symm
        case measure => simp [intOf]; omega
    · have hlt' : decide ((k : Int) < (l.length : Int)) = false := decide_eq_false (by omega)
      have e : k = l.length := by omega
      have HE : Hid (R = false) := by
        have := Hn.out
        rw [e, List.take_length] at this
        unfold Hid; rw [← HR.out]; exact decide_eq_false this
      clear e
      go_wp2_with fail
      go_ret
      exact ⟨by rw [HE.out]; rfl, rfl⟩
end Go.Proofs.YtnpehlkdfbmnkaaDoor
