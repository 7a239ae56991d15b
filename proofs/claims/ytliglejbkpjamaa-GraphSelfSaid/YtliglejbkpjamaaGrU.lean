/-
  Layer 16 (graph): a target that needs itself.
-/
import Derived.Test.YtliglejbkpjamaaGrT0
set_option linter.unusedVariables false
set_option linter.unusedSimpArgs false
set_option maxRecDepth 100000
namespace Go.Proofs.Ytliglejbkpjamaa
open Go.RowKit

def nameS (i : Nat) : ByteArray := ⟨#[116, UInt8.ofNat (97 + i)]⟩
theorem nameS_eq (i : Nat) : (⟨#[116]⟩ ++ ⟨#[UInt8.ofNat (97 + i)]⟩ : ByteArray) = nameS i := by
  apply ByteArray.ext
  rw [ByteArray.data_append]
  rfl
set_option maxHeartbeats 4000000 in
theorem name_calls (i : Nat) (w : World) (hi : i < 20) : Calls Try.prog 14 #[.int .i64 i] w fun e w' => e = .returned (.string (nameS i)) ∧ Mem none_ w [] w' := by
  have HM := (Mem.start (fp := none_) w).box #[.int .u8 (97 + (i : Int))] 5
  have hcv : (convert 74 9 (.slice (some ⟨w.heap.size, 0, none⟩) 1 1)).run Try.prog (w.alloc (.cells #[.int .u8 (97 + (i : Int))] 5)) = .ok (.string ⟨#[UInt8.ofNat (97 + i)]⟩) (w.alloc (.cells #[.int .u8 (97 + (i : Int))] 5)) := by
    have h := run_convert_bytes_back (P := Try.prog) (w.alloc (.cells #[.int .u8 (97 + (i : Int))] 5)) 74 9 5 ⟨w.heap.size, 0, none⟩ 1 [UInt8.ofNat (97 + i)] Try.underlying74 Try.underlying5 Try.underlying9 (fun j hj => by
      have hj0 : j = 0 := by simpa using hj
      subst hj0
      rw [add0]
      have := (Blk.cell_ HM.head 0).trans (show _ = some (Value.int .u8 (97 + (i : Int))) from rfl)
      rw [Nat.add_zero, this]
      have e : (UInt8.ofNat (97 + i)).toNat = 97 + i := by
        rw [UInt8.toNat_ofNat']
        exact Nat.mod_eq_of_lt (by omega)
      simp only [List.getElem_cons_zero, e]
      rfl)
    exact h
  have hap : ∀ wx, (Op.stringOp .add (⟨#[116]⟩ : ByteArray) ⟨#[UInt8.ofNat (97 + i)]⟩).run Try.prog wx = .ok (.string (⟨#[116]⟩ ++ ⟨#[UInt8.ofNat (97 + i)]⟩)) wx := fun wx => run_string_add_sum wx _ _ (by show 1 + 1 ≤ _; omega)
  have HM1 := Lib.hid HM
  clear HM
  have hnm := nameS_eq i
  generalize UInt8.ofNat (97 + i) = x at *
  have hnm2 := Lib.hid hnm
  clear hnm
  have hnm := hnm2
  go_enter Try.func14, Try.ntmps14
  go_wp2_with fail
  go_ret
  rw [← hnm.out]
  exact ⟨rfl, HM1.out.tail⟩
def selfA (n : Nat) (c : Bool) (i : Nat) : RuleS := ⟨[nameS i], 1, [nameS ((i + 1) % n)], if c then [⟨#[99, 109, 100]⟩] else [], (i : Int) + 1⟩
def selfR (n : Nat) (c : Bool) : List RuleS := (List.range n).map (selfA n c)
def selfB (n : Nat) (c : Bool) : Bool := match joinB (selfR n c) with
  | none => false
  | some rules => decide (goalsOf (selfR n c) [] ≠ []) && decide ((visV (selfR n c) rules [] (goalsOf (selfR n c) [])).why = 11) && decide ((visV (selfR n c) rules [] (goalsOf (selfR n c) [])).pname = nameS 0)
set_option maxRecDepth 100000 in
theorem selfB_true : ((List.range 20).all fun n => selfB (n + 1) true && selfB (n + 1) false) = true := by decide +kernel
theorem self_bad {n : Nat} {c : Bool} (h0 : 0 < n) (hn : n ≤ 20) {why : Int} {nm : ByteArray} (h : Bad (selfR n c) [] [] why nm) : why = 11 ∧ nm = nameS 0 := by
  have hb : selfB n c = true := by
    have h1 := List.all_eq_true.1 selfB_true (n - 1) (List.mem_range.2 (by omega))
    rw [Bool.and_eq_true, show n - 1 + 1 = n from by omega] at h1
    cases c
    · exact h1.2
    · exact h1.1
  unfold selfB at hb
  rcases h.how with h1 | ⟨rules, hj, h1⟩
  · rw [h1] at hb; cases hb
  · rw [hj] at hb
    simp only [Bool.and_eq_true, decide_eq_true_eq] at hb
    obtain ⟨⟨b1, b2⟩, b3⟩ := hb
    rcases h1 with h1 | ⟨_, h1, h2⟩ | ⟨h1, _⟩
    · exact absurd h1 b1
    · exact ⟨h1.trans b2, h2.trans b3⟩
    · rw [b2] at h1; cases h1
theorem self_good {n : Nat} {c : Bool} (h0 : 0 < n) (hn : n ≤ 20) {gs : List ByteArray} {xs : List NX} (h : Good (selfR n c) [] [] gs xs) : False := by
  have hb : selfB n c = true := by
    have h1 := List.all_eq_true.1 selfB_true (n - 1) (List.mem_range.2 (by omega))
    rw [Bool.and_eq_true, show n - 1 + 1 = n from by omega] at h1
    cases c
    · exact h1.2
    · exact h1.1
  unfold selfB at hb
  obtain ⟨rules, hj, hw, _⟩ := h.how
  rw [hj] at hb
  simp only [Bool.and_eq_true, decide_eq_true_eq] at hb
  rw [h.eq, hb.1.2] at hw
  cases hw
theorem self_sized (n : Nat) (c : Bool) (hn : n ≤ 20) : Sized (selfR n c) 2 1 1 20 := by
  have hl : (selfR n c).length = n := by simp [selfR]
  refine ⟨fun r hr => ?_, ?_, by decide, by decide, by decide, by decide, ?_⟩
  · obtain ⟨i, _, rfl⟩ := List.mem_map.1 hr
    unfold selfA
    refine ⟨Nat.le_refl _, by cases c <;> simp, fun t ht => ?_, fun x hx => ?_⟩
    · simp only [List.mem_singleton] at ht; rw [ht]; exact Nat.le_refl 2
    · simp only [List.mem_singleton] at hx; rw [hx]; exact Nat.le_refl 2
  · have : ∀ l : List Nat, (l.flatMap fun i => (selfA n c i).tg).length = l.length := by
      intro l
      induction l with
      | nil => rfl
      | cons a l ih => rw [List.flatMap_cons, List.length_append, ih]; simp [selfA]; omega
    unfold selfR
    rw [List.flatMap_map, this, List.length_range]; exact hn
  · unfold pre
    rw [List.take_length]
    have : ∀ l : List Nat, ((l.map (selfA n c)).map fun r => r.src.length).sum = l.length := by
      intro l
      induction l with
      | nil => rfl
      | cons a l ih => simp only [List.map_cons, List.sum_cons, ih, List.length_cons, List.length_nil, selfA]; omega
    unfold selfR
    rw [this, List.length_range]; omega
end Go.Proofs.Ytliglejbkpjamaa
