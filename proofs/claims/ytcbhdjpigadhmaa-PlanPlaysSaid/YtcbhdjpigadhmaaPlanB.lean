/-
  The walks of layer 19 (plan): slices.Grow and slices.Concat of rows of numbers.
-/
import Derived.Test.YtcbhdjpigadhmaaPlanP
import Derived.Lib.AppendZeros
set_option linter.unusedVariables false
set_option linter.unusedSimpArgs false
namespace Go.Proofs.Ytcbhdjpigadhmaa
open Go.RowKit

theorem infoI : ∃ i, Try.prog.info? 3 = some i ∧ i.zero = some (.int .i64 0) ∧ i.size = 1 ∧ i.bytes = 8 := by
  obtain ⟨i, e1, e2, e3, e4⟩ := info_parts (P := Try.prog) (e := 3) (z := .int .i64 0) (size := 1) (bytes := 8) (by kernel_rfl)
  exact ⟨i, e1, e2, e3, e4⟩

set_option maxHeartbeats 1000000 in
theorem grow_calls (n : Nat) (w : World) (hb : n ≤ 1000000) :
    Calls Try.prog 50 #[.slice none 0 0, .int .i64 n] w fun e w' => ∃ v, e = .returned v ∧ Mem none_ w [IRow v []] w' := by
  have HM0 := (Mem.start (fp := none_) w)
  have hd0 : decide ((n : Int) < 0) = false := decide_eq_false (by omega)
  rcases Nat.eq_zero_or_pos n with h0 | h0
  · subst h0
    go_enter Try.func50, Try.ntmps50
    go_wp2
    go_ret
    exact ⟨_, rfl, HM0.nilI⟩
  · obtain ⟨i, e1, e2, e3, e4⟩ := infoI
    have hr := Lib.run_append_nil_zeros (P := Try.prog) w 59 3 59 3 i _ .i64 .i64 Try.underlying59 Try.underlying3 e1 e2 n h0 (by omega) (by omega) (by rw [e4]; omega)
    have hge := grownCap_ge w n 0 3
    have hle := grownCap_le_maxLen w n 0 3 (by unfold maxLen; omega)
    generalize grownCap w n 0 3 = cp at *
    unfold maxLen at hle
    have hn0 : decide (0 < (n : Int)) = true := decide_eq_true (by omega)
    have hwr : IntKind.i64.wrap (n : Int) = n := IntWalk.i64_in _ (by omega)
    go_enter Try.func50, Try.ntmps50
    go_wp2_with (at_builtin; refine Lib.wpList_append_run _ rfl _ _ _ _ rfl _ _ rfl rfl _ _ hr ?_)
    go_ret
    refine ⟨_, rfl, HM0.drew.new ((Mut.refl _ _).alloc _) ?_ ?_⟩
    · refine ⟨rfl, .inr ⟨w.heap.size, cp, _, rfl, Nat.zero_le _, heap_alloc_new _ _, Nat.zero_le _, by unfold maxLen; omega, ?_, by simp [ints]⟩⟩
      rw [Array.size_append, size_zeroCells, size_zeroCells]
      simp [Value.cells]
      omega
    · intro b hb
      have hb' : some w.heap.size = some b := hb
      cases hb'
      exact Nat.le_refl _

theorem wpList_appIL {P : Program} {ops : Array Oper} {rest : List Oper} {o : Oper} {a : Act} {Q : Exit → Act → World → Prop} {t bytes : Nat} (HE : Elem P t 3 1 bytes) (hgd : o.guard = none) (s x : Operand) (ho : o.op = .call { callee := .builtin .append, args := #[s, x], argTypes := #[t, t] })
    {fp : Nat → Prop} {w0 W : World} {F : List Chunk} {v : Value} {l : List Int} (HM : Mem fp w0 (IRow v l :: F) W) (hs : a.eval s = v)
    {m : List Int} {xv : Value} (hxe : a.eval x = xv) (hx : Ints W xv m)
    (hb : (l.length + m.length) * bytes ≤ 140737488355328)
    (h : ∀ v' w', Mem fp w0 (IRow v' (l ++ m) :: F) w' → Mut (fun k => v.ownBlock = some k) W w' → wpList P ops Q rest (a.put o.dst v') w') :
    wpList P ops Q (o :: rest) a W := by
  refine wpList_appSl HE hgd s x ho HM hs hxe hx (ints_one _) hb (fun v' w' hm hmu => h v' w' ?_ hmu)
  unfold IRow
  rw [List.length_append, ints_append]
  exact hm

set_option maxHeartbeats 2000000 in
/-- slices.Concat(a, b) -/
theorem concat_calls (x y : Value) (a b : List Int) (g : Nat) (w : World) (hx : Ints w x a) (hy : Ints w y b) (h0 : w.cell? ⟨g, 0, none⟩ = some x) (h1 : w.cell? ⟨g, 1, none⟩ = some y) (ha : a.length ≤ 100000) (hb : b.length ≤ 100000) :
    Calls Try.prog 48 #[.slice (some ⟨g, 0, none⟩) 2 2] w fun e w' => ∃ v, e = .returned v ∧ Mem none_ w [IRow v (a ++ b)] w' := by
  obtain ⟨A, c, rfl, a1, a2, a3, a4⟩ := id hx
  obtain ⟨A', c', rfl, b1, b2, b3, b4⟩ := id hy
  unfold maxLen at a2 b2
  clear a3 a4 b3 b4
  have HM0 := (Mem.start (fp := none_) w)
  have hs1 : decide ((a.length : Int) < 0) = false := decide_eq_false (by omega)
  have hs2 : decide ((a.length : Int) + (b.length : Int) < 0) = false := decide_eq_false (by omega)
  have hw1 : IntKind.i64.wrap ((a.length : Int) + (b.length : Int)) = (a.length : Int) + (b.length : Int) := IntWalk.i64_in _ (by omega)
  go_enter Try.func48, Try.ntmps48
  go_wp2
  go_loopw [3, 11] (fun v3 v11 wr => ∃ k : Nat, k ≤ 2 ∧ v11 = .int .i64 k ∧ v3 = .int .i64 ((if k = 0 then 0 else if k = 1 then (a.length : Int) else (a.length : Int) + (b.length : Int))) ∧ wr = w) (fun _ i _ => 2 - (intOf i).toNat)
  case atStart => exact ⟨0, by omega, rfl, rfl, rfl⟩
  case round =>
    obtain ⟨k, hk, rfl, rfl, rfl⟩ := hrel
    match k, hk with
    | 0, _ =>
      go_wp2
      go_roundw
      case rel => exact ⟨1, by omega, by simp, by simp, by simp⟩
      case measure => simp [intOf]
    | 1, _ =>
      go_wp2
      go_roundw
      case rel => exact ⟨2, by omega, by simp, by simp, by simp⟩
      case measure => simp [intOf]
    | 2, _ =>
      go_wp2_with fail
      have hg := grow_calls (a.length + b.length) wr (by omega)
      rw [Int.natCast_add] at hg
      refine hg.mono ?_
      rintro e w1 ⟨v1, rfl, HM1⟩
      have h0' := h0
      have h1' := h1
      have hx' := hx
      have hy' := hy
      clear h0 h1 hx hy HM0 hg
      go_wp2
      go_loopw [6, 27] (fun v6 v27 w2 => ∃ k : Nat, k ≤ 2 ∧ v27 = .int .i64 k ∧ Mem none_ wr [IRow v6 (if k = 0 then [] else if k = 1 then a else a ++ b)] w2) (fun _ i _ => 2 - (intOf i).toNat)
      case atStart => exact ⟨0, by omega, rfl, HM1⟩
      case round =>
        clear HM1
        obtain ⟨k, hk, rfl, HM⟩ := hrel
        have h0 := HM.mu.cell h0' (fun h => h)
        have h1 := HM.mu.cell h1' (fun h => h)
        have hx := hx'.pure HM.mu
        have hy := hy'.pure HM.mu
        clear h0' h1' hx' hy'
        match k, hk with
        | 0, _ =>
          go_wp2_with (at_builtin; refine wpList_appIL intE rfl _ _ rfl HM rfl (m := a) (xv := .slice A a.length c) rfl hx (by simp; omega) ?_; intro v3 w3 HM3 HU3)
          go_roundw
          case rel => exact ⟨1, by omega, by simp, by simpa using HM3⟩
          case measure => simp [intOf]
        | 1, _ =>
          go_wp2_with (at_builtin; refine wpList_appIL intE rfl _ _ rfl HM rfl (m := b) (xv := .slice A' b.length c') rfl hy (by simp; omega) ?_; intro v3 w3 HM3 HU3)
          go_roundw
          case rel => exact ⟨2, by omega, by simp, by simpa using HM3⟩
          case measure => simp [intOf]
        | 2, _ =>
          go_wp2
          go_ret
          exact ⟨_, rfl, by simpa using HM⟩
end Go.Proofs.Ytcbhdjpigadhmaa
