/-
  Layer 16 (graph): slices.Concat of texts; what can be come to, plainly.
-/
import Derived.Test.YtliglejbkpjamaaVGrN
import Derived.Lib.AppendZeros
set_option linter.unusedVariables false
set_option linter.unusedSimpArgs false
set_option maxRecDepth 20000
namespace Go.Proofs.Ytliglejbkpjamaa
open Go.RowKit

theorem infoS : ∃ i, Try.prog.info? 9 = some i ∧ i.zero = some (.string ⟨#[]⟩) ∧ i.size = 1 ∧ i.bytes = 16 := by
  obtain ⟨i, e1, e2, e3, e4⟩ := info_parts (P := Try.prog) (e := 9) (z := .string ⟨#[]⟩) (size := 1) (bytes := 16) (by kernel_rfl)
  exact ⟨i, e1, e2, e3, e4⟩
set_option maxHeartbeats 1000000 in
theorem growS_calls (n : Nat) (w : World) (hb : n ≤ 100000000) :
    Calls Try.prog 71 #[.slice none 0 0, .int .i64 n] w fun e w' => ∃ v, e = .returned v ∧ Mem none_ w [StrRow v []] w' := by
  have HM0 := (Mem.start (fp := none_) w)
  have hd0 : decide ((n : Int) < 0) = false := decide_eq_false (by omega)
  rcases Nat.eq_zero_or_pos n with h0 | h0
  · subst h0
    go_enter Try.func71, Try.ntmps71
    go_wp2
    go_ret
    exact ⟨_, rfl, HM0.nilS⟩
  · obtain ⟨i, e1, e2, e3, e4⟩ := infoS
    have hr := Lib.run_append_nil_zeros (P := Try.prog) w 23 3 23 9 i _ .i64 .i64 Try.underlying23 Try.underlying3 e1 e2 n h0 (by omega) (by omega) (by rw [e4]; omega)
    have hge := grownCap_ge w n 0 9
    have hle := grownCap_le_maxLen w n 0 9 (by unfold maxLen; omega)
    generalize grownCap w n 0 9 = cp at *
    unfold maxLen at hle
    have hn0 : decide (0 < (n : Int)) = true := decide_eq_true (by omega)
    have hwr : IntKind.i64.wrap (n : Int) = n := IntWalk.i64_in _ (by omega)
    go_enter Try.func71, Try.ntmps71
    go_wp2_with (at_builtin; refine Lib.wpList_append_run _ rfl _ _ _ _ rfl _ _ rfl rfl _ _ hr ?_)
    go_ret
    refine ⟨_, rfl, HM0.drew.new ((Mut.refl _ _).alloc _) ?_ ?_⟩
    · refine ⟨rfl, .inr ⟨w.heap.size, cp, _, rfl, Nat.zero_le _, heap_alloc_new _ _, Nat.zero_le _, by unfold maxLen; omega, ?_, by simp [strs]⟩⟩
      rw [Array.size_append, size_zeroCells, size_zeroCells]
      simp [Value.cells]
      omega
    · intro b hb
      have hb' : some w.heap.size = some b := hb
      cases hb'
      exact Nat.le_refl _
set_option maxHeartbeats 2000000 in
/-- slices.Concat(a, b) -/
theorem concatS_calls (x y : Value) (a b : List ByteArray) (g : Nat) (w : World) (hx : Strs w x a) (hy : Strs w y b) (h0 : w.cell? ⟨g, 0, none⟩ = some x) (h1 : w.cell? ⟨g, 1, none⟩ = some y) (hab : a.length + b.length ≤ 100000000) :
    Calls Try.prog 53 #[.slice (some ⟨g, 0, none⟩) 2 2] w fun e w' => ∃ v, e = .returned v ∧ Mem none_ w [StrRow v (a ++ b)] w' := by
  obtain ⟨A, c, rfl, a1, a2, a3, a4⟩ := id hx
  obtain ⟨A', c', rfl, b1, b2, b3, b4⟩ := id hy
  unfold maxLen at a2 b2
  clear a3 a4 b3 b4
  have HM0 := (Mem.start (fp := none_) w)
  have hs1 : decide ((a.length : Int) < 0) = false := decide_eq_false (by omega)
  have hs2 : decide ((a.length : Int) + (b.length : Int) < 0) = false := decide_eq_false (by omega)
  have hw1 : IntKind.i64.wrap ((a.length : Int) + (b.length : Int)) = (a.length : Int) + (b.length : Int) := IntWalk.i64_in _ (by omega)
  go_enter Try.func53, Try.ntmps53
  go_wp2
  go_loopw [3, 11] (fun v3 v11 wr => ∃ k : Nat, k ≤ 2 ∧ v11 = .int .i64 k ∧ v3 = .int .i64 ((if k = 0 then 0 else if k = 1 then (a.length : Int) else (a.length : Int) + (b.length : Int))) ∧ wr = w) (fun _ i _ => 2 - (intOf i).toNat)
  case atStart => exact ⟨0, by omega, rfl, rfl, rfl⟩
  case round =>
    obtain ⟨k, hk, rfl, rfl, rfl⟩ := hrel
    match k, hk with
    | 0, _ =>
      go_wp2
      go_roundw
      case rel => exact ⟨1, by omega, by simp, by simp, by simp⟩
      case measure => simp [intOf]
    | 1, _ =>
      go_wp2
      go_roundw
      case rel => exact ⟨2, by omega, by simp, by simp, by simp⟩
      case measure => simp [intOf]
    | 2, _ =>
      go_wp2_with fail
      have hg := growS_calls (a.length + b.length) wr (by omega)
      rw [Int.natCast_add] at hg
      refine hg.mono ?_
      rintro e w1 ⟨v1, rfl, HM1⟩
      have h0' := h0
      have h1' := h1
      have hx' := hx
      have hy' := hy
      clear h0 h1 hx hy HM0 hg
      go_wp2
      go_loopw [6, 27] (fun v6 v27 w2 => ∃ k : Nat, k ≤ 2 ∧ v27 = .int .i64 k ∧ Mem none_ wr [StrRow v6 (if k = 0 then [] else if k = 1 then a else a ++ b)] w2) (fun _ i _ => 2 - (intOf i).toNat)
      case atStart => exact ⟨0, by omega, rfl, HM1⟩
      case round =>
        clear HM1
        obtain ⟨k, hk, rfl, HM⟩ := hrel
        have h0 := HM.mu.cell h0' (fun h => h)
        have h1 := HM.mu.cell h1' (fun h => h)
        have hx := hx'.pure HM.mu
        have hy := hy'.pure HM.mu
        clear h0' h1' hx' hy'
        match k, hk with
        | 0, _ =>
          go_wp2_with (at_builtin; refine wpList_appL strE rfl _ _ rfl HM rfl (m := a) (xv := .slice A a.length c) rfl hx (by simp; omega) ?_; intro v3 w3 HM3 HU3)
          go_roundw
          case rel => exact ⟨1, by omega, by simp, by simpa using HM3⟩
          case measure => simp [intOf]
        | 1, _ =>
          go_wp2_with (at_builtin; refine wpList_appL strE rfl _ _ rfl HM rfl (m := b) (xv := .slice A' b.length c') rfl hy (by simp; omega) ?_; intro v3 w3 HM3 HU3)
          go_roundw
          case rel => exact ⟨2, by omega, by simp, by simpa using HM3⟩
          case measure => simp [intOf]
        | 2, _ =>
          go_wp2
          go_ret
          exact ⟨_, rfl, by simpa using HM⟩

abbrev NextP := List (ByteArray × List ByteArray)
def nx (P : NextP) (x : ByteArray) : List ByteArray := (mget P x).getD []
inductive Reach (P : NextP) : ByteArray → ByteArray → Prop
  | one {x y : ByteArray} : y ∈ nx P x → Reach P x y
  | more {x y z : ByteArray} : Reach P x y → z ∈ nx P y → Reach P x z
/-- How much is left of the search. -/
def rest (P : NextP) (m : List (ByteArray × Unit)) : Nat := ((P.filter fun p => !mhas m p.1).map fun p => p.2.length).sum
theorem mhas_mput {κ ν : Type} [DecidableEq κ] (m : List (κ × ν)) (k : κ) (v : ν) (x : κ) : mhas (mput m k v) x = (decide (x = k) || mhas m x) := by
  unfold mhas
  rw [mget_put]
  by_cases h : x = k <;> simp [h]
theorem rest_put (m : List (ByteArray × Unit)) (x : ByteArray) (hm : mhas m x = false) : ∀ P : NextP, rest P (mput m x ()) + (nx P x).length ≤ rest P m
  | [] => by simp [rest, nx, mget_nil]
  | p :: P => by
    have ih := rest_put m x hm P
    by_cases hx : p.1 = x
    · have e1 : nx (p :: P) x = p.2 := by unfold nx; rw [mget_cons, if_pos hx.symm]; rfl
      have e2 : rest (p :: P) (mput m x ()) = rest P (mput m x ()) := by
        unfold rest
        rw [List.filter_cons, mhas_mput, hx]
        simp
      have e3 : rest (p :: P) m = p.2.length + rest P m := by
        unfold rest
        rw [List.filter_cons, hx, hm]
        simp
      rw [e1, e2, e3]
      omega
    · have e1 : nx (p :: P) x = nx P x := by unfold nx; rw [mget_cons, if_neg (fun e => hx e.symm)]
      have e2 : mhas (mput m x ()) p.1 = mhas m p.1 := by rw [mhas_mput]; simp [hx]
      rw [e1]
      unfold rest at ih ⊢
      rw [List.filter_cons, List.filter_cons, e2]
      cases mhas m p.1
      · simp only [Bool.not_false, if_true, List.map_cons, List.sum_cons]
        omega
      · simp only [Bool.not_true, Bool.false_eq_true, if_false]
        exact ih
/-- The search from a name: what is met, what is to do. -/
structure Srch (P : NextP) (nm : ByteArray) (m : List (ByteArray × Unit)) (todo : List ByteArray) : Prop where
  met : ∀ y, mhas m y = true → Reach P nm y
  td : ∀ y, y ∈ todo → Reach P nm y
  fst : ∀ y, y ∈ nx P nm → mhas m y = true ∨ y ∈ todo
  nxt : ∀ x, mhas m x = true → ∀ y, y ∈ nx P x → mhas m y = true ∨ y ∈ todo
theorem Srch.start (P : NextP) (nm : ByteArray) : Srch P nm [] (nx P nm) := ⟨fun y h => (by cases h), fun y h => .one h, fun y h => .inr h, fun y h => (by cases h)⟩
theorem Srch.skip {P : NextP} {nm x : ByteArray} {m : List (ByteArray × Unit)} {todo : List ByteArray} (h : Srch P nm m (todo ++ [x])) (hx : mhas m x = true) : Srch P nm m todo := by
  have key : ∀ y, (mhas m y = true ∨ y ∈ todo ++ [x]) → mhas m y = true ∨ y ∈ todo := fun y hy => by
    rcases hy with hy | hy
    · exact .inl hy
    · rcases List.mem_append.1 hy with hy | hy
      · exact .inr hy
      · rw [List.mem_singleton.1 hy]; exact .inl hx
  exact ⟨h.met, fun y hy => h.td y (by simp [hy]), fun y hy => key y (h.fst y hy), fun z hz y hy => key y (h.nxt z hz y hy)⟩
theorem Srch.take {P : NextP} {nm x : ByteArray} {m : List (ByteArray × Unit)} {todo : List ByteArray} (h : Srch P nm m (todo ++ [x])) : Srch P nm (mput m x ()) (todo ++ nx P x) := by
  have hx : Reach P nm x := h.td x (by simp)
  have key : ∀ y, (mhas m y = true ∨ y ∈ todo ++ [x]) → mhas (mput m x ()) y = true ∨ y ∈ todo ++ nx P x := fun y hy => by
    rw [mhas_mput]
    rcases hy with hy | hy
    · exact .inl (by simp [hy])
    · rcases List.mem_append.1 hy with hy | hy
      · exact .inr (by simp [hy])
      · rw [List.mem_singleton.1 hy]; exact .inl (by simp)
  refine ⟨fun y hy => ?_, fun y hy => ?_, fun y hy => key y (h.fst y hy), fun z hz y hy => ?_⟩
  · rw [mhas_mput] at hy
    by_cases e : y = x
    · rw [e]; exact hx
    · exact h.met y (by simpa [e] using hy)
  · rcases List.mem_append.1 hy with hy | hy
    · exact h.td y (by simp [hy])
    · exact .more hx hy
  · rw [mhas_mput] at hz
    by_cases e : z = x
    · rw [e] at hy; exact .inr (by simp [hy])
    · exact key y (h.nxt z (by simpa [e] using hz) y hy)
theorem Srch.done {P : NextP} {nm : ByteArray} {m : List (ByteArray × Unit)} (h : Srch P nm m []) (y : ByteArray) : mhas m y = true ↔ Reach P nm y := by
  refine ⟨h.met y, fun hr => ?_⟩
  induction hr with
  | one hy => exact (h.fst _ hy).resolve_right (by simp)
  | more _ hz ih => exact (h.nxt _ ih _ hz).resolve_right (by simp)
/-- Of nodes: what each comes behind. -/
def nextP (ns : List NodeS) : NextP := ns.map fun n => (n.name, n.src ++ n.aft)
end Go.Proofs.Ytliglejbkpjamaa
