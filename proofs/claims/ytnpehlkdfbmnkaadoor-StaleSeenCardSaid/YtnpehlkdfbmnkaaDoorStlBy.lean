/-
  Layer 18 (stale): rows of bytes; the document's line, letter, plain.
-/
import Derived.Test.YtnpehlkdfbmnkaaDoorStlMe
set_option linter.unusedVariables false
set_option linter.unusedSimpArgs false
set_option maxRecDepth 20000
namespace Go.Proofs.YtnpehlkdfbmnkaaDoor
open Go.RowKit

abbrev BRow (v : Value) (l : List UInt8) : Chunk := Row 5 1 v l.length (Lib.byteCells l)
abbrev Byts (w : World) (v : Value) (l : List UInt8) : Prop := Sl w v 1 l.length (Lib.byteCells l)
theorem bytE : Elem Tryd.prog 108 5 1 1 := Elem.of (z := .int .u8 0) Tryd.underlying108 (by kernel_rfl) rfl (by decide) (by decide)
theorem byteCells_one (l : List UInt8) : ∀ u ∈ Lib.byteCells l, u.oneCell' = true := by
  intro u hu
  obtain ⟨x, _, rfl⟩ := List.mem_map.1 hu
  rfl
theorem bc_app (a b : List UInt8) : Lib.byteCells (a ++ b) = Lib.byteCells a ++ Lib.byteCells b := by simp [Lib.byteCells]
theorem conv_run (v : Value) (l : List UInt8) (w : World) (h : Byts w v l) : (convert 108 9 v).run Tryd.prog w = .ok (.string (ofL l)) w := by
  obtain ⟨A, c, rfl, h1, h2, h3, h4⟩ := h
  cases A with
  | none =>
    have h0 : l.length = 0 := by
      rcases h4 with h | ⟨b, o, e, _⟩
      · exact h
      · cases e
    have := List.length_eq_zero_iff.1 h0
    subst this
    rw [List.length_nil, run_convert_bytes_string w _ _ _ none 0 c Tryd.underlying108 Tryd.underlying5 Tryd.underlying9]
    simp [Conv.bytesToString]
    rfl
  | some ad =>
    refine run_convert_bytes_back w _ _ _ ad c l Tryd.underlying108 Tryd.underlying5 Tryd.underlying9 (fun j hj => ?_)
    obtain ⟨b, o, e, hc⟩ := h4.resolve_left (by omega)
    cases e
    rw [add0]
    exact hc j _ (by simp [Lib.byteCells, hj])
section
variable {P : Program} {ops : Array Oper} {rest : List Oper} {o : Oper} {a : Act} {Q : Exit → Act → World → Prop} {t bytes : Nat}
theorem wpList_appBs (HE : Elem P t 5 1 bytes) (hgd : o.guard = none) (s x : Operand) (ho : o.op = .call { callee := .builtin .append, args := #[s, x], argTypes := #[t, t] })
    {fp : Nat → Prop} {w0 W : World} {F : List Chunk} {v : Value} {l : List UInt8} (HM : Mem fp w0 (BRow v l :: F) W) (hs : a.eval s = v)
    {m : List UInt8} {xv : Value} (hxe : a.eval x = xv) (hx : Byts W xv m)
    (hb : (l.length + m.length) * bytes ≤ 140737488355328)
    (h : ∀ v' w', Mem fp w0 (BRow v' (l ++ m) :: F) w' → Mut (fun k => v.ownBlock = some k) W w' → wpList P ops Q rest (a.put o.dst v') w') :
    wpList P ops Q (o :: rest) a W := by
  refine wpList_appSl HE hgd s x ho HM hs hxe hx (byteCells_one _) hb (fun v' w' hm hmu => h v' w' ?_ hmu)
  unfold BRow
  rw [List.length_append, bc_app]
  exact hm
end
theorem Mem.litB {fp : Nat → Prop} {w0 W : World} {F : List Chunk} (h : Mem fp w0 F W) (l : List UInt8) {us : Array Value} (hus : us = (Lib.byteCells l).toArray) {n : Nat} (hn : n = l.length) (hl : n ≤ 1000) :
    Mem fp w0 (BRow (.slice (some ⟨W.heap.size, 0, none⟩) n n) l :: F) (W.alloc (.cells us 5)) := by
  subst hus hn
  exact h.lit 5 1 l.length (Lib.byteCells l) (by rw [Lib.byteCells_length]; omega) (by unfold maxLen; omega)
theorem Mem.nilB {fp : Nat → Prop} {w0 W : World} {F : List Chunk} (h : Mem fp w0 F W) : Mem fp w0 (BRow (.slice none 0 0) [] :: F) W :=
  Mem.new h (Mut.refl _ _) (by exact World.ownsRow_nil _ _ _ _) (by intro b hb; cases hb)
theorem tell_snoc (s : List UInt8) (k : Nat) (h : k < s.length) : tellL (s.take (k + 1)) = tellL (s.take k) ++ escB s[k] := by
  unfold tellL
  rw [List.take_succ_eq_append_getElem h, List.flatMap_append]; simp
theorem tell_len2 (s : List UInt8) : (tellL s).length ≤ 2 * s.length := by
  induction s with
  | nil => simp [tellL]
  | cons c s ih =>
    have e : tellL (c :: s) = escB c ++ tellL s := by simp [tellL]
    have : (escB c).length ≤ 2 := by
      unfold escB
      split
      · simp
      · split <;> simp
    rw [e, List.length_append, List.length_cons]
    omega

set_option maxHeartbeats 4000000 in
theorem line_calls (kd : UInt8) (s : List UInt8) (w : World) (hs : s.length ≤ 1000000000) :
    Calls Tryd.prog 57 #[.int .u8 kd.toNat, .string (ofL s)] w fun e w' => ∃ v, e = .returned v ∧ Mem none_ w [BRow v (lineL kd s)] w' := by
  have hz := ofL_size s
  have HM0 := Lib.hid ((Mem.start (fp := none_) w).litB [kd, 32] (us := #[.int .u8 kd.toNat, .int .u8 32]) rfl (n := 2) rfl (by decide))
  go_enter Tryd.func57, Tryd.ntmps57
  go_wp2_with fail
  go_loopw [5, 6] (fun v5 v6 wr => ∃ k : Nat, k ≤ s.length ∧ v6 = .int .i64 k ∧ Mem none_ w [BRow v5 ([kd, 32] ++ tellL (s.take k))] wr) (fun _ v _ => s.length - (intOf v).toNat)
  case atStart => exact ⟨0, Nat.zero_le _, rfl, by simpa [tellL] using HM0.out⟩
  case round =>
    clear HM0
    obtain ⟨k, hk, rfl, HM⟩ := hrel
    by_cases hlt : k < s.length
    · have hlt' : decide ((k : Int) < (s.length : Int)) = true := decide_eq_true (by omega)
      have hltN : decide (k < s.length) = true := decide_eq_true hlt
      have hk' : k < (ofL s).size := by omega
      have hsn := tell_snoc s k hlt
      have hal : ([kd, 32] ++ tellL (s.take k)).length ≤ 2000000002 := by
        have := tell_len2 (s.take k)
        rw [List.length_take] at this
        rw [List.length_append]
        show 2 + _ ≤ _
        omega
      have g0 : (ofL s)[k]'hk' = s[k] := rfl
      have Hsn := Lib.hid (by rw [hsn, List.append_assoc]; rfl : [kd, 32] ++ tellL (s.take (k + 1)) = ([kd, 32] ++ tellL (s.take k)) ++ escB s[k])
      clear hsn
      generalize [kd, 32] ++ tellL (s.take k) = acc at *
      generalize s[k] = c at *
      by_cases h1 : c = 92
      · have q1 : ((c.toNat : Int) == 92) = true := (byte_eq c 92).trans (decide_eq_true h1)
        have he : escB c = [92, 92] := by unfold escB; rw [if_pos h1]
        have HMl := (HM.litB [92, 92] (us := #[.int .u8 92, .int .u8 92]) rfl (n := 2) rfl (by decide))
        have HMs : Mem none_ w [BRow _ acc, BRow _ [92, 92]] _ := HMl.sel [1, 0] (by decide)
        have Hx := Row.sl (HMs.at_ 1 rfl)
        have He := Lib.hid he
        clear h1 he HMl HM
        go_wp2_with (at_builtin; refine wpList_appBs bytE rfl _ _ rfl HMs rfl (xv := .slice (some ⟨wr.heap.size, 0, none⟩) 2 2) (m := [92, 92]) rfl Hx ?hb ?_; (case hb => show (_ + 2) * 1 ≤ _; omega); intro v' w' HM4 HU4)
        have HM5 := HM4.sel [0] (by decide)
        go_roundw
        case rel => exact ⟨k + 1, by omega, by go_num, by rw [Hsn.out, He.out]; exact HM5⟩
        case measure => simp [intOf]; omega
      · have q1 : ((c.toNat : Int) == 92) = false := (byte_eq c 92).trans (decide_eq_false h1)
        by_cases h2 : c = 10
        · have q2 : ((c.toNat : Int) == 10) = true := (byte_eq c 10).trans (decide_eq_true h2)
          have he : escB c = [92, 110] := by unfold escB; rw [if_neg h1, if_pos h2]
          have HMl := (HM.litB [92, 110] (us := #[.int .u8 92, .int .u8 110]) rfl (n := 2) rfl (by decide))
          have HMs : Mem none_ w [BRow _ acc, BRow _ [92, 110]] _ := HMl.sel [1, 0] (by decide)
          have Hx := Row.sl (HMs.at_ 1 rfl)
          have He := Lib.hid he
          clear h1 h2 he HMl HM
          go_wp2_with (at_builtin; refine wpList_appBs bytE rfl _ _ rfl HMs rfl (xv := .slice (some ⟨wr.heap.size, 0, none⟩) 2 2) (m := [92, 110]) rfl Hx ?hb ?_; (case hb => show (_ + 2) * 1 ≤ _; omega); intro v' w' HM4 HU4)
          have HM5 := HM4.sel [0] (by decide)
          go_roundw
          case rel => exact ⟨k + 1, by omega, by go_num, by rw [Hsn.out, He.out]; exact HM5⟩
          case measure => simp [intOf]; omega
        · have q2 : ((c.toNat : Int) == 10) = false := (byte_eq c 10).trans (decide_eq_false h2)
          have he : escB c = [c] := by unfold escB; rw [if_neg h1, if_neg h2]
          have HMl := (HM.litB [c] (us := #[.int .u8 c.toNat]) rfl (n := 1) rfl (by decide))
          have HMs : Mem none_ w [BRow _ acc, BRow _ [c]] _ := HMl.sel [1, 0] (by decide)
          have Hx := Row.sl (HMs.at_ 1 rfl)
          have He := Lib.hid he
          clear h1 h2 he HMl HM
          go_wp2_with (at_builtin; refine wpList_appBs bytE rfl _ _ rfl HMs rfl (xv := .slice (some ⟨wr.heap.size, 0, none⟩) 1 1) (m := [c]) rfl Hx ?hb ?_; (case hb => show (_ + 1) * 1 ≤ _; omega); intro v' w' HM4 HU4)
          have HM5 := HM4.sel [0] (by decide)
          go_roundw
          case rel => exact ⟨k + 1, by omega, by go_num, by rw [Hsn.out, He.out]; exact HM5⟩
          case measure => simp [intOf]; omega
    · have hlt' : decide ((k : Int) < (s.length : Int)) = false := decide_eq_false (by omega)
      have hltN : decide (k < s.length) = false := decide_eq_false hlt
      have e : k = s.length := by omega
      subst e
      rw [List.take_length] at HM
      have hal : ([kd, 32] ++ tellL s).length ≤ 2000000002 := by
        have := tell_len2 s
        rw [List.length_append]
        show 2 + _ ≤ _
        omega
      have eL : ([kd, 32] ++ tellL s) ++ [10] = lineL kd s := by simp [lineL]
      have EL := Lib.hid eL
      clear eL
      generalize [kd, 32] ++ tellL s = acc at *
      have HMl := (HM.litB [10] (us := #[.int .u8 10]) rfl (n := 1) rfl (by decide))
      have HMs : Mem none_ w [BRow _ acc, BRow _ [10]] _ := HMl.sel [1, 0] (by decide)
      have Hx := Row.sl (HMs.at_ 1 rfl)
      clear HMl HM
      go_wp2_with (at_builtin; refine wpList_appBs bytE rfl _ _ rfl HMs rfl (xv := .slice (some ⟨wr.heap.size, 0, none⟩) 1 1) (m := [10]) rfl Hx ?hb ?_; (case hb => show (_ + 1) * 1 ≤ _; omega); intro v' w' HM4 HU4)
      have HM5 := HM4.sel [0] (by decide)
      go_ret
      exact ⟨_, rfl, by rw [← EL.out]; exact HM5⟩
theorem letter_calls (k : Int) (w : World) :
    Calls Tryd.prog 56 #[.int .i64 k] w fun e w' => e = .returned (.int .u8 ((if badK k then 0 else letterB k).toNat : Int)) ∧ w = w' := by
  by_cases h1 : k = 1
  · subst h1
    go_enter Tryd.func56, Tryd.ntmps56
    go_wp2_with fail
    go_ret
    exact ⟨rfl, rfl⟩
  · by_cases h2 : k = 2
    · subst h2
      go_enter Tryd.func56, Tryd.ntmps56
      go_wp2_with fail
      go_ret
      exact ⟨rfl, rfl⟩
    · by_cases h3 : k = 3
      · subst h3
        go_enter Tryd.func56, Tryd.ntmps56
        go_wp2_with fail
        go_ret
        exact ⟨rfl, rfl⟩
      · have q1 : (k == 1) = false := by rw [beq_eq_false_iff_ne]; exact h1
        have q2 : (k == 2) = false := by rw [beq_eq_false_iff_ne]; exact h2
        have q3 : (k == 3) = false := by rw [beq_eq_false_iff_ne]; exact h3
        have hb : badK k := by unfold badK; omega
        rw [if_pos hb]
        clear hb h1 h2 h3
        go_enter Tryd.func56, Tryd.ntmps56
        go_wp2_with fail
        go_ret
        exact ⟨rfl, rfl⟩
end Go.Proofs.YtnpehlkdfbmnkaaDoor
