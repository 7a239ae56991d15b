/-
  Layer 18 (stale): the document's File.
-/
import Derived.Test.YtnpehlkdfbmnkaaDoorStlBy
import Derived.Test.YtnpehlkdfbmnkaaDoorStlFi
import Derived.Lib.SlBytesConst
set_option linter.unusedVariables false
set_option linter.unusedSimpArgs false
set_option maxRecDepth 20000
namespace Go.Proofs.YtnpehlkdfbmnkaaDoor
open Go.RowKit

theorem file_snoc (s : List UInt8) (k : Nat) (h : k < s.length) : (s.take (k + 1)).flatMap fileB = (s.take k).flatMap fileB ++ fileB s[k] := by
  rw [List.take_succ_eq_append_getElem h, List.flatMap_append]; simp
/-- A row of bytes that is our own, or one that is full. -/
def Src (w W : World) (v : Value) (l : List UInt8) (F : List Chunk) : Prop := Mem none_ w (BRow v l :: F) W ∨ (Mem none_ w F W ∧ (∃ b, v = .slice (some ⟨b, 0, none⟩) l.length l.length) ∧ Byts W v l)
section
variable {w W : World} {v : Value} {l : List UInt8} {F : List Chunk}
theorem Src.mem (h : Src w W v l F) : Mem none_ w F W := by
  rcases h with h | h
  · exact Mem.drop (cs := [BRow v l]) h
  · exact h.1
theorem Src.byts (h : Src w W v l F) : Byts W v l := by
  rcases h with h | h
  · exact Row.sl h.head
  · exact h.2.2
theorem Src.lit (h : Src w W v l []) (x : List UInt8) {us : Array Value} (hus : us = (Lib.byteCells x).toArray) {n : Nat} (hn : n = x.length) (hl : n ≤ 1000) : Src w (W.alloc (.cells us 5)) v l [BRow (.slice (some ⟨W.heap.size, 0, none⟩) n n) x] := by
  rcases h with h | ⟨h1, h2, h3⟩
  · exact .inl ((h.litB x hus hn hl).sel [1, 0] (by decide))
  · exact .inr ⟨h1.litB x hus hn hl, h2, h3.pure ((Mut.refl _ _).alloc _)⟩
variable {P : Program} {ops : Array Oper} {rest : List Oper} {o : Oper} {a : Act} {Q : Exit → Act → World → Prop} {t bytes : Nat}
theorem wpList_appAny (HE : Elem P t 5 1 bytes) (hgd : o.guard = none) (s x : Operand) (ho : o.op = .call { callee := .builtin .append, args := #[s, x], argTypes := #[t, t] })
    (HM : Src w W v l F) (hs : a.eval s = v) {m : List UInt8} {xv : Value} (hxe : a.eval x = xv) (hx : Byts W xv m) (hm : 0 < m.length)
    (hb : (l.length + m.length) * bytes ≤ 140737488355328)
    (h : ∀ v' w', Mem none_ w (BRow v' (l ++ m) :: F) w' → wpList P ops Q rest (a.put o.dst v') w') :
    wpList P ops Q (o :: rest) a W := by
  rcases HM with HM | ⟨HM, ⟨b, hv⟩, hB⟩
  · exact wpList_appBs HE hgd s x ho HM hs hxe hx hb (fun v' w' hm _ => h v' w' hm)
  · obtain ⟨A, c, e1, h3, h4, h5, h6⟩ := hx
    obtain ⟨ad, o', rfl, hc⟩ := h6.resolve_left (by omega)
    obtain ⟨A2, c2, e2, g3, g4, g5, g6⟩ := hB
    rw [hv] at e2
    cases e2
    obtain ⟨i, z, hi, hz, z2, z3, z4⟩ := HE.inf
    have hpb := HE.posb
    have h63 : l.length + m.length ≤ maxLen := by
      have := Nat.le_mul_of_pos_right (l.length + m.length) hpb
      unfold maxLen
      omega
    have h63' : l.length + m.length ≤ 9223372036854775807 := by unfold maxLen at h63; omega
    have holds : ∀ j u, (Lib.byteCells l)[j]? = some u → W.cell? ((⟨b, 0, none⟩ : Addr).add j) = some u := fun j u hu => by
      rcases g6 with g6 | ⟨b', o2, e, hcc⟩
      · rw [g6, Nat.zero_mul] at g5
        rw [List.length_eq_zero_iff.1 g5] at hu
        cases hu
      · cases e
        rw [add0]
        exact hcc j u hu
    have hr := run_append_grow (P := P) (w := W) t o.type 5 i z HE.sl hi hz ⟨b, 0, none⟩ l.length l.length (Lib.byteCells l) (by rw [z2]; exact g5) holds ⟨ad, o', none⟩ m.length c (Lib.byteCells m) (by rw [z2]; exact h5)
      (fun j u hu => by rw [add0]; exact hc j u hu) (by omega) (by omega) (growslice_fits (by omega) (by rw [z3]; exact hb))
    have hev : a.eval x = .slice (some ⟨ad, o', none⟩) m.length c := by rw [hxe, e1]
    refine wpList_plain hgd fun K hK => ?_
    unfold Oper.wp execOp
    simp only [ho, resolve, invoke, builtin, Sem.run_bind, Sem.run_pure, Result.andThen_ok, List.map_toArray, List.map_cons, List.map_nil, hs, hv, hev, hr]
    refine hK _ _ (h _ _ ?_)
    have hge := grownCap_ge W (l.length + m.length) l.length 5
    have hcm : grownCap W (l.length + m.length) l.length 5 ≤ maxLen := grownCap_le_maxLen W _ _ _ h63
    refine HM.drew.new ((Mut.refl _ _).alloc _) ⟨by rw [bc_app, List.length_append, List.length_append, g5, h5]; omega, .inr ⟨W.heap.size, _, _, by rw [List.length_append], Nat.zero_le _, heap_alloc_new W.drew _, by rw [List.length_append]; exact hge, hcm, ?_, ?_⟩⟩ (fun b' hb' => by
      have hb2 : some W.heap.size = some b' := hb'
      cases hb2; exact Nat.le_refl _)
    · simp only [Array.size_append, List.size_toArray, size_zeroCells, z4, g5, h5]
      omega
    · simp only [Array.toList_append, List.append_assoc]
      rw [bc_app, ← List.append_assoc]
      have e : (Lib.byteCells l ++ Lib.byteCells m).length = (l ++ m).length * 1 := by rw [List.length_append, List.length_append, g5, h5]; omega
      rw [← e]
      exact List.take_left
end
/-- The row of a constant's bytes, with the run-time's mark. -/
theorem Src.const (w : World) (x : List UInt8) {us : Array Value} (hus : us = (Lib.byteCells x).toArray) {n : Nat} (hn : n = x.length) (hl : n ≤ 1000) (fz : Nat × Nat) : Src w (w.alloc (.cells us 5 fz)) (.slice (some ⟨w.heap.size, 0, none⟩) n n) x [] := by
  subst hus hn
  refine .inr ⟨(Mem.start _).keep ((Mut.refl _ _).alloc _), ⟨_, rfl⟩, _, _, rfl, Nat.le_refl _, by unfold maxLen; omega, by rw [Lib.byteCells_length]; omega, .inr ⟨_, _, rfl, fun j u hu => ?_⟩⟩
  have hne : (w.alloc (.cells (Lib.byteCells x).toArray 5 fz)).heap[w.heap.size]? = some (.cells (Lib.byteCells x).toArray 5 fz) := heap_alloc_new w _
  rw [Nat.zero_add]
  unfold World.cell?
  simp only [hne]
  simpa using hu
set_option maxHeartbeats 4000000 in
theorem rfile_calls (s : List UInt8) (w : World) (hs : s.length ≤ 1000000000) :
    Calls Tryd.prog 37 #[.string (ofL s)] w fun e w' => e = .returned (.string (ofL (fileL s))) ∧ Mem none_ w [] w' := by
  have hz := ofL_size s
  have kc := fun (w : World) (C : Array Value) (n c : Nat) => Lib.run_convert_bytes_const (P := Tryd.prog) w 108 5 C n c Tryd.underlying108 Tryd.underlying5
  have HM0 := Lib.hid (Src.const w [47, 109, 101, 116, 97, 47] (us := #[.int .u8 47, .int .u8 109, .int .u8 101, .int .u8 116, .int .u8 97, .int .u8 47]) rfl (n := 6) rfl (by decide) (6, 7))
  go_enter Tryd.func37, Tryd.ntmps37
  go_wp2_with fail
  go_loopw [3, 4] (fun v5 v6 wr => ∃ k : Nat, k ≤ s.length ∧ v6 = .int .i64 k ∧ Src w wr v5 ([47, 109, 101, 116, 97, 47] ++ (s.take k).flatMap fileB) []) (fun _ v _ => s.length - (intOf v).toNat)
  case atStart => exact ⟨0, Nat.zero_le _, rfl, by simpa using HM0.out⟩
  case round =>
    clear HM0 kc
    obtain ⟨k, hk, rfl, HM⟩ := hrel
    by_cases hlt : k < s.length
    · have hlt' : decide ((k : Int) < (s.length : Int)) = true := decide_eq_true (by omega)
      have hltN : decide (k < s.length) = true := decide_eq_true hlt
      have hk' : k < (ofL s).size := by omega
      have hsn := file_snoc s k hlt
      have hal : ([47, 109, 101, 116, 97, 47] ++ (s.take k).flatMap fileB).length ≤ 2000000006 := by
        have := fileM_len (s.take k)
        rw [List.length_take] at this
        rw [List.length_append]
        show 6 + _ ≤ _
        omega
      have g0 : (ofL s)[k]'hk' = s[k] := rfl
      have Hsn := Lib.hid (by rw [hsn, List.append_assoc]; rfl : [47, 109, 101, 116, 97, 47] ++ (s.take (k + 1)).flatMap fileB = ([47, 109, 101, 116, 97, 47] ++ (s.take k).flatMap fileB) ++ fileB s[k])
      clear hsn
      generalize [47, 109, 101, 116, 97, 47] ++ (s.take k).flatMap fileB = acc at *
      generalize s[k] = c at *
      by_cases h1 : c = 37
      · have q1 : ((c.toNat : Int) == 37) = true := (byte_eq c 37).trans (decide_eq_true h1)
        have he : fileB c = [37, 37] := by unfold fileB; rw [if_pos h1]
        have HMs := HM.lit [37, 37] (us := #[.int .u8 37, .int .u8 37]) rfl (n := 2) rfl (by decide)
        have Hx := HMs.mem.at_ 0 rfl
        have He := Lib.hid he
        clear h1 he HM
        go_wp2_with (at_builtin; refine wpList_appAny bytE rfl _ _ rfl HMs rfl (xv := .slice (some ⟨wr.heap.size, 0, none⟩) 2 2) (m := [37, 37]) rfl (Row.sl Hx) (by show 0 < 2; omega) ?hb ?_; (case hb => show (_ + 2) * 1 ≤ _; omega); intro v' w' HM4)
        have HM5 := HM4.sel [0] (by decide)
        go_roundw
        case rel => exact ⟨k + 1, by omega, by go_num, by rw [Hsn.out, He.out]; exact .inl HM5⟩
        case measure => simp [intOf]; omega
      · have q1 : ((c.toNat : Int) == 37) = false := (byte_eq c 37).trans (decide_eq_false h1)
        by_cases h2 : c = 47
        · have q2 : ((c.toNat : Int) == 47) = true := (byte_eq c 47).trans (decide_eq_true h2)
          have he : fileB c = [37, 115] := by unfold fileB; rw [if_neg h1, if_pos h2]
          have HMs := HM.lit [37, 115] (us := #[.int .u8 37, .int .u8 115]) rfl (n := 2) rfl (by decide)
          have Hx := HMs.mem.at_ 0 rfl
          have He := Lib.hid he
          clear h1 h2 he HM
          go_wp2_with (at_builtin; refine wpList_appAny bytE rfl _ _ rfl HMs rfl (xv := .slice (some ⟨wr.heap.size, 0, none⟩) 2 2) (m := [37, 115]) rfl (Row.sl Hx) (by show 0 < 2; omega) ?hb ?_; (case hb => show (_ + 2) * 1 ≤ _; omega); intro v' w' HM4)
          have HM5 := HM4.sel [0] (by decide)
          go_roundw
          case rel => exact ⟨k + 1, by omega, by go_num, by rw [Hsn.out, He.out]; exact .inl HM5⟩
          case measure => simp [intOf]; omega
        · have q2 : ((c.toNat : Int) == 47) = false := (byte_eq c 47).trans (decide_eq_false h2)
          have he : fileB c = [c] := by unfold fileB; rw [if_neg h1, if_neg h2]
          have HMs := HM.lit [c] (us := #[.int .u8 c.toNat]) rfl (n := 1) rfl (by decide)
          have Hx := HMs.mem.at_ 0 rfl
          have He := Lib.hid he
          clear h1 h2 he HM
          go_wp2_with (at_builtin; refine wpList_appAny bytE rfl _ _ rfl HMs rfl (xv := .slice (some ⟨wr.heap.size, 0, none⟩) 1 1) (m := [c]) rfl (Row.sl Hx) (by show 0 < 1; omega) ?hb ?_; (case hb => show (_ + 1) * 1 ≤ _; omega); intro v' w' HM4)
          have HM5 := HM4.sel [0] (by decide)
          go_roundw
          case rel => exact ⟨k + 1, by omega, by go_num, by rw [Hsn.out, He.out]; exact .inl HM5⟩
          case measure => simp [intOf]; omega
    · have hlt' : decide ((k : Int) < (s.length : Int)) = false := decide_eq_false (by omega)
      have hltN : decide (k < s.length) = false := decide_eq_false hlt
      have e : k = s.length := by omega
      subst e
      rw [List.take_length] at HM
      have hal := fileM_len s
      have hL : [47, 109, 101, 116, 97, 47] ++ (s.flatMap fileB ++ [46, 109, 101, 116, 97]) = fileL s := rfl
      have a2 : ∀ wx, (Op.stringOp .add (ofL ([47, 109, 101, 116, 97, 47] ++ s.flatMap fileB)) ⟨#[46, 109, 101, 116, 97]⟩).run Tryd.prog wx = .ok (.string (ofL (([47, 109, 101, 116, 97, 47] ++ s.flatMap fileB) ++ [46, 109, 101, 116, 97]))) wx := add_run ([47, 109, 101, 116, 97, 47] ++ s.flatMap fileB) [46, 109, 101, 116, 97] (by rw [List.length_append]; show 6 + (s.flatMap fileB).length + 5 ≤ _; omega)
      rw [List.append_assoc, hL] at a2
      obtain ⟨R, hR⟩ : ∃ R, fileL s = R := ⟨_, rfl⟩
      rw [hR] at a2
      have HR := Lib.hid hR
      generalize [47, 109, 101, 116, 97, 47] ++ s.flatMap fileB = acc at *
      have hB := HM.byts
      have HMe := HM.mem
      have hc1 := conv_run _ acc wr hB
      obtain ⟨A, c, rfl, x1, x2⟩ := hB
      clear HM hL hal hR
      go_wp2_with fail
      go_ret
      exact ⟨by rw [HR.out]; rfl, HMe⟩
end Go.Proofs.YtnpehlkdfbmnkaaDoor
