/-
  Layer 16 (graph): the walk of GraphSelf.
-/
import Derived.Test.YtliglejbkpjamaaGrU
set_option linter.unusedVariables false
set_option linter.unusedSimpArgs false
set_option maxRecDepth 100000
namespace Go.Proofs.Ytliglejbkpjamaa
open Go.RowKit

theorem self_take (n : Nat) (c : Bool) (k : Nat) (h : k < n) : (selfR n c).take (k + 1) = (selfR n c).take k ++ [selfA n c k] := by
  have hl : k < (selfR n c).length := by simpa [selfR] using h
  rw [List.take_succ_eq_append_getElem hl]
  simp [selfR]
theorem push_one {fp : Nat → Prop} {w0 w : World} {v' : Value} {xs : List RX} {x : RX} {F : List Chunk} (h : Mem fp w0 (Row 25 5 v' (xs.length + 1) (xs.flatMap RX.cells ++ x.cells) :: (x.own ++ (Cls xs ++ F))) w) : Mem fp w0 (RRow v' (xs ++ [x]) :: (Cls (xs ++ [x]) ++ F)) w := by
  have e1 : RRow v' (xs ++ [x]) = Row 25 5 v' (xs.length + 1) (xs.flatMap RX.cells ++ x.cells) := by
    unfold RRow
    rw [List.length_append, List.flatMap_append, List.flatMap_singleton]; rfl
  rw [e1, Cls_snoc, List.append_assoc]
  exact h.perm (List.Perm.cons _ (List.perm_append_comm_assoc _ _ _))
abbrev ruleC (TV SV CV : Value) (k a : Int) : Array Value := #[TV, .int .i64 k, SV, CV, .int .i64 a]
set_option maxHeartbeats 16000000 in
theorem self_calls (many : Int) (c : Bool) (w : World) (hm : 0 ≤ many ∧ many < 256) : Calls Try.prog 6 #[.int .u8 many, .bool c] w fun e w' => e = .returned (.bool true) ∧ Mem none_ w [] w' := by
  obtain ⟨q, rfl⟩ : ∃ q : Nat, many = (q : Int) := ⟨many.toNat, by omega⟩
  have hq : q < 256 := by omega
  obtain ⟨n, hn⟩ : ∃ n, q % 20 + 1 = n := ⟨_, rfl⟩
  have hrm : Int.tmod (q : Int) 20 + 1 = (n : Int) := by
    have : Int.tmod (q : Int) 20 = ((q % 20 : Nat) : Int) := rfl
    rw [this]; omega
  have hn1 : 1 ≤ n ∧ n ≤ 20 := by omega
  clear hn hm
  have hrm := Lib.hid hrm
  go_enter Try.func6, Try.ntmps6
  go_wp2_with fail
  have hN : (q : Int) % 20 + 1 = (n : Int) := by
    have := hrm.out
    rw [Int.tmod_eq_emod_of_nonneg (by omega)] at this
    exact this
  rw [hN]
  clear hN hrm
  have HM0 : Hid (Mem none_ w (RRow (.slice none 0 0) [] :: Cls []) w) := Mem.new (Mem.start w) (Mut.refl _ _) (by exact World.ownsRow_nil _ _ _ _) (by intro b hb; cases hb)
  go_loopw [6, 16] (fun v6 v16 wr => ∃ (k : Nat) (xs : List RX), k ≤ n ∧ v16 = .int .i64 k ∧ Hid (xs.map RX.r = (selfR n c).take k) ∧ Hid (xs.length = k) ∧ Mem none_ w (RRow v6 xs :: Cls xs) wr) (fun _ v _ => n - (intOf v).toNat)
  case atStart => exact ⟨0, [], Nat.zero_le _, rfl, rfl, rfl, HM0.out⟩
  case round =>
    clear HM0
    obtain ⟨k, xs, hk, rfl, hxs, hxl, HM⟩ := hrel
    by_cases hlt : k < n
    · have hlt' : decide ((k : Int) < (n : Int)) = true := decide_eq_true (by omega)
      have hltN : decide (k < n) = true := decide_eq_true hlt
      have htk := Lib.hid (self_take n c k hlt)
      obtain ⟨m, hm⟩ : ∃ m, (k + 1) % n = m := ⟨_, rfl⟩
      have hm20 : m < 20 := by have := Nat.mod_lt (k + 1) (show 0 < n from by omega); omega
      have hmd : Int.tmod ((k : Int) + 1) (n : Int) = (m : Int) := by rw [← hm]; rfl
      have hme : ((k : Int) + 1) % (n : Int) = (m : Int) := by rw [← hm]; rfl
      have hn0 : ((n : Int) == 0) = false := by rw [beq_eq_false_iff_ne]; omega
      have hn2 : ¬ (n : Int) = 0 := by omega
      have hn3 : decide ((n : Int) = 0) = false := decide_eq_false hn2
      have hw1 : IntKind.i64.wrap ((k : Int) + 1) = (k : Int) + 1 := IntWalk.i64_in _ (by omega)
      have hw2 : IntKind.i64.wrap (m : Int) = (m : Int) := IntWalk.i64_in _ (by omega)
      have hn4 : ¬ n = 0 := by omega
      have hm := Lib.hid hm
      have HM1 := Lib.hid HM.drew
      clear HM
      go_wp2_with fail
      refine lf_start (fun _ => True) [1, 2, 7, 8, 11, 12, 13] 14 (by kernel_rfl) rfl (by kernel_rfl) trivial ?_
      generalize World.drew _ = W5 at *
      refine lf_pre [(.pure, 0), (.pure, 3), (.pure, 4), (.pure, 5), (.pure, 6), (.pure, 9), (.pure, 10)] [10, 9, 6, 5, 4, 3, 0] 7 rfl (by kernel_rfl) (fun _ _ _ _ _ h => h) trivial ?_
      repeat (first | (refine pre_pure (v := ?_) (a' := ?_) rfl rfl rfl ?_ ?_ ?_; rotate_left 2; (focus (intro w'; go_simp; with_reducible rfl)); (focus (simp only [Act.put, List.setIfInBounds_toArray, List.set_cons_zero, List.set_cons_succ]; rfl))) | (refine pre_load (v := ?_) (a' := ?_) rfl rfl rfl ?_ ?_ ?_; rotate_left 2; (focus (intro w' hw'; rw [hw']; go_simp; with_reducible rfl)); (focus (simp only [Act.put, List.setIfInBounds_toArray, List.set_cons_zero, List.set_cons_succ]; rfl))) | (refine pre_skip rfl rfl (by decide +kernel) (by simp only [Act.put, List.setIfInBounds_toArray, List.set_cons_zero, List.set_cons_succ]; rfl) ?_))
      refine pre_done ?_
      refine lf_name (fun A0 hA0 => ?_)
      have hE0 : A0.eval (.tmp 19) = .int .i64 (k : Int) := by rw [hA0.out]; rfl
      have hE1 : A0.eval (.tmp 25) = .int .i64 (m : Int) := by rw [hA0.out]; rfl
      have hE2 : A0.eval (.tmp 29) = .int .i64 ((k : Int) + 1) := by rw [hA0.out]; rfl
      have hz0 : A0.tmps.size = 62 := by rw [hA0.out]; rfl
      refine effs (F := RRow u6 xs :: Cls xs) (fp := none_) (w0 := w) [⟨1, 20, [], fun _ => [], fun _ v => v = .string (nameS k)⟩, ⟨2, 21, [1], fun v => [StrRow v [nameS k]], fun _ v => ∃ b, v = .slice (some ⟨b, 0, none⟩) 1 1⟩, ⟨7, 26, [1], fun _ => [], fun _ v => v = .string (nameS m)⟩, ⟨8, 27, [7], fun v => [StrRow v [nameS m]], fun _ v => ∃ b, v = .slice (some ⟨b, 0, none⟩) 1 1⟩, ⟨11, 30, [2, 8], fun _ => [], fun g v => v = .agg (ruleC (g 2) (g 8) (.slice none 0 0) 1 ((k : Int) + 1))⟩, ⟨12, 8, [], fun v => [Blk (pb v) 25 (ruleC (.slice none 0 0) (.slice none 0 0) (.slice none 0 0) 0 0)], fun _ v => v = .pointer (some ⟨pb v, 0, none⟩)⟩] 7 rfl (by kernel_rfl) (show ([1, 2, 7, 8, 11, 12] : List Nat).Nodup from by decide) (show ([20, 21, 26, 27, 30, 8] : List Nat).Nodup from by decide) (fun e he => ?hz) (fun G W hm => trivial) HM1.out (fun e he g g' v hg hr => ?hst) (fun e he => ?hsp) ?_
      case hz =>
        rw [hz0]
        simp only [List.mem_cons, List.not_mem_nil, or_false] at he
        rcases he with rfl | rfl | rfl | rfl | rfl | rfl <;> simp
      case hst =>
        simp only [List.mem_cons, List.not_mem_nil, or_false] at he
        rcases he with rfl | rfl | rfl | rfl | rfl | rfl
        · exact hr
        · exact hr
        · exact hr
        · exact hr
        · simp only at hr ⊢
          rw [← hg 2 (by simp), ← hg 8 (by simp)]; exact hr
        · exact hr
      case hsp =>
        clear hA0
        simp only [List.mem_cons, List.not_mem_nil, or_false] at he
        rcases he with rfl | rfl | rfl | rfl | rfl | rfl
        · refine ⟨_, rfl, fun a g W G K hba hgt hmm hK => ?_⟩
          have hC := name_calls k W (by omega)
          have e1 := tmp_of ((hba 19 (by simp)).trans hE0)
          clear hba hgt
          go_wp2_with (go_at_call 14; (try rw [e1]); refine hC.mono ?_; clear hC; rintro e w1 ⟨rfl, hm2⟩)
          exact hK _ _ rfl (hmm.got hm2)
        · refine ⟨_, rfl, fun a g W G K hba hgt hmm hK => ?_⟩
          obtain ⟨e3, f3⟩ := hgt ⟨1, 20, [], fun _ => [], fun _ v => v = .string (nameS k)⟩ (by simp) (by simp)
          refine wpList_run (N := 21) rfl rfl (build1s_run (e3.trans f3) _ rfl) rfl (wpList_nil_ (hK _ _ ⟨_, rfl⟩ ?_))
          exact hmm.lit1 (nameS k)
        · refine ⟨_, rfl, fun a g W G K hba hgt hmm hK => ?_⟩
          have hC := name_calls m W hm20
          have e1 := tmp_of ((hba 25 (by simp)).trans hE1)
          clear hba hgt
          go_wp2_with (go_at_call 14; (try rw [e1]); refine hC.mono ?_; clear hC; rintro e w1 ⟨rfl, hm2⟩)
          exact hK _ _ rfl (hmm.got hm2)
        · refine ⟨_, rfl, fun a g W G K hba hgt hmm hK => ?_⟩
          obtain ⟨e3, f3⟩ := hgt ⟨7, 26, [1], fun _ => [], fun _ v => v = .string (nameS m)⟩ (by simp) (by simp)
          refine wpList_run (N := 27) rfl rfl (build1s_run (e3.trans f3) _ rfl) rfl (wpList_nil_ (hK _ _ ⟨_, rfl⟩ ?_))
          exact hmm.lit1 (nameS m)
        · refine ⟨_, rfl, fun a g W G K hba hgt hmm hK => ?_⟩
          obtain ⟨e3, b3, f3⟩ := hgt ⟨2, 21, [1], fun v => [StrRow v [nameS k]], fun _ v => ∃ b, v = .slice (some ⟨b, 0, none⟩) 1 1⟩ (by simp) (by simp)
          obtain ⟨e8, b8, f8⟩ := hgt ⟨8, 27, [7], fun v => [StrRow v [nameS m]], fun _ v => ∃ b, v = .slice (some ⟨b, 0, none⟩) 1 1⟩ (by simp) (by simp)
          have e3 := tmp_of (e3.trans f3)
          have e8 := tmp_of (e8.trans f8)
          have e9 := tmp_of ((hba 29 (by simp)).trans hE2)
          simp only at e3 f3 e8 f8
          have hf : ∀ v : Value, v = .agg (ruleC (.slice (some ⟨b3, 0, none⟩) 1 1) (.slice (some ⟨b8, 0, none⟩) 1 1) (.slice none 0 0) 1 ((k : Int) + 1)) → v = .agg (ruleC (g 2) (g 8) (.slice none 0 0) 1 ((k : Int) + 1)) := fun v hv => by rw [hv, f3, f8]
          clear hba hgt f3 f8
          go_wp2_with fail
          first | exact hK _ _ rfl hmm | exact hK _ _ (hf _ rfl) hmm
        · refine ⟨_, rfl, fun a g W G K hba hgt hmm hK => ?_⟩
          clear hba hgt
          go_wp2_with fail
          exact hK (.pointer (some ⟨W.heap.size, 0, none⟩)) _ rfl (hmm.box _ _)
      clear HM1 hE0 hE1 hE2 hz0
      intro v20 v21 v26 v27 v30 v8 W6 hRR HM6
      have h21 := hRR (⟨2, 21, [1], fun v => [StrRow v [nameS k]], fun _ v => ∃ b, v = .slice (some ⟨b, 0, none⟩) 1 1⟩, v21) (by simp)
      have h27 := hRR (⟨8, 27, [7], fun v => [StrRow v [nameS m]], fun _ v => ∃ b, v = .slice (some ⟨b, 0, none⟩) 1 1⟩, v27) (by simp)
      have h30 := hRR (⟨11, 30, [2, 8], fun _ => [], fun g v => v = .agg (ruleC (g 2) (g 8) (.slice none 0 0) 1 ((k : Int) + 1))⟩, v30) (by simp)
      have h8 := hRR (⟨12, 8, [], fun v => [Blk (pb v) 25 (ruleC (.slice none 0 0) (.slice none 0 0) (.slice none 0 0) 0 0)], fun _ v => v = .pointer (some ⟨pb v, 0, none⟩)⟩, v8) (by simp)
      simp [got] at h30 h8
      clear hRR
      generalize pb v8 = rb at *
      obtain ⟨b21, h21⟩ := h21
      obtain ⟨b27, h27⟩ := h27
      simp only at h21 h27
      subst h21 h27
      subst h30 h8
      have hA1 := hA0.out
      subst hA1
      simp only [putAll, Act.put, List.setIfInBounds_toArray, List.set_cons_zero, List.set_cons_succ]
      clear hA0
      have HM7 : Hid (Mem none_ w ([StrRow (.slice (some ⟨b21, 0, none⟩) 1 1) [nameS k], StrRow (.slice (some ⟨b27, 0, none⟩) 1 1) [nameS m], Blk rb 25 #[.slice none 0 0, .int .i64 0, .slice none 0 0, .slice none 0 0, .int .i64 0], RRow u6 xs] ++ Cls xs) W6) := HM6
      have hb0 := HM7.out.at_ 2 rfl
      have xc0 := (Blk.cell_ hb0 0).trans (show _ = some (Value.slice none 0 0) from rfl)
      have xf0 := Blk.frozen hb0 0
      have xc1 := (Blk.cell_ hb0 1).trans (show _ = some (Value.int .i64 0) from rfl)
      have xf1 := Blk.frozen hb0 1
      have xc2 := (Blk.cell_ hb0 2).trans (show _ = some (Value.slice none 0 0) from rfl)
      have xf2 := Blk.frozen hb0 2
      have xc3 := (Blk.cell_ hb0 3).trans (show _ = some (Value.slice none 0 0) from rfl)
      have xf3 := Blk.frozen hb0 3
      have xc4 := (Blk.cell_ hb0 4).trans (show _ = some (Value.int .i64 0) from rfl)
      have xf4 := Blk.frozen hb0 4
      clear HM6 hb0
      refine lf_one 13 (by kernel_rfl) rfl (fun K hK => ?_)
      go_wp2_with fail
      refine hK _ _ (fun _ _ => trivial) ?_
      clear hK xc0 xf0 xc1 xf1 xc2 xf2 xc3 xf3 xc4 xf4
      refine lf_end (by kernel_rfl) ?_
      have G0 : Mem none_ w (Blk rb 25 #[.slice none 0 0, .int .i64 0, .slice none 0 0, .slice none 0 0, .int .i64 0] :: ([StrRow (.slice (some ⟨b21, 0, none⟩) 1 1) [nameS k], StrRow (.slice (some ⟨b27, 0, none⟩) 1 1) [nameS m], RRow u6 xs] ++ Cls xs)) W6 := HM7.out.psel (L := [_, _, _, _]) [2, 0, 1, 3] 4 rfl (by decide)
      have G1 : Mem none_ w (Blk rb 25 #[.slice (some ⟨b21, 0, none⟩) 1 1, .int .i64 0, .slice none 0 0, .slice none 0 0, .int .i64 0] :: ([StrRow (.slice (some ⟨b21, 0, none⟩) 1 1) [nameS k], StrRow (.slice (some ⟨b27, 0, none⟩) 1 1) [nameS m], RRow u6 xs] ++ Cls xs)) _ := G0.blkSet 0 (.slice (some ⟨b21, 0, none⟩) 1 1)
      clear G0
      have G2 : Mem none_ w (Blk rb 25 #[.slice (some ⟨b21, 0, none⟩) 1 1, .int .i64 1, .slice none 0 0, .slice none 0 0, .int .i64 0] :: ([StrRow (.slice (some ⟨b21, 0, none⟩) 1 1) [nameS k], StrRow (.slice (some ⟨b27, 0, none⟩) 1 1) [nameS m], RRow u6 xs] ++ Cls xs)) _ := G1.blkSet 1 (.int .i64 1)
      clear G1
      have G3 : Mem none_ w (Blk rb 25 #[.slice (some ⟨b21, 0, none⟩) 1 1, .int .i64 1, .slice (some ⟨b27, 0, none⟩) 1 1, .slice none 0 0, .int .i64 0] :: ([StrRow (.slice (some ⟨b21, 0, none⟩) 1 1) [nameS k], StrRow (.slice (some ⟨b27, 0, none⟩) 1 1) [nameS m], RRow u6 xs] ++ Cls xs)) _ := G2.blkSet 2 (.slice (some ⟨b27, 0, none⟩) 1 1)
      clear G2
      have G4 : Mem none_ w (Blk rb 25 #[.slice (some ⟨b21, 0, none⟩) 1 1, .int .i64 1, .slice (some ⟨b27, 0, none⟩) 1 1, .slice none 0 0, .int .i64 0] :: ([StrRow (.slice (some ⟨b21, 0, none⟩) 1 1) [nameS k], StrRow (.slice (some ⟨b27, 0, none⟩) 1 1) [nameS m], RRow u6 xs] ++ Cls xs)) _ := G3.blkSet 3 (.slice none 0 0)
      clear G3
      have G5 : Mem none_ w (Blk rb 25 #[.slice (some ⟨b21, 0, none⟩) 1 1, .int .i64 1, .slice (some ⟨b27, 0, none⟩) 1 1, .slice none 0 0, .int .i64 ((k : Int) + 1)] :: ([StrRow (.slice (some ⟨b21, 0, none⟩) 1 1) [nameS k], StrRow (.slice (some ⟨b27, 0, none⟩) 1 1) [nameS m], RRow u6 xs] ++ Cls xs)) _ := G4.blkSet 4 (.int .i64 ((k : Int) + 1))
      clear G4
      clear HM7
      have HM8a : Mem none_ w ([StrRow (.slice (some ⟨b21, 0, none⟩) 1 1) [nameS k], StrRow (.slice (some ⟨b27, 0, none⟩) 1 1) [nameS m], Blk rb 25 #[.slice (some ⟨b21, 0, none⟩) 1 1, .int .i64 1, .slice (some ⟨b27, 0, none⟩) 1 1, .slice none 0 0, .int .i64 ((k : Int) + 1)], RRow u6 xs] ++ Cls xs) _ := G5.psel (L := [_, _, _, _]) [1, 2, 0, 3] 4 rfl (by decide)
      generalize World.setCell _ _ _ = W7 at *
      have HM8 := Lib.hid HM8a
      clear HM8a G5
      cases c with
      | true =>
        have HMx := HM8.out.lit1 ⟨#[99, 109, 100]⟩
        have r0 := (Blk.cell_ (HMx.at_ 3 rfl) 0).trans (show _ = some (Value.slice (some ⟨b21, 0, none⟩) 1 1) from rfl)
        have r1 := (Blk.cell_ (HMx.at_ 3 rfl) 1).trans (show _ = some (Value.int .i64 1) from rfl)
        have r2 := (Blk.cell_ (HMx.at_ 3 rfl) 2).trans (show _ = some (Value.slice (some ⟨b27, 0, none⟩) 1 1) from rfl)
        have r3 := (Blk.cell_ (HMx.at_ 3 rfl) 3).trans (show _ = some (Value.slice none 0 0) from rfl)
        have r4 := (Blk.cell_ (HMx.at_ 3 rfl) 4).trans (show _ = some (Value.int .i64 ((k : Int) + 1)) from rfl)
        have f3 := Blk.frozen (HMx.at_ 3 rfl) 3
        have HMy := (HMx.psel (L := [_, _, _, _]) [3, 0, 1, 2] 4 rfl (by decide)).blkSet 3 (.slice (some ⟨W7.heap.size, 0, none⟩) 1 1)
        have HMp : Hid (Mem none_ w (RRow u6 xs :: ([StrRow (.slice (some ⟨b21, 0, none⟩) 1 1) [nameS k], StrRow (.slice (some ⟨b27, 0, none⟩) 1 1) [nameS m], StrRow (.slice (some ⟨W7.heap.size, 0, none⟩) 1 1) [⟨#[99, 109, 100]⟩]] ++ Cls xs)) _) := HMy.psel (L := [_, _, _, _, _]) [4, 2, 3, 1] 5 rfl (by decide)
        clear HMx HMy HM8
        have hlb := Lib.hid (show (xs.length + 1) * 88 ≤ 140737488355328 from by have := hxl.out; omega)
        go_wp2_with (at_builtin; refine wpList_app1 ruleE rfl _ _ rfl HMp.out rfl #[.slice (some ⟨b21, 0, none⟩) 1 1, .int .i64 1, .slice (some ⟨b27, 0, none⟩) 1 1, .slice (some ⟨W7.heap.size, 0, none⟩) 1 1, .int .i64 ((k : Int) + 1)] (W7.heap.size + 1) rfl (by simp) rfl (by simp [Value.oneCell']) hlb.out ?_; intro v9 w9 hm9 hU9; have HM9 := Lib.hid hm9; clear hm9 hU9 HMp)
        have HMf := Lib.hid (push_one (F := []) (x := ⟨.slice (some ⟨b21, 0, none⟩) 1 1, .slice (some ⟨b27, 0, none⟩) 1 1, .slice (some ⟨W7.heap.size, 0, none⟩) 1 1, ⟨[nameS k], 1, [nameS m], [⟨#[99, 109, 100]⟩], (k : Int) + 1⟩⟩) (by rw [List.append_nil]; exact HM9.out))
        have hx2 := Lib.hid (show (xs ++ [(⟨.slice (some ⟨b21, 0, none⟩) 1 1, .slice (some ⟨b27, 0, none⟩) 1 1, .slice (some ⟨W7.heap.size, 0, none⟩) 1 1, ⟨[nameS k], 1, [nameS m], [⟨#[99, 109, 100]⟩], (k : Int) + 1⟩⟩ : RX)]).map RX.r = (selfR n true).take (k + 1) from by
          rw [List.map_append, hxs.out, htk.out]
          unfold selfA
          rw [hm.out]
          rfl)
        go_roundw
        case rel => exact ⟨k + 1, _, by omega, by go_num, hx2, Lib.hid (by rw [List.length_append, hxl.out]; rfl), by have h := HMf.out; rw [List.append_nil] at h; exact h⟩
        case measure => simp [intOf]; omega
      | false =>
        have r0 := (Blk.cell_ (HM8.out.at_ 2 rfl) 0).trans (show _ = some (Value.slice (some ⟨b21, 0, none⟩) 1 1) from rfl)
        have r1 := (Blk.cell_ (HM8.out.at_ 2 rfl) 1).trans (show _ = some (Value.int .i64 1) from rfl)
        have r2 := (Blk.cell_ (HM8.out.at_ 2 rfl) 2).trans (show _ = some (Value.slice (some ⟨b27, 0, none⟩) 1 1) from rfl)
        have r3 := (Blk.cell_ (HM8.out.at_ 2 rfl) 3).trans (show _ = some (Value.slice none 0 0) from rfl)
        have r4 := (Blk.cell_ (HM8.out.at_ 2 rfl) 4).trans (show _ = some (Value.int .i64 ((k : Int) + 1)) from rfl)
        have HMp : Hid (Mem none_ w (RRow u6 xs :: ([StrRow (.slice (some ⟨b21, 0, none⟩) 1 1) [nameS k], StrRow (.slice (some ⟨b27, 0, none⟩) 1 1) [nameS m], StrRow (.slice none 0 0) []] ++ Cls xs)) _) := HM8.out.nilS.psel (L := [_, _, _, _, _]) [4, 1, 2, 0] 5 rfl (by decide)
        clear HM8
        have hlb := Lib.hid (show (xs.length + 1) * 88 ≤ 140737488355328 from by have := hxl.out; omega)
        go_wp2_with (at_builtin; refine wpList_app1 ruleE rfl _ _ rfl HMp.out rfl #[.slice (some ⟨b21, 0, none⟩) 1 1, .int .i64 1, .slice (some ⟨b27, 0, none⟩) 1 1, .slice none 0 0, .int .i64 ((k : Int) + 1)] _ rfl rfl rfl (by simp [Value.oneCell']) hlb.out ?_; intro v9 w9 hm9 hU9; have HM9 := Lib.hid hm9; clear hm9 hU9 HMp)
        have HMf := Lib.hid (push_one (F := []) (x := ⟨.slice (some ⟨b21, 0, none⟩) 1 1, .slice (some ⟨b27, 0, none⟩) 1 1, .slice none 0 0, ⟨[nameS k], 1, [nameS m], [], (k : Int) + 1⟩⟩) (by rw [List.append_nil]; exact HM9.out))
        have hx2 := Lib.hid (show (xs ++ [(⟨.slice (some ⟨b21, 0, none⟩) 1 1, .slice (some ⟨b27, 0, none⟩) 1 1, .slice none 0 0, ⟨[nameS k], 1, [nameS m], [], (k : Int) + 1⟩⟩ : RX)]).map RX.r = (selfR n false).take (k + 1) from by
          rw [List.map_append, hxs.out, htk.out]
          unfold selfA
          rw [hm.out]
          rfl)
        go_roundw
        case rel => exact ⟨k + 1, _, by omega, by go_num, hx2, Lib.hid (by rw [List.length_append, hxl.out]; rfl), by have h := HMf.out; rw [List.append_nil] at h; exact h⟩
        case measure => simp [intOf]; omega
    · have hlt' : decide ((k : Int) < (n : Int)) = false := decide_eq_false (by omega)
      have hltN : decide (k < n) = false := decide_eq_false hlt
      have hkn : k = n := by omega
      subst hkn
      have hl : xs.map RX.r = selfR k c := by
        rw [hxs.out]
        exact List.take_of_length_le (by simp [selfR])
      clear hxs hxl
      have HMk := Lib.hid HM
      clear HM
      go_wp2_with fail
      have hL : Rules wr u6 (selfR k c) := by
        have h := Mem.rules (F := []) (xs := xs) (V := u6) (by rw [List.append_nil]; exact HMk.out)
        rw [hl] at h
        exact h
      refine (build_calls u6 (.slice none 0 0) (.slice none 0 0) (selfR k c) [] [] 2 1 1 20 _ hL (strs_nil _) (strs_nil _) (self_sized k c (by omega)) (fun g hg => by cases hg) (by decide) (by decide)).mono ?_
      rintro e w2 (⟨why, nm, pat, hbad, rfl, hm2⟩ | ⟨gs, xs2, GO, NV, hg, _⟩)
      case inr => exact absurd hg (fun hg => self_good (by omega) (by omega) hg)
      obtain ⟨rfl, rfl⟩ := self_bad (by omega) (by omega) hbad
      clear hbad hL hl
      have HM2 := Lib.hid (((HMk.out.got hm2).box #[.slice none 0 0, .slice none 0 0] 29).box #[.int .i64 11, .string (nameS 0), .int .i64 pat] 32)
      have HM3 := HM2.out.drew
      rw [sz_alloc] at HM3
      have hS0 := Lib.hid (show _ ∧ _ ∧ _ from ⟨Blk.cell_ (HM3.at_ 0 rfl) 0, Blk.cell_ (HM3.at_ 0 rfl) 1, Blk.cell_ (HM3.at_ 1 rfl) 1⟩)
      clear hm2 HMk
      unfold retB
      have hb1 := Blk.frozen (HM2.out.at_ 0 rfl) 0
      clear hb1
      go_wp2_with fail
      have HM3 := Lib.hid HM3
      clear HM2
      refine wp_plan [] (S := fun w' => Hid (w'.cell? ⟨w2.heap.size + 1, 0, none⟩ = some (.int .i64 11) ∧ w'.cell? ⟨w2.heap.size + 1, 1, none⟩ = some (.string (nameS 0)) ∧ w'.cell? ⟨w2.heap.size, 1, none⟩ = some (.slice none 0 0))) [(.pure, 0), (.load, 1), (.pure, 2), (.pure, 3), (.pure, 4), (.load, 5), (.eff, 6), (.pure, 7), (.pure, 8), (.pure, 9), (.pure, 10), (.load, 11), (.pure, 12), (.pure, 13), (.pure, 14), (.pure, 15), (.eff, 16), (.pure, 17), (.pure, 18)] (by kernel_rfl) rfl (by kernel_rfl) rfl (fun _ _ _ _ _ h => h) hS0 ?_
      generalize World.drew _ = W5 at *
      clear hS0
      repeat (first | (refine plan_pure (v := ?_) (a' := ?_) rfl rfl rfl ?_ ?_ ?_; rotate_left 2; (focus (intro w'; go_simp; with_reducible rfl)); (focus (simp only [Act.put, List.setIfInBounds_toArray, List.set_cons_zero, List.set_cons_succ]; rfl))) | (refine plan_load (v := ?_) (a' := ?_) rfl rfl rfl ?_ ?_ ?_; rotate_left 2; (focus (intro w' hw'; obtain ⟨q0, q1, q2⟩ := hw'.out; clear hw'; go_simp; with_reducible rfl)); (focus (simp only [Act.put, List.setIfInBounds_toArray, List.set_cons_zero, List.set_cons_succ]; rfl))) | (refine plan_skip rfl rfl (by decide +kernel) (by simp only [Act.put, List.setIfInBounds_toArray, List.set_cons_zero, List.set_cons_succ]; rfl) ?_) | (refine plan_skip (a' := ?_) rfl rfl rfl ?_ ?_; rotate_left 1; (focus (simp only [Act.put, List.setIfInBounds_toArray, List.set_cons_zero, List.set_cons_succ]; rfl))) | (refine plan_skipL (a' := ?_) rfl rfl rfl ?_ ?_; rotate_left 1; (focus (simp only [Act.put, List.setIfInBounds_toArray, List.set_cons_zero, List.set_cons_succ]; rfl))))
      refine plan_eff rfl (fun K hK => ?_)
      have hC := name_calls 0 W5 (by decide)
      go_wp2_with (go_at_call 14; refine hC.mono ?_; clear hC; rintro e w3 ⟨rfl, hm⟩)
      have HM4 := Lib.hid (HM3.out.got hm)
      clear HM3 hm
      have hS1 := Lib.hid (show _ ∧ _ ∧ _ from ⟨Blk.cell_ (HM4.out.at_ 0 rfl) 0, Blk.cell_ (HM4.out.at_ 0 rfl) 1, Blk.cell_ (HM4.out.at_ 1 rfl) 1⟩)
      refine hK _ _ hS1 ?_
      clear hK hS1
      have hE : ((nameS 0).toList == (nameS 0).toList) = true := beq_self_eq_true _
      repeat (first | (refine plan_pure (v := ?_) (a' := ?_) rfl rfl rfl ?_ ?_ ?_; rotate_left 2; (focus (intro w'; go_simp; with_reducible rfl)); (focus (simp only [Act.put, List.setIfInBounds_toArray, List.set_cons_zero, List.set_cons_succ]; rfl))) | (refine plan_load (v := ?_) (a' := ?_) rfl rfl rfl ?_ ?_ ?_; rotate_left 2; (focus (intro w' hw'; obtain ⟨q0, q1, q2⟩ := hw'.out; clear hw'; go_simp; with_reducible rfl)); (focus (simp only [Act.put, List.setIfInBounds_toArray, List.set_cons_zero, List.set_cons_succ]; rfl))) | (refine plan_skip rfl rfl (by decide +kernel) (by simp only [Act.put, List.setIfInBounds_toArray, List.set_cons_zero, List.set_cons_succ]; rfl) ?_) | (refine plan_skip (a' := ?_) rfl rfl rfl ?_ ?_; rotate_left 1; (focus (simp only [Act.put, List.setIfInBounds_toArray, List.set_cons_zero, List.set_cons_succ]; rfl))) | (refine plan_skipL (a' := ?_) rfl rfl rfl ?_ ?_; rotate_left 1; (focus (simp only [Act.put, List.setIfInBounds_toArray, List.set_cons_zero, List.set_cons_succ]; rfl))))
      refine plan_eff rfl (fun K hK => ?_)
      have hC := alive_calls w3
      go_wp2_with (go_at_call 12; refine hC.mono ?_; clear hC; rintro e w4 ⟨rfl, hm⟩)
      have HM5 := Lib.hid (HM4.out.got hm)
      clear HM4 hm
      have hS1 := Lib.hid (show _ ∧ _ ∧ _ from ⟨Blk.cell_ (HM5.out.at_ 0 rfl) 0, Blk.cell_ (HM5.out.at_ 0 rfl) 1, Blk.cell_ (HM5.out.at_ 1 rfl) 1⟩)
      refine hK _ _ hS1 ?_
      clear hK hS1
      repeat (first | (refine plan_pure (v := ?_) (a' := ?_) rfl rfl rfl ?_ ?_ ?_; rotate_left 2; (focus (intro w'; go_simp; with_reducible rfl)); (focus (simp only [Act.put, List.setIfInBounds_toArray, List.set_cons_zero, List.set_cons_succ]; rfl))) | (refine plan_load (v := ?_) (a' := ?_) rfl rfl rfl ?_ ?_ ?_; rotate_left 2; (focus (intro w' hw'; obtain ⟨q0, q1, q2⟩ := hw'.out; clear hw'; go_simp; with_reducible rfl)); (focus (simp only [Act.put, List.setIfInBounds_toArray, List.set_cons_zero, List.set_cons_succ]; rfl))) | (refine plan_skip rfl rfl (by decide +kernel) (by simp only [Act.put, List.setIfInBounds_toArray, List.set_cons_zero, List.set_cons_succ]; rfl) ?_) | (refine plan_skip (a' := ?_) rfl rfl rfl ?_ ?_; rotate_left 1; (focus (simp only [Act.put, List.setIfInBounds_toArray, List.set_cons_zero, List.set_cons_succ]; rfl))) | (refine plan_skipL (a' := ?_) rfl rfl rfl ?_ ?_; rotate_left 1; (focus (simp only [Act.put, List.setIfInBounds_toArray, List.set_cons_zero, List.set_cons_succ]; rfl))))
      refine plan_done ?_
      go_wp2_with fail
      go_ret
      exact ⟨rfl, HM5.out.only (fun d hd => by cases hd) .nil⟩
end Go.Proofs.Ytliglejbkpjamaa
