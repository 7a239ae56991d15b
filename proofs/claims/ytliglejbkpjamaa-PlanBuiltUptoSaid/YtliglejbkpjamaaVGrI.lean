/-
  Layer 16 (graph): the walk of Join.
-/
import Derived.Test.YtliglejbkpjamaaVGrI0
set_option linter.unusedVariables false
set_option linter.unusedSimpArgs false
set_option maxRecDepth 100000
namespace Go.Proofs.Ytliglejbkpjamaa
open Go.RowKit

set_option maxHeartbeats 16000000 in
theorem join_calls (V : Value) (l : List RuleS) (w : World) (B N : Nat) (hV : Rules w V l) (hB : ∀ r, r ∈ l → r.src.length ≤ B ∧ r.cmd.length ≤ B) (hN : (l.flatMap RuleS.tg).length ≤ N) (hBN : N * B ≤ 4398046511104) (hN1 : N ≤ 100000)
    (hsz : ∀ r, r ∈ l → ∀ t, t ∈ r.tg → t.size ≤ 4611686018427387904) :
    Calls Try.prog 22 #[V] w fun e w' => (joinB l = none → ∃ a : Int, e = .returned (.tuple #[.slice none 0 0, .agg #[.int .i64 14, .int .i64 a]]) ∧ Mem none_ w [] w') ∧
      (∀ s, joinB l = some s → ∃ v, e = .returned (.tuple #[v, .agg #[.int .i64 0, .int .i64 0]]) ∧ Mem none_ w [] w' ∧ Rules w' v s) := by
  obtain ⟨A, n, c, rfl⟩ : ∃ A n c, V = .slice A n c := by
    obtain ⟨cells, ⟨A, c, rfl, _⟩, _⟩ := hV
    exact ⟨A, _, c, rfl⟩
  obtain ⟨rfl, g1, g2, g3⟩ := hV.get
  unfold maxLen at g2
  have HM0 := MapC.made ((Mem.start (fp := none_) w).box #[.int .i64 0, .int .i64 0] 53) Value.string (Value.int .i64)
  have hmm := @run_makeMap Try.prog
  go_enter Try.func22, Try.ntmps22
  go_wp2_with fail
  clear hmm
  have HM1 : Hid (Mem none_ w ([RRow (.slice none 0 0) [], MapC (w.alloc (.cells #[.int .i64 0, .int .i64 0] 53)).heap.size Value.string (Value.int .i64) ([] : List (ByteArray × Int)), Blk w.heap.size 53 #[.int .i64 0, .int .i64 0]] ++ Cls []) _) := Mem.new HM0 (Mut.refl _ _) (by exact World.ownsRow_nil _ _ _ _) (by intro b hb; cases hb)
  have eb : (w.alloc (.cells #[.int .i64 0, .int .i64 0] 53)).heap.size = w.heap.size + 1 := by simp
  have HI0 : Hid (joinRs l ([], []) = joinRs (l.drop 0) (([] : List RX).map RX.r, [])) := by unfold Hid; rfl
  have HJ0 : Hid (JBd B N 0 ((l.drop 0).flatMap RuleS.tg).length (([] : List RX).map RX.r, [])) := Lib.hid ⟨JOk.start B, by rw [List.drop_zero]; omega⟩
  obtain ⟨RS, hRS⟩ : ∃ x, joinRs l ([], []) = x := ⟨_, rfl⟩
  rw [hRS] at HI0
  have hRS := Lib.hid hRS
  clear HM0
  rw [eb] at HM1
  clear eb
  generalize hfb : w.heap.size = fb at *
  go_loopw [4, 19] (fun v4 v19 wr => ∃ (k : Nat) (xs : List RX) (m : List (ByteArray × Int)) (n : Nat), k ≤ l.length ∧ v19 = .int .i64 k ∧ Hid (RS = joinRs (l.drop k) (xs.map RX.r, m)) ∧ Hid (JBd B N n ((l.drop k).flatMap RuleS.tg).length (xs.map RX.r, m)) ∧
    Mem none_ w ([RRow v4 xs, MapC (fb + 1) Value.string (Value.int .i64) m, Blk fb 53 #[.int .i64 0, .int .i64 0]] ++ Cls xs) wr) (fun _ v _ => l.length - (intOf v).toNat)
  case atStart => exact ⟨0, [], [], 0, Nat.zero_le _, rfl, HI0, HJ0, HM1.out⟩
  case round =>
    clear HM1 HI0 HJ0
    obtain ⟨k, xs, m, n, hk, rfl, HI, HJ, HM⟩ := hrel
    by_cases hlt : k < l.length
    · have hlt' : decide ((k : Int) < (l.length : Int)) = true := decide_eq_true (by omega)
      have hltN : decide (k < l.length) = true := decide_eq_true hlt
      obtain ⟨b, o, rfl, hcells⟩ := g3.resolve_left (by omega)
      obtain ⟨TV, XV, CV, x0, x1, x2, x3, x4, t1, t2, t3⟩ := hcells k hlt
      have HI1 := Lib.hid (HI.out.trans (joinRs_drop l k _ hlt))
      obtain ⟨rest, hrest⟩ : ∃ rest, l.drop (k + 1) = rest := ⟨_, rfl⟩
      have hdr := List.drop_eq_getElem_cons hlt
      have HJ1 := HJ.out
      rw [hdr, List.flatMap_cons, List.length_append, hrest] at HJ1
      rw [hrest] at HI1
      have HJ1 := Lib.hid HJ1
      have hrest := Lib.hid hrest
      have hbr := Lib.hid (hsz _ (List.getElem_mem hlt))
      have hbB := Lib.hid (hB _ (List.getElem_mem hlt))
      clear hcells g3 HI HJ hdr
      have x0 := Pure.cell HM.mu x0
      have x1 := Pure.cell HM.mu x1
      have x2 := Pure.cell HM.mu x2
      have x3 := Pure.cell HM.mu x3
      have x4 := Pure.cell HM.mu x4
      generalize l[k] = r at *
      obtain ⟨A2, c2, e2, _, d2, _⟩ := id t2
      obtain ⟨A1, c1, rfl, p1, p2, p3, p4⟩ := t1
      obtain ⟨A3, c3, e3, _, d3, _⟩ := id t3
      subst e2 e3
      unfold maxLen at p2 d2 d3
      have HMb := HM.box #[.slice A1 r.tg.length c1, .int .i64 r.kind, .slice A2 r.src.length c2, .slice A3 r.cmd.length c3, .int .i64 r.at_] 25
      have a0 := Blk.cell_ (HMb.at_ 0 rfl) 0
      simp only [List.getElem?_toArray, List.getElem?_cons_succ, List.getElem?_cons_zero] at a0
      have HM2 : Hid (Mem none_ w ([RRow u4 xs, MapC (fb + 1) Value.string (Value.int .i64) m, Blk fb 53 #[.int .i64 0, .int .i64 0], Blk wr.heap.size 25 #[.slice A1 r.tg.length c1, .int .i64 r.kind, .slice A2 r.src.length c2, .slice A3 r.cmd.length c3, .int .i64 r.at_]] ++ Cls xs) _) := HMb.back [_, _, _]
      clear HM HMb p3
      go_wp2_with fail
      clear x0 x1 x2 x3 x4 a0
      generalize wr.heap.size = rb at *
      generalize World.alloc _ _ = W1 at *
      have HI2 : Hid (RS = (joinTs r (r.tg.drop 0) (xs.map RX.r, m)).bind (joinRs rest)) := HI1
      have HJ2 : Hid (JBd B N n (r.tg.length - 0 + (rest.flatMap RuleS.tg).length) (xs.map RX.r, m)) := HJ1
      clear HI1 HJ1
      go_loopw [4, 26] (fun v4 v26 wr => ∃ (j : Nat) (xs : List RX) (m : List (ByteArray × Int)) (n : Nat), j ≤ r.tg.length ∧ v26 = .int .i64 j ∧ Hid (RS = (joinTs r (r.tg.drop j) (xs.map RX.r, m)).bind (joinRs rest)) ∧ Hid (JBd B N n (r.tg.length - j + (rest.flatMap RuleS.tg).length) (xs.map RX.r, m)) ∧
        Mem none_ w ([RRow v4 xs, MapC (fb + 1) Value.string (Value.int .i64) m, Blk fb 53 #[.int .i64 0, .int .i64 0], Blk rb 25 #[.slice A1 r.tg.length c1, .int .i64 r.kind, .slice A2 r.src.length c2, .slice A3 r.cmd.length c3, .int .i64 r.at_]] ++ Cls xs) wr) (fun _ v _ => r.tg.length - (intOf v).toNat)
      case atStart => exact ⟨0, xs, m, n, Nat.zero_le _, rfl, HI2, HJ2, HM2.out⟩
      case round =>
        clear HM2 HI2 HJ2
        obtain ⟨j, xs, m, n, hj, rfl, HI, HJ, HM⟩ := hrel
        by_cases hjt : j < r.tg.length
        · have hjt' : decide ((j : Int) < (r.tg.length : Int)) = true := decide_eq_true (by omega)
          have hjtN : decide (j < r.tg.length) = true := decide_eq_true hjt
          obtain ⟨bs, os, rfl, hc⟩ := p4.resolve_left (by omega)
          have y0 := Pure.cell HM.mu (hc _ _ (strs_get hjt))
          have HI1 := HI.out
          rw [joinTs_drop r j _ hjt] at HI1
          have HI1 := Lib.hid HI1
          have hts := hbr.out _ (List.getElem_mem hjt)
          clear hc p4 HI
          generalize r.tg[j] = t at *
          have hB1 : r.src.length ≤ 4398046511104 ∧ r.cmd.length ≤ 4398046511104 := by
            have h1 := HJ.out.sum
            have h2 := hbB.out
            have h3 : B ≤ N * B := Nat.le_mul_of_pos_left B (by omega)
            omega
          have hsl : r.src.length * 16 ≤ 70368744177664 := by omega
          have hcl : r.cmd.length * 16 ≤ 70368744177664 := by omega
          clear hB1
          have HMd := Lib.hid HM.drew
          have hb0 := HMd.out.at_ 3 rfl
          go_wp2_with fail
          clear y0
          refine lf_start (fun w' => Hid (w'.cell? ⟨rb, 1, none⟩ = some (.int .i64 r.kind) ∧ w'.cell? ⟨rb, 2, none⟩ = some (.slice A2 r.src.length c2) ∧ w'.cell? ⟨rb, 3, none⟩ = some (.slice A3 r.cmd.length c3) ∧ w'.cell? ⟨rb, 4, none⟩ = some (.int .i64 r.at_))) [12, 14] 15 (by kernel_rfl) rfl (by kernel_rfl) (Lib.hid ⟨Blk.cell_ hb0 1, Blk.cell_ hb0 2, Blk.cell_ hb0 3, Blk.cell_ hb0 4⟩) ?_
          have hS0 := Lib.hid (show _ ∧ _ ∧ _ ∧ _ from ⟨Blk.cell_ hb0 1, Blk.cell_ hb0 2, Blk.cell_ hb0 3, Blk.cell_ hb0 4⟩)
          clear hb0 HM
          generalize World.drew _ = W5 at *
          refine lf_pre [(.pure, 0), (.pure, 2), (.load, 3), (.pure, 4), (.load, 5), (.pure, 7), (.load, 8), (.pure, 10), (.load, 11)] [11, 10, 8, 7, 5, 4, 3, 2, 0] 6 rfl (by kernel_rfl) (fun _ _ _ _ _ h => h) hS0 ?_
          repeat (first | (refine pre_pure (v := ?_) (a' := ?_) rfl rfl rfl ?_ ?_ ?_; rotate_left 2; (focus (intro w'; go_simp; with_reducible rfl)); (focus (simp only [Act.put, List.setIfInBounds_toArray, List.set_cons_zero, List.set_cons_succ]; rfl))) | (refine pre_load (v := ?_) (a' := ?_) rfl rfl rfl ?_ ?_ ?_; rotate_left 2; (focus (intro w' hw'; obtain ⟨q0, q1, q2, q3⟩ := hw'.out; clear hw'; go_simp; with_reducible rfl)); (focus (simp only [Act.put, List.setIfInBounds_toArray, List.set_cons_zero, List.set_cons_succ]; rfl))) | (refine pre_skip rfl rfl (by decide +kernel) (by simp only [Act.put, List.setIfInBounds_toArray, List.set_cons_zero, List.set_cons_succ]; rfl) ?_))
          refine pre_done ?_
          refine lf_name (fun A0 hA0 => ?_)
          have hE0 : A0.eval (.tmp 30) = .string t := by rw [hA0.out]; rfl
          have hE1 : A0.eval (.tmp 35) = .slice A2 r.src.length c2 := by rw [hA0.out]; rfl
          have hE2 : A0.eval (.tmp 38) = .slice A3 r.cmd.length c3 := by rw [hA0.out]; rfl
          have hE3 : A0.eval (.tmp 33) = .int .i64 r.kind := by rw [hA0.out]; rfl
          have hE4 : A0.eval (.tmp 41) = .int .i64 r.at_ := by rw [hA0.out]; rfl
          have hz0 : A0.tmps.size = 134 := by rw [hA0.out]; rfl
          refine effs (F := [RRow u4 xs, MapC (fb + 1) Value.string (Value.int .i64) m, Blk fb 53 #[.int .i64 0, .int .i64 0], Blk rb 25 #[.slice (some ⟨bs, os, none⟩) r.tg.length c1, .int .i64 r.kind, .slice A2 r.src.length c2, .slice A3 r.cmd.length c3, .int .i64 r.at_]] ++ Cls xs) (fp := none_) (w0 := w)
            [⟨1, 31, [], fun v => [StrRow v [t]], fun _ v => ∃ A n c, v = .slice A n c⟩, ⟨6, 36, [], fun v => [StrRow v r.src], fun _ v => ∃ A n c, v = .slice A n c⟩, ⟨9, 39, [], fun v => [StrRow v r.cmd], fun _ v => ∃ A n c, v = .slice A n c⟩, ⟨12, 42, [1, 6, 9], fun _ => [], fun g v => v = .agg #[g 1, .int .i64 r.kind, g 6, g 9, .int .i64 r.at_]⟩, ⟨13, 10, [], fun v => [Blk (pb v) 25 #[.slice none 0 0, .int .i64 0, .slice none 0 0, .slice none 0 0, .int .i64 0]], fun _ v => v = .pointer (some ⟨pb v, 0, none⟩)⟩]
            6 rfl (by kernel_rfl) (show ([1, 6, 9, 12, 13] : List Nat).Nodup from by decide) (show ([31, 36, 39, 42, 10] : List Nat).Nodup from by decide) (fun e he => ?hz) (fun G W hm => ?hS) HMd.out (fun e he g g' v hg hr => ?hst) (fun e he => ?hsp) ?_
          case hz =>
            rw [hz0]
            simp only [List.mem_cons, List.not_mem_nil, or_false] at he
            rcases he with rfl | rfl | rfl | rfl | rfl <;> simp
          case hS =>
            have hb0 : (Blk rb 25 #[.slice (some ⟨bs, os, none⟩) r.tg.length c1, .int .i64 r.kind, .slice A2 r.src.length c2, .slice A3 r.cmd.length c3, .int .i64 r.at_]).ok W := hm.star.1 _ (by simp)
            exact Lib.hid ⟨Blk.cell_ hb0 1, Blk.cell_ hb0 2, Blk.cell_ hb0 3, Blk.cell_ hb0 4⟩
          case hst =>
            simp only [List.mem_cons, List.not_mem_nil, or_false] at he
            rcases he with rfl | rfl | rfl | rfl | rfl
            · exact hr
            · exact hr
            · exact hr
            · simp only at hr ⊢
              rw [← hg 1 (by simp), ← hg 6 (by simp), ← hg 9 (by simp)]; exact hr
            · exact hr
          case hsp =>
            clear HI1 HJ hA0 hS0
            simp only [List.mem_cons, List.not_mem_nil, or_false] at he
            rcases he with rfl | rfl | rfl | rfl | rfl
            · refine ⟨_, rfl, fun a g W G K hba hgt hm hK => ?_⟩
              refine wpList_run (N := 31) rfl rfl (build1s_run ((hba 30 (by simp)).trans hE0) _ rfl) rfl (wpList_nil_ (hK _ _ ⟨_, _, _, rfl⟩ ?_))
              exact hm.lit1 t
            · refine ⟨_, rfl, fun a g W G K hba hgt hm hK => ?_⟩
              have hC := clone_calls _ r.src _ (t2.pure hm.mu) (by omega)
              have e1 := tmp_of ((hba 35 (by simp)).trans hE1)
              clear hba hgt
              go_wp2_with (go_at_call 29; (try rw [e1]); refine hC.mono ?_; clear hC; rintro e w1 ⟨v, rfl, hm2⟩)
              obtain ⟨A', c', hv, _⟩ := Row.any_ hm2.head
              exact hK _ _ ⟨_, _, _, hv⟩ (hm.got hm2)
            · refine ⟨_, rfl, fun a g W G K hba hgt hm hK => ?_⟩
              have hC := clone_calls _ r.cmd _ (t3.pure hm.mu) (by omega)
              have e1 := tmp_of ((hba 38 (by simp)).trans hE2)
              clear hba hgt
              go_wp2_with (go_at_call 29; (try rw [e1]); refine hC.mono ?_; clear hC; rintro e w1 ⟨v, rfl, hm2⟩)
              obtain ⟨A', c', hv, _⟩ := Row.any_ hm2.head
              exact hK _ _ ⟨_, _, _, hv⟩ (hm.got hm2)
            · refine ⟨_, rfl, fun a g W G K hba hgt hm hK => ?_⟩
              obtain ⟨e1, A1', n1', c1', f1⟩ := hgt ⟨1, 31, [], fun v => [StrRow v [t]], fun _ v => ∃ A n c, v = .slice A n c⟩ (by simp) (by simp)
              obtain ⟨e2, A2', n2', c2', f2⟩ := hgt ⟨6, 36, [], fun v => [StrRow v r.src], fun _ v => ∃ A n c, v = .slice A n c⟩ (by simp) (by simp)
              obtain ⟨e3, A3', n3', c3', f3⟩ := hgt ⟨9, 39, [], fun v => [StrRow v r.cmd], fun _ v => ∃ A n c, v = .slice A n c⟩ (by simp) (by simp)
              have e1 := tmp_of (e1.trans f1)
              have e2 := tmp_of (e2.trans f2)
              have e3 := tmp_of (e3.trans f3)
              have e4 := tmp_of ((hba 33 (by simp)).trans hE3)
              have e5 := tmp_of ((hba 41 (by simp)).trans hE4)
              simp only at e1 e2 e3 f1 f2 f3
              have hf : ∀ v : Value, v = .agg #[.slice A1' n1' c1', .int .i64 r.kind, .slice A2' n2' c2', .slice A3' n3' c3', .int .i64 r.at_] → v = .agg #[g 1, .int .i64 r.kind, g 6, g 9, .int .i64 r.at_] := fun v hv => by rw [hv, f1, f2, f3]
              clear hba hgt f1 f2 f3
              go_wp2_with fail
              exact hK _ _ rfl hm
            · refine ⟨_, rfl, fun a g W G K hba hgt hm hK => ?_⟩
              clear hba hgt
              go_wp2_with fail
              exact hK (.pointer (some ⟨W.heap.size, 0, none⟩)) _ rfl (hm.box _ _)
          clear HMd hS0 hE0 hE1 hE2 hE3 hE4 hz0
          intro v31 v36 v39 v42 v10 W6 hR HM6
          have h42 := hR (⟨12, 42, [1, 6, 9], fun _ => [], fun g v => v = .agg #[g 1, .int .i64 r.kind, g 6, g 9, .int .i64 r.at_]⟩, v42) (by simp)
          have h10 := hR (⟨13, 10, [], fun v => [Blk (pb v) 25 #[.slice none 0 0, .int .i64 0, .slice none 0 0, .slice none 0 0, .int .i64 0]], fun _ v => v = .pointer (some ⟨pb v, 0, none⟩)⟩, v10) (by simp)
          have h31 := hR (⟨1, 31, [], fun v => [StrRow v [t]], fun _ v => ∃ A n c, v = .slice A n c⟩, v31) (by simp)
          have h36 := hR (⟨6, 36, [], fun v => [StrRow v r.src], fun _ v => ∃ A n c, v = .slice A n c⟩, v36) (by simp)
          have h39 := hR (⟨9, 39, [], fun v => [StrRow v r.cmd], fun _ v => ∃ A n c, v = .slice A n c⟩, v39) (by simp)
          simp [got] at h42 h10
          clear hR
          generalize pb v10 = xb at *
          subst h42 h10
          obtain ⟨B1, m1, d1', h31⟩ := h31
          obtain ⟨B2, m2, d2', h36⟩ := h36
          obtain ⟨B3, m3, d3', h39⟩ := h39
          simp only at h31 h36 h39
          subst h31 h36 h39
          have hA1 := hA0.out
          subst hA1
          simp only [putAll, Act.put, List.setIfInBounds_toArray, List.set_cons_zero, List.set_cons_succ]
          have HM7 : Hid (Mem none_ w ([Blk xb 25 #[.slice none 0 0, .int .i64 0, .slice none 0 0, .slice none 0 0, .int .i64 0], StrRow (.slice B1 m1 d1') [t], StrRow (.slice B2 m2 d2') r.src, StrRow (.slice B3 m3 d3') r.cmd, RRow u4 xs, MapC (fb + 1) Value.string (Value.int .i64) m, Blk fb 53 #[.int .i64 0, .int .i64 0], Blk rb 25 #[.slice (some ⟨bs, os, none⟩) r.tg.length c1, .int .i64 r.kind, .slice A2 r.src.length c2, .slice A3 r.cmd.length c3, .int .i64 r.at_]] ++ Cls xs) W6) := HM6.front [_, _, _]
          have hb0 := HM7.out.at_ 0 rfl
          have xc0 := Blk.cell_ hb0 0
          have xc1 := Blk.cell_ hb0 1
          have xc2 := Blk.cell_ hb0 2
          have xc3 := Blk.cell_ hb0 3
          have xc4 := Blk.cell_ hb0 4
          have xf0 := Blk.frozen hb0 0
          have xf1 := Blk.frozen hb0 1
          have xf2 := Blk.frozen hb0 2
          have xf3 := Blk.frozen hb0 3
          have xf4 := Blk.frozen hb0 4
          simp only [List.getElem?_toArray, List.getElem?_cons_succ, List.getElem?_cons_zero] at xc0 xc1 xc2 xc3 xc4
          clear hb0
          clear HM6 hA0
          refine lf_one 14 (by kernel_rfl) rfl (fun K hK => ?_)
          go_wp2_with fail
          refine hK _ _ (fun h _ => by simp at h) ?_
          clear hK xc0 xc1 xc2 xc3 xc4 xf0 xf1 xf2 xf3 xf4
          refine lf_end (by kernel_rfl) ?_
          have HM8 : Hid (Mem none_ w ([Blk xb 25 #[.slice B1 m1 d1', .int .i64 r.kind, .slice B2 m2 d2', .slice B3 m3 d3', .int .i64 r.at_], StrRow (.slice B1 m1 d1') [t], StrRow (.slice B2 m2 d2') r.src, StrRow (.slice B3 m3 d3') r.cmd, RRow u4 xs, MapC (fb + 1) Value.string (Value.int .i64) m, Blk fb 53 #[.int .i64 0, .int .i64 0], Blk rb 25 #[.slice (some ⟨bs, os, none⟩) r.tg.length c1, .int .i64 r.kind, .slice A2 r.src.length c2, .slice A3 r.cmd.length c3, .int .i64 r.at_]] ++ Cls xs) _) := ((((HM7.out.blkSet 0 (.slice B1 m1 d1')).blkSet 1 (.int .i64 r.kind)).blkSet 2 (.slice B2 m2 d2')).blkSet 3 (.slice B3 m3 d3')).blkSet 4 (.int .i64 r.at_)
          clear HM7
          generalize World.setCell _ _ _ = W7 at *
          obtain ⟨A4, c4, e4, xl1, xl2⟩ := Row.any_ (HM8.out.at_ 4 rfl)
          subst e4
          unfold maxLen at xl2
          have hxl : xs.length ≤ 100000 := by
            have h1 := HJ.out.ok.len
            have h2 := HJ.out.sum
            simp only [List.length_map] at h1
            omega
          cases hg : mget m t with
          | none =>
            have hmh : mhas m t = false := by simp [mhas, hg]
            have eJ : joinT r (xs.map RX.r, m) t = some ((xs ++ [(⟨.slice B1 m1 d1', .slice B2 m2 d2', .slice B3 m3 d3', ⟨[t], r.kind, r.src, r.cmd, r.at_⟩⟩ : RX)]).map RX.r, mput m t (xs.length : Int)) := by
              unfold joinT
              simp only [hg, List.map_append, List.map_cons, List.map_nil, List.length_map]
            have HI2 := Lib.hid (join_step HI1.out eJ)
            have HJ2 := Lib.hid (HJ.out.step hjt eJ hbB.out)
            clear eJ HI1 HJ
            have hlk : (if true = true then Value.tuple #[((mget m t).map (Value.int .i64)).getD (.int .i64 0), .bool (mhas m t)] else ((mget m t).map (Value.int .i64)).getD (.int .i64 0)) = .tuple #[.int .i64 0, .bool false] := by rw [if_pos rfl, hg, hmh]; rfl
            clear hg hmh
            have HMp := Lib.hid (HM8.out.psel [5, 0, 1, 2, 3, 4, 6, 7] 8 rfl (by decide))
            go_wp2_with (first | (at_lookup; refine wpList_get keyS Try.underlying65 zeroJ rfl _ _ true rfl (HM8.out.at_ 5 rfl) rfl t rfl _ hlk ?_) | (at_mapUpdate; refine wpList_put keyS Try.underlying65 rfl _ _ _ (.inl rfl) HMp.out rfl t rfl (xs.length : Int) rfl ?_; intro w2 HM9 HU9; have HM10 := Lib.hid (HM9.psel (L := [_, _, _, _, _, _, _, _]) [5, 0, 1, 2, 3, 4, 6, 7] 8 rfl (by decide)); have hb0 := HM10.out.at_ 2 rfl; have xc0 := Blk.cell_ hb0 0; have xc1 := Blk.cell_ hb0 1; have xc2 := Blk.cell_ hb0 2; have xc3 := Blk.cell_ hb0 3; have xc4 := Blk.cell_ hb0 4; simp only [List.getElem?_toArray, List.getElem?_cons_succ, List.getElem?_cons_zero] at xc0 xc1 xc2 xc3 xc4; clear HM8 HMp HM9 HU9 hb0) | (at_builtin; refine wpList_app1 ruleE rfl _ _ rfl HM10.out rfl #[.slice B1 m1 d1', .int .i64 r.kind, .slice B2 m2 d2', .slice B3 m3 d3', .int .i64 r.at_] _ rfl ?hnb rfl ?h1 ?hb ?_; (case hnb => simp); (case h1 => simp [Value.oneCell']); (case hb => omega); intro v' w4 HM11 HU11; have HM12 := Lib.hid HM11; clear HM10 HM11 HU11 xc0 xc1 xc2 xc3 xc4))
            have HM13 := push_ok (x := ⟨.slice B1 m1 d1', .slice B2 m2 d2', .slice B3 m3 d3', ⟨[t], r.kind, r.src, r.cmd, r.at_⟩⟩) (HM12.out.psel (L := [_, _, _, _, _, _, _, _]) [0, 1, 6, 7, 3, 4, 5] 8 rfl (by decide))
            go_roundw
            case rel => exact ⟨j + 1, _, _, n + 1, by omega, by go_num, HI2, HJ2, HM13⟩
            case measure => simp [intOf]; omega
          | some i =>
            have hat := HJ.out.ok.at_ t i hg
            simp only [List.length_map] at hat
            obtain ⟨hi0, hiL⟩ := hat
            obtain ⟨q, rfl⟩ : ∃ q : Nat, i = (q : Int) := ⟨i.toNat, by omega⟩
            have hq : q < xs.length := by simpa using hiL
            have hmh : mhas m t = true := by simp [mhas, hg]
            have hlk : (if true = true then Value.tuple #[((mget m t).map (Value.int .i64)).getD (.int .i64 0), .bool (mhas m t)] else ((mget m t).map (Value.int .i64)).getD (.int .i64 0)) = .tuple #[.int .i64 q, .bool true] := by rw [if_pos rfl, hg, hmh]; rfl
            obtain ⟨y, hy⟩ : ∃ y, xs[q] = y := ⟨_, rfl⟩
            have eT := joinT_at (r := r) hg hq hy
            have HMy := Lib.hid (HM8.out.perm ((flat_out RX.own xs q hq).append_left _))
            rw [hy] at HMy
            obtain ⟨yT, yS, yC, yr⟩ := y
            obtain ⟨A5, c5, e5, _, s5⟩ := Row.any_ (HMy.out.at_ 9 rfl)
            obtain ⟨A6, c6, e6, _, s6⟩ := Row.any_ (HMy.out.at_ 10 rfl)
            simp only at e5 e6
            subst e5 e6
            unfold maxLen at s5 s6
            obtain ⟨_, _, e7, _⟩ := Row.any_ (HMy.out.at_ 3 rfl)
            cases e7
            obtain ⟨_, _, e8, _⟩ := Row.any_ (HMy.out.at_ 2 rfl)
            cases e8
            obtain ⟨g, c4', e9, _⟩ := Row.at_ (HMy.out.at_ 4 rfl) (by omega)
            cases e9
            have hrow := HMy.out.at_ 4 rfl
            have z1 := Row.cell hrow (show _ = some (Value.int .i64 yr.kind) from by rw [flat_get RX.cells 5 RX.len xs q hq 1 (by decide), hy]; rfl)
            have z2 := Row.cell hrow (show _ = some (Value.slice A5 yr.src.length c5) from by rw [flat_get RX.cells 5 RX.len xs q hq 2 (by decide), hy]; rfl)
            have z3 := Row.cell hrow (show _ = some (Value.slice A6 yr.cmd.length c6) from by rw [flat_get RX.cells 5 RX.len xs q hq 3 (by decide), hy]; rfl)
            have hb0 := HMy.out.at_ 0 rfl
            have xc0 := Blk.cell_ hb0 0
            have xc1 := Blk.cell_ hb0 1
            have xc2 := Blk.cell_ hb0 2
            have xc3 := Blk.cell_ hb0 3
            have xc4 := Blk.cell_ hb0 4
            have rc4 := Blk.cell_ (HMy.out.at_ 7 rfl) 4
            simp only [List.getElem?_toArray, List.getElem?_cons_succ, List.getElem?_cons_zero] at xc0 xc1 xc2 xc3 xc4 rc4
            have q1 : decide ((q : Int) < (xs.length : Int)) = true := decide_eq_true (by omega)
            have q2 : decide (q < xs.length) = true := decide_eq_true hq
            have hy := Lib.hid hy
            have hg := Lib.hid hg
            clear hb0 hrow hmh hiL hi0
            by_cases kx : r.kind = 3
            · have kx1 : (r.kind == 3) = true := by rw [beq_iff_eq]; exact kx
              have kx2 : decide (r.kind = 3) = true := decide_eq_true kx
              by_cases ky : yr.kind = 3
              · have ky1 : (yr.kind == 3) = true := by rw [beq_iff_eq]; exact ky
                have ky2 : decide (yr.kind = 3) = true := decide_eq_true ky
                by_cases h1 : 0 < r.cmd.length
                · have o1 : decide ((0 : Int) < (r.cmd.length : Int)) = true := decide_eq_true (by omega)
                  have o1N : decide (0 < r.cmd.length) = true := decide_eq_true h1
                  by_cases h2 : 0 < yr.cmd.length
                  · have o2 : decide ((0 : Int) < (yr.cmd.length : Int)) = true := decide_eq_true (by omega)
                    have o2N : decide (0 < yr.cmd.length) = true := decide_eq_true h2
                    have hC := class_calls t W7 hts
                    by_cases h3 : classB t = 0
                    · have o3 : (classB t == 0) = true := by rw [beq_iff_eq]; exact h3
                      have o3N : decide (classB t = 0) = true := decide_eq_true h3
                      have eJ : joinT r (xs.map RX.r, m) t = some ((xs ++ [(⟨.slice B1 m1 d1', .slice B2 r.src.length d2', .slice B3 r.cmd.length d3', ⟨[t], r.kind, r.src, r.cmd, r.at_⟩⟩ : RX)]).map RX.r, m) := by rw [eT, if_neg (by rw [kx2, ky2]; decide), if_pos kx, List.map_append]; rfl
                      have HI2 := Lib.hid (join_step HI1.out eJ)
                      have HJ2 := Lib.hid (HJ.out.step hjt eJ hbB.out)
                      clear eJ HI1 HJ HMy kx ky h1 eT kx2 ky2
                      have HMr := Lib.hid (HM8.out.psel [4, 0, 1, 2, 3, 5, 6, 7] 8 rfl (by decide))
                      go_wp2_with (first | (at_lookup; refine wpList_get keyS Try.underlying65 zeroJ rfl _ _ true rfl (HM8.out.at_ 5 rfl) rfl t rfl _ hlk ?_) | (go_at_call 39; refine hC.mono ?_; clear hC; rintro e w1 ⟨rfl, rfl⟩) | (at_builtin; refine wpList_app1 ruleE rfl _ _ rfl HMr.out rfl #[.slice B1 m1 d1', .int .i64 r.kind, .slice B2 r.src.length d2', .slice B3 r.cmd.length d3', .int .i64 r.at_] _ rfl ?hnb rfl ?h1 ?hb ?_; (case hnb => simp); (case h1 => simp [Value.oneCell']); (case hb => omega); intro v' w4 HM11 HU11; have HM12 := Lib.hid HM11; clear HMr HM8 HM11 HU11 xc0 xc1 xc2 xc3 xc4 z1 z2 z3))
                      have HM13 := push_ok (x := ⟨.slice B1 m1 d1', .slice B2 r.src.length d2', .slice B3 r.cmd.length d3', ⟨[t], r.kind, r.src, r.cmd, r.at_⟩⟩) (HM12.out.psel (L := [_, _, _, _, _, _, _, _]) [0, 5, 6, 7, 2, 3, 4] 8 rfl (by decide))
                      go_roundw
                      case rel => exact ⟨j + 1, _, m, n + 1, by omega, by go_num, HI2, HJ2, HM13⟩
                      case measure => simp [intOf]; omega
                    · have o3 : (classB t == 0) = false := by rw [beq_eq_false_iff_ne]; exact h3
                      have o3N : decide (classB t = 0) = false := decide_eq_false h3
                      have eJ : joinT r (xs.map RX.r, m) t = some ((xs ++ [(⟨.slice B1 m1 d1', .slice B2 r.src.length d2', .slice B3 r.cmd.length d3', ⟨[t], r.kind, r.src, r.cmd, r.at_⟩⟩ : RX)]).map RX.r, m) := by rw [eT, if_neg (by rw [kx2, ky2]; decide), if_pos kx, List.map_append]; rfl
                      have HI2 := Lib.hid (join_step HI1.out eJ)
                      have HJ2 := Lib.hid (HJ.out.step hjt eJ hbB.out)
                      clear eJ HI1 HJ HMy kx ky h1 eT kx2 ky2
                      have HMr := Lib.hid (HM8.out.psel [4, 0, 1, 2, 3, 5, 6, 7] 8 rfl (by decide))
                      go_wp2_with (first | (at_lookup; refine wpList_get keyS Try.underlying65 zeroJ rfl _ _ true rfl (HM8.out.at_ 5 rfl) rfl t rfl _ hlk ?_) | (go_at_call 39; refine hC.mono ?_; clear hC; rintro e w1 ⟨rfl, rfl⟩) | (at_builtin; refine wpList_app1 ruleE rfl _ _ rfl HMr.out rfl #[.slice B1 m1 d1', .int .i64 r.kind, .slice B2 r.src.length d2', .slice B3 r.cmd.length d3', .int .i64 r.at_] _ rfl ?hnb rfl ?h1 ?hb ?_; (case hnb => simp); (case h1 => simp [Value.oneCell']); (case hb => omega); intro v' w4 HM11 HU11; have HM12 := Lib.hid HM11; clear HMr HM8 HM11 HU11 xc0 xc1 xc2 xc3 xc4 z1 z2 z3))
                      have HM13 := push_ok (x := ⟨.slice B1 m1 d1', .slice B2 r.src.length d2', .slice B3 r.cmd.length d3', ⟨[t], r.kind, r.src, r.cmd, r.at_⟩⟩) (HM12.out.psel (L := [_, _, _, _, _, _, _, _]) [0, 5, 6, 7, 2, 3, 4] 8 rfl (by decide))
                      go_roundw
                      case rel => exact ⟨j + 1, _, m, n + 1, by omega, by go_num, HI2, HJ2, HM13⟩
                      case measure => simp [intOf]; omega
                  · have o2 : decide ((0 : Int) < (yr.cmd.length : Int)) = false := decide_eq_false (by omega)
                    have o2N : decide (0 < yr.cmd.length) = false := decide_eq_false h2
                    have eJ : joinT r (xs.map RX.r, m) t = some ((xs ++ [(⟨.slice B1 m1 d1', .slice B2 r.src.length d2', .slice B3 r.cmd.length d3', ⟨[t], r.kind, r.src, r.cmd, r.at_⟩⟩ : RX)]).map RX.r, m) := by rw [eT, if_neg (by rw [kx2, ky2]; decide), if_pos kx, List.map_append]; rfl
                    have HI2 := Lib.hid (join_step HI1.out eJ)
                    have HJ2 := Lib.hid (HJ.out.step hjt eJ hbB.out)
                    clear eJ HI1 HJ HMy kx ky h1 eT kx2 ky2
                    have HMr := Lib.hid (HM8.out.psel [4, 0, 1, 2, 3, 5, 6, 7] 8 rfl (by decide))
                    go_wp2_with (first | (at_lookup; refine wpList_get keyS Try.underlying65 zeroJ rfl _ _ true rfl (HM8.out.at_ 5 rfl) rfl t rfl _ hlk ?_) | (go_at_call 39; refine hC.mono ?_; clear hC; rintro e w1 ⟨rfl, rfl⟩) | (at_builtin; refine wpList_app1 ruleE rfl _ _ rfl HMr.out rfl #[.slice B1 m1 d1', .int .i64 r.kind, .slice B2 r.src.length d2', .slice B3 r.cmd.length d3', .int .i64 r.at_] _ rfl ?hnb rfl ?h1 ?hb ?_; (case hnb => simp); (case h1 => simp [Value.oneCell']); (case hb => omega); intro v' w4 HM11 HU11; have HM12 := Lib.hid HM11; clear HMr HM8 HM11 HU11 xc0 xc1 xc2 xc3 xc4 z1 z2 z3))
                    have HM13 := push_ok (x := ⟨.slice B1 m1 d1', .slice B2 r.src.length d2', .slice B3 r.cmd.length d3', ⟨[t], r.kind, r.src, r.cmd, r.at_⟩⟩) (HM12.out.psel (L := [_, _, _, _, _, _, _, _]) [0, 5, 6, 7, 2, 3, 4] 8 rfl (by decide))
                    go_roundw
                    case rel => exact ⟨j + 1, _, m, n + 1, by omega, by go_num, HI2, HJ2, HM13⟩
                    case measure => simp [intOf]; omega
                · have o1 : decide ((0 : Int) < (r.cmd.length : Int)) = false := decide_eq_false (by omega)
                  have o1N : decide (0 < r.cmd.length) = false := decide_eq_false h1
                  have eJ : joinT r (xs.map RX.r, m) t = some ((xs ++ [(⟨.slice B1 m1 d1', .slice B2 r.src.length d2', .slice B3 r.cmd.length d3', ⟨[t], r.kind, r.src, r.cmd, r.at_⟩⟩ : RX)]).map RX.r, m) := by rw [eT, if_neg (by rw [kx2, ky2]; decide), if_pos kx, List.map_append]; rfl
                  have HI2 := Lib.hid (join_step HI1.out eJ)
                  have HJ2 := Lib.hid (HJ.out.step hjt eJ hbB.out)
                  clear eJ HI1 HJ HMy kx ky h1 eT kx2 ky2
                  have HMr := Lib.hid (HM8.out.psel [4, 0, 1, 2, 3, 5, 6, 7] 8 rfl (by decide))
                  go_wp2_with (first | (at_lookup; refine wpList_get keyS Try.underlying65 zeroJ rfl _ _ true rfl (HM8.out.at_ 5 rfl) rfl t rfl _ hlk ?_) | (go_at_call 39; refine hC.mono ?_; clear hC; rintro e w1 ⟨rfl, rfl⟩) | (at_builtin; refine wpList_app1 ruleE rfl _ _ rfl HMr.out rfl #[.slice B1 m1 d1', .int .i64 r.kind, .slice B2 r.src.length d2', .slice B3 r.cmd.length d3', .int .i64 r.at_] _ rfl ?hnb rfl ?h1 ?hb ?_; (case hnb => simp); (case h1 => simp [Value.oneCell']); (case hb => omega); intro v' w4 HM11 HU11; have HM12 := Lib.hid HM11; clear HMr HM8 HM11 HU11 xc0 xc1 xc2 xc3 xc4 z1 z2 z3))
                  have HM13 := push_ok (x := ⟨.slice B1 m1 d1', .slice B2 r.src.length d2', .slice B3 r.cmd.length d3', ⟨[t], r.kind, r.src, r.cmd, r.at_⟩⟩) (HM12.out.psel (L := [_, _, _, _, _, _, _, _]) [0, 5, 6, 7, 2, 3, 4] 8 rfl (by decide))
                  go_roundw
                  case rel => exact ⟨j + 1, _, m, n + 1, by omega, by go_num, HI2, HJ2, HM13⟩
                  case measure => simp [intOf]; omega
              · have ky1 : (yr.kind == 3) = false := by rw [beq_eq_false_iff_ne]; exact ky
                have ky2 : decide (yr.kind = 3) = false := decide_eq_false ky
                by_cases h1 : 0 < r.cmd.length
                · have o1 : decide ((0 : Int) < (r.cmd.length : Int)) = true := decide_eq_true (by omega)
                  have o1N : decide (0 < r.cmd.length) = true := decide_eq_true h1
                  by_cases h2 : 0 < yr.cmd.length
                  · have o2 : decide ((0 : Int) < (yr.cmd.length : Int)) = true := decide_eq_true (by omega)
                    have o2N : decide (0 < yr.cmd.length) = true := decide_eq_true h2
                    have hC := class_calls t W7 hts
                    by_cases h3 : classB t = 0
                    · have o3 : (classB t == 0) = true := by rw [beq_iff_eq]; exact h3
                      have o3N : decide (classB t = 0) = true := decide_eq_true h3
                      have eJ : joinT r (xs.map RX.r, m) t = none := by rw [eT, if_pos (by rw [kx2, ky2]; decide)]
                      have HI2 := Lib.hid (join_fault HI1.out eJ)
                      clear eJ HI1 HJ kx ky eT kx2 ky2
                      go_wp2_with (first | (at_lookup; refine wpList_get keyS Try.underlying65 zeroJ rfl _ _ true rfl (HMy.out.at_ 5 rfl) rfl t rfl _ hlk ?_) | (go_at_call 39; refine hC.mono ?_; clear hC; rintro e w1 ⟨rfl, rfl⟩) | fail)
                      refine wp_plan [4] (S := fun w' => Hid (w'.cell? ⟨rb, 4, none⟩ = some (.int .i64 r.at_))) [(.pure, 0), (.load, 1), (.pure, 2), (.pure, 3), (.tail, 4)] (by kernel_rfl) rfl (by kernel_rfl) rfl (fun _ _ _ _ _ h => h) (Lib.hid rc4) ?_
                      have HMz := Lib.hid (HMy.out.drew.psel (L := [_, _, _, _, _, _, _, _]) [6] 8 rfl (by decide))
                      have fc0 := Blk.cell_ (HMz.out.at_ 0 rfl) 0
                      have fc1 := Blk.cell_ (HMz.out.at_ 0 rfl) 1
                      have ff0 := Blk.frozen (HMz.out.at_ 0 rfl) 0
                      have ff1 := Blk.frozen (HMz.out.at_ 0 rfl) 1
                      simp only [List.getElem?_toArray, List.getElem?_cons_succ, List.getElem?_cons_zero] at fc0 fc1
                      clear HMy HM8
                      generalize World.drew _ = W8 at *
                      repeat (first | (refine plan_pure (v := ?_) (a' := ?_) rfl rfl rfl ?_ ?_ ?_; rotate_left 2; (focus (intro w'; go_simp; with_reducible rfl)); (focus (simp only [Act.put, List.setIfInBounds_toArray, List.set_cons_zero, List.set_cons_succ]; rfl))) | (refine plan_load (v := ?_) (a' := ?_) rfl rfl rfl ?_ ?_ ?_; rotate_left 2; (focus (intro w' hw'; have q0 := hw'.out; clear hw'; go_simp; with_reducible rfl)); (focus (simp only [Act.put, List.setIfInBounds_toArray, List.set_cons_zero, List.set_cons_succ]; rfl))) | (refine plan_skip rfl rfl (by decide +kernel) (by simp only [Act.put, List.setIfInBounds_toArray, List.set_cons_zero, List.set_cons_succ]; rfl) ?_))
                      refine plan_tail rfl (fun K hK => ?_)
                      go_wp2_with fail
                      refine plan_done ?_
                      have HMf := (HMz.out.blkSet 0 (.int .i64 14)).blkSet 1 (.int .i64 r.at_)
                      have f0 := Blk.cell_ (HMf.at_ 0 rfl) 0
                      have f1 := Blk.cell_ (HMf.at_ 0 rfl) 1
                      generalize World.setCell _ _ _ = W9 at *
                      go_wp2_with fail
                      (try simp only [Exit.inBlock, Exit.then])
                      refine bodyPost_ret (v := .tuple #[.slice none 0 0, .agg #[.int .i64 14, .int .i64 r.at_]]) ?hr rfl ?_
                      case hr =>
                        unfold results
                        go_simp
                      exact ⟨fun _ => ⟨_, rfl, HMf.only (fun d hd => by cases hd) .nil⟩, fun s hs => by have e1 := (hRS.out.trans HI2.out); unfold joinB at hs; rw [e1] at hs; cases hs⟩
                    · have o3 : (classB t == 0) = false := by rw [beq_eq_false_iff_ne]; exact h3
                      have o3N : decide (classB t = 0) = false := decide_eq_false h3
                      have eJ : joinT r (xs.map RX.r, m) t = none := by rw [eT, if_pos (by rw [kx2, ky2]; decide)]
                      have HI2 := Lib.hid (join_fault HI1.out eJ)
                      clear eJ HI1 HJ kx ky eT kx2 ky2
                      go_wp2_with (first | (at_lookup; refine wpList_get keyS Try.underlying65 zeroJ rfl _ _ true rfl (HMy.out.at_ 5 rfl) rfl t rfl _ hlk ?_) | (go_at_call 39; refine hC.mono ?_; clear hC; rintro e w1 ⟨rfl, rfl⟩) | fail)
                      refine wp_plan [4] (S := fun w' => Hid (w'.cell? ⟨rb, 4, none⟩ = some (.int .i64 r.at_))) [(.pure, 0), (.load, 1), (.pure, 2), (.pure, 3), (.tail, 4)] (by kernel_rfl) rfl (by kernel_rfl) rfl (fun _ _ _ _ _ h => h) (Lib.hid rc4) ?_
                      have HMz := Lib.hid (HMy.out.drew.psel (L := [_, _, _, _, _, _, _, _]) [6] 8 rfl (by decide))
                      have fc0 := Blk.cell_ (HMz.out.at_ 0 rfl) 0
                      have fc1 := Blk.cell_ (HMz.out.at_ 0 rfl) 1
                      have ff0 := Blk.frozen (HMz.out.at_ 0 rfl) 0
                      have ff1 := Blk.frozen (HMz.out.at_ 0 rfl) 1
                      simp only [List.getElem?_toArray, List.getElem?_cons_succ, List.getElem?_cons_zero] at fc0 fc1
                      clear HMy HM8
                      generalize World.drew _ = W8 at *
                      repeat (first | (refine plan_pure (v := ?_) (a' := ?_) rfl rfl rfl ?_ ?_ ?_; rotate_left 2; (focus (intro w'; go_simp; with_reducible rfl)); (focus (simp only [Act.put, List.setIfInBounds_toArray, List.set_cons_zero, List.set_cons_succ]; rfl))) | (refine plan_load (v := ?_) (a' := ?_) rfl rfl rfl ?_ ?_ ?_; rotate_left 2; (focus (intro w' hw'; have q0 := hw'.out; clear hw'; go_simp; with_reducible rfl)); (focus (simp only [Act.put, List.setIfInBounds_toArray, List.set_cons_zero, List.set_cons_succ]; rfl))) | (refine plan_skip rfl rfl (by decide +kernel) (by simp only [Act.put, List.setIfInBounds_toArray, List.set_cons_zero, List.set_cons_succ]; rfl) ?_))
                      refine plan_tail rfl (fun K hK => ?_)
                      go_wp2_with fail
                      refine plan_done ?_
                      have HMf := (HMz.out.blkSet 0 (.int .i64 14)).blkSet 1 (.int .i64 r.at_)
                      have f0 := Blk.cell_ (HMf.at_ 0 rfl) 0
                      have f1 := Blk.cell_ (HMf.at_ 0 rfl) 1
                      generalize World.setCell _ _ _ = W9 at *
                      go_wp2_with fail
                      (try simp only [Exit.inBlock, Exit.then])
                      refine bodyPost_ret (v := .tuple #[.slice none 0 0, .agg #[.int .i64 14, .int .i64 r.at_]]) ?hr rfl ?_
                      case hr =>
                        unfold results
                        go_simp
                      exact ⟨fun _ => ⟨_, rfl, HMf.only (fun d hd => by cases hd) .nil⟩, fun s hs => by have e1 := (hRS.out.trans HI2.out); unfold joinB at hs; rw [e1] at hs; cases hs⟩
                  · have o2 : decide ((0 : Int) < (yr.cmd.length : Int)) = false := decide_eq_false (by omega)
                    have o2N : decide (0 < yr.cmd.length) = false := decide_eq_false h2
                    have eJ : joinT r (xs.map RX.r, m) t = none := by rw [eT, if_pos (by rw [kx2, ky2]; decide)]
                    have HI2 := Lib.hid (join_fault HI1.out eJ)
                    clear eJ HI1 HJ kx ky eT kx2 ky2
                    go_wp2_with (first | (at_lookup; refine wpList_get keyS Try.underlying65 zeroJ rfl _ _ true rfl (HMy.out.at_ 5 rfl) rfl t rfl _ hlk ?_) | (go_at_call 39; refine hC.mono ?_; clear hC; rintro e w1 ⟨rfl, rfl⟩) | fail)
                    refine wp_plan [4] (S := fun w' => Hid (w'.cell? ⟨rb, 4, none⟩ = some (.int .i64 r.at_))) [(.pure, 0), (.load, 1), (.pure, 2), (.pure, 3), (.tail, 4)] (by kernel_rfl) rfl (by kernel_rfl) rfl (fun _ _ _ _ _ h => h) (Lib.hid rc4) ?_
                    have HMz := Lib.hid (HMy.out.drew.psel (L := [_, _, _, _, _, _, _, _]) [6] 8 rfl (by decide))
                    have fc0 := Blk.cell_ (HMz.out.at_ 0 rfl) 0
                    have fc1 := Blk.cell_ (HMz.out.at_ 0 rfl) 1
                    have ff0 := Blk.frozen (HMz.out.at_ 0 rfl) 0
                    have ff1 := Blk.frozen (HMz.out.at_ 0 rfl) 1
                    simp only [List.getElem?_toArray, List.getElem?_cons_succ, List.getElem?_cons_zero] at fc0 fc1
                    clear HMy HM8
                    generalize World.drew _ = W8 at *
                    repeat (first | (refine plan_pure (v := ?_) (a' := ?_) rfl rfl rfl ?_ ?_ ?_; rotate_left 2; (focus (intro w'; go_simp; with_reducible rfl)); (focus (simp only [Act.put, List.setIfInBounds_toArray, List.set_cons_zero, List.set_cons_succ]; rfl))) | (refine plan_load (v := ?_) (a' := ?_) rfl rfl rfl ?_ ?_ ?_; rotate_left 2; (focus (intro w' hw'; have q0 := hw'.out; clear hw'; go_simp; with_reducible rfl)); (focus (simp only [Act.put, List.setIfInBounds_toArray, List.set_cons_zero, List.set_cons_succ]; rfl))) | (refine plan_skip rfl rfl (by decide +kernel) (by simp only [Act.put, List.setIfInBounds_toArray, List.set_cons_zero, List.set_cons_succ]; rfl) ?_))
                    refine plan_tail rfl (fun K hK => ?_)
                    go_wp2_with fail
                    refine plan_done ?_
                    have HMf := (HMz.out.blkSet 0 (.int .i64 14)).blkSet 1 (.int .i64 r.at_)
                    have f0 := Blk.cell_ (HMf.at_ 0 rfl) 0
                    have f1 := Blk.cell_ (HMf.at_ 0 rfl) 1
                    generalize World.setCell _ _ _ = W9 at *
                    go_wp2_with fail
                    (try simp only [Exit.inBlock, Exit.then])
                    refine bodyPost_ret (v := .tuple #[.slice none 0 0, .agg #[.int .i64 14, .int .i64 r.at_]]) ?hr rfl ?_
                    case hr =>
                      unfold results
                      go_simp
                    exact ⟨fun _ => ⟨_, rfl, HMf.only (fun d hd => by cases hd) .nil⟩, fun s hs => by have e1 := (hRS.out.trans HI2.out); unfold joinB at hs; rw [e1] at hs; cases hs⟩
                · have o1 : decide ((0 : Int) < (r.cmd.length : Int)) = false := decide_eq_false (by omega)
                  have o1N : decide (0 < r.cmd.length) = false := decide_eq_false h1
                  have eJ : joinT r (xs.map RX.r, m) t = none := by rw [eT, if_pos (by rw [kx2, ky2]; decide)]
                  have HI2 := Lib.hid (join_fault HI1.out eJ)
                  clear eJ HI1 HJ kx ky eT kx2 ky2
                  go_wp2_with (first | (at_lookup; refine wpList_get keyS Try.underlying65 zeroJ rfl _ _ true rfl (HMy.out.at_ 5 rfl) rfl t rfl _ hlk ?_) | (go_at_call 39; refine hC.mono ?_; clear hC; rintro e w1 ⟨rfl, rfl⟩) | fail)
                  refine wp_plan [4] (S := fun w' => Hid (w'.cell? ⟨rb, 4, none⟩ = some (.int .i64 r.at_))) [(.pure, 0), (.load, 1), (.pure, 2), (.pure, 3), (.tail, 4)] (by kernel_rfl) rfl (by kernel_rfl) rfl (fun _ _ _ _ _ h => h) (Lib.hid rc4) ?_
                  have HMz := Lib.hid (HMy.out.drew.psel (L := [_, _, _, _, _, _, _, _]) [6] 8 rfl (by decide))
                  have fc0 := Blk.cell_ (HMz.out.at_ 0 rfl) 0
                  have fc1 := Blk.cell_ (HMz.out.at_ 0 rfl) 1
                  have ff0 := Blk.frozen (HMz.out.at_ 0 rfl) 0
                  have ff1 := Blk.frozen (HMz.out.at_ 0 rfl) 1
                  simp only [List.getElem?_toArray, List.getElem?_cons_succ, List.getElem?_cons_zero] at fc0 fc1
                  clear HMy HM8
                  generalize World.drew _ = W8 at *
                  repeat (first | (refine plan_pure (v := ?_) (a' := ?_) rfl rfl rfl ?_ ?_ ?_; rotate_left 2; (focus (intro w'; go_simp; with_reducible rfl)); (focus (simp only [Act.put, List.setIfInBounds_toArray, List.set_cons_zero, List.set_cons_succ]; rfl))) | (refine plan_load (v := ?_) (a' := ?_) rfl rfl rfl ?_ ?_ ?_; rotate_left 2; (focus (intro w' hw'; have q0 := hw'.out; clear hw'; go_simp; with_reducible rfl)); (focus (simp only [Act.put, List.setIfInBounds_toArray, List.set_cons_zero, List.set_cons_succ]; rfl))) | (refine plan_skip rfl rfl (by decide +kernel) (by simp only [Act.put, List.setIfInBounds_toArray, List.set_cons_zero, List.set_cons_succ]; rfl) ?_))
                  refine plan_tail rfl (fun K hK => ?_)
                  go_wp2_with fail
                  refine plan_done ?_
                  have HMf := (HMz.out.blkSet 0 (.int .i64 14)).blkSet 1 (.int .i64 r.at_)
                  have f0 := Blk.cell_ (HMf.at_ 0 rfl) 0
                  have f1 := Blk.cell_ (HMf.at_ 0 rfl) 1
                  generalize World.setCell _ _ _ = W9 at *
                  go_wp2_with fail
                  (try simp only [Exit.inBlock, Exit.then])
                  refine bodyPost_ret (v := .tuple #[.slice none 0 0, .agg #[.int .i64 14, .int .i64 r.at_]]) ?hr rfl ?_
                  case hr =>
                    unfold results
                    go_simp
                  exact ⟨fun _ => ⟨_, rfl, HMf.only (fun d hd => by cases hd) .nil⟩, fun s hs => by have e1 := (hRS.out.trans HI2.out); unfold joinB at hs; rw [e1] at hs; cases hs⟩
            · have kx1 : (r.kind == 3) = false := by rw [beq_eq_false_iff_ne]; exact kx
              have kx2 : decide (r.kind = 3) = false := decide_eq_false kx
              by_cases ky : yr.kind = 3
              · have ky1 : (yr.kind == 3) = true := by rw [beq_iff_eq]; exact ky
                have ky2 : decide (yr.kind = 3) = true := decide_eq_true ky
                by_cases h1 : 0 < r.cmd.length
                · have o1 : decide ((0 : Int) < (r.cmd.length : Int)) = true := decide_eq_true (by omega)
                  have o1N : decide (0 < r.cmd.length) = true := decide_eq_true h1
                  by_cases h2 : 0 < yr.cmd.length
                  · have o2 : decide ((0 : Int) < (yr.cmd.length : Int)) = true := decide_eq_true (by omega)
                    have o2N : decide (0 < yr.cmd.length) = true := decide_eq_true h2
                    have hC := class_calls t W7 hts
                    by_cases h3 : classB t = 0
                    · have o3 : (classB t == 0) = true := by rw [beq_iff_eq]; exact h3
                      have o3N : decide (classB t = 0) = true := decide_eq_true h3
                      have eJ : joinT r (xs.map RX.r, m) t = none := by rw [eT, if_pos (by rw [kx2, ky2]; decide)]
                      have HI2 := Lib.hid (join_fault HI1.out eJ)
                      clear eJ HI1 HJ kx ky eT kx2 ky2
                      go_wp2_with (first | (at_lookup; refine wpList_get keyS Try.underlying65 zeroJ rfl _ _ true rfl (HMy.out.at_ 5 rfl) rfl t rfl _ hlk ?_) | (go_at_call 39; refine hC.mono ?_; clear hC; rintro e w1 ⟨rfl, rfl⟩) | fail)
                      refine wp_plan [4] (S := fun w' => Hid (w'.cell? ⟨rb, 4, none⟩ = some (.int .i64 r.at_))) [(.pure, 0), (.load, 1), (.pure, 2), (.pure, 3), (.tail, 4)] (by kernel_rfl) rfl (by kernel_rfl) rfl (fun _ _ _ _ _ h => h) (Lib.hid rc4) ?_
                      have HMz := Lib.hid (HMy.out.drew.psel (L := [_, _, _, _, _, _, _, _]) [6] 8 rfl (by decide))
                      have fc0 := Blk.cell_ (HMz.out.at_ 0 rfl) 0
                      have fc1 := Blk.cell_ (HMz.out.at_ 0 rfl) 1
                      have ff0 := Blk.frozen (HMz.out.at_ 0 rfl) 0
                      have ff1 := Blk.frozen (HMz.out.at_ 0 rfl) 1
                      simp only [List.getElem?_toArray, List.getElem?_cons_succ, List.getElem?_cons_zero] at fc0 fc1
                      clear HMy HM8
                      generalize World.drew _ = W8 at *
                      repeat (first | (refine plan_pure (v := ?_) (a' := ?_) rfl rfl rfl ?_ ?_ ?_; rotate_left 2; (focus (intro w'; go_simp; with_reducible rfl)); (focus (simp only [Act.put, List.setIfInBounds_toArray, List.set_cons_zero, List.set_cons_succ]; rfl))) | (refine plan_load (v := ?_) (a' := ?_) rfl rfl rfl ?_ ?_ ?_; rotate_left 2; (focus (intro w' hw'; have q0 := hw'.out; clear hw'; go_simp; with_reducible rfl)); (focus (simp only [Act.put, List.setIfInBounds_toArray, List.set_cons_zero, List.set_cons_succ]; rfl))) | (refine plan_skip rfl rfl (by decide +kernel) (by simp only [Act.put, List.setIfInBounds_toArray, List.set_cons_zero, List.set_cons_succ]; rfl) ?_))
                      refine plan_tail rfl (fun K hK => ?_)
                      go_wp2_with fail
                      refine plan_done ?_
                      have HMf := (HMz.out.blkSet 0 (.int .i64 14)).blkSet 1 (.int .i64 r.at_)
                      have f0 := Blk.cell_ (HMf.at_ 0 rfl) 0
                      have f1 := Blk.cell_ (HMf.at_ 0 rfl) 1
                      generalize World.setCell _ _ _ = W9 at *
                      go_wp2_with fail
                      (try simp only [Exit.inBlock, Exit.then])
                      refine bodyPost_ret (v := .tuple #[.slice none 0 0, .agg #[.int .i64 14, .int .i64 r.at_]]) ?hr rfl ?_
                      case hr =>
                        unfold results
                        go_simp
                      exact ⟨fun _ => ⟨_, rfl, HMf.only (fun d hd => by cases hd) .nil⟩, fun s hs => by have e1 := (hRS.out.trans HI2.out); unfold joinB at hs; rw [e1] at hs; cases hs⟩
                    · have o3 : (classB t == 0) = false := by rw [beq_eq_false_iff_ne]; exact h3
                      have o3N : decide (classB t = 0) = false := decide_eq_false h3
                      have eJ : joinT r (xs.map RX.r, m) t = none := by rw [eT, if_pos (by rw [kx2, ky2]; decide)]
                      have HI2 := Lib.hid (join_fault HI1.out eJ)
                      clear eJ HI1 HJ kx ky eT kx2 ky2
                      go_wp2_with (first | (at_lookup; refine wpList_get keyS Try.underlying65 zeroJ rfl _ _ true rfl (HMy.out.at_ 5 rfl) rfl t rfl _ hlk ?_) | (go_at_call 39; refine hC.mono ?_; clear hC; rintro e w1 ⟨rfl, rfl⟩) | fail)
                      refine wp_plan [4] (S := fun w' => Hid (w'.cell? ⟨rb, 4, none⟩ = some (.int .i64 r.at_))) [(.pure, 0), (.load, 1), (.pure, 2), (.pure, 3), (.tail, 4)] (by kernel_rfl) rfl (by kernel_rfl) rfl (fun _ _ _ _ _ h => h) (Lib.hid rc4) ?_
                      have HMz := Lib.hid (HMy.out.drew.psel (L := [_, _, _, _, _, _, _, _]) [6] 8 rfl (by decide))
                      have fc0 := Blk.cell_ (HMz.out.at_ 0 rfl) 0
                      have fc1 := Blk.cell_ (HMz.out.at_ 0 rfl) 1
                      have ff0 := Blk.frozen (HMz.out.at_ 0 rfl) 0
                      have ff1 := Blk.frozen (HMz.out.at_ 0 rfl) 1
                      simp only [List.getElem?_toArray, List.getElem?_cons_succ, List.getElem?_cons_zero] at fc0 fc1
                      clear HMy HM8
                      generalize World.drew _ = W8 at *
                      repeat (first | (refine plan_pure (v := ?_) (a' := ?_) rfl rfl rfl ?_ ?_ ?_; rotate_left 2; (focus (intro w'; go_simp; with_reducible rfl)); (focus (simp only [Act.put, List.setIfInBounds_toArray, List.set_cons_zero, List.set_cons_succ]; rfl))) | (refine plan_load (v := ?_) (a' := ?_) rfl rfl rfl ?_ ?_ ?_; rotate_left 2; (focus (intro w' hw'; have q0 := hw'.out; clear hw'; go_simp; with_reducible rfl)); (focus (simp only [Act.put, List.setIfInBounds_toArray, List.set_cons_zero, List.set_cons_succ]; rfl))) | (refine plan_skip rfl rfl (by decide +kernel) (by simp only [Act.put, List.setIfInBounds_toArray, List.set_cons_zero, List.set_cons_succ]; rfl) ?_))
                      refine plan_tail rfl (fun K hK => ?_)
                      go_wp2_with fail
                      refine plan_done ?_
                      have HMf := (HMz.out.blkSet 0 (.int .i64 14)).blkSet 1 (.int .i64 r.at_)
                      have f0 := Blk.cell_ (HMf.at_ 0 rfl) 0
                      have f1 := Blk.cell_ (HMf.at_ 0 rfl) 1
                      generalize World.setCell _ _ _ = W9 at *
                      go_wp2_with fail
                      (try simp only [Exit.inBlock, Exit.then])
                      refine bodyPost_ret (v := .tuple #[.slice none 0 0, .agg #[.int .i64 14, .int .i64 r.at_]]) ?hr rfl ?_
                      case hr =>
                        unfold results
                        go_simp
                      exact ⟨fun _ => ⟨_, rfl, HMf.only (fun d hd => by cases hd) .nil⟩, fun s hs => by have e1 := (hRS.out.trans HI2.out); unfold joinB at hs; rw [e1] at hs; cases hs⟩
                  · have o2 : decide ((0 : Int) < (yr.cmd.length : Int)) = false := decide_eq_false (by omega)
                    have o2N : decide (0 < yr.cmd.length) = false := decide_eq_false h2
                    have eJ : joinT r (xs.map RX.r, m) t = none := by rw [eT, if_pos (by rw [kx2, ky2]; decide)]
                    have HI2 := Lib.hid (join_fault HI1.out eJ)
                    clear eJ HI1 HJ kx ky eT kx2 ky2
                    go_wp2_with (first | (at_lookup; refine wpList_get keyS Try.underlying65 zeroJ rfl _ _ true rfl (HMy.out.at_ 5 rfl) rfl t rfl _ hlk ?_) | (go_at_call 39; refine hC.mono ?_; clear hC; rintro e w1 ⟨rfl, rfl⟩) | fail)
                    refine wp_plan [4] (S := fun w' => Hid (w'.cell? ⟨rb, 4, none⟩ = some (.int .i64 r.at_))) [(.pure, 0), (.load, 1), (.pure, 2), (.pure, 3), (.tail, 4)] (by kernel_rfl) rfl (by kernel_rfl) rfl (fun _ _ _ _ _ h => h) (Lib.hid rc4) ?_
                    have HMz := Lib.hid (HMy.out.drew.psel (L := [_, _, _, _, _, _, _, _]) [6] 8 rfl (by decide))
                    have fc0 := Blk.cell_ (HMz.out.at_ 0 rfl) 0
                    have fc1 := Blk.cell_ (HMz.out.at_ 0 rfl) 1
                    have ff0 := Blk.frozen (HMz.out.at_ 0 rfl) 0
                    have ff1 := Blk.frozen (HMz.out.at_ 0 rfl) 1
                    simp only [List.getElem?_toArray, List.getElem?_cons_succ, List.getElem?_cons_zero] at fc0 fc1
                    clear HMy HM8
                    generalize World.drew _ = W8 at *
                    repeat (first | (refine plan_pure (v := ?_) (a' := ?_) rfl rfl rfl ?_ ?_ ?_; rotate_left 2; (focus (intro w'; go_simp; with_reducible rfl)); (focus (simp only [Act.put, List.setIfInBounds_toArray, List.set_cons_zero, List.set_cons_succ]; rfl))) | (refine plan_load (v := ?_) (a' := ?_) rfl rfl rfl ?_ ?_ ?_; rotate_left 2; (focus (intro w' hw'; have q0 := hw'.out; clear hw'; go_simp; with_reducible rfl)); (focus (simp only [Act.put, List.setIfInBounds_toArray, List.set_cons_zero, List.set_cons_succ]; rfl))) | (refine plan_skip rfl rfl (by decide +kernel) (by simp only [Act.put, List.setIfInBounds_toArray, List.set_cons_zero, List.set_cons_succ]; rfl) ?_))
                    refine plan_tail rfl (fun K hK => ?_)
                    go_wp2_with fail
                    refine plan_done ?_
                    have HMf := (HMz.out.blkSet 0 (.int .i64 14)).blkSet 1 (.int .i64 r.at_)
                    have f0 := Blk.cell_ (HMf.at_ 0 rfl) 0
                    have f1 := Blk.cell_ (HMf.at_ 0 rfl) 1
                    generalize World.setCell _ _ _ = W9 at *
                    go_wp2_with fail
                    (try simp only [Exit.inBlock, Exit.then])
                    refine bodyPost_ret (v := .tuple #[.slice none 0 0, .agg #[.int .i64 14, .int .i64 r.at_]]) ?hr rfl ?_
                    case hr =>
                      unfold results
                      go_simp
                    exact ⟨fun _ => ⟨_, rfl, HMf.only (fun d hd => by cases hd) .nil⟩, fun s hs => by have e1 := (hRS.out.trans HI2.out); unfold joinB at hs; rw [e1] at hs; cases hs⟩
                · have o1 : decide ((0 : Int) < (r.cmd.length : Int)) = false := decide_eq_false (by omega)
                  have o1N : decide (0 < r.cmd.length) = false := decide_eq_false h1
                  have eJ : joinT r (xs.map RX.r, m) t = none := by rw [eT, if_pos (by rw [kx2, ky2]; decide)]
                  have HI2 := Lib.hid (join_fault HI1.out eJ)
                  clear eJ HI1 HJ kx ky eT kx2 ky2
                  go_wp2_with (first | (at_lookup; refine wpList_get keyS Try.underlying65 zeroJ rfl _ _ true rfl (HMy.out.at_ 5 rfl) rfl t rfl _ hlk ?_) | (go_at_call 39; refine hC.mono ?_; clear hC; rintro e w1 ⟨rfl, rfl⟩) | fail)
                  refine wp_plan [4] (S := fun w' => Hid (w'.cell? ⟨rb, 4, none⟩ = some (.int .i64 r.at_))) [(.pure, 0), (.load, 1), (.pure, 2), (.pure, 3), (.tail, 4)] (by kernel_rfl) rfl (by kernel_rfl) rfl (fun _ _ _ _ _ h => h) (Lib.hid rc4) ?_
                  have HMz := Lib.hid (HMy.out.drew.psel (L := [_, _, _, _, _, _, _, _]) [6] 8 rfl (by decide))
                  have fc0 := Blk.cell_ (HMz.out.at_ 0 rfl) 0
                  have fc1 := Blk.cell_ (HMz.out.at_ 0 rfl) 1
                  have ff0 := Blk.frozen (HMz.out.at_ 0 rfl) 0
                  have ff1 := Blk.frozen (HMz.out.at_ 0 rfl) 1
                  simp only [List.getElem?_toArray, List.getElem?_cons_succ, List.getElem?_cons_zero] at fc0 fc1
                  clear HMy HM8
                  generalize World.drew _ = W8 at *
                  repeat (first | (refine plan_pure (v := ?_) (a' := ?_) rfl rfl rfl ?_ ?_ ?_; rotate_left 2; (focus (intro w'; go_simp; with_reducible rfl)); (focus (simp only [Act.put, List.setIfInBounds_toArray, List.set_cons_zero, List.set_cons_succ]; rfl))) | (refine plan_load (v := ?_) (a' := ?_) rfl rfl rfl ?_ ?_ ?_; rotate_left 2; (focus (intro w' hw'; have q0 := hw'.out; clear hw'; go_simp; with_reducible rfl)); (focus (simp only [Act.put, List.setIfInBounds_toArray, List.set_cons_zero, List.set_cons_succ]; rfl))) | (refine plan_skip rfl rfl (by decide +kernel) (by simp only [Act.put, List.setIfInBounds_toArray, List.set_cons_zero, List.set_cons_succ]; rfl) ?_))
                  refine plan_tail rfl (fun K hK => ?_)
                  go_wp2_with fail
                  refine plan_done ?_
                  have HMf := (HMz.out.blkSet 0 (.int .i64 14)).blkSet 1 (.int .i64 r.at_)
                  have f0 := Blk.cell_ (HMf.at_ 0 rfl) 0
                  have f1 := Blk.cell_ (HMf.at_ 0 rfl) 1
                  generalize World.setCell _ _ _ = W9 at *
                  go_wp2_with fail
                  (try simp only [Exit.inBlock, Exit.then])
                  refine bodyPost_ret (v := .tuple #[.slice none 0 0, .agg #[.int .i64 14, .int .i64 r.at_]]) ?hr rfl ?_
                  case hr =>
                    unfold results
                    go_simp
                  exact ⟨fun _ => ⟨_, rfl, HMf.only (fun d hd => by cases hd) .nil⟩, fun s hs => by have e1 := (hRS.out.trans HI2.out); unfold joinB at hs; rw [e1] at hs; cases hs⟩
              · have ky1 : (yr.kind == 3) = false := by rw [beq_eq_false_iff_ne]; exact ky
                have ky2 : decide (yr.kind = 3) = false := decide_eq_false ky
                by_cases h1 : 0 < r.cmd.length
                · have o1 : decide ((0 : Int) < (r.cmd.length : Int)) = true := decide_eq_true (by omega)
                  have o1N : decide (0 < r.cmd.length) = true := decide_eq_true h1
                  by_cases h2 : 0 < yr.cmd.length
                  · have o2 : decide ((0 : Int) < (yr.cmd.length : Int)) = true := decide_eq_true (by omega)
                    have o2N : decide (0 < yr.cmd.length) = true := decide_eq_true h2
                    have hC := class_calls t W7 hts
                    by_cases h3 : classB t = 0
                    · have o3 : (classB t == 0) = true := by rw [beq_iff_eq]; exact h3
                      have o3N : decide (classB t = 0) = true := decide_eq_true h3
                      have eJ : joinT r (xs.map RX.r, m) t = none := by rw [eT, if_neg (by rw [kx2, ky2]; decide), if_neg kx, if_pos ⟨h1, h2, h3⟩]
                      have HI2 := Lib.hid (join_fault HI1.out eJ)
                      clear eJ HI1 HJ kx ky eT kx2 ky2
                      go_wp2_with (first | (at_lookup; refine wpList_get keyS Try.underlying65 zeroJ rfl _ _ true rfl (HMy.out.at_ 5 rfl) rfl t rfl _ hlk ?_) | (go_at_call 39; refine hC.mono ?_; clear hC; rintro e w1 ⟨rfl, rfl⟩) | fail)
                      refine wp_plan [4] (S := fun w' => Hid (w'.cell? ⟨rb, 4, none⟩ = some (.int .i64 r.at_))) [(.pure, 0), (.load, 1), (.pure, 2), (.pure, 3), (.tail, 4)] (by kernel_rfl) rfl (by kernel_rfl) rfl (fun _ _ _ _ _ h => h) (Lib.hid rc4) ?_
                      have HMz := Lib.hid (HMy.out.drew.psel (L := [_, _, _, _, _, _, _, _]) [6] 8 rfl (by decide))
                      have fc0 := Blk.cell_ (HMz.out.at_ 0 rfl) 0
                      have fc1 := Blk.cell_ (HMz.out.at_ 0 rfl) 1
                      have ff0 := Blk.frozen (HMz.out.at_ 0 rfl) 0
                      have ff1 := Blk.frozen (HMz.out.at_ 0 rfl) 1
                      simp only [List.getElem?_toArray, List.getElem?_cons_succ, List.getElem?_cons_zero] at fc0 fc1
                      clear HMy HM8
                      generalize World.drew _ = W8 at *
                      repeat (first | (refine plan_pure (v := ?_) (a' := ?_) rfl rfl rfl ?_ ?_ ?_; rotate_left 2; (focus (intro w'; go_simp; with_reducible rfl)); (focus (simp only [Act.put, List.setIfInBounds_toArray, List.set_cons_zero, List.set_cons_succ]; rfl))) | (refine plan_load (v := ?_) (a' := ?_) rfl rfl rfl ?_ ?_ ?_; rotate_left 2; (focus (intro w' hw'; have q0 := hw'.out; clear hw'; go_simp; with_reducible rfl)); (focus (simp only [Act.put, List.setIfInBounds_toArray, List.set_cons_zero, List.set_cons_succ]; rfl))) | (refine plan_skip rfl rfl (by decide +kernel) (by simp only [Act.put, List.setIfInBounds_toArray, List.set_cons_zero, List.set_cons_succ]; rfl) ?_))
                      refine plan_tail rfl (fun K hK => ?_)
                      go_wp2_with fail
                      refine plan_done ?_
                      have HMf := (HMz.out.blkSet 0 (.int .i64 14)).blkSet 1 (.int .i64 r.at_)
                      have f0 := Blk.cell_ (HMf.at_ 0 rfl) 0
                      have f1 := Blk.cell_ (HMf.at_ 0 rfl) 1
                      generalize World.setCell _ _ _ = W9 at *
                      go_wp2_with fail
                      (try simp only [Exit.inBlock, Exit.then])
                      refine bodyPost_ret (v := .tuple #[.slice none 0 0, .agg #[.int .i64 14, .int .i64 r.at_]]) ?hr rfl ?_
                      case hr =>
                        unfold results
                        go_simp
                      exact ⟨fun _ => ⟨_, rfl, HMf.only (fun d hd => by cases hd) .nil⟩, fun s hs => by have e1 := (hRS.out.trans HI2.out); unfold joinB at hs; rw [e1] at hs; cases hs⟩
                    · have o3 : (classB t == 0) = false := by rw [beq_eq_false_iff_ne]; exact h3
                      have o3N : decide (classB t = 0) = false := decide_eq_false h3
                      have eJ : joinT r (xs.map RX.r, m) t = some ((xs.map RX.r).set q ⟨yr.tg, if r.kind = 2 then 2 else yr.kind, yr.src ++ r.src, yr.cmd ++ r.cmd, yr.at_⟩, m) := by rw [eT, if_neg (by rw [kx2, ky2]; decide), if_neg kx, if_neg (fun h => h3 h.2.2)]
                      have HI2 := Lib.hid (join_step HI1.out eJ)
                      have HJ2 := Lib.hid (HJ.out.step hjt eJ hbB.out)
                      have hys : yr.src.length + r.src.length ≤ 8796093022208 ∧ yr.cmd.length + r.cmd.length ≤ 8796093022208 := merge_len HJ.out hBN hq (by rw [hy.out]) hsl hcl
                      clear eJ HI1 HJ kx ky eT kx2 ky2 HM8
                      go_wp2_with (first | (at_lookup; refine wpList_get keyS Try.underlying65 zeroJ rfl _ _ true rfl (HMy.out.at_ 5 rfl) rfl t rfl _ hlk ?_) | (go_at_call 39; refine hC.mono ?_; clear hC; rintro e w1 ⟨rfl, rfl⟩) | fail)
                      -- R22
                      have HMz : Hid (Mem none_ w ([StrRow (.slice A5 yr.src.length c5) yr.src, Blk xb 25 #[.slice B1 m1 d1', .int .i64 r.kind, .slice B2 r.src.length d2', .slice B3 r.cmd.length d3', .int .i64 r.at_], StrRow (.slice B2 r.src.length d2') r.src, StrRow (.slice B3 r.cmd.length d3') r.cmd, RRow (.slice (some ⟨g, 0, none⟩) xs.length c4) xs, MapC (fb + 1) Value.string (Value.int .i64) m, Blk fb 53 #[.int .i64 0, .int .i64 0], Blk rb 25 #[.slice (some ⟨bs, os, none⟩) r.tg.length c1, .int .i64 r.kind, .slice A2 r.src.length c2, .slice A3 r.cmd.length c3, .int .i64 r.at_], StrRow yT yr.tg, StrRow (.slice A6 yr.cmd.length c6) yr.cmd] ++ Cls (xs.eraseIdx q)) (World.drew W7)) := HMy.out.drew.psel (L := [_, _, _, _, _, _, _, _, _, _, _]) [9, 0, 2, 3, 4, 5, 6, 7, 8, 10] 11 rfl (by decide)
                      refine wp_plan [7, 10] (S := fun w' => Hid (w'.cell? ⟨g, q * 5 + 2, none⟩ = some (.slice A5 yr.src.length c5) ∧ w'.cell? ⟨xb, 2, none⟩ = some (.slice B2 r.src.length d2'))) [(.pure, 0), (.pure, 1), (.pure, 2), (.pure, 3), (.load, 4), (.pure, 5), (.load, 6), (.tail, 7), (.pure, 8), (.pure, 9), (.tail, 10)] (by kernel_rfl) rfl (by kernel_rfl) rfl (fun _ _ _ _ _ h => h) (Lib.hid ⟨z2, xc2⟩) ?_
                      generalize World.drew _ = W8 at *
                      repeat (first | (refine plan_pure (v := ?_) (a' := ?_) rfl rfl rfl ?_ ?_ ?_; rotate_left 2; (focus (intro w'; go_simp; with_reducible rfl)); (focus (simp only [Act.put, List.setIfInBounds_toArray, List.set_cons_zero, List.set_cons_succ]; rfl))) | (refine plan_load (v := ?_) (a' := ?_) rfl rfl rfl ?_ ?_ ?_; rotate_left 2; (focus (intro w' hw'; obtain ⟨q0, q1⟩ := hw'.out; clear hw'; go_simp; with_reducible rfl)); (focus (simp only [Act.put, List.setIfInBounds_toArray, List.set_cons_zero, List.set_cons_succ]; rfl))) | (refine plan_skip rfl rfl (by decide +kernel) (by simp only [Act.put, List.setIfInBounds_toArray, List.set_cons_zero, List.set_cons_succ]; rfl) ?_))
                      refine plan_tail_put rfl rfl (fun K hK => ?_)
                      refine wpList_appL strE rfl _ _ rfl HMz.out rfl rfl (Row.sl (HMz.out.at_ 2 rfl)) (by omega) ?_
                      intro v' w4 HM9 HU9
                      refine wpList_nil_ (hK _ _ ?_)
                      clear hK HU9 HMz
                      obtain ⟨A7, c7, e7, _, _⟩ := Row.any_ HM9.head
                      obtain ⟨n7, hn7⟩ : ∃ n, (yr.src ++ r.src).length = n := ⟨_, rfl⟩
                      rw [hn7] at e7
                      subst e7
                      have hn7 := Lib.hid hn7
                      have HM10 := Lib.hid (HM9.psel (L := [_, _, _, _, _, _, _, _, _, _]) [4, 0, 1, 2, 3, 5, 6, 7, 8, 9] 10 rfl (by decide))
                      have hrow := HM10.out.head
                      have w2 := Row.cell hrow (show _ = some (Value.slice A5 yr.src.length c5) from by rw [flat_get RX.cells 5 RX.len xs q hq 2 (by decide), hy.out]; rfl)
                      have wf2 := Row.frozen hrow (q * 5 + 2)
                      clear hrow HM9
                      simp only [Act.put, List.setIfInBounds_toArray, List.set_cons_zero, List.set_cons_succ]
                      repeat (first | (refine plan_pure (v := ?_) (a' := ?_) rfl rfl rfl ?_ ?_ ?_; rotate_left 2; (focus (intro w'; go_simp; with_reducible rfl)); (focus (simp only [Act.put, List.setIfInBounds_toArray, List.set_cons_zero, List.set_cons_succ]; rfl))) | (refine plan_load (v := ?_) (a' := ?_) rfl rfl rfl ?_ ?_ ?_; rotate_left 2; (focus (intro w' hw'; obtain ⟨q0, q1⟩ := hw'.out; clear hw'; go_simp; with_reducible rfl)); (focus (simp only [Act.put, List.setIfInBounds_toArray, List.set_cons_zero, List.set_cons_succ]; rfl))) | (refine plan_skip rfl rfl (by decide +kernel) (by simp only [Act.put, List.setIfInBounds_toArray, List.set_cons_zero, List.set_cons_succ]; rfl) ?_))
                      refine plan_tail rfl (fun K hK => ?_)
                      go_wp2_with fail
                      refine plan_done ?_
                      have HM11 := Lib.hid (HM10.out.rowSet (j := q * 5 + 2) (by omega) (.slice A7 n7 c7))
                      clear w2 wf2 HM10 z1 z2 z3
                      generalize World.setCell _ _ _ = W9 at *
                      go_wp2_with fail
                      -- R23
                      have HMz := Lib.hid (HM11.out.drew.psel (L := [_, _, _, _, _, _, _, _, _, _]) [9, 0, 1, 2, 3, 4, 5, 6, 7, 8] 10 rfl (by decide))
                      have z3 := Row.cell (j := q * 5 + 3) (HMz.out.at_ 1 rfl) (show _ = some (Value.slice A6 yr.cmd.length c6) from by rw [List.getElem?_set_ne (by omega), flat_get RX.cells 5 RX.len xs q hq 3 (by decide), hy.out]; rfl)
                      have xd3 := Blk.cell_ (HMz.out.at_ 3 rfl) 3
                      simp only [List.getElem?_toArray, List.getElem?_cons_succ, List.getElem?_cons_zero] at xd3
                      refine wp_plan [7, 10] (S := fun w' => Hid (w'.cell? ⟨g, q * 5 + 3, none⟩ = some (.slice A6 yr.cmd.length c6) ∧ w'.cell? ⟨xb, 3, none⟩ = some (.slice B3 r.cmd.length d3'))) [(.pure, 0), (.pure, 1), (.pure, 2), (.pure, 3), (.load, 4), (.pure, 5), (.load, 6), (.tail, 7), (.pure, 8), (.pure, 9), (.tail, 10)] (by kernel_rfl) rfl (by kernel_rfl) rfl (fun _ _ _ _ _ h => h) (Lib.hid ⟨z3, xd3⟩) ?_
                      clear HM11 z3 xd3
                      generalize World.drew _ = W10 at *
                      repeat (first | (refine plan_pure (v := ?_) (a' := ?_) rfl rfl rfl ?_ ?_ ?_; rotate_left 2; (focus (intro w'; go_simp; with_reducible rfl)); (focus (simp only [Act.put, List.setIfInBounds_toArray, List.set_cons_zero, List.set_cons_succ]; rfl))) | (refine plan_load (v := ?_) (a' := ?_) rfl rfl rfl ?_ ?_ ?_; rotate_left 2; (focus (intro w' hw'; obtain ⟨q0, q1⟩ := hw'.out; clear hw'; go_simp; with_reducible rfl)); (focus (simp only [Act.put, List.setIfInBounds_toArray, List.set_cons_zero, List.set_cons_succ]; rfl))) | (refine plan_skip rfl rfl (by decide +kernel) (by simp only [Act.put, List.setIfInBounds_toArray, List.set_cons_zero, List.set_cons_succ]; rfl) ?_))
                      refine plan_tail_put rfl rfl (fun K hK => ?_)
                      refine wpList_appL strE rfl _ _ rfl HMz.out rfl rfl (Row.sl (HMz.out.at_ 5 rfl)) (by omega) ?_
                      intro v' w5 HM12 HU12
                      refine wpList_nil_ (hK _ _ ?_)
                      clear hK HU12 HMz
                      obtain ⟨A8, c8, e8, _, _⟩ := Row.any_ HM12.head
                      obtain ⟨n8, hn8⟩ : ∃ n, (yr.cmd ++ r.cmd).length = n := ⟨_, rfl⟩
                      rw [hn8] at e8
                      subst e8
                      have hn8 := Lib.hid hn8
                      have HM13 := Lib.hid (HM12.psel (L := [_, _, _, _, _, _, _, _, _, _]) [1, 0, 2, 3, 4, 5, 6, 7, 8, 9] 10 rfl (by decide))
                      have hrow := HM13.out.head
                      have w3 := Row.cell (j := q * 5 + 3) hrow (show _ = some (Value.slice A6 yr.cmd.length c6) from by rw [List.getElem?_set_ne (by omega), flat_get RX.cells 5 RX.len xs q hq 3 (by decide), hy.out]; rfl)
                      have wf3 := Row.frozen hrow (q * 5 + 3)
                      clear hrow HM12
                      simp only [Act.put, List.setIfInBounds_toArray, List.set_cons_zero, List.set_cons_succ]
                      repeat (first | (refine plan_pure (v := ?_) (a' := ?_) rfl rfl rfl ?_ ?_ ?_; rotate_left 2; (focus (intro w'; go_simp; with_reducible rfl)); (focus (simp only [Act.put, List.setIfInBounds_toArray, List.set_cons_zero, List.set_cons_succ]; rfl))) | (refine plan_load (v := ?_) (a' := ?_) rfl rfl rfl ?_ ?_ ?_; rotate_left 2; (focus (intro w' hw'; obtain ⟨q0, q1⟩ := hw'.out; clear hw'; go_simp; with_reducible rfl)); (focus (simp only [Act.put, List.setIfInBounds_toArray, List.set_cons_zero, List.set_cons_succ]; rfl))) | (refine plan_skip rfl rfl (by decide +kernel) (by simp only [Act.put, List.setIfInBounds_toArray, List.set_cons_zero, List.set_cons_succ]; rfl) ?_))
                      refine plan_tail rfl (fun K hK => ?_)
                      go_wp2_with fail
                      refine plan_done ?_
                      have HM14 := Lib.hid (HM13.out.rowSet (j := q * 5 + 3) (by omega) (.slice A8 n8 c8))
                      clear w3 wf3 HM13
                      generalize World.setCell _ _ _ = W11 at *
                      have xd1 := Blk.cell_ (HM14.out.at_ 3 rfl) 1
                      simp only [List.getElem?_toArray, List.getElem?_cons_succ, List.getElem?_cons_zero] at xd1
                      have w1 := Row.cell (j := q * 5 + 1) HM14.out.head (show _ = some (Value.int .i64 yr.kind) from by rw [List.getElem?_set_ne (by omega), List.getElem?_set_ne (by omega), flat_get RX.cells 5 RX.len xs q hq 1 (by decide), hy.out]; rfl)
                      have wf1 := Row.frozen HM14.out.head (q * 5 + 1)
                      clear xc0 xc1 xc2 xc3 xc4 rc4
                      by_cases k2 : r.kind = 2
                      · have k21 : (r.kind == 2) = true := by rw [beq_iff_eq]; exact k2
                        have k22 : decide (r.kind = 2) = true := decide_eq_true k2
                        rw [if_pos k2] at HI2 HJ2
                        clear k2
                        go_wp2_with fail
                        have HM15 := HM14.out.rowSet (j := q * 5 + 1) (by omega) (.int .i64 2)
                        have HM16 := merge_ok (y := ⟨yT, .slice A5 yr.src.length c5, .slice A6 yr.cmd.length c6, yr⟩) (kd := 2) (s' := yr.src ++ r.src) (c' := yr.cmd ++ r.cmd) hq hy.out (Or.inr ⟨_, rfl, rfl⟩) (HM15.psel (L := [_, _, _, _, _, _, _, _, _, _]) [0, 6, 7, 8, 9, 2, 1] 10 rfl (by decide))
                        go_roundw
                        case rel => exact ⟨j + 1, _, m, n + 1, by omega, by go_num, by rw [List.map_set]; exact HI2, by rw [List.map_set]; exact HJ2, HM16⟩
                        case measure => simp [intOf]; omega
                      · have k21 : (r.kind == 2) = false := by rw [beq_eq_false_iff_ne]; exact k2
                        have k22 : decide (r.kind = 2) = false := decide_eq_false k2
                        rw [if_neg k2] at HI2 HJ2
                        clear k2
                        go_wp2_with fail
                        have HM16 := merge_ok (y := ⟨yT, .slice A5 yr.src.length c5, .slice A6 yr.cmd.length c6, yr⟩) (kd := yr.kind) (s' := yr.src ++ r.src) (c' := yr.cmd ++ r.cmd) hq hy.out (Or.inl ⟨rfl, rfl⟩) (HM14.out.psel (L := [_, _, _, _, _, _, _, _, _, _]) [0, 6, 7, 8, 9, 2, 1] 10 rfl (by decide))
                        go_roundw
                        case rel => exact ⟨j + 1, _, m, n + 1, by omega, by go_num, by rw [List.map_set]; exact HI2, by rw [List.map_set]; exact HJ2, HM16⟩
                        case measure => simp [intOf]; omega
                  · have o2 : decide ((0 : Int) < (yr.cmd.length : Int)) = false := decide_eq_false (by omega)
                    have o2N : decide (0 < yr.cmd.length) = false := decide_eq_false h2
                    have eJ : joinT r (xs.map RX.r, m) t = some ((xs.map RX.r).set q ⟨yr.tg, if r.kind = 2 then 2 else yr.kind, yr.src ++ r.src, yr.cmd ++ r.cmd, yr.at_⟩, m) := by rw [eT, if_neg (by rw [kx2, ky2]; decide), if_neg kx, if_neg (fun h => h2 h.2.1)]
                    have HI2 := Lib.hid (join_step HI1.out eJ)
                    have HJ2 := Lib.hid (HJ.out.step hjt eJ hbB.out)
                    have hys : yr.src.length + r.src.length ≤ 8796093022208 ∧ yr.cmd.length + r.cmd.length ≤ 8796093022208 := merge_len HJ.out hBN hq (by rw [hy.out]) hsl hcl
                    clear eJ HI1 HJ kx ky eT kx2 ky2 HM8
                    go_wp2_with (first | (at_lookup; refine wpList_get keyS Try.underlying65 zeroJ rfl _ _ true rfl (HMy.out.at_ 5 rfl) rfl t rfl _ hlk ?_) | (go_at_call 39; refine hC.mono ?_; clear hC; rintro e w1 ⟨rfl, rfl⟩) | fail)
                    -- R22
                    have HMz : Hid (Mem none_ w ([StrRow (.slice A5 yr.src.length c5) yr.src, Blk xb 25 #[.slice B1 m1 d1', .int .i64 r.kind, .slice B2 r.src.length d2', .slice B3 r.cmd.length d3', .int .i64 r.at_], StrRow (.slice B2 r.src.length d2') r.src, StrRow (.slice B3 r.cmd.length d3') r.cmd, RRow (.slice (some ⟨g, 0, none⟩) xs.length c4) xs, MapC (fb + 1) Value.string (Value.int .i64) m, Blk fb 53 #[.int .i64 0, .int .i64 0], Blk rb 25 #[.slice (some ⟨bs, os, none⟩) r.tg.length c1, .int .i64 r.kind, .slice A2 r.src.length c2, .slice A3 r.cmd.length c3, .int .i64 r.at_], StrRow yT yr.tg, StrRow (.slice A6 yr.cmd.length c6) yr.cmd] ++ Cls (xs.eraseIdx q)) (World.drew W7)) := HMy.out.drew.psel (L := [_, _, _, _, _, _, _, _, _, _, _]) [9, 0, 2, 3, 4, 5, 6, 7, 8, 10] 11 rfl (by decide)
                    refine wp_plan [7, 10] (S := fun w' => Hid (w'.cell? ⟨g, q * 5 + 2, none⟩ = some (.slice A5 yr.src.length c5) ∧ w'.cell? ⟨xb, 2, none⟩ = some (.slice B2 r.src.length d2'))) [(.pure, 0), (.pure, 1), (.pure, 2), (.pure, 3), (.load, 4), (.pure, 5), (.load, 6), (.tail, 7), (.pure, 8), (.pure, 9), (.tail, 10)] (by kernel_rfl) rfl (by kernel_rfl) rfl (fun _ _ _ _ _ h => h) (Lib.hid ⟨z2, xc2⟩) ?_
                    generalize World.drew _ = W8 at *
                    repeat (first | (refine plan_pure (v := ?_) (a' := ?_) rfl rfl rfl ?_ ?_ ?_; rotate_left 2; (focus (intro w'; go_simp; with_reducible rfl)); (focus (simp only [Act.put, List.setIfInBounds_toArray, List.set_cons_zero, List.set_cons_succ]; rfl))) | (refine plan_load (v := ?_) (a' := ?_) rfl rfl rfl ?_ ?_ ?_; rotate_left 2; (focus (intro w' hw'; obtain ⟨q0, q1⟩ := hw'.out; clear hw'; go_simp; with_reducible rfl)); (focus (simp only [Act.put, List.setIfInBounds_toArray, List.set_cons_zero, List.set_cons_succ]; rfl))) | (refine plan_skip rfl rfl (by decide +kernel) (by simp only [Act.put, List.setIfInBounds_toArray, List.set_cons_zero, List.set_cons_succ]; rfl) ?_))
                    refine plan_tail_put rfl rfl (fun K hK => ?_)
                    refine wpList_appL strE rfl _ _ rfl HMz.out rfl rfl (Row.sl (HMz.out.at_ 2 rfl)) (by omega) ?_
                    intro v' w4 HM9 HU9
                    refine wpList_nil_ (hK _ _ ?_)
                    clear hK HU9 HMz
                    obtain ⟨A7, c7, e7, _, _⟩ := Row.any_ HM9.head
                    obtain ⟨n7, hn7⟩ : ∃ n, (yr.src ++ r.src).length = n := ⟨_, rfl⟩
                    rw [hn7] at e7
                    subst e7
                    have hn7 := Lib.hid hn7
                    have HM10 := Lib.hid (HM9.psel (L := [_, _, _, _, _, _, _, _, _, _]) [4, 0, 1, 2, 3, 5, 6, 7, 8, 9] 10 rfl (by decide))
                    have hrow := HM10.out.head
                    have w2 := Row.cell hrow (show _ = some (Value.slice A5 yr.src.length c5) from by rw [flat_get RX.cells 5 RX.len xs q hq 2 (by decide), hy.out]; rfl)
                    have wf2 := Row.frozen hrow (q * 5 + 2)
                    clear hrow HM9
                    simp only [Act.put, List.setIfInBounds_toArray, List.set_cons_zero, List.set_cons_succ]
                    repeat (first | (refine plan_pure (v := ?_) (a' := ?_) rfl rfl rfl ?_ ?_ ?_; rotate_left 2; (focus (intro w'; go_simp; with_reducible rfl)); (focus (simp only [Act.put, List.setIfInBounds_toArray, List.set_cons_zero, List.set_cons_succ]; rfl))) | (refine plan_load (v := ?_) (a' := ?_) rfl rfl rfl ?_ ?_ ?_; rotate_left 2; (focus (intro w' hw'; obtain ⟨q0, q1⟩ := hw'.out; clear hw'; go_simp; with_reducible rfl)); (focus (simp only [Act.put, List.setIfInBounds_toArray, List.set_cons_zero, List.set_cons_succ]; rfl))) | (refine plan_skip rfl rfl (by decide +kernel) (by simp only [Act.put, List.setIfInBounds_toArray, List.set_cons_zero, List.set_cons_succ]; rfl) ?_))
                    refine plan_tail rfl (fun K hK => ?_)
                    go_wp2_with fail
                    refine plan_done ?_
                    have HM11 := Lib.hid (HM10.out.rowSet (j := q * 5 + 2) (by omega) (.slice A7 n7 c7))
                    clear w2 wf2 HM10 z1 z2 z3
                    generalize World.setCell _ _ _ = W9 at *
                    go_wp2_with fail
                    -- R23
                    have HMz := Lib.hid (HM11.out.drew.psel (L := [_, _, _, _, _, _, _, _, _, _]) [9, 0, 1, 2, 3, 4, 5, 6, 7, 8] 10 rfl (by decide))
                    have z3 := Row.cell (j := q * 5 + 3) (HMz.out.at_ 1 rfl) (show _ = some (Value.slice A6 yr.cmd.length c6) from by rw [List.getElem?_set_ne (by omega), flat_get RX.cells 5 RX.len xs q hq 3 (by decide), hy.out]; rfl)
                    have xd3 := Blk.cell_ (HMz.out.at_ 3 rfl) 3
                    simp only [List.getElem?_toArray, List.getElem?_cons_succ, List.getElem?_cons_zero] at xd3
                    refine wp_plan [7, 10] (S := fun w' => Hid (w'.cell? ⟨g, q * 5 + 3, none⟩ = some (.slice A6 yr.cmd.length c6) ∧ w'.cell? ⟨xb, 3, none⟩ = some (.slice B3 r.cmd.length d3'))) [(.pure, 0), (.pure, 1), (.pure, 2), (.pure, 3), (.load, 4), (.pure, 5), (.load, 6), (.tail, 7), (.pure, 8), (.pure, 9), (.tail, 10)] (by kernel_rfl) rfl (by kernel_rfl) rfl (fun _ _ _ _ _ h => h) (Lib.hid ⟨z3, xd3⟩) ?_
                    clear HM11 z3 xd3
                    generalize World.drew _ = W10 at *
                    repeat (first | (refine plan_pure (v := ?_) (a' := ?_) rfl rfl rfl ?_ ?_ ?_; rotate_left 2; (focus (intro w'; go_simp; with_reducible rfl)); (focus (simp only [Act.put, List.setIfInBounds_toArray, List.set_cons_zero, List.set_cons_succ]; rfl))) | (refine plan_load (v := ?_) (a' := ?_) rfl rfl rfl ?_ ?_ ?_; rotate_left 2; (focus (intro w' hw'; obtain ⟨q0, q1⟩ := hw'.out; clear hw'; go_simp; with_reducible rfl)); (focus (simp only [Act.put, List.setIfInBounds_toArray, List.set_cons_zero, List.set_cons_succ]; rfl))) | (refine plan_skip rfl rfl (by decide +kernel) (by simp only [Act.put, List.setIfInBounds_toArray, List.set_cons_zero, List.set_cons_succ]; rfl) ?_))
                    refine plan_tail_put rfl rfl (fun K hK => ?_)
                    refine wpList_appL strE rfl _ _ rfl HMz.out rfl rfl (Row.sl (HMz.out.at_ 5 rfl)) (by omega) ?_
                    intro v' w5 HM12 HU12
                    refine wpList_nil_ (hK _ _ ?_)
                    clear hK HU12 HMz
                    obtain ⟨A8, c8, e8, _, _⟩ := Row.any_ HM12.head
                    obtain ⟨n8, hn8⟩ : ∃ n, (yr.cmd ++ r.cmd).length = n := ⟨_, rfl⟩
                    rw [hn8] at e8
                    subst e8
                    have hn8 := Lib.hid hn8
                    have HM13 := Lib.hid (HM12.psel (L := [_, _, _, _, _, _, _, _, _, _]) [1, 0, 2, 3, 4, 5, 6, 7, 8, 9] 10 rfl (by decide))
                    have hrow := HM13.out.head
                    have w3 := Row.cell (j := q * 5 + 3) hrow (show _ = some (Value.slice A6 yr.cmd.length c6) from by rw [List.getElem?_set_ne (by omega), flat_get RX.cells 5 RX.len xs q hq 3 (by decide), hy.out]; rfl)
                    have wf3 := Row.frozen hrow (q * 5 + 3)
                    clear hrow HM12
                    simp only [Act.put, List.setIfInBounds_toArray, List.set_cons_zero, List.set_cons_succ]
                    repeat (first | (refine plan_pure (v := ?_) (a' := ?_) rfl rfl rfl ?_ ?_ ?_; rotate_left 2; (focus (intro w'; go_simp; with_reducible rfl)); (focus (simp only [Act.put, List.setIfInBounds_toArray, List.set_cons_zero, List.set_cons_succ]; rfl))) | (refine plan_load (v := ?_) (a' := ?_) rfl rfl rfl ?_ ?_ ?_; rotate_left 2; (focus (intro w' hw'; obtain ⟨q0, q1⟩ := hw'.out; clear hw'; go_simp; with_reducible rfl)); (focus (simp only [Act.put, List.setIfInBounds_toArray, List.set_cons_zero, List.set_cons_succ]; rfl))) | (refine plan_skip rfl rfl (by decide +kernel) (by simp only [Act.put, List.setIfInBounds_toArray, List.set_cons_zero, List.set_cons_succ]; rfl) ?_))
                    refine plan_tail rfl (fun K hK => ?_)
                    go_wp2_with fail
                    refine plan_done ?_
                    have HM14 := Lib.hid (HM13.out.rowSet (j := q * 5 + 3) (by omega) (.slice A8 n8 c8))
                    clear w3 wf3 HM13
                    generalize World.setCell _ _ _ = W11 at *
                    have xd1 := Blk.cell_ (HM14.out.at_ 3 rfl) 1
                    simp only [List.getElem?_toArray, List.getElem?_cons_succ, List.getElem?_cons_zero] at xd1
                    have w1 := Row.cell (j := q * 5 + 1) HM14.out.head (show _ = some (Value.int .i64 yr.kind) from by rw [List.getElem?_set_ne (by omega), List.getElem?_set_ne (by omega), flat_get RX.cells 5 RX.len xs q hq 1 (by decide), hy.out]; rfl)
                    have wf1 := Row.frozen HM14.out.head (q * 5 + 1)
                    clear xc0 xc1 xc2 xc3 xc4 rc4
                    by_cases k2 : r.kind = 2
                    · have k21 : (r.kind == 2) = true := by rw [beq_iff_eq]; exact k2
                      have k22 : decide (r.kind = 2) = true := decide_eq_true k2
                      rw [if_pos k2] at HI2 HJ2
                      clear k2
                      go_wp2_with fail
                      have HM15 := HM14.out.rowSet (j := q * 5 + 1) (by omega) (.int .i64 2)
                      have HM16 := merge_ok (y := ⟨yT, .slice A5 yr.src.length c5, .slice A6 yr.cmd.length c6, yr⟩) (kd := 2) (s' := yr.src ++ r.src) (c' := yr.cmd ++ r.cmd) hq hy.out (Or.inr ⟨_, rfl, rfl⟩) (HM15.psel (L := [_, _, _, _, _, _, _, _, _, _]) [0, 6, 7, 8, 9, 2, 1] 10 rfl (by decide))
                      go_roundw
                      case rel => exact ⟨j + 1, _, m, n + 1, by omega, by go_num, by rw [List.map_set]; exact HI2, by rw [List.map_set]; exact HJ2, HM16⟩
                      case measure => simp [intOf]; omega
                    · have k21 : (r.kind == 2) = false := by rw [beq_eq_false_iff_ne]; exact k2
                      have k22 : decide (r.kind = 2) = false := decide_eq_false k2
                      rw [if_neg k2] at HI2 HJ2
                      clear k2
                      go_wp2_with fail
                      have HM16 := merge_ok (y := ⟨yT, .slice A5 yr.src.length c5, .slice A6 yr.cmd.length c6, yr⟩) (kd := yr.kind) (s' := yr.src ++ r.src) (c' := yr.cmd ++ r.cmd) hq hy.out (Or.inl ⟨rfl, rfl⟩) (HM14.out.psel (L := [_, _, _, _, _, _, _, _, _, _]) [0, 6, 7, 8, 9, 2, 1] 10 rfl (by decide))
                      go_roundw
                      case rel => exact ⟨j + 1, _, m, n + 1, by omega, by go_num, by rw [List.map_set]; exact HI2, by rw [List.map_set]; exact HJ2, HM16⟩
                      case measure => simp [intOf]; omega
                · have o1 : decide ((0 : Int) < (r.cmd.length : Int)) = false := decide_eq_false (by omega)
                  have o1N : decide (0 < r.cmd.length) = false := decide_eq_false h1
                  have eJ : joinT r (xs.map RX.r, m) t = some ((xs.map RX.r).set q ⟨yr.tg, if r.kind = 2 then 2 else yr.kind, yr.src ++ r.src, yr.cmd ++ r.cmd, yr.at_⟩, m) := by rw [eT, if_neg (by rw [kx2, ky2]; decide), if_neg kx, if_neg (fun h => h1 h.1)]
                  have HI2 := Lib.hid (join_step HI1.out eJ)
                  have HJ2 := Lib.hid (HJ.out.step hjt eJ hbB.out)
                  have hys : yr.src.length + r.src.length ≤ 8796093022208 ∧ yr.cmd.length + r.cmd.length ≤ 8796093022208 := merge_len HJ.out hBN hq (by rw [hy.out]) hsl hcl
                  clear eJ HI1 HJ kx ky eT kx2 ky2 HM8
                  go_wp2_with (first | (at_lookup; refine wpList_get keyS Try.underlying65 zeroJ rfl _ _ true rfl (HMy.out.at_ 5 rfl) rfl t rfl _ hlk ?_) | (go_at_call 39; refine hC.mono ?_; clear hC; rintro e w1 ⟨rfl, rfl⟩) | fail)
                  -- R22
                  have HMz : Hid (Mem none_ w ([StrRow (.slice A5 yr.src.length c5) yr.src, Blk xb 25 #[.slice B1 m1 d1', .int .i64 r.kind, .slice B2 r.src.length d2', .slice B3 r.cmd.length d3', .int .i64 r.at_], StrRow (.slice B2 r.src.length d2') r.src, StrRow (.slice B3 r.cmd.length d3') r.cmd, RRow (.slice (some ⟨g, 0, none⟩) xs.length c4) xs, MapC (fb + 1) Value.string (Value.int .i64) m, Blk fb 53 #[.int .i64 0, .int .i64 0], Blk rb 25 #[.slice (some ⟨bs, os, none⟩) r.tg.length c1, .int .i64 r.kind, .slice A2 r.src.length c2, .slice A3 r.cmd.length c3, .int .i64 r.at_], StrRow yT yr.tg, StrRow (.slice A6 yr.cmd.length c6) yr.cmd] ++ Cls (xs.eraseIdx q)) (World.drew W7)) := HMy.out.drew.psel (L := [_, _, _, _, _, _, _, _, _, _, _]) [9, 0, 2, 3, 4, 5, 6, 7, 8, 10] 11 rfl (by decide)
                  refine wp_plan [7, 10] (S := fun w' => Hid (w'.cell? ⟨g, q * 5 + 2, none⟩ = some (.slice A5 yr.src.length c5) ∧ w'.cell? ⟨xb, 2, none⟩ = some (.slice B2 r.src.length d2'))) [(.pure, 0), (.pure, 1), (.pure, 2), (.pure, 3), (.load, 4), (.pure, 5), (.load, 6), (.tail, 7), (.pure, 8), (.pure, 9), (.tail, 10)] (by kernel_rfl) rfl (by kernel_rfl) rfl (fun _ _ _ _ _ h => h) (Lib.hid ⟨z2, xc2⟩) ?_
                  generalize World.drew _ = W8 at *
                  repeat (first | (refine plan_pure (v := ?_) (a' := ?_) rfl rfl rfl ?_ ?_ ?_; rotate_left 2; (focus (intro w'; go_simp; with_reducible rfl)); (focus (simp only [Act.put, List.setIfInBounds_toArray, List.set_cons_zero, List.set_cons_succ]; rfl))) | (refine plan_load (v := ?_) (a' := ?_) rfl rfl rfl ?_ ?_ ?_; rotate_left 2; (focus (intro w' hw'; obtain ⟨q0, q1⟩ := hw'.out; clear hw'; go_simp; with_reducible rfl)); (focus (simp only [Act.put, List.setIfInBounds_toArray, List.set_cons_zero, List.set_cons_succ]; rfl))) | (refine plan_skip rfl rfl (by decide +kernel) (by simp only [Act.put, List.setIfInBounds_toArray, List.set_cons_zero, List.set_cons_succ]; rfl) ?_))
                  refine plan_tail_put rfl rfl (fun K hK => ?_)
                  refine wpList_appL strE rfl _ _ rfl HMz.out rfl rfl (Row.sl (HMz.out.at_ 2 rfl)) (by omega) ?_
                  intro v' w4 HM9 HU9
                  refine wpList_nil_ (hK _ _ ?_)
                  clear hK HU9 HMz
                  obtain ⟨A7, c7, e7, _, _⟩ := Row.any_ HM9.head
                  obtain ⟨n7, hn7⟩ : ∃ n, (yr.src ++ r.src).length = n := ⟨_, rfl⟩
                  rw [hn7] at e7
                  subst e7
                  have hn7 := Lib.hid hn7
                  have HM10 := Lib.hid (HM9.psel (L := [_, _, _, _, _, _, _, _, _, _]) [4, 0, 1, 2, 3, 5, 6, 7, 8, 9] 10 rfl (by decide))
                  have hrow := HM10.out.head
                  have w2 := Row.cell hrow (show _ = some (Value.slice A5 yr.src.length c5) from by rw [flat_get RX.cells 5 RX.len xs q hq 2 (by decide), hy.out]; rfl)
                  have wf2 := Row.frozen hrow (q * 5 + 2)
                  clear hrow HM9
                  simp only [Act.put, List.setIfInBounds_toArray, List.set_cons_zero, List.set_cons_succ]
                  repeat (first | (refine plan_pure (v := ?_) (a' := ?_) rfl rfl rfl ?_ ?_ ?_; rotate_left 2; (focus (intro w'; go_simp; with_reducible rfl)); (focus (simp only [Act.put, List.setIfInBounds_toArray, List.set_cons_zero, List.set_cons_succ]; rfl))) | (refine plan_load (v := ?_) (a' := ?_) rfl rfl rfl ?_ ?_ ?_; rotate_left 2; (focus (intro w' hw'; obtain ⟨q0, q1⟩ := hw'.out; clear hw'; go_simp; with_reducible rfl)); (focus (simp only [Act.put, List.setIfInBounds_toArray, List.set_cons_zero, List.set_cons_succ]; rfl))) | (refine plan_skip rfl rfl (by decide +kernel) (by simp only [Act.put, List.setIfInBounds_toArray, List.set_cons_zero, List.set_cons_succ]; rfl) ?_))
                  refine plan_tail rfl (fun K hK => ?_)
                  go_wp2_with fail
                  refine plan_done ?_
                  have HM11 := Lib.hid (HM10.out.rowSet (j := q * 5 + 2) (by omega) (.slice A7 n7 c7))
                  clear w2 wf2 HM10 z1 z2 z3
                  generalize World.setCell _ _ _ = W9 at *
                  go_wp2_with fail
                  -- R23
                  have HMz := Lib.hid (HM11.out.drew.psel (L := [_, _, _, _, _, _, _, _, _, _]) [9, 0, 1, 2, 3, 4, 5, 6, 7, 8] 10 rfl (by decide))
                  have z3 := Row.cell (j := q * 5 + 3) (HMz.out.at_ 1 rfl) (show _ = some (Value.slice A6 yr.cmd.length c6) from by rw [List.getElem?_set_ne (by omega), flat_get RX.cells 5 RX.len xs q hq 3 (by decide), hy.out]; rfl)
                  have xd3 := Blk.cell_ (HMz.out.at_ 3 rfl) 3
                  simp only [List.getElem?_toArray, List.getElem?_cons_succ, List.getElem?_cons_zero] at xd3
                  refine wp_plan [7, 10] (S := fun w' => Hid (w'.cell? ⟨g, q * 5 + 3, none⟩ = some (.slice A6 yr.cmd.length c6) ∧ w'.cell? ⟨xb, 3, none⟩ = some (.slice B3 r.cmd.length d3'))) [(.pure, 0), (.pure, 1), (.pure, 2), (.pure, 3), (.load, 4), (.pure, 5), (.load, 6), (.tail, 7), (.pure, 8), (.pure, 9), (.tail, 10)] (by kernel_rfl) rfl (by kernel_rfl) rfl (fun _ _ _ _ _ h => h) (Lib.hid ⟨z3, xd3⟩) ?_
                  clear HM11 z3 xd3
                  generalize World.drew _ = W10 at *
                  repeat (first | (refine plan_pure (v := ?_) (a' := ?_) rfl rfl rfl ?_ ?_ ?_; rotate_left 2; (focus (intro w'; go_simp; with_reducible rfl)); (focus (simp only [Act.put, List.setIfInBounds_toArray, List.set_cons_zero, List.set_cons_succ]; rfl))) | (refine plan_load (v := ?_) (a' := ?_) rfl rfl rfl ?_ ?_ ?_; rotate_left 2; (focus (intro w' hw'; obtain ⟨q0, q1⟩ := hw'.out; clear hw'; go_simp; with_reducible rfl)); (focus (simp only [Act.put, List.setIfInBounds_toArray, List.set_cons_zero, List.set_cons_succ]; rfl))) | (refine plan_skip rfl rfl (by decide +kernel) (by simp only [Act.put, List.setIfInBounds_toArray, List.set_cons_zero, List.set_cons_succ]; rfl) ?_))
                  refine plan_tail_put rfl rfl (fun K hK => ?_)
                  refine wpList_appL strE rfl _ _ rfl HMz.out rfl rfl (Row.sl (HMz.out.at_ 5 rfl)) (by omega) ?_
                  intro v' w5 HM12 HU12
                  refine wpList_nil_ (hK _ _ ?_)
                  clear hK HU12 HMz
                  obtain ⟨A8, c8, e8, _, _⟩ := Row.any_ HM12.head
                  obtain ⟨n8, hn8⟩ : ∃ n, (yr.cmd ++ r.cmd).length = n := ⟨_, rfl⟩
                  rw [hn8] at e8
                  subst e8
                  have hn8 := Lib.hid hn8
                  have HM13 := Lib.hid (HM12.psel (L := [_, _, _, _, _, _, _, _, _, _]) [1, 0, 2, 3, 4, 5, 6, 7, 8, 9] 10 rfl (by decide))
                  have hrow := HM13.out.head
                  have w3 := Row.cell (j := q * 5 + 3) hrow (show _ = some (Value.slice A6 yr.cmd.length c6) from by rw [List.getElem?_set_ne (by omega), flat_get RX.cells 5 RX.len xs q hq 3 (by decide), hy.out]; rfl)
                  have wf3 := Row.frozen hrow (q * 5 + 3)
                  clear hrow HM12
                  simp only [Act.put, List.setIfInBounds_toArray, List.set_cons_zero, List.set_cons_succ]
                  repeat (first | (refine plan_pure (v := ?_) (a' := ?_) rfl rfl rfl ?_ ?_ ?_; rotate_left 2; (focus (intro w'; go_simp; with_reducible rfl)); (focus (simp only [Act.put, List.setIfInBounds_toArray, List.set_cons_zero, List.set_cons_succ]; rfl))) | (refine plan_load (v := ?_) (a' := ?_) rfl rfl rfl ?_ ?_ ?_; rotate_left 2; (focus (intro w' hw'; obtain ⟨q0, q1⟩ := hw'.out; clear hw'; go_simp; with_reducible rfl)); (focus (simp only [Act.put, List.setIfInBounds_toArray, List.set_cons_zero, List.set_cons_succ]; rfl))) | (refine plan_skip rfl rfl (by decide +kernel) (by simp only [Act.put, List.setIfInBounds_toArray, List.set_cons_zero, List.set_cons_succ]; rfl) ?_))
                  refine plan_tail rfl (fun K hK => ?_)
                  go_wp2_with fail
                  refine plan_done ?_
                  have HM14 := Lib.hid (HM13.out.rowSet (j := q * 5 + 3) (by omega) (.slice A8 n8 c8))
                  clear w3 wf3 HM13
                  generalize World.setCell _ _ _ = W11 at *
                  have xd1 := Blk.cell_ (HM14.out.at_ 3 rfl) 1
                  simp only [List.getElem?_toArray, List.getElem?_cons_succ, List.getElem?_cons_zero] at xd1
                  have w1 := Row.cell (j := q * 5 + 1) HM14.out.head (show _ = some (Value.int .i64 yr.kind) from by rw [List.getElem?_set_ne (by omega), List.getElem?_set_ne (by omega), flat_get RX.cells 5 RX.len xs q hq 1 (by decide), hy.out]; rfl)
                  have wf1 := Row.frozen HM14.out.head (q * 5 + 1)
                  clear xc0 xc1 xc2 xc3 xc4 rc4
                  by_cases k2 : r.kind = 2
                  · have k21 : (r.kind == 2) = true := by rw [beq_iff_eq]; exact k2
                    have k22 : decide (r.kind = 2) = true := decide_eq_true k2
                    rw [if_pos k2] at HI2 HJ2
                    clear k2
                    go_wp2_with fail
                    have HM15 := HM14.out.rowSet (j := q * 5 + 1) (by omega) (.int .i64 2)
                    have HM16 := merge_ok (y := ⟨yT, .slice A5 yr.src.length c5, .slice A6 yr.cmd.length c6, yr⟩) (kd := 2) (s' := yr.src ++ r.src) (c' := yr.cmd ++ r.cmd) hq hy.out (Or.inr ⟨_, rfl, rfl⟩) (HM15.psel (L := [_, _, _, _, _, _, _, _, _, _]) [0, 6, 7, 8, 9, 2, 1] 10 rfl (by decide))
                    go_roundw
                    case rel => exact ⟨j + 1, _, m, n + 1, by omega, by go_num, by rw [List.map_set]; exact HI2, by rw [List.map_set]; exact HJ2, HM16⟩
                    case measure => simp [intOf]; omega
                  · have k21 : (r.kind == 2) = false := by rw [beq_eq_false_iff_ne]; exact k2
                    have k22 : decide (r.kind = 2) = false := decide_eq_false k2
                    rw [if_neg k2] at HI2 HJ2
                    clear k2
                    go_wp2_with fail
                    have HM16 := merge_ok (y := ⟨yT, .slice A5 yr.src.length c5, .slice A6 yr.cmd.length c6, yr⟩) (kd := yr.kind) (s' := yr.src ++ r.src) (c' := yr.cmd ++ r.cmd) hq hy.out (Or.inl ⟨rfl, rfl⟩) (HM14.out.psel (L := [_, _, _, _, _, _, _, _, _, _]) [0, 6, 7, 8, 9, 2, 1] 10 rfl (by decide))
                    go_roundw
                    case rel => exact ⟨j + 1, _, m, n + 1, by omega, by go_num, by rw [List.map_set]; exact HI2, by rw [List.map_set]; exact HJ2, HM16⟩
                    case measure => simp [intOf]; omega
        · have hjt' : decide ((j : Int) < (r.tg.length : Int)) = false := decide_eq_false (by omega)
          have hjtN : decide (j < r.tg.length) = false := decide_eq_false hjt
          have e : j = r.tg.length := by omega
          subst e
          have HI1 := HI.out
          rw [List.drop_of_length_le (Nat.le_refl _)] at HI1
          have HI2 : Hid (RS = joinRs (l.drop (k + 1)) (xs.map RX.r, m)) := by rw [hrest.out]; exact HI1
          have HJ2 : Hid (JBd B N n ((l.drop (k + 1)).flatMap RuleS.tg).length (xs.map RX.r, m)) := by rw [hrest.out]; have := HJ.out; rw [Nat.sub_self, Nat.zero_add] at this; exact this
          clear HI1 HI HJ
          have HM2 := HM.front [_, _, _]
          go_wp2_with fail
          go_roundw
          case rel => exact ⟨k + 1, xs, m, n, by omega, by go_num, HI2, HJ2, HM2.tail⟩
          case measure => simp [intOf]; omega
    · have hlt' : decide ((k : Int) < (l.length : Int)) = false := decide_eq_false (by omega)
      have hltN : decide (k < l.length) = false := decide_eq_false hlt
      have HI1 := HI.out
      rw [List.drop_of_length_le (by omega)] at HI1
      have HI2 : Hid (RS = some (xs.map RX.r, m)) := HI1
      clear HI1 HI HJ
      have HMz := Lib.hid (HM.psel (L := [_, _, _]) [2, 0] 3 rfl (by decide))
      have fc0 := Blk.cell_ (HMz.out.at_ 0 rfl) 0
      have fc1 := Blk.cell_ (HMz.out.at_ 0 rfl) 1
      have ff0 := Blk.frozen (HMz.out.at_ 0 rfl) 0
      have ff1 := Blk.frozen (HMz.out.at_ 0 rfl) 1
      simp only [List.getElem?_toArray, List.getElem?_cons_succ, List.getElem?_cons_zero] at fc0 fc1
      clear HM
      go_wp2_with fail
      have HMf := (HMz.out.blkSet 0 (.int .i64 0)).blkSet 1 (.int .i64 0)
      have f0 := Blk.cell_ (HMf.at_ 0 rfl) 0
      have f1 := Blk.cell_ (HMf.at_ 0 rfl) 1
      generalize World.setCell _ _ _ = W9 at *
      go_wp2_with fail
      (try simp only [Exit.inBlock, Exit.then])
      refine bodyPost_ret (v := .tuple #[u4, .agg #[.int .i64 0, .int .i64 0]]) ?hr rfl ?_
      case hr =>
        unfold results
        go_simp
      have e1 := hRS.out.trans HI2.out
      refine ⟨fun hs => ?_, fun s hs => ?_⟩
      · unfold joinB at hs
        rw [e1] at hs; cases hs
      · unfold joinB at hs
        rw [e1] at hs
        cases hs
        have HMr : Mem none_ w ([RRow u4 xs] ++ Cls xs) W9 := HMf.psel (L := [_, _]) [1] 2 rfl (by decide)
        exact ⟨_, rfl, HMf.only (fun d hd => by cases hd) .nil, Mem.rules (F := []) (by rw [List.append_nil]; exact HMr)⟩
end Go.Proofs.Ytliglejbkpjamaa
