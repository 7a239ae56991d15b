/-
  Layer 16 (graph): the walk of node.
-/
import Derived.Test.YtliglejbkpjamaaVGrM0
set_option linter.unusedVariables false
set_option linter.unusedSimpArgs false
set_option maxRecDepth 100000
namespace Go.Proofs.Ytliglejbkpjamaa
open Go.RowKit

theorem zeroR : ∀ w, (zeroValue 25).run Try.prog w = .ok (.agg #[.slice none 0 0, .int .i64 0, .slice none 0 0, .slice none 0 0, .int .i64 0]) w := fun w => by kernel_rfl
abbrev nodeC (name : ByteArray) (kind : Int) (SV CV AV : Value) (im : ByteArray) (a b c d : Bool) : Array Value := #[.string name, .int .i64 kind, SV, CV, AV, .string im, .bool a, .bool b, .bool c, .bool d]
set_option maxHeartbeats 16000000 in
theorem node_calls (raw : List RuleS) (X : BS) (name : ByteArray) {fp : Nat → Prop} {w0 : World} {F : List Chunk} (w : World) (HX : Mem fp w0 (X.mem F) w) (hR : ∀ w', Mut fp w0 w' → Rules w' X.RV raw)
    (hws : ∀ p, p ∈ X.ways → p.1.size ≤ 1099511627776) (hn : name.size ≤ 1099511627776) (hcs : ∀ r, r ∈ raw → r.cmd.length * 16 ≤ 140737488355328) (hos : (ownX X.own name).r.src.length ≤ 1000000) (hoc : (ownX X.own name).r.cmd.length * 16 ≤ 140737488355328) :
    Calls Try.prog 47 #[.pointer (some ⟨X.b, 0, none⟩), .string name] w fun e w' => ∃ SV CV, e = .returned (.tuple #[.agg (NX.cells ⟨SV, CV, .slice none 0 0, (nodeB raw X name).1⟩).toArray, .bool (nodeB raw X name).2.1]) ∧
      Mem fp w0 ([StrRow SV (nodeB raw X name).1.src, StrRow CV (nodeB raw X name).1.cmd] ++ ({ X with links := (nodeB raw X name).2.2 } : BS).mem F) w' := by
  have HM0 := HX.box (nodeC ⟨#[]⟩ 0 (.slice none 0 0) (.slice none 0 0) (.slice none 0 0) ⟨#[]⟩ false false false false) 38
  have hb := HM0.at_ 1 rfl
  have k4 : _ = some (Value.map (some X.ob)) := Blk.cell_ hb 4
  have hor := own_reads X name HM0.tail
  obtain ⟨x, hx⟩ : ∃ x, ownX X.own name = x := ⟨_, rfl⟩
  rw [hx] at hor hos hoc
  have hlk : (if true = true then Value.tuple #[((mget X.own name).map RX.val).getD (.agg #[.slice none 0 0, .int .i64 0, .slice none 0 0, .slice none 0 0, .int .i64 0]), .bool (mhas X.own name)] else ((mget X.own name).map RX.val).getD (.agg #[.slice none 0 0, .int .i64 0, .slice none 0 0, .slice none 0 0, .int .i64 0])) = .tuple #[RX.val x, .bool (mhas X.own name)] := by
    rw [if_pos rfl, ← hx]
    unfold ownX
    cases mget X.own name <;> rfl
  obtain ⟨TV, SV, CV, r⟩ := x
  obtain ⟨⟨A1, c1, e1, _⟩, ⟨A2, c2, e2, _, d2, _⟩, ⟨A3, c3, e3, _, d3, _⟩⟩ := id hor
  simp only at e1 e2 e3 hos hoc hor
  subst e1 e2 e3
  unfold maxLen at d2 d3
  obtain ⟨ok, hok⟩ : ∃ b, mhas X.own name = b := ⟨_, rfl⟩
  have hlk := hlk.trans (show _ = Value.tuple #[.agg #[.slice A1 r.tg.length c1, .int .i64 r.kind, .slice A2 r.src.length c2, .slice A3 r.cmd.length c3, .int .i64 r.at_], .bool ok] from by rw [hok]; rfl)
  have hx := Lib.hid hx
  have hok := Lib.hid hok
  have HMl := HM0.at_ 5 rfl
  have HM1 := HM0.box #[.slice A1 r.tg.length c1, .int .i64 r.kind, .slice A2 r.src.length c2, .slice A3 r.cmd.length c3, .int .i64 r.at_] 25
  have eb : (w.alloc (.cells (nodeC ⟨#[]⟩ 0 (.slice none 0 0) (.slice none 0 0) (.slice none 0 0) ⟨#[]⟩ false false false false) 38)).heap.size = w.heap.size + 1 := by simp
  rw [eb] at HM1
  have HM1 := Lib.hid HM1
  clear eb
  clear hb HX HM0
  go_enter Try.func47, Try.ntmps47
  go_wp2_with (at_lookup; refine wpList_get keyS Try.underlying62 zeroR rfl _ _ true rfl HMl rfl name rfl _ hlk ?_)
  clear hlk k4 HMl
  have HM2 := Lib.hid HM1.out.drew
  clear HM1
  generalize World.alloc _ _ = W1 at *
  generalize World.alloc _ _ = W2 at *
  generalize w.heap.size + 1 = rb at *
  generalize w.heap.size = nb0 at *
  have hb0 := HM2.out.at_ 0 rfl
  refine lf_start (fun w' => Hid (w'.cell? ⟨rb, 1, none⟩ = some (.int .i64 r.kind) ∧ w'.cell? ⟨rb, 3, none⟩ = some (.slice A3 r.cmd.length c3))) [6, 8] 9 (by kernel_rfl) rfl (by kernel_rfl) (Lib.hid ⟨Blk.cell_ hb0 1, Blk.cell_ hb0 3⟩) ?_
  have hS0 := Lib.hid (show _ ∧ _ from ⟨Blk.cell_ hb0 1, Blk.cell_ hb0 3⟩)
  clear hb0
  generalize World.drew _ = W5 at *
  refine lf_pre [(.pure, 0), (.pure, 1), (.load, 2), (.pure, 3), (.load, 4)] [4, 3, 2, 1, 0] 4 rfl (by kernel_rfl) (fun _ _ _ _ _ h => h) hS0 ?_
  repeat (first | (refine pre_pure (v := ?_) (a' := ?_) rfl rfl rfl ?_ ?_ ?_; rotate_left 2; (focus (intro w'; go_simp; with_reducible rfl)); (focus (simp only [Act.put, List.setIfInBounds_toArray, List.set_cons_zero, List.set_cons_succ]; rfl))) | (refine pre_load (v := ?_) (a' := ?_) rfl rfl rfl ?_ ?_ ?_; rotate_left 2; (focus (intro w' hw'; obtain ⟨q0, q1⟩ := hw'.out; clear hw'; go_simp; with_reducible rfl)); (focus (simp only [Act.put, List.setIfInBounds_toArray, List.set_cons_zero, List.set_cons_succ]; rfl))) | (refine pre_skip rfl rfl (by decide +kernel) (by simp only [Act.put, List.setIfInBounds_toArray, List.set_cons_zero, List.set_cons_succ]; rfl) ?_))
  refine pre_done ?_
  refine lf_name (fun A0 hA0 => ?_)
  have hE0 : A0.eval (.tmp 21) = .string name := by rw [hA0.out]; rfl
  have hE1 : A0.eval (.tmp 23) = .int .i64 r.kind := by rw [hA0.out]; rfl
  have hE2 : A0.eval (.tmp 25) = .slice A3 r.cmd.length c3 := by rw [hA0.out]; rfl
  have hz0 : A0.tmps.size = 102 := by rw [hA0.out]; rfl
  refine effs (F := [Blk rb 25 #[.slice A1 r.tg.length c1, .int .i64 r.kind, .slice A2 r.src.length c2, .slice A3 r.cmd.length c3, .int .i64 r.at_], Blk nb0 38 (nodeC ⟨#[]⟩ 0 (.slice none 0 0) (.slice none 0 0) (.slice none 0 0) ⟨#[]⟩ false false false false)] ++ X.mem F) (fp := fp) (w0 := w0) [⟨5, 26, [], fun v => [StrRow v r.cmd], fun _ v => ∃ A n c, v = .slice A n c⟩, ⟨6, 27, [5], fun _ => [], fun g v => v = .agg (nodeC name r.kind (.slice none 0 0) (g 5) (.slice none 0 0) ⟨#[]⟩ false false false false)⟩, ⟨7, 8, [], fun v => [Blk (pb v) 38 (nodeC ⟨#[]⟩ 0 (.slice none 0 0) (.slice none 0 0) (.slice none 0 0) ⟨#[]⟩ false false false false)], fun _ v => v = .pointer (some ⟨pb v, 0, none⟩)⟩]
    4 rfl (by kernel_rfl) (show ([5, 6, 7] : List Nat).Nodup from by decide) (show ([26, 27, 8] : List Nat).Nodup from by decide) (fun e he => ?hz) (fun G W hm => ?hS) HM2.out (fun e he g g' v hg hr => ?hst) (fun e he => ?hsp) ?_
  case hz =>
    rw [hz0]
    simp only [List.mem_cons, List.not_mem_nil, or_false] at he
    rcases he with rfl | rfl | rfl <;> simp
  case hS =>
    have hb0 : (Blk rb 25 #[.slice A1 r.tg.length c1, .int .i64 r.kind, .slice A2 r.src.length c2, .slice A3 r.cmd.length c3, .int .i64 r.at_]).ok W := hm.star.1 _ (by simp)
    exact Lib.hid ⟨Blk.cell_ hb0 1, Blk.cell_ hb0 3⟩
  case hst =>
    simp only [List.mem_cons, List.not_mem_nil, or_false] at he
    rcases he with rfl | rfl | rfl
    · exact hr
    · simp only at hr ⊢
      rw [← hg 5 (by simp)]; exact hr
    · exact hr
  case hsp =>
    clear hA0 hS0
    simp only [List.mem_cons, List.not_mem_nil, or_false] at he
    rcases he with rfl | rfl | rfl
    · refine ⟨_, rfl, fun a g W G K hba hgt hm hK => ?_⟩
      have hst : Strs W (.slice A3 r.cmd.length c3) r.cmd := by
        have hm2 : Mem fp w0 (X.mem F) W := by
          have h3 := hm.perm (List.perm_append_comm (l₁ := G))
          exact Mem.drop (cs := [Blk rb 25 #[.slice A1 r.tg.length c1, .int .i64 r.kind, .slice A2 r.src.length c2, .slice A3 r.cmd.length c3, .int .i64 r.at_], Blk nb0 38 (nodeC ⟨#[]⟩ 0 (.slice none 0 0) (.slice none 0 0) (.slice none 0 0) ⟨#[]⟩ false false false false)]) (h3.only (fun d hd => List.mem_append_left _ hd) (List.Pairwise.sublist (List.sublist_append_left _ _) h3.star.2))
        have h4 := (own_reads X name hm2).2.2
        rw [hx.out] at h4
        exact h4
      have hC := clone_calls _ r.cmd _ hst hoc
      have e1 := tmp_of ((hba 25 (by simp)).trans hE2)
      clear hba hgt hst
      go_wp2_with (go_at_call 29; (try rw [e1]); refine hC.mono ?_; clear hC; rintro e w1 ⟨v, rfl, hm2⟩)
      obtain ⟨A', c', hv, _⟩ := Row.any_ hm2.head
      exact hK _ _ ⟨_, _, _, hv⟩ (hm.got hm2)
    · refine ⟨_, rfl, fun a g W G K hba hgt hm hK => ?_⟩
      obtain ⟨e3, A3', n3', c3', f3⟩ := hgt ⟨5, 26, [], fun v => [StrRow v r.cmd], fun _ v => ∃ A n c, v = .slice A n c⟩ (by simp) (by simp)
      have e3 := tmp_of (e3.trans f3)
      have e4 := tmp_of ((hba 21 (by simp)).trans hE0)
      have e5 := tmp_of ((hba 23 (by simp)).trans hE1)
      simp only at e3 f3
      have hf : ∀ v : Value, v = .agg (nodeC name r.kind (.slice none 0 0) (.slice A3' n3' c3') (.slice none 0 0) ⟨#[]⟩ false false false false) → v = .agg (nodeC name r.kind (.slice none 0 0) (g 5) (.slice none 0 0) ⟨#[]⟩ false false false false) := fun v hv => by rw [hv, f3]
      clear hba hgt f3
      go_wp2_with fail
      first | exact hK _ _ rfl hm | exact hK _ _ (hf _ rfl) hm
    · refine ⟨_, rfl, fun a g W G K hba hgt hm hK => ?_⟩
      clear hba hgt
      go_wp2_with fail
      exact hK (.pointer (some ⟨W.heap.size, 0, none⟩)) _ rfl (hm.box _ _)
  clear HM2 hS0 hE0 hE1 hE2 hz0
  intro v26 v27 v8 W6 hRR HM6
  have h27 := hRR (⟨6, 27, [5], fun _ => [], fun g v => v = .agg (nodeC name r.kind (.slice none 0 0) (g 5) (.slice none 0 0) ⟨#[]⟩ false false false false)⟩, v27) (by simp)
  have h8 := hRR (⟨7, 8, [], fun v => [Blk (pb v) 38 (nodeC ⟨#[]⟩ 0 (.slice none 0 0) (.slice none 0 0) (.slice none 0 0) ⟨#[]⟩ false false false false)], fun _ v => v = .pointer (some ⟨pb v, 0, none⟩)⟩, v8) (by simp)
  have h26 := hRR (⟨5, 26, [], fun v => [StrRow v r.cmd], fun _ v => ∃ A n c, v = .slice A n c⟩, v26) (by simp)
  simp [got] at h27 h8
  clear hRR
  generalize pb v8 = nb at *
  subst h27 h8
  obtain ⟨B1, m1, d1', h26⟩ := h26
  simp only at h26
  subst h26
  have hA1 := hA0.out
  subst hA1
  simp only [putAll, Act.put, List.setIfInBounds_toArray, List.set_cons_zero, List.set_cons_succ]
  have HM7 : Hid (Mem fp w0 ([Blk nb 38 (nodeC ⟨#[]⟩ 0 (.slice none 0 0) (.slice none 0 0) (.slice none 0 0) ⟨#[]⟩ false false false false), StrRow (.slice B1 m1 d1') r.cmd, Blk rb 25 #[.slice A1 r.tg.length c1, .int .i64 r.kind, .slice A2 r.src.length c2, .slice A3 r.cmd.length c3, .int .i64 r.at_], Blk nb0 38 (nodeC ⟨#[]⟩ 0 (.slice none 0 0) (.slice none 0 0) (.slice none 0 0) ⟨#[]⟩ false false false false)] ++ X.mem F) W6) := HM6.front [_]
  have hb0 := HM7.out.at_ 0 rfl
  have xc0 := Blk.cell_ hb0 0
  have xc1 := Blk.cell_ hb0 1
  have xc2 := Blk.cell_ hb0 2
  have xc3 := Blk.cell_ hb0 3
  have xc4 := Blk.cell_ hb0 4
  have xc5 := Blk.cell_ hb0 5
  have xc6 := Blk.cell_ hb0 6
  have xc7 := Blk.cell_ hb0 7
  have xc8 := Blk.cell_ hb0 8
  have xc9 := Blk.cell_ hb0 9
  have xf0 := Blk.frozen hb0 0
  have xf1 := Blk.frozen hb0 1
  have xf2 := Blk.frozen hb0 2
  have xf3 := Blk.frozen hb0 3
  have xf4 := Blk.frozen hb0 4
  have xf5 := Blk.frozen hb0 5
  have xf6 := Blk.frozen hb0 6
  have xf7 := Blk.frozen hb0 7
  have xf8 := Blk.frozen hb0 8
  have xf9 := Blk.frozen hb0 9
  simp only [List.getElem?_toArray, List.getElem?_cons_succ, List.getElem?_cons_zero] at xc0 xc1 xc2 xc3 xc4 xc5 xc6 xc7 xc8 xc9
  clear HM6 hA0 hb0
  refine lf_one 8 (by kernel_rfl) rfl (fun K hK => ?_)
  go_wp2_with fail
  refine hK _ _ (fun h _ => by simp at h) ?_
  clear hK xc0 xc1 xc2 xc3 xc4 xc5 xc6 xc7 xc8 xc9 xf0 xf1 xf2 xf3 xf4 xf5 xf6 xf7 xf8 xf9
  refine lf_end (by kernel_rfl) ?_
  obtain ⟨FF, hFF⟩ : ∃ FF, [StrRow (.slice B1 m1 d1') r.cmd, Blk rb 25 #[.slice A1 r.tg.length c1, .int .i64 r.kind, .slice A2 r.src.length c2, .slice A3 r.cmd.length c3, .int .i64 r.at_], Blk nb0 38 (nodeC ⟨#[]⟩ 0 (.slice none 0 0) (.slice none 0 0) (.slice none 0 0) ⟨#[]⟩ false false false false)] ++ X.mem F = FF := ⟨_, rfl⟩
  have G0 : Mem fp w0 (Blk nb 38 #[.string ⟨#[]⟩, .int .i64 0, .slice none 0 0, .slice none 0 0, .slice none 0 0, .string ⟨#[]⟩, .bool false, .bool false, .bool false, .bool false] :: FF) W6 := by rw [← hFF]; exact HM7.out
  have G1 : Mem fp w0 (Blk nb 38 #[.string name, .int .i64 0, .slice none 0 0, .slice none 0 0, .slice none 0 0, .string ⟨#[]⟩, .bool false, .bool false, .bool false, .bool false] :: FF) _ := G0.blkSet 0 (.string name)
  clear G0
  have G2 : Mem fp w0 (Blk nb 38 #[.string name, .int .i64 r.kind, .slice none 0 0, .slice none 0 0, .slice none 0 0, .string ⟨#[]⟩, .bool false, .bool false, .bool false, .bool false] :: FF) _ := G1.blkSet 1 (.int .i64 r.kind)
  clear G1
  have G3 : Mem fp w0 (Blk nb 38 #[.string name, .int .i64 r.kind, .slice none 0 0, .slice none 0 0, .slice none 0 0, .string ⟨#[]⟩, .bool false, .bool false, .bool false, .bool false] :: FF) _ := G2.blkSet 2 (.slice none 0 0)
  clear G2
  have G4 : Mem fp w0 (Blk nb 38 #[.string name, .int .i64 r.kind, .slice none 0 0, .slice B1 m1 d1', .slice none 0 0, .string ⟨#[]⟩, .bool false, .bool false, .bool false, .bool false] :: FF) _ := G3.blkSet 3 (.slice B1 m1 d1')
  clear G3
  have G5 : Mem fp w0 (Blk nb 38 #[.string name, .int .i64 r.kind, .slice none 0 0, .slice B1 m1 d1', .slice none 0 0, .string ⟨#[]⟩, .bool false, .bool false, .bool false, .bool false] :: FF) _ := G4.blkSet 4 (.slice none 0 0)
  clear G4
  have G6 : Mem fp w0 (Blk nb 38 #[.string name, .int .i64 r.kind, .slice none 0 0, .slice B1 m1 d1', .slice none 0 0, .string ⟨#[]⟩, .bool false, .bool false, .bool false, .bool false] :: FF) _ := G5.blkSet 5 (.string ⟨#[]⟩)
  clear G5
  have G7 : Mem fp w0 (Blk nb 38 #[.string name, .int .i64 r.kind, .slice none 0 0, .slice B1 m1 d1', .slice none 0 0, .string ⟨#[]⟩, .bool false, .bool false, .bool false, .bool false] :: FF) _ := G6.blkSet 6 (.bool false)
  clear G6
  have G8 : Mem fp w0 (Blk nb 38 #[.string name, .int .i64 r.kind, .slice none 0 0, .slice B1 m1 d1', .slice none 0 0, .string ⟨#[]⟩, .bool false, .bool false, .bool false, .bool false] :: FF) _ := G7.blkSet 7 (.bool false)
  clear G7
  have G9 : Mem fp w0 (Blk nb 38 #[.string name, .int .i64 r.kind, .slice none 0 0, .slice B1 m1 d1', .slice none 0 0, .string ⟨#[]⟩, .bool false, .bool false, .bool false, .bool false] :: FF) _ := G8.blkSet 8 (.bool false)
  clear G8
  have G10 : Mem fp w0 (Blk nb 38 #[.string name, .int .i64 r.kind, .slice none 0 0, .slice B1 m1 d1', .slice none 0 0, .string ⟨#[]⟩, .bool false, .bool false, .bool false, .bool false] :: FF) _ := G9.blkSet 9 (.bool false)
  clear G9
  clear HM7
  generalize World.setCell _ _ _ = W7 at *
  have HM8 : Hid (Mem fp w0 ([Blk nb 38 (nodeC name r.kind (.slice none 0 0) (.slice B1 m1 d1') (.slice none 0 0) ⟨#[]⟩ false false false false), StrRow (.slice B1 m1 d1') r.cmd, Blk rb 25 #[.slice A1 r.tg.length c1, .int .i64 r.kind, .slice A2 r.src.length c2, .slice A3 r.cmd.length c3, .int .i64 r.at_], Blk nb0 38 (nodeC ⟨#[]⟩ 0 (.slice none 0 0) (.slice none 0 0) (.slice none 0 0) ⟨#[]⟩ false false false false)] ++ X.mem F) W7) := by subst hFF; exact G10
  clear G10 hFF
  have hmm := @run_makeMap Try.prog
  have HMa := Lib.hid (MapC.made HM8.out Value.string (fun i : Nat => Value.pointer (some ⟨nb, i, none⟩)))
  generalize hfm : W7.heap.size = fm at *
  go_wp2_with (first
    | (refine wpList_put keyS Try.underlying114 rfl _ _ _ (.inr rfl) HMa.out rfl phN rfl 6 rfl ?_; intro w2 HM2 HU2; have HMb := Lib.hid HM2; clear HMa HM2 HU2)
    | (refine wpList_put keyS Try.underlying114 rfl _ _ _ (.inr rfl) HMb.out rfl prN rfl 7 rfl ?_; intro w3 HM2 HU2; have HMc := Lib.hid HM2; clear HMb HM2 HU2)
    | (refine wpList_put keyS Try.underlying114 rfl _ _ _ (.inr rfl) HMc.out rfl siN rfl 8 rfl ?_; intro w4 HM2 HU2; have HMd := Lib.hid HM2; clear HMc HM2 HU2)
    | (refine wpList_put keyS Try.underlying114 rfl _ _ _ (.inr rfl) HMd.out rfl igN rfl 9 rfl ?_; intro w5 HM2 HU2; rw [flagM_put] at HM2; have HMe := Lib.hid HM2; obtain ⟨es, clk, hz⟩ := MapC.z HM2.head; have hzz := Lib.hid hz; clear HMd HM2 HU2 hz)
    | (at_range; refine wpList_rangeM rfl _ _ rfl Try.underlying114 rfl HMe.out hzz.out ?_; intro w6 HM6 hp6; have HMf := Lib.hid HM6; have hp7 := Lib.hid hp6; clear HM6 hp6))
  go_frame
  have hz6 := hzz.out.pure hp7.out
  generalize w5.heap.size = it at *
  have hs0 := leftZ_start es flagM hz6.len
  have HMg : Hid (Mem fp w0 ([IterC it fm clk #[], ZC fm Value.string (fun i : Nat => Value.pointer (some ⟨nb, i, none⟩)) flagM es clk, Blk nb 38 (nodeC name r.kind (.slice none 0 0) (.slice B1 m1 d1') (.slice none 0 0) ⟨#[]⟩ false false false false), StrRow (.slice B1 m1 d1') r.cmd, Blk rb 25 #[.slice A1 r.tg.length c1, .int .i64 r.kind, .slice A2 r.src.length c2, .slice A3 r.cmd.length c3, .int .i64 r.at_], Blk nb0 38 (nodeC ⟨#[]⟩ 0 (.slice none 0 0) (.slice none 0 0) (.slice none 0 0) ⟨#[]⟩ false false false false)] ++ X.mem F) w6) := (((HMf.out.psel (L := [_, _]) [1, 0] 2 rfl (by decide)).swap_ (d := ZC fm Value.string (fun i : Nat => Value.pointer (some ⟨nb, i, none⟩)) flagM es clk) hz6 (fun b hb => hb)).psel (L := [_, _]) [1, 0] 2 rfl (by decide))
  clear HMf hp7 hzz hz6 HMe hmm HM8
  go_loopg [9, 10] 4 (fun g v9 v10 wr => ∃ (f : Nat → Bool) (seen : Array Nat), (leftZ es flagM seen).length ≤ g ∧ Hid (∀ p, p ∈ leftZ es flagM seen → p ∈ flagM) ∧ Hid (∀ p, p ∈ flagM → p ∈ leftZ es flagM seen ∨ f p.2 = mark X.marks p.1 name) ∧ Mem fp w0 ([IterC it fm clk seen, ZC fm Value.string (fun i : Nat => Value.pointer (some ⟨nb, i, none⟩)) flagM es clk, Blk nb 38 (nodeC name r.kind (.slice none 0 0) (.slice B1 m1 d1') (.slice none 0 0) ⟨#[]⟩ (f 6) (f 7) (f 8) (f 9)), StrRow (.slice B1 m1 d1') r.cmd, Blk rb 25 #[.slice A1 r.tg.length c1, .int .i64 r.kind, .slice A2 r.src.length c2, .slice A3 r.cmd.length c3, .int .i64 r.at_], Blk nb0 38 (nodeC ⟨#[]⟩ 0 (.slice none 0 0) (.slice none 0 0) (.slice none 0 0) ⟨#[]⟩ false false false false)] ++ X.mem F) wr)
  case atStart => exact ⟨fun _ => false, #[], by rw [hs0]; decide, Lib.hid (by rw [hs0]; exact fun p h => h), Lib.hid (by rw [hs0]; exact fun p h => .inl h), HMg.out⟩
  case round =>
    clear HMg hs0
    obtain ⟨f, seen, hg, HS, HF, HM⟩ := hrel
    have hz : MapZ fm Value.string (fun i : Nat => Value.pointer (some ⟨nb, i, none⟩)) flagM es clk wr := HM.at_ 1 rfl
    go_wp2_with (at_next; refine wpList_nextM rfl _ rfl HM hz rfl ?_ ?_)
    · intro h0
      have F6 : f 6 = mark X.marks phN name := (HF.out (phN, 6) (by simp [flagM])).resolve_left (by rw [h0]; simp)
      have F7 : f 7 = mark X.marks prN name := (HF.out (prN, 7) (by simp [flagM])).resolve_left (by rw [h0]; simp)
      have F8 : f 8 = mark X.marks siN name := (HF.out (siN, 8) (by simp [flagM])).resolve_left (by rw [h0]; simp)
      have F9 : f 9 = mark X.marks igN name := (HF.out (igN, 9) (by simp [flagM])).resolve_left (by rw [h0]; simp)
      rw [F6, F7, F8, F9] at HM
      have hrr : ownR X.own name = r := by rw [ownR_eq, hx.out]
      have hNot := @nodeB_not raw X name
      obtain ⟨⟨im, L⟩, hiL⟩ : ∃ q, implB X.suf X.ways X.there X.links name = q := ⟨_, rfl⟩
      have hImp := fun h => @nodeB_imp raw X name im L h hiL
      have hiL := Lib.hid hiL
      rw [hrr, hok.out] at hNot hImp
      obtain ⟨b6, h6⟩ : ∃ b, mark X.marks phN name = b := ⟨_, rfl⟩
      obtain ⟨b7, h7⟩ : ∃ b, mark X.marks prN name = b := ⟨_, rfl⟩
      obtain ⟨b8, h8⟩ : ∃ b, mark X.marks siN name = b := ⟨_, rfl⟩
      obtain ⟨b9, h9⟩ : ∃ b, mark X.marks igN name = b := ⟨_, rfl⟩
      obtain ⟨fl, hfl⟩ : ∃ b, mhas X.files name = b := ⟨_, rfl⟩
      rw [h6, h7, h8, h9] at HM
      rw [h6, h7, h8, h9, hfl] at hNot hImp
      have hfl := Lib.hid hfl
      have HMn := Lib.hid (HM.psel (L := [_, _, _, _, _, _]) [2, 3, 4, 5] 6 rfl (by decide))
      have rc2 := Blk.cell_ (HMn.out.at_ 2 rfl) 2
      have rc3 := Blk.cell_ (HMn.out.at_ 2 rfl) 3
      have n6 := Blk.cell_ (HMn.out.at_ 0 rfl) 6
      simp only [List.getElem?_toArray, List.getElem?_cons_succ, List.getElem?_cons_zero] at rc2 rc3 n6
      clear hz HM HS HF h0 F6 F7 F8 F9 h6 h7 h8 h9 hg hrr
      have hsrc := fun w' (h : Mem fp w0 (X.mem F) w') => (own_reads X name h).2.1
      rw [hx.out] at hsrc
      have hNot := Lib.hid hNot
      have hImp := Lib.hid hImp
      by_cases hc : r.cmd.length = 0 ∧ b6 = false
      · have HB := Lib.hid (hImp.out hc)
        obtain ⟨h1, hb6⟩ := hc
        subst hb6
        have o1 : ((r.cmd.length : Int) == 0) = true := by rw [h1]; rfl
        have hI := implied_calls X name _ (mem_in HMn.out) hws hn
        rw [hiL.out] at hI
        simp only at hI
        have hsrc2 := fun w' (h : Mem fp w0 (({ X with links := L } : BS).mem F) w') => (own_reads { X with links := L } name h).2.1
        simp only [hx.out] at hsrc2
        clear h1 hNot hImp hsrc
        by_cases c1 : im = ⟨#[]⟩
        · obtain ⟨q1, q2, q3⟩ := isE c1
          have HB := Lib.hid (HB.out.trans (show _ = ((⟨name, r.kind, srcB r.src, r.cmd, [], im, false, b7, b8, b9⟩ : NodeS), (ok || false || false || fl), L) from by rw [decide_eq_false (p := im ≠ ⟨#[]⟩) (fun h => h c1)]; rfl))
          clear c1
          go_wp2_with (first | (go_at_call 64; refine hI.mono ?_; clear hI; rintro e w2 ⟨rfl, hm⟩; have HMo1 := Lib.hid (mem_out hm); have n5 := Blk.cell_ (HMo1.out.at_ 0 rfl) 5; have nf5 := Blk.frozen (HMo1.out.at_ 0 rfl) 5; simp only [List.getElem?_toArray, List.getElem?_cons_succ, List.getElem?_cons_zero] at n5; clear hm HMn n6) | (go_at_call 67; have HMq := Lib.hid (HMo1.out.blkSet 5 (.string im)); have hSo := sources_calls _ r.src _ (hsrc2 _ (Mem.drop (cs := [_, _, _, _]) HMq.out)) (by omega); refine hSo.mono ?_; clear hSo; rintro e w3 ⟨v, rfl, hm⟩; have HMo := Lib.hid (HMq.out.got hm); have n2 := (Blk.cell_ (HMo.out.at_ 1 rfl) 2).trans (show _ = some (Value.slice none 0 0) from rfl); have nf2 := Blk.frozen (HMo.out.at_ 1 rfl) 2; obtain ⟨A7, c7, e7, _⟩ := Row.any_ (HMo.out.at_ 0 rfl); subst e7; clear hm HMq HMo1 n5 nf5))
          cases ok with
          | true =>
            have HMd := Lib.hid ((HMo.out.psel (L := [_, _, _, _, _]) [1, 0, 2, 3, 4] 5 rfl (by decide)).blkSet 2 (.slice A7 (srcB r.src).length c7)).drew
            have hbn := HMd.out.at_ 0 rfl
            have hbX : (Blk X.b 67 X.cells).ok _ := HMd.out.at_ 5 rfl
            have hfl2 := lookF X (HMd.out.at_ 8 rfl) hfl.out
            have hS0 := Lib.hid (show _ ∧ _ ∧ _ ∧ _ ∧ _ ∧ _ ∧ _ ∧ _ ∧ _ ∧ _ ∧ _ ∧ _ from ⟨Blk.cell_ hbn 0, Blk.cell_ hbn 1, Blk.cell_ hbn 2, Blk.cell_ hbn 3, Blk.cell_ hbn 4, Blk.cell_ hbn 5, Blk.cell_ hbn 6, Blk.cell_ hbn 7, Blk.cell_ hbn 8, Blk.cell_ hbn 9, Blk.cell_ hbX 3, hfl2⟩)
            refine wp_plan [] (S := fun w' => Hid (w'.cell? ⟨nb, 0, none⟩ = some (.string name) ∧ w'.cell? ⟨nb, 1, none⟩ = some (.int .i64 r.kind) ∧ w'.cell? ⟨nb, 2, none⟩ = some (.slice A7 (srcB r.src).length c7) ∧ w'.cell? ⟨nb, 3, none⟩ = some (.slice B1 m1 d1') ∧ w'.cell? ⟨nb, 4, none⟩ = some (.slice none 0 0) ∧ w'.cell? ⟨nb, 5, none⟩ = some (.string im) ∧ w'.cell? ⟨nb, 6, none⟩ = some (.bool false) ∧ w'.cell? ⟨nb, 7, none⟩ = some (.bool b7) ∧ w'.cell? ⟨nb, 8, none⟩ = some (.bool b8) ∧ w'.cell? ⟨nb, 9, none⟩ = some (.bool b9) ∧ w'.cell? ⟨X.b, 3, none⟩ = some (.map (some X.fb)) ∧ (Instr.lookup 61 (.map (some X.fb)) (.string name) false).run Try.prog w' = .ok (.bool fl) w')) [(.load, 0), (.pure, 1), (.pure, 2), (.pure, 3), (.load, 4), (.pure, 5), (.pure, 6), (.pure, 7), (.pure, 8), (.load, 9), (.pure, 10), (.pure, 11), (.pure, 12), (.pure, 13), (.pure, 14), (.load, 15), (.pure, 16), (.load, 17), (.pure, 18), (.eff, 19), (.pure, 20)] (by kernel_rfl) rfl (by kernel_rfl) rfl (fun _ _ _ _ _ h => h) hS0 ?_
            have hb9 := HMd.out.at_ 4 rfl
            have z0 := Blk.cell_ hb9 0
            have fz0 := Blk.frozen hb9 0
            have z1 := Blk.cell_ hb9 1
            have fz1 := Blk.frozen hb9 1
            have z2 := Blk.cell_ hb9 2
            have fz2 := Blk.frozen hb9 2
            have z3 := Blk.cell_ hb9 3
            have fz3 := Blk.frozen hb9 3
            have z4 := Blk.cell_ hb9 4
            have fz4 := Blk.frozen hb9 4
            have z5 := Blk.cell_ hb9 5
            have fz5 := Blk.frozen hb9 5
            have z6 := Blk.cell_ hb9 6
            have fz6 := Blk.frozen hb9 6
            have z7 := Blk.cell_ hb9 7
            have fz7 := Blk.frozen hb9 7
            have z8 := Blk.cell_ hb9 8
            have fz8 := Blk.frozen hb9 8
            have z9 := Blk.cell_ hb9 9
            have fz9 := Blk.frozen hb9 9
            simp only [List.getElem?_toArray, List.getElem?_cons_succ, List.getElem?_cons_zero] at z0 z1 z2 z3 z4 z5 z6 z7 z8 z9
            clear hbn hbX hfl2 hS0 HMo n2 nf2 hb9
            generalize World.drew _ = W10 at *
            repeat (first | (refine plan_pure (v := ?_) (a' := ?_) rfl rfl rfl ?_ ?_ ?_; rotate_left 2; (focus (intro w'; go_simp; with_reducible rfl)); (focus (simp only [Act.put, List.setIfInBounds_toArray, List.set_cons_zero, List.set_cons_succ]; rfl))) | (refine plan_load (v := ?_) (a' := ?_) rfl rfl rfl ?_ ?_ ?_; rotate_left 2; (focus (intro w' hw'; obtain ⟨q0, q1, q2, q3, q4, q5, q6, q7, q8, q9, q10, q11⟩ := hw'.out; clear hw'; go_simp; with_reducible rfl)); (focus (simp only [Act.put, List.setIfInBounds_toArray, List.set_cons_zero, List.set_cons_succ]; rfl))) | (refine plan_skip rfl rfl (by decide +kernel) (by simp only [Act.put, List.setIfInBounds_toArray, List.set_cons_zero, List.set_cons_succ]; rfl) ?_) | (refine plan_skip (a' := ?_) rfl rfl rfl ?_ ?_; rotate_left 1; (focus (simp only [Act.put, List.setIfInBounds_toArray, List.set_cons_zero, List.set_cons_succ]; rfl))) | (refine plan_skipL (a' := ?_) rfl rfl rfl ?_ ?_; rotate_left 1; (focus (simp only [Act.put, List.setIfInBounds_toArray, List.set_cons_zero, List.set_cons_succ]; rfl))))
            refine plan_eff rfl (fun K hK => ?_)
            go_wp2_with fail
            have HMe := HMd.out.psel (L := [_, _, _, _, _]) [4, 0, 1, 2] 5 rfl (by decide)
            clear HMd
            have G0 : Mem fp w0 (Blk nb0 38 #[.string ⟨#[]⟩, .int .i64 0, .slice none 0 0, .slice none 0 0, .slice none 0 0, .string ⟨#[]⟩, .bool false, .bool false, .bool false, .bool false] :: ([Blk nb 38 #[.string name, .int .i64 r.kind, .slice A7 (srcB r.src).length c7, .slice B1 m1 d1', .slice none 0 0, .string im, .bool false, .bool b7, .bool b8, .bool b9], StrRow (.slice A7 (srcB r.src).length c7) (srcB r.src), StrRow (.slice B1 m1 d1') (r.cmd)] ++ ({ X with links := L } : BS).mem F)) W10 := HMe
            clear HMe
            have G1 : Mem fp w0 (Blk nb0 38 #[.string name, .int .i64 0, .slice none 0 0, .slice none 0 0, .slice none 0 0, .string ⟨#[]⟩, .bool false, .bool false, .bool false, .bool false] :: ([Blk nb 38 #[.string name, .int .i64 r.kind, .slice A7 (srcB r.src).length c7, .slice B1 m1 d1', .slice none 0 0, .string im, .bool false, .bool b7, .bool b8, .bool b9], StrRow (.slice A7 (srcB r.src).length c7) (srcB r.src), StrRow (.slice B1 m1 d1') (r.cmd)] ++ ({ X with links := L } : BS).mem F)) _ := G0.blkSet 0 (.string name)
            clear G0
            have G2 : Mem fp w0 (Blk nb0 38 #[.string name, .int .i64 r.kind, .slice none 0 0, .slice none 0 0, .slice none 0 0, .string ⟨#[]⟩, .bool false, .bool false, .bool false, .bool false] :: ([Blk nb 38 #[.string name, .int .i64 r.kind, .slice A7 (srcB r.src).length c7, .slice B1 m1 d1', .slice none 0 0, .string im, .bool false, .bool b7, .bool b8, .bool b9], StrRow (.slice A7 (srcB r.src).length c7) (srcB r.src), StrRow (.slice B1 m1 d1') (r.cmd)] ++ ({ X with links := L } : BS).mem F)) _ := G1.blkSet 1 (.int .i64 r.kind)
            clear G1
            have G3 : Mem fp w0 (Blk nb0 38 #[.string name, .int .i64 r.kind, .slice A7 (srcB r.src).length c7, .slice none 0 0, .slice none 0 0, .string ⟨#[]⟩, .bool false, .bool false, .bool false, .bool false] :: ([Blk nb 38 #[.string name, .int .i64 r.kind, .slice A7 (srcB r.src).length c7, .slice B1 m1 d1', .slice none 0 0, .string im, .bool false, .bool b7, .bool b8, .bool b9], StrRow (.slice A7 (srcB r.src).length c7) (srcB r.src), StrRow (.slice B1 m1 d1') (r.cmd)] ++ ({ X with links := L } : BS).mem F)) _ := G2.blkSet 2 (.slice A7 (srcB r.src).length c7)
            clear G2
            have G4 : Mem fp w0 (Blk nb0 38 #[.string name, .int .i64 r.kind, .slice A7 (srcB r.src).length c7, .slice B1 m1 d1', .slice none 0 0, .string ⟨#[]⟩, .bool false, .bool false, .bool false, .bool false] :: ([Blk nb 38 #[.string name, .int .i64 r.kind, .slice A7 (srcB r.src).length c7, .slice B1 m1 d1', .slice none 0 0, .string im, .bool false, .bool b7, .bool b8, .bool b9], StrRow (.slice A7 (srcB r.src).length c7) (srcB r.src), StrRow (.slice B1 m1 d1') (r.cmd)] ++ ({ X with links := L } : BS).mem F)) _ := G3.blkSet 3 (.slice B1 m1 d1')
            clear G3
            have G5 : Mem fp w0 (Blk nb0 38 #[.string name, .int .i64 r.kind, .slice A7 (srcB r.src).length c7, .slice B1 m1 d1', .slice none 0 0, .string ⟨#[]⟩, .bool false, .bool false, .bool false, .bool false] :: ([Blk nb 38 #[.string name, .int .i64 r.kind, .slice A7 (srcB r.src).length c7, .slice B1 m1 d1', .slice none 0 0, .string im, .bool false, .bool b7, .bool b8, .bool b9], StrRow (.slice A7 (srcB r.src).length c7) (srcB r.src), StrRow (.slice B1 m1 d1') (r.cmd)] ++ ({ X with links := L } : BS).mem F)) _ := G4.blkSet 4 (.slice none 0 0)
            clear G4
            have G6 : Mem fp w0 (Blk nb0 38 #[.string name, .int .i64 r.kind, .slice A7 (srcB r.src).length c7, .slice B1 m1 d1', .slice none 0 0, .string im, .bool false, .bool false, .bool false, .bool false] :: ([Blk nb 38 #[.string name, .int .i64 r.kind, .slice A7 (srcB r.src).length c7, .slice B1 m1 d1', .slice none 0 0, .string im, .bool false, .bool b7, .bool b8, .bool b9], StrRow (.slice A7 (srcB r.src).length c7) (srcB r.src), StrRow (.slice B1 m1 d1') (r.cmd)] ++ ({ X with links := L } : BS).mem F)) _ := G5.blkSet 5 (.string im)
            clear G5
            have G7 : Mem fp w0 (Blk nb0 38 #[.string name, .int .i64 r.kind, .slice A7 (srcB r.src).length c7, .slice B1 m1 d1', .slice none 0 0, .string im, .bool false, .bool false, .bool false, .bool false] :: ([Blk nb 38 #[.string name, .int .i64 r.kind, .slice A7 (srcB r.src).length c7, .slice B1 m1 d1', .slice none 0 0, .string im, .bool false, .bool b7, .bool b8, .bool b9], StrRow (.slice A7 (srcB r.src).length c7) (srcB r.src), StrRow (.slice B1 m1 d1') (r.cmd)] ++ ({ X with links := L } : BS).mem F)) _ := G6.blkSet 6 (.bool false)
            clear G6
            have G8 : Mem fp w0 (Blk nb0 38 #[.string name, .int .i64 r.kind, .slice A7 (srcB r.src).length c7, .slice B1 m1 d1', .slice none 0 0, .string im, .bool false, .bool b7, .bool false, .bool false] :: ([Blk nb 38 #[.string name, .int .i64 r.kind, .slice A7 (srcB r.src).length c7, .slice B1 m1 d1', .slice none 0 0, .string im, .bool false, .bool b7, .bool b8, .bool b9], StrRow (.slice A7 (srcB r.src).length c7) (srcB r.src), StrRow (.slice B1 m1 d1') (r.cmd)] ++ ({ X with links := L } : BS).mem F)) _ := G7.blkSet 7 (.bool b7)
            clear G7
            have G9 : Mem fp w0 (Blk nb0 38 #[.string name, .int .i64 r.kind, .slice A7 (srcB r.src).length c7, .slice B1 m1 d1', .slice none 0 0, .string im, .bool false, .bool b7, .bool b8, .bool false] :: ([Blk nb 38 #[.string name, .int .i64 r.kind, .slice A7 (srcB r.src).length c7, .slice B1 m1 d1', .slice none 0 0, .string im, .bool false, .bool b7, .bool b8, .bool b9], StrRow (.slice A7 (srcB r.src).length c7) (srcB r.src), StrRow (.slice B1 m1 d1') (r.cmd)] ++ ({ X with links := L } : BS).mem F)) _ := G8.blkSet 8 (.bool b8)
            clear G8
            have G10 : Mem fp w0 (Blk nb0 38 #[.string name, .int .i64 r.kind, .slice A7 (srcB r.src).length c7, .slice B1 m1 d1', .slice none 0 0, .string im, .bool false, .bool b7, .bool b8, .bool b9] :: ([Blk nb 38 #[.string name, .int .i64 r.kind, .slice A7 (srcB r.src).length c7, .slice B1 m1 d1', .slice none 0 0, .string im, .bool false, .bool b7, .bool b8, .bool b9], StrRow (.slice A7 (srcB r.src).length c7) (srcB r.src), StrRow (.slice B1 m1 d1') (r.cmd)] ++ ({ X with links := L } : BS).mem F)) _ := G9.blkSet 9 (.bool b9)
            clear G9
            generalize World.setCell _ _ _ = W11 at *
            have hbn := G10.at_ 1 rfl
            have hbX : (Blk X.b 67 X.cells).ok _ := G10.at_ 4 rfl
            have hfl2 := lookF X (G10.at_ 7 rfl) hfl.out
            have hS1 := Lib.hid (show _ ∧ _ ∧ _ ∧ _ ∧ _ ∧ _ ∧ _ ∧ _ ∧ _ ∧ _ ∧ _ ∧ _ from ⟨Blk.cell_ hbn 0, Blk.cell_ hbn 1, Blk.cell_ hbn 2, Blk.cell_ hbn 3, Blk.cell_ hbn 4, Blk.cell_ hbn 5, Blk.cell_ hbn 6, Blk.cell_ hbn 7, Blk.cell_ hbn 8, Blk.cell_ hbn 9, Blk.cell_ hbX 3, hfl2⟩)
            refine hK _ _ hS1 ?_
            clear hK hS1 hbn hbX hfl2
            repeat (first | (refine plan_pure (v := ?_) (a' := ?_) rfl rfl rfl ?_ ?_ ?_; rotate_left 2; (focus (intro w'; go_simp; with_reducible rfl)); (focus (simp only [Act.put, List.setIfInBounds_toArray, List.set_cons_zero, List.set_cons_succ]; rfl))) | (refine plan_load (v := ?_) (a' := ?_) rfl rfl rfl ?_ ?_ ?_; rotate_left 2; (focus (intro w' hw'; obtain ⟨q0, q1, q2, q3, q4, q5, q6, q7, q8, q9, q10, q11⟩ := hw'.out; clear hw'; go_simp; with_reducible rfl)); (focus (simp only [Act.put, List.setIfInBounds_toArray, List.set_cons_zero, List.set_cons_succ]; rfl))) | (refine plan_skip rfl rfl (by decide +kernel) (by simp only [Act.put, List.setIfInBounds_toArray, List.set_cons_zero, List.set_cons_succ]; rfl) ?_) | (refine plan_skip (a' := ?_) rfl rfl rfl ?_ ?_; rotate_left 1; (focus (simp only [Act.put, List.setIfInBounds_toArray, List.set_cons_zero, List.set_cons_succ]; rfl))) | (refine plan_skipL (a' := ?_) rfl rfl rfl ?_ ?_; rotate_left 1; (focus (simp only [Act.put, List.setIfInBounds_toArray, List.set_cons_zero, List.set_cons_succ]; rfl))))
            refine plan_done ?_
            have y0 := Blk.cell_ G10.head 0
            have y1 := Blk.cell_ G10.head 1
            have y2 := Blk.cell_ G10.head 2
            have y3 := Blk.cell_ G10.head 3
            have y4 := Blk.cell_ G10.head 4
            have y5 := Blk.cell_ G10.head 5
            have y6 := Blk.cell_ G10.head 6
            have y7 := Blk.cell_ G10.head 7
            have y8 := Blk.cell_ G10.head 8
            have y9 := Blk.cell_ G10.head 9
            clear z0 fz0 z1 fz1 z2 fz2 z3 fz3 z4 fz4 z5 fz5 z6 fz6 z7 fz7 z8 fz8 z9 fz9
            go_wp2_with fail
            (try simp only [Exit.inBlock, Exit.then])
            refine bodyPost_ret (v := .tuple #[.agg #[.string name, .int .i64 r.kind, .slice A7 (srcB r.src).length c7, .slice B1 m1 d1', .slice none 0 0, .string im, .bool false, .bool b7, .bool b8, .bool b9], .bool true]) ?hr rfl ?_
            case hr =>
              unfold results
              go_simp
            rw [HB.out]
            exact ⟨_, _, rfl, G10.tail.tail⟩
          | false =>
            have HMd := Lib.hid ((HMo.out.psel (L := [_, _, _, _, _]) [1, 0, 2, 3, 4] 5 rfl (by decide)).blkSet 2 (.slice A7 (srcB r.src).length c7)).drew
            have hbn := HMd.out.at_ 0 rfl
            have hbX : (Blk X.b 67 X.cells).ok _ := HMd.out.at_ 5 rfl
            have hfl2 := lookF X (HMd.out.at_ 8 rfl) hfl.out
            have hS0 := Lib.hid (show _ ∧ _ ∧ _ ∧ _ ∧ _ ∧ _ ∧ _ ∧ _ ∧ _ ∧ _ ∧ _ ∧ _ from ⟨Blk.cell_ hbn 0, Blk.cell_ hbn 1, Blk.cell_ hbn 2, Blk.cell_ hbn 3, Blk.cell_ hbn 4, Blk.cell_ hbn 5, Blk.cell_ hbn 6, Blk.cell_ hbn 7, Blk.cell_ hbn 8, Blk.cell_ hbn 9, Blk.cell_ hbX 3, hfl2⟩)
            refine wp_plan [] (S := fun w' => Hid (w'.cell? ⟨nb, 0, none⟩ = some (.string name) ∧ w'.cell? ⟨nb, 1, none⟩ = some (.int .i64 r.kind) ∧ w'.cell? ⟨nb, 2, none⟩ = some (.slice A7 (srcB r.src).length c7) ∧ w'.cell? ⟨nb, 3, none⟩ = some (.slice B1 m1 d1') ∧ w'.cell? ⟨nb, 4, none⟩ = some (.slice none 0 0) ∧ w'.cell? ⟨nb, 5, none⟩ = some (.string im) ∧ w'.cell? ⟨nb, 6, none⟩ = some (.bool false) ∧ w'.cell? ⟨nb, 7, none⟩ = some (.bool b7) ∧ w'.cell? ⟨nb, 8, none⟩ = some (.bool b8) ∧ w'.cell? ⟨nb, 9, none⟩ = some (.bool b9) ∧ w'.cell? ⟨X.b, 3, none⟩ = some (.map (some X.fb)) ∧ (Instr.lookup 61 (.map (some X.fb)) (.string name) false).run Try.prog w' = .ok (.bool fl) w')) [(.load, 0), (.pure, 1), (.pure, 2), (.pure, 3), (.load, 4), (.pure, 5), (.pure, 6), (.pure, 7), (.pure, 8), (.load, 9), (.pure, 10), (.pure, 11), (.pure, 12), (.pure, 13), (.pure, 14), (.load, 15), (.pure, 16), (.load, 17), (.pure, 18), (.eff, 19), (.pure, 20)] (by kernel_rfl) rfl (by kernel_rfl) rfl (fun _ _ _ _ _ h => h) hS0 ?_
            have hb9 := HMd.out.at_ 4 rfl
            have z0 := Blk.cell_ hb9 0
            have fz0 := Blk.frozen hb9 0
            have z1 := Blk.cell_ hb9 1
            have fz1 := Blk.frozen hb9 1
            have z2 := Blk.cell_ hb9 2
            have fz2 := Blk.frozen hb9 2
            have z3 := Blk.cell_ hb9 3
            have fz3 := Blk.frozen hb9 3
            have z4 := Blk.cell_ hb9 4
            have fz4 := Blk.frozen hb9 4
            have z5 := Blk.cell_ hb9 5
            have fz5 := Blk.frozen hb9 5
            have z6 := Blk.cell_ hb9 6
            have fz6 := Blk.frozen hb9 6
            have z7 := Blk.cell_ hb9 7
            have fz7 := Blk.frozen hb9 7
            have z8 := Blk.cell_ hb9 8
            have fz8 := Blk.frozen hb9 8
            have z9 := Blk.cell_ hb9 9
            have fz9 := Blk.frozen hb9 9
            simp only [List.getElem?_toArray, List.getElem?_cons_succ, List.getElem?_cons_zero] at z0 z1 z2 z3 z4 z5 z6 z7 z8 z9
            clear hbn hbX hfl2 hS0 HMo n2 nf2 hb9
            generalize World.drew _ = W10 at *
            repeat (first | (refine plan_pure (v := ?_) (a' := ?_) rfl rfl rfl ?_ ?_ ?_; rotate_left 2; (focus (intro w'; go_simp; with_reducible rfl)); (focus (simp only [Act.put, List.setIfInBounds_toArray, List.set_cons_zero, List.set_cons_succ]; rfl))) | (refine plan_load (v := ?_) (a' := ?_) rfl rfl rfl ?_ ?_ ?_; rotate_left 2; (focus (intro w' hw'; obtain ⟨q0, q1, q2, q3, q4, q5, q6, q7, q8, q9, q10, q11⟩ := hw'.out; clear hw'; go_simp; with_reducible rfl)); (focus (simp only [Act.put, List.setIfInBounds_toArray, List.set_cons_zero, List.set_cons_succ]; rfl))) | (refine plan_skip rfl rfl (by decide +kernel) (by simp only [Act.put, List.setIfInBounds_toArray, List.set_cons_zero, List.set_cons_succ]; rfl) ?_) | (refine plan_skip (a' := ?_) rfl rfl rfl ?_ ?_; rotate_left 1; (focus (simp only [Act.put, List.setIfInBounds_toArray, List.set_cons_zero, List.set_cons_succ]; rfl))) | (refine plan_skipL (a' := ?_) rfl rfl rfl ?_ ?_; rotate_left 1; (focus (simp only [Act.put, List.setIfInBounds_toArray, List.set_cons_zero, List.set_cons_succ]; rfl))))
            refine plan_eff rfl (fun K hK => ?_)
            go_wp2_with fail
            have HMe := HMd.out.psel (L := [_, _, _, _, _]) [4, 0, 1, 2] 5 rfl (by decide)
            clear HMd
            have G0 : Mem fp w0 (Blk nb0 38 #[.string ⟨#[]⟩, .int .i64 0, .slice none 0 0, .slice none 0 0, .slice none 0 0, .string ⟨#[]⟩, .bool false, .bool false, .bool false, .bool false] :: ([Blk nb 38 #[.string name, .int .i64 r.kind, .slice A7 (srcB r.src).length c7, .slice B1 m1 d1', .slice none 0 0, .string im, .bool false, .bool b7, .bool b8, .bool b9], StrRow (.slice A7 (srcB r.src).length c7) (srcB r.src), StrRow (.slice B1 m1 d1') (r.cmd)] ++ ({ X with links := L } : BS).mem F)) W10 := HMe
            clear HMe
            have G1 : Mem fp w0 (Blk nb0 38 #[.string name, .int .i64 0, .slice none 0 0, .slice none 0 0, .slice none 0 0, .string ⟨#[]⟩, .bool false, .bool false, .bool false, .bool false] :: ([Blk nb 38 #[.string name, .int .i64 r.kind, .slice A7 (srcB r.src).length c7, .slice B1 m1 d1', .slice none 0 0, .string im, .bool false, .bool b7, .bool b8, .bool b9], StrRow (.slice A7 (srcB r.src).length c7) (srcB r.src), StrRow (.slice B1 m1 d1') (r.cmd)] ++ ({ X with links := L } : BS).mem F)) _ := G0.blkSet 0 (.string name)
            clear G0
            have G2 : Mem fp w0 (Blk nb0 38 #[.string name, .int .i64 r.kind, .slice none 0 0, .slice none 0 0, .slice none 0 0, .string ⟨#[]⟩, .bool false, .bool false, .bool false, .bool false] :: ([Blk nb 38 #[.string name, .int .i64 r.kind, .slice A7 (srcB r.src).length c7, .slice B1 m1 d1', .slice none 0 0, .string im, .bool false, .bool b7, .bool b8, .bool b9], StrRow (.slice A7 (srcB r.src).length c7) (srcB r.src), StrRow (.slice B1 m1 d1') (r.cmd)] ++ ({ X with links := L } : BS).mem F)) _ := G1.blkSet 1 (.int .i64 r.kind)
            clear G1
            have G3 : Mem fp w0 (Blk nb0 38 #[.string name, .int .i64 r.kind, .slice A7 (srcB r.src).length c7, .slice none 0 0, .slice none 0 0, .string ⟨#[]⟩, .bool false, .bool false, .bool false, .bool false] :: ([Blk nb 38 #[.string name, .int .i64 r.kind, .slice A7 (srcB r.src).length c7, .slice B1 m1 d1', .slice none 0 0, .string im, .bool false, .bool b7, .bool b8, .bool b9], StrRow (.slice A7 (srcB r.src).length c7) (srcB r.src), StrRow (.slice B1 m1 d1') (r.cmd)] ++ ({ X with links := L } : BS).mem F)) _ := G2.blkSet 2 (.slice A7 (srcB r.src).length c7)
            clear G2
            have G4 : Mem fp w0 (Blk nb0 38 #[.string name, .int .i64 r.kind, .slice A7 (srcB r.src).length c7, .slice B1 m1 d1', .slice none 0 0, .string ⟨#[]⟩, .bool false, .bool false, .bool false, .bool false] :: ([Blk nb 38 #[.string name, .int .i64 r.kind, .slice A7 (srcB r.src).length c7, .slice B1 m1 d1', .slice none 0 0, .string im, .bool false, .bool b7, .bool b8, .bool b9], StrRow (.slice A7 (srcB r.src).length c7) (srcB r.src), StrRow (.slice B1 m1 d1') (r.cmd)] ++ ({ X with links := L } : BS).mem F)) _ := G3.blkSet 3 (.slice B1 m1 d1')
            clear G3
            have G5 : Mem fp w0 (Blk nb0 38 #[.string name, .int .i64 r.kind, .slice A7 (srcB r.src).length c7, .slice B1 m1 d1', .slice none 0 0, .string ⟨#[]⟩, .bool false, .bool false, .bool false, .bool false] :: ([Blk nb 38 #[.string name, .int .i64 r.kind, .slice A7 (srcB r.src).length c7, .slice B1 m1 d1', .slice none 0 0, .string im, .bool false, .bool b7, .bool b8, .bool b9], StrRow (.slice A7 (srcB r.src).length c7) (srcB r.src), StrRow (.slice B1 m1 d1') (r.cmd)] ++ ({ X with links := L } : BS).mem F)) _ := G4.blkSet 4 (.slice none 0 0)
            clear G4
            have G6 : Mem fp w0 (Blk nb0 38 #[.string name, .int .i64 r.kind, .slice A7 (srcB r.src).length c7, .slice B1 m1 d1', .slice none 0 0, .string im, .bool false, .bool false, .bool false, .bool false] :: ([Blk nb 38 #[.string name, .int .i64 r.kind, .slice A7 (srcB r.src).length c7, .slice B1 m1 d1', .slice none 0 0, .string im, .bool false, .bool b7, .bool b8, .bool b9], StrRow (.slice A7 (srcB r.src).length c7) (srcB r.src), StrRow (.slice B1 m1 d1') (r.cmd)] ++ ({ X with links := L } : BS).mem F)) _ := G5.blkSet 5 (.string im)
            clear G5
            have G7 : Mem fp w0 (Blk nb0 38 #[.string name, .int .i64 r.kind, .slice A7 (srcB r.src).length c7, .slice B1 m1 d1', .slice none 0 0, .string im, .bool false, .bool false, .bool false, .bool false] :: ([Blk nb 38 #[.string name, .int .i64 r.kind, .slice A7 (srcB r.src).length c7, .slice B1 m1 d1', .slice none 0 0, .string im, .bool false, .bool b7, .bool b8, .bool b9], StrRow (.slice A7 (srcB r.src).length c7) (srcB r.src), StrRow (.slice B1 m1 d1') (r.cmd)] ++ ({ X with links := L } : BS).mem F)) _ := G6.blkSet 6 (.bool false)
            clear G6
            have G8 : Mem fp w0 (Blk nb0 38 #[.string name, .int .i64 r.kind, .slice A7 (srcB r.src).length c7, .slice B1 m1 d1', .slice none 0 0, .string im, .bool false, .bool b7, .bool false, .bool false] :: ([Blk nb 38 #[.string name, .int .i64 r.kind, .slice A7 (srcB r.src).length c7, .slice B1 m1 d1', .slice none 0 0, .string im, .bool false, .bool b7, .bool b8, .bool b9], StrRow (.slice A7 (srcB r.src).length c7) (srcB r.src), StrRow (.slice B1 m1 d1') (r.cmd)] ++ ({ X with links := L } : BS).mem F)) _ := G7.blkSet 7 (.bool b7)
            clear G7
            have G9 : Mem fp w0 (Blk nb0 38 #[.string name, .int .i64 r.kind, .slice A7 (srcB r.src).length c7, .slice B1 m1 d1', .slice none 0 0, .string im, .bool false, .bool b7, .bool b8, .bool false] :: ([Blk nb 38 #[.string name, .int .i64 r.kind, .slice A7 (srcB r.src).length c7, .slice B1 m1 d1', .slice none 0 0, .string im, .bool false, .bool b7, .bool b8, .bool b9], StrRow (.slice A7 (srcB r.src).length c7) (srcB r.src), StrRow (.slice B1 m1 d1') (r.cmd)] ++ ({ X with links := L } : BS).mem F)) _ := G8.blkSet 8 (.bool b8)
            clear G8
            have G10 : Mem fp w0 (Blk nb0 38 #[.string name, .int .i64 r.kind, .slice A7 (srcB r.src).length c7, .slice B1 m1 d1', .slice none 0 0, .string im, .bool false, .bool b7, .bool b8, .bool b9] :: ([Blk nb 38 #[.string name, .int .i64 r.kind, .slice A7 (srcB r.src).length c7, .slice B1 m1 d1', .slice none 0 0, .string im, .bool false, .bool b7, .bool b8, .bool b9], StrRow (.slice A7 (srcB r.src).length c7) (srcB r.src), StrRow (.slice B1 m1 d1') (r.cmd)] ++ ({ X with links := L } : BS).mem F)) _ := G9.blkSet 9 (.bool b9)
            clear G9
            generalize World.setCell _ _ _ = W11 at *
            have hbn := G10.at_ 1 rfl
            have hbX : (Blk X.b 67 X.cells).ok _ := G10.at_ 4 rfl
            have hfl2 := lookF X (G10.at_ 7 rfl) hfl.out
            have hS1 := Lib.hid (show _ ∧ _ ∧ _ ∧ _ ∧ _ ∧ _ ∧ _ ∧ _ ∧ _ ∧ _ ∧ _ ∧ _ from ⟨Blk.cell_ hbn 0, Blk.cell_ hbn 1, Blk.cell_ hbn 2, Blk.cell_ hbn 3, Blk.cell_ hbn 4, Blk.cell_ hbn 5, Blk.cell_ hbn 6, Blk.cell_ hbn 7, Blk.cell_ hbn 8, Blk.cell_ hbn 9, Blk.cell_ hbX 3, hfl2⟩)
            refine hK _ _ hS1 ?_
            clear hK hS1 hbn hbX hfl2
            repeat (first | (refine plan_pure (v := ?_) (a' := ?_) rfl rfl rfl ?_ ?_ ?_; rotate_left 2; (focus (intro w'; go_simp; with_reducible rfl)); (focus (simp only [Act.put, List.setIfInBounds_toArray, List.set_cons_zero, List.set_cons_succ]; rfl))) | (refine plan_load (v := ?_) (a' := ?_) rfl rfl rfl ?_ ?_ ?_; rotate_left 2; (focus (intro w' hw'; obtain ⟨q0, q1, q2, q3, q4, q5, q6, q7, q8, q9, q10, q11⟩ := hw'.out; clear hw'; go_simp; with_reducible rfl)); (focus (simp only [Act.put, List.setIfInBounds_toArray, List.set_cons_zero, List.set_cons_succ]; rfl))) | (refine plan_skip rfl rfl (by decide +kernel) (by simp only [Act.put, List.setIfInBounds_toArray, List.set_cons_zero, List.set_cons_succ]; rfl) ?_) | (refine plan_skip (a' := ?_) rfl rfl rfl ?_ ?_; rotate_left 1; (focus (simp only [Act.put, List.setIfInBounds_toArray, List.set_cons_zero, List.set_cons_succ]; rfl))) | (refine plan_skipL (a' := ?_) rfl rfl rfl ?_ ?_; rotate_left 1; (focus (simp only [Act.put, List.setIfInBounds_toArray, List.set_cons_zero, List.set_cons_succ]; rfl))))
            refine plan_done ?_
            have y0 := Blk.cell_ G10.head 0
            have y1 := Blk.cell_ G10.head 1
            have y2 := Blk.cell_ G10.head 2
            have y3 := Blk.cell_ G10.head 3
            have y4 := Blk.cell_ G10.head 4
            have y5 := Blk.cell_ G10.head 5
            have y6 := Blk.cell_ G10.head 6
            have y7 := Blk.cell_ G10.head 7
            have y8 := Blk.cell_ G10.head 8
            have y9 := Blk.cell_ G10.head 9
            clear z0 fz0 z1 fz1 z2 fz2 z3 fz3 z4 fz4 z5 fz5 z6 fz6 z7 fz7 z8 fz8 z9 fz9
            go_wp2_with fail
            (try simp only [Exit.inBlock, Exit.then])
            refine bodyPost_ret (v := .tuple #[.agg #[.string name, .int .i64 r.kind, .slice A7 (srcB r.src).length c7, .slice B1 m1 d1', .slice none 0 0, .string im, .bool false, .bool b7, .bool b8, .bool b9], .bool fl]) ?hr rfl ?_
            case hr =>
              unfold results
              go_simp
            rw [HB.out]
            exact ⟨_, _, rfl, G10.tail.tail⟩
        · obtain ⟨q1, q2, q3⟩ := neE c1
          have HB := Lib.hid (HB.out.trans (show _ = ((⟨name, r.kind, srcB (im :: r.src), cmdW X.suf raw im name X.ways, [], im, false, b7, b8, b9⟩ : NodeS), (ok || true || false || fl), L) from by rw [decide_eq_true (p := im ≠ ⟨#[]⟩) c1]; rfl))
          clear c1
          go_wp2_with (go_at_call 64; refine hI.mono ?_; clear hI; rintro e w2 ⟨rfl, hm⟩; have HMo1 := Lib.hid (mem_out hm); have n5 := Blk.cell_ (HMo1.out.at_ 0 rfl) 5; have nf5 := Blk.frozen (HMo1.out.at_ 0 rfl) 5; simp only [List.getElem?_toArray, List.getElem?_cons_succ, List.getElem?_cons_zero] at n5; clear hm HMn n6)
          have HMq := Lib.hid (HMo1.out.blkSet 5 (.string im)).drew
          clear HMo1 n5 nf5
          have hn5 : _ = some (Value.string im) := Blk.cell_ (HMq.out.at_ 0 rfl) 5
          refine lf_start (fun w' => Hid (w'.cell? ⟨nb, 5, none⟩ = some (.string im))) [5, 6] 7 (by kernel_rfl) rfl (by kernel_rfl) (Lib.hid hn5) ?_
          have hS0 := Lib.hid hn5
          clear hn5
          generalize World.drew _ = W5 at *
          refine lf_pre [(.pure, 0), (.pure, 2), (.load, 3)] [3, 2, 0] 4 rfl (by kernel_rfl) (fun _ _ _ _ _ h => h) hS0 ?_
          repeat (first | (refine pre_pure (v := ?_) (a' := ?_) rfl rfl rfl ?_ ?_ ?_; rotate_left 2; (focus (intro w'; go_simp; with_reducible rfl)); (focus (simp only [Act.put, List.setIfInBounds_toArray, List.set_cons_zero, List.set_cons_succ]; rfl))) | (refine pre_load (v := ?_) (a' := ?_) rfl rfl rfl ?_ ?_ ?_; rotate_left 2; (focus (intro w' hw'; have q0 := hw'.out; clear hw'; go_simp; with_reducible rfl)); (focus (simp only [Act.put, List.setIfInBounds_toArray, List.set_cons_zero, List.set_cons_succ]; rfl))) | (refine pre_skip rfl rfl (by decide +kernel) (by simp only [Act.put, List.setIfInBounds_toArray, List.set_cons_zero, List.set_cons_succ]; rfl) ?_))
          refine pre_done ?_
          refine lf_name (fun A0 hA0 => ?_)
          have hE0 : A0.eval (.tmp 68) = .slice A2 r.src.length c2 := by rw [hA0.out]; rfl
          have hE1 : A0.eval (.tmp 71) = .string im := by rw [hA0.out]; rfl
          have hz0 : A0.tmps.size = 102 := by rw [hA0.out]; rfl
          refine effs (fp := fp) (w0 := w0) [⟨1, 69, [], fun v => [StrRow v r.src], fun _ v => ∃ A n c, v = .slice A n c⟩, ⟨4, 72, [], fun v => [StrRow v [im]], fun _ v => ∃ b, v = .slice (some ⟨b, 0, none⟩) 1 1⟩] 4 rfl (by kernel_rfl) (show ([1, 4] : List Nat).Nodup from by decide) (show ([69, 72] : List Nat).Nodup from by decide) (fun e he => ?hz) (fun G W hm => ?hS) HMq.out (fun e he g g' v hg hr => ?hst) (fun e he => ?hsp) ?_
          case hz =>
            rw [hz0]
            simp only [List.mem_cons, List.not_mem_nil, or_false] at he
            rcases he with rfl | rfl <;> simp
          case hS =>
            exact Lib.hid (Blk.cell_ ((hm.perm (List.perm_append_comm (l₁ := G))).at_ 0 rfl) 5)
          case hst =>
            simp only [List.mem_cons, List.not_mem_nil, or_false] at he
            rcases he with rfl | rfl <;> exact hr
          case hsp =>
            clear hA0 hS0
            simp only [List.mem_cons, List.not_mem_nil, or_false] at he
            rcases he with rfl | rfl
            · refine ⟨_, rfl, fun a g W G K hba hgt hm hK => ?_⟩
              have hst : Strs W (.slice A2 r.src.length c2) r.src := by
                have h3 := hm.perm (List.perm_append_comm (l₁ := G))
                exact hsrc2 _ (Mem.drop (cs := [_, _, _, _]) (h3.only (fun d hd => List.mem_append_left _ hd) (List.Pairwise.sublist (List.sublist_append_left _ _) h3.star.2)))
              have hC := clone_calls _ r.src _ hst (by omega)
              have e1 := tmp_of ((hba 68 (by simp)).trans hE0)
              clear hba hgt hst
              go_wp2_with (go_at_call 29; (try rw [e1]); refine hC.mono ?_; clear hC; rintro e w1 ⟨v, rfl, hm2⟩)
              obtain ⟨A', c', hv, _⟩ := Row.any_ hm2.head
              exact hK _ _ ⟨_, _, _, hv⟩ (hm.got hm2)
            · refine ⟨_, rfl, fun a g W G K hba hgt hm hK => ?_⟩
              refine wpList_run (N := 72) rfl rfl (build1s_run ((hba 71 (by simp)).trans hE1) _ rfl) rfl (wpList_nil_ (hK _ _ ⟨_, rfl⟩ ?_))
              exact hm.lit1 im
          clear HMq hS0 hE0 hE1 hz0
          intro v69 v72 W6 hRR HM6
          have h69 := hRR (⟨1, 69, [], fun v => [StrRow v r.src], fun _ v => ∃ A n c, v = .slice A n c⟩, v69) (by simp)
          have h72 := hRR (⟨4, 72, [], fun v => [StrRow v [im]], fun _ v => ∃ b, v = .slice (some ⟨b, 0, none⟩) 1 1⟩, v72) (by simp)
          clear hRR
          obtain ⟨C1, m9, d9, h69⟩ := h69
          obtain ⟨ib, h72⟩ := h72
          simp only at h69 h72
          subst h69 h72
          have hA1 := hA0.out
          subst hA1
          simp only [putAll, Act.put, List.setIfInBounds_toArray, List.set_cons_zero, List.set_cons_succ]
          clear hA0
          have HM7 : Mem fp w0 (StrRow (.slice C1 m9 d9) r.src :: StrRow (.slice (some ⟨ib, 0, none⟩) 1 1) [im] :: _) W6 := HM6
          have hIn := insert_calls _ r.src im ib W6 HM7 (by omega)
          clear HM6 HM7
          refine lf_one 5 (by kernel_rfl) rfl (fun K hK => ?_)
          go_wp2_with (go_at_call 65; refine hIn.mono ?_; clear hIn; rintro e w7 ⟨v7, rfl, HM8⟩)
          obtain ⟨A8, c8, e8, _, u8⟩ := Row.any_ HM8.head
          subst e8
          refine hK _ _ (fun h _ => by simp at h) ?_
          clear hK
          refine lf_one 6 (by kernel_rfl) rfl (fun K hK => ?_)
          go_wp2_with fail
          refine hK _ _ (fun h _ => by simp at h) ?_
          clear hK
          refine lf_end (by kernel_rfl) ?_
          have HM9 := Lib.hid HM8
          have hbX : (Blk X.b 67 X.cells).ok _ := HM9.out.at_ 5 rfl
          have hCm := commands_calls X.b X.RV X.SV X.WV raw X.suf X.ways im name w7 (hR _ HM9.out.mu) (Row.sl (HM9.out.at_ 6 rfl)) (Row.sl (HM9.out.at_ 7 rfl)) (Blk.cell_ hbX 0) (Blk.cell_ hbX 1) (Blk.cell_ hbX 2) (by omega) (fun p hp => by have := hws p hp; omega) hcs
          have n5 := (Blk.cell_ (HM9.out.at_ 1 rfl) 5).trans (show _ = some (Value.string im) from rfl)
          clear HM8 hbX
          go_wp2_with (go_at_call 66; refine hCm.mono ?_; clear hCm; rintro e w8 ⟨v8, rfl, hm⟩; have HMo2 := Lib.hid (HM9.out.got hm); have n3 := (Blk.cell_ (HMo2.out.at_ 2 rfl) 3).trans (show _ = some (Value.slice B1 m1 d1') from rfl); have nf3 := Blk.frozen (HMo2.out.at_ 2 rfl) 3; obtain ⟨A9, c9, e9, _⟩ := Row.any_ (HMo2.out.at_ 0 rfl); subst e9; clear hm HM9 n5)
          have HMq := Lib.hid ((HMo2.out.psel (L := [_, _, _, _, _, _]) [2, 0, 1, 3, 4, 5] 6 rfl (by decide)).blkSet 3 (.slice A9 (cmdW X.suf raw im name X.ways).length c9))
          have hSo := sources_calls _ (im :: r.src) _ (Row.sl (HMq.out.at_ 2 rfl)) (by simp only [List.length_cons]; omega)
          clear HMo2 n3 nf3
          go_wp2_with (go_at_call 67; go_loud (refine hSo.mono ?_; clear hSo; rintro e w3 ⟨v, rfl, hm⟩; have HMo := Lib.hid ((HMq.out.got hm).psel (L := [_, _, _, _, _, _, _]) [0, 1, 2, 5, 6] 7 rfl (by decide)); have n2 := (Blk.cell_ (HMo.out.at_ 1 rfl) 2).trans (show _ = some (Value.slice none 0 0) from rfl); have nf2 := Blk.frozen (HMo.out.at_ 1 rfl) 2; obtain ⟨A7, c7, e7, _⟩ := Row.any_ (HMo.out.at_ 0 rfl); subst e7; clear hm HMq))
          cases ok with
          | true =>
            have HMd := Lib.hid ((HMo.out.psel (L := [_, _, _, _, _]) [1, 0, 2, 3, 4] 5 rfl (by decide)).blkSet 2 (.slice A7 (srcB (im :: r.src)).length c7)).drew
            have hbn := HMd.out.at_ 0 rfl
            have hbX : (Blk X.b 67 X.cells).ok _ := HMd.out.at_ 5 rfl
            have hfl2 := lookF X (HMd.out.at_ 8 rfl) hfl.out
            have hS0 := Lib.hid (show _ ∧ _ ∧ _ ∧ _ ∧ _ ∧ _ ∧ _ ∧ _ ∧ _ ∧ _ ∧ _ ∧ _ from ⟨Blk.cell_ hbn 0, Blk.cell_ hbn 1, Blk.cell_ hbn 2, Blk.cell_ hbn 3, Blk.cell_ hbn 4, Blk.cell_ hbn 5, Blk.cell_ hbn 6, Blk.cell_ hbn 7, Blk.cell_ hbn 8, Blk.cell_ hbn 9, Blk.cell_ hbX 3, hfl2⟩)
            refine wp_plan [] (S := fun w' => Hid (w'.cell? ⟨nb, 0, none⟩ = some (.string name) ∧ w'.cell? ⟨nb, 1, none⟩ = some (.int .i64 r.kind) ∧ w'.cell? ⟨nb, 2, none⟩ = some (.slice A7 (srcB (im :: r.src)).length c7) ∧ w'.cell? ⟨nb, 3, none⟩ = some (.slice A9 (cmdW X.suf raw im name X.ways).length c9) ∧ w'.cell? ⟨nb, 4, none⟩ = some (.slice none 0 0) ∧ w'.cell? ⟨nb, 5, none⟩ = some (.string im) ∧ w'.cell? ⟨nb, 6, none⟩ = some (.bool false) ∧ w'.cell? ⟨nb, 7, none⟩ = some (.bool b7) ∧ w'.cell? ⟨nb, 8, none⟩ = some (.bool b8) ∧ w'.cell? ⟨nb, 9, none⟩ = some (.bool b9) ∧ w'.cell? ⟨X.b, 3, none⟩ = some (.map (some X.fb)) ∧ (Instr.lookup 61 (.map (some X.fb)) (.string name) false).run Try.prog w' = .ok (.bool fl) w')) [(.load, 0), (.pure, 1), (.pure, 2), (.pure, 3), (.load, 4), (.pure, 5), (.pure, 6), (.pure, 7), (.pure, 8), (.load, 9), (.pure, 10), (.pure, 11), (.pure, 12), (.pure, 13), (.pure, 14), (.load, 15), (.pure, 16), (.load, 17), (.pure, 18), (.eff, 19), (.pure, 20)] (by kernel_rfl) rfl (by kernel_rfl) rfl (fun _ _ _ _ _ h => h) hS0 ?_
            have hb9 := HMd.out.at_ 4 rfl
            have z0 := Blk.cell_ hb9 0
            have fz0 := Blk.frozen hb9 0
            have z1 := Blk.cell_ hb9 1
            have fz1 := Blk.frozen hb9 1
            have z2 := Blk.cell_ hb9 2
            have fz2 := Blk.frozen hb9 2
            have z3 := Blk.cell_ hb9 3
            have fz3 := Blk.frozen hb9 3
            have z4 := Blk.cell_ hb9 4
            have fz4 := Blk.frozen hb9 4
            have z5 := Blk.cell_ hb9 5
            have fz5 := Blk.frozen hb9 5
            have z6 := Blk.cell_ hb9 6
            have fz6 := Blk.frozen hb9 6
            have z7 := Blk.cell_ hb9 7
            have fz7 := Blk.frozen hb9 7
            have z8 := Blk.cell_ hb9 8
            have fz8 := Blk.frozen hb9 8
            have z9 := Blk.cell_ hb9 9
            have fz9 := Blk.frozen hb9 9
            simp only [List.getElem?_toArray, List.getElem?_cons_succ, List.getElem?_cons_zero] at z0 z1 z2 z3 z4 z5 z6 z7 z8 z9
            clear hbn hbX hfl2 hS0 HMo n2 nf2 hb9
            generalize World.drew _ = W10 at *
            repeat (first | (refine plan_pure (v := ?_) (a' := ?_) rfl rfl rfl ?_ ?_ ?_; rotate_left 2; (focus (intro w'; go_simp; with_reducible rfl)); (focus (simp only [Act.put, List.setIfInBounds_toArray, List.set_cons_zero, List.set_cons_succ]; rfl))) | (refine plan_load (v := ?_) (a' := ?_) rfl rfl rfl ?_ ?_ ?_; rotate_left 2; (focus (intro w' hw'; obtain ⟨q0, q1, q2, q3, q4, q5, q6, q7, q8, q9, q10, q11⟩ := hw'.out; clear hw'; go_simp; with_reducible rfl)); (focus (simp only [Act.put, List.setIfInBounds_toArray, List.set_cons_zero, List.set_cons_succ]; rfl))) | (refine plan_skip rfl rfl (by decide +kernel) (by simp only [Act.put, List.setIfInBounds_toArray, List.set_cons_zero, List.set_cons_succ]; rfl) ?_) | (refine plan_skip (a' := ?_) rfl rfl rfl ?_ ?_; rotate_left 1; (focus (simp only [Act.put, List.setIfInBounds_toArray, List.set_cons_zero, List.set_cons_succ]; rfl))) | (refine plan_skipL (a' := ?_) rfl rfl rfl ?_ ?_; rotate_left 1; (focus (simp only [Act.put, List.setIfInBounds_toArray, List.set_cons_zero, List.set_cons_succ]; rfl))))
            refine plan_eff rfl (fun K hK => ?_)
            go_wp2_with fail
            have HMe := HMd.out.psel (L := [_, _, _, _, _]) [4, 0, 1, 2] 5 rfl (by decide)
            clear HMd
            have G0 : Mem fp w0 (Blk nb0 38 #[.string ⟨#[]⟩, .int .i64 0, .slice none 0 0, .slice none 0 0, .slice none 0 0, .string ⟨#[]⟩, .bool false, .bool false, .bool false, .bool false] :: ([Blk nb 38 #[.string name, .int .i64 r.kind, .slice A7 (srcB (im :: r.src)).length c7, .slice A9 (cmdW X.suf raw im name X.ways).length c9, .slice none 0 0, .string im, .bool false, .bool b7, .bool b8, .bool b9], StrRow (.slice A7 (srcB (im :: r.src)).length c7) (srcB (im :: r.src)), StrRow (.slice A9 (cmdW X.suf raw im name X.ways).length c9) (cmdW X.suf raw im name X.ways)] ++ ({ X with links := L } : BS).mem F)) W10 := HMe
            clear HMe
            have G1 : Mem fp w0 (Blk nb0 38 #[.string name, .int .i64 0, .slice none 0 0, .slice none 0 0, .slice none 0 0, .string ⟨#[]⟩, .bool false, .bool false, .bool false, .bool false] :: ([Blk nb 38 #[.string name, .int .i64 r.kind, .slice A7 (srcB (im :: r.src)).length c7, .slice A9 (cmdW X.suf raw im name X.ways).length c9, .slice none 0 0, .string im, .bool false, .bool b7, .bool b8, .bool b9], StrRow (.slice A7 (srcB (im :: r.src)).length c7) (srcB (im :: r.src)), StrRow (.slice A9 (cmdW X.suf raw im name X.ways).length c9) (cmdW X.suf raw im name X.ways)] ++ ({ X with links := L } : BS).mem F)) _ := G0.blkSet 0 (.string name)
            clear G0
            have G2 : Mem fp w0 (Blk nb0 38 #[.string name, .int .i64 r.kind, .slice none 0 0, .slice none 0 0, .slice none 0 0, .string ⟨#[]⟩, .bool false, .bool false, .bool false, .bool false] :: ([Blk nb 38 #[.string name, .int .i64 r.kind, .slice A7 (srcB (im :: r.src)).length c7, .slice A9 (cmdW X.suf raw im name X.ways).length c9, .slice none 0 0, .string im, .bool false, .bool b7, .bool b8, .bool b9], StrRow (.slice A7 (srcB (im :: r.src)).length c7) (srcB (im :: r.src)), StrRow (.slice A9 (cmdW X.suf raw im name X.ways).length c9) (cmdW X.suf raw im name X.ways)] ++ ({ X with links := L } : BS).mem F)) _ := G1.blkSet 1 (.int .i64 r.kind)
            clear G1
            have G3 : Mem fp w0 (Blk nb0 38 #[.string name, .int .i64 r.kind, .slice A7 (srcB (im :: r.src)).length c7, .slice none 0 0, .slice none 0 0, .string ⟨#[]⟩, .bool false, .bool false, .bool false, .bool false] :: ([Blk nb 38 #[.string name, .int .i64 r.kind, .slice A7 (srcB (im :: r.src)).length c7, .slice A9 (cmdW X.suf raw im name X.ways).length c9, .slice none 0 0, .string im, .bool false, .bool b7, .bool b8, .bool b9], StrRow (.slice A7 (srcB (im :: r.src)).length c7) (srcB (im :: r.src)), StrRow (.slice A9 (cmdW X.suf raw im name X.ways).length c9) (cmdW X.suf raw im name X.ways)] ++ ({ X with links := L } : BS).mem F)) _ := G2.blkSet 2 (.slice A7 (srcB (im :: r.src)).length c7)
            clear G2
            have G4 : Mem fp w0 (Blk nb0 38 #[.string name, .int .i64 r.kind, .slice A7 (srcB (im :: r.src)).length c7, .slice A9 (cmdW X.suf raw im name X.ways).length c9, .slice none 0 0, .string ⟨#[]⟩, .bool false, .bool false, .bool false, .bool false] :: ([Blk nb 38 #[.string name, .int .i64 r.kind, .slice A7 (srcB (im :: r.src)).length c7, .slice A9 (cmdW X.suf raw im name X.ways).length c9, .slice none 0 0, .string im, .bool false, .bool b7, .bool b8, .bool b9], StrRow (.slice A7 (srcB (im :: r.src)).length c7) (srcB (im :: r.src)), StrRow (.slice A9 (cmdW X.suf raw im name X.ways).length c9) (cmdW X.suf raw im name X.ways)] ++ ({ X with links := L } : BS).mem F)) _ := G3.blkSet 3 (.slice A9 (cmdW X.suf raw im name X.ways).length c9)
            clear G3
            have G5 : Mem fp w0 (Blk nb0 38 #[.string name, .int .i64 r.kind, .slice A7 (srcB (im :: r.src)).length c7, .slice A9 (cmdW X.suf raw im name X.ways).length c9, .slice none 0 0, .string ⟨#[]⟩, .bool false, .bool false, .bool false, .bool false] :: ([Blk nb 38 #[.string name, .int .i64 r.kind, .slice A7 (srcB (im :: r.src)).length c7, .slice A9 (cmdW X.suf raw im name X.ways).length c9, .slice none 0 0, .string im, .bool false, .bool b7, .bool b8, .bool b9], StrRow (.slice A7 (srcB (im :: r.src)).length c7) (srcB (im :: r.src)), StrRow (.slice A9 (cmdW X.suf raw im name X.ways).length c9) (cmdW X.suf raw im name X.ways)] ++ ({ X with links := L } : BS).mem F)) _ := G4.blkSet 4 (.slice none 0 0)
            clear G4
            have G6 : Mem fp w0 (Blk nb0 38 #[.string name, .int .i64 r.kind, .slice A7 (srcB (im :: r.src)).length c7, .slice A9 (cmdW X.suf raw im name X.ways).length c9, .slice none 0 0, .string im, .bool false, .bool false, .bool false, .bool false] :: ([Blk nb 38 #[.string name, .int .i64 r.kind, .slice A7 (srcB (im :: r.src)).length c7, .slice A9 (cmdW X.suf raw im name X.ways).length c9, .slice none 0 0, .string im, .bool false, .bool b7, .bool b8, .bool b9], StrRow (.slice A7 (srcB (im :: r.src)).length c7) (srcB (im :: r.src)), StrRow (.slice A9 (cmdW X.suf raw im name X.ways).length c9) (cmdW X.suf raw im name X.ways)] ++ ({ X with links := L } : BS).mem F)) _ := G5.blkSet 5 (.string im)
            clear G5
            have G7 : Mem fp w0 (Blk nb0 38 #[.string name, .int .i64 r.kind, .slice A7 (srcB (im :: r.src)).length c7, .slice A9 (cmdW X.suf raw im name X.ways).length c9, .slice none 0 0, .string im, .bool false, .bool false, .bool false, .bool false] :: ([Blk nb 38 #[.string name, .int .i64 r.kind, .slice A7 (srcB (im :: r.src)).length c7, .slice A9 (cmdW X.suf raw im name X.ways).length c9, .slice none 0 0, .string im, .bool false, .bool b7, .bool b8, .bool b9], StrRow (.slice A7 (srcB (im :: r.src)).length c7) (srcB (im :: r.src)), StrRow (.slice A9 (cmdW X.suf raw im name X.ways).length c9) (cmdW X.suf raw im name X.ways)] ++ ({ X with links := L } : BS).mem F)) _ := G6.blkSet 6 (.bool false)
            clear G6
            have G8 : Mem fp w0 (Blk nb0 38 #[.string name, .int .i64 r.kind, .slice A7 (srcB (im :: r.src)).length c7, .slice A9 (cmdW X.suf raw im name X.ways).length c9, .slice none 0 0, .string im, .bool false, .bool b7, .bool false, .bool false] :: ([Blk nb 38 #[.string name, .int .i64 r.kind, .slice A7 (srcB (im :: r.src)).length c7, .slice A9 (cmdW X.suf raw im name X.ways).length c9, .slice none 0 0, .string im, .bool false, .bool b7, .bool b8, .bool b9], StrRow (.slice A7 (srcB (im :: r.src)).length c7) (srcB (im :: r.src)), StrRow (.slice A9 (cmdW X.suf raw im name X.ways).length c9) (cmdW X.suf raw im name X.ways)] ++ ({ X with links := L } : BS).mem F)) _ := G7.blkSet 7 (.bool b7)
            clear G7
            have G9 : Mem fp w0 (Blk nb0 38 #[.string name, .int .i64 r.kind, .slice A7 (srcB (im :: r.src)).length c7, .slice A9 (cmdW X.suf raw im name X.ways).length c9, .slice none 0 0, .string im, .bool false, .bool b7, .bool b8, .bool false] :: ([Blk nb 38 #[.string name, .int .i64 r.kind, .slice A7 (srcB (im :: r.src)).length c7, .slice A9 (cmdW X.suf raw im name X.ways).length c9, .slice none 0 0, .string im, .bool false, .bool b7, .bool b8, .bool b9], StrRow (.slice A7 (srcB (im :: r.src)).length c7) (srcB (im :: r.src)), StrRow (.slice A9 (cmdW X.suf raw im name X.ways).length c9) (cmdW X.suf raw im name X.ways)] ++ ({ X with links := L } : BS).mem F)) _ := G8.blkSet 8 (.bool b8)
            clear G8
            have G10 : Mem fp w0 (Blk nb0 38 #[.string name, .int .i64 r.kind, .slice A7 (srcB (im :: r.src)).length c7, .slice A9 (cmdW X.suf raw im name X.ways).length c9, .slice none 0 0, .string im, .bool false, .bool b7, .bool b8, .bool b9] :: ([Blk nb 38 #[.string name, .int .i64 r.kind, .slice A7 (srcB (im :: r.src)).length c7, .slice A9 (cmdW X.suf raw im name X.ways).length c9, .slice none 0 0, .string im, .bool false, .bool b7, .bool b8, .bool b9], StrRow (.slice A7 (srcB (im :: r.src)).length c7) (srcB (im :: r.src)), StrRow (.slice A9 (cmdW X.suf raw im name X.ways).length c9) (cmdW X.suf raw im name X.ways)] ++ ({ X with links := L } : BS).mem F)) _ := G9.blkSet 9 (.bool b9)
            clear G9
            generalize World.setCell _ _ _ = W11 at *
            have hbn := G10.at_ 1 rfl
            have hbX : (Blk X.b 67 X.cells).ok _ := G10.at_ 4 rfl
            have hfl2 := lookF X (G10.at_ 7 rfl) hfl.out
            have hS1 := Lib.hid (show _ ∧ _ ∧ _ ∧ _ ∧ _ ∧ _ ∧ _ ∧ _ ∧ _ ∧ _ ∧ _ ∧ _ from ⟨Blk.cell_ hbn 0, Blk.cell_ hbn 1, Blk.cell_ hbn 2, Blk.cell_ hbn 3, Blk.cell_ hbn 4, Blk.cell_ hbn 5, Blk.cell_ hbn 6, Blk.cell_ hbn 7, Blk.cell_ hbn 8, Blk.cell_ hbn 9, Blk.cell_ hbX 3, hfl2⟩)
            refine hK _ _ hS1 ?_
            clear hK hS1 hbn hbX hfl2
            repeat (first | (refine plan_pure (v := ?_) (a' := ?_) rfl rfl rfl ?_ ?_ ?_; rotate_left 2; (focus (intro w'; go_simp; with_reducible rfl)); (focus (simp only [Act.put, List.setIfInBounds_toArray, List.set_cons_zero, List.set_cons_succ]; rfl))) | (refine plan_load (v := ?_) (a' := ?_) rfl rfl rfl ?_ ?_ ?_; rotate_left 2; (focus (intro w' hw'; obtain ⟨q0, q1, q2, q3, q4, q5, q6, q7, q8, q9, q10, q11⟩ := hw'.out; clear hw'; go_simp; with_reducible rfl)); (focus (simp only [Act.put, List.setIfInBounds_toArray, List.set_cons_zero, List.set_cons_succ]; rfl))) | (refine plan_skip rfl rfl (by decide +kernel) (by simp only [Act.put, List.setIfInBounds_toArray, List.set_cons_zero, List.set_cons_succ]; rfl) ?_) | (refine plan_skip (a' := ?_) rfl rfl rfl ?_ ?_; rotate_left 1; (focus (simp only [Act.put, List.setIfInBounds_toArray, List.set_cons_zero, List.set_cons_succ]; rfl))) | (refine plan_skipL (a' := ?_) rfl rfl rfl ?_ ?_; rotate_left 1; (focus (simp only [Act.put, List.setIfInBounds_toArray, List.set_cons_zero, List.set_cons_succ]; rfl))))
            refine plan_done ?_
            have y0 := Blk.cell_ G10.head 0
            have y1 := Blk.cell_ G10.head 1
            have y2 := Blk.cell_ G10.head 2
            have y3 := Blk.cell_ G10.head 3
            have y4 := Blk.cell_ G10.head 4
            have y5 := Blk.cell_ G10.head 5
            have y6 := Blk.cell_ G10.head 6
            have y7 := Blk.cell_ G10.head 7
            have y8 := Blk.cell_ G10.head 8
            have y9 := Blk.cell_ G10.head 9
            clear z0 fz0 z1 fz1 z2 fz2 z3 fz3 z4 fz4 z5 fz5 z6 fz6 z7 fz7 z8 fz8 z9 fz9
            go_wp2_with fail
            (try simp only [Exit.inBlock, Exit.then])
            refine bodyPost_ret (v := .tuple #[.agg #[.string name, .int .i64 r.kind, .slice A7 (srcB (im :: r.src)).length c7, .slice A9 (cmdW X.suf raw im name X.ways).length c9, .slice none 0 0, .string im, .bool false, .bool b7, .bool b8, .bool b9], .bool true]) ?hr rfl ?_
            case hr =>
              unfold results
              go_simp
            rw [HB.out]
            exact ⟨_, _, rfl, G10.tail.tail⟩
          | false =>
            have HMd := Lib.hid ((HMo.out.psel (L := [_, _, _, _, _]) [1, 0, 2, 3, 4] 5 rfl (by decide)).blkSet 2 (.slice A7 (srcB (im :: r.src)).length c7)).drew
            have hbn := HMd.out.at_ 0 rfl
            have hbX : (Blk X.b 67 X.cells).ok _ := HMd.out.at_ 5 rfl
            have hfl2 := lookF X (HMd.out.at_ 8 rfl) hfl.out
            have hS0 := Lib.hid (show _ ∧ _ ∧ _ ∧ _ ∧ _ ∧ _ ∧ _ ∧ _ ∧ _ ∧ _ ∧ _ ∧ _ from ⟨Blk.cell_ hbn 0, Blk.cell_ hbn 1, Blk.cell_ hbn 2, Blk.cell_ hbn 3, Blk.cell_ hbn 4, Blk.cell_ hbn 5, Blk.cell_ hbn 6, Blk.cell_ hbn 7, Blk.cell_ hbn 8, Blk.cell_ hbn 9, Blk.cell_ hbX 3, hfl2⟩)
            refine wp_plan [] (S := fun w' => Hid (w'.cell? ⟨nb, 0, none⟩ = some (.string name) ∧ w'.cell? ⟨nb, 1, none⟩ = some (.int .i64 r.kind) ∧ w'.cell? ⟨nb, 2, none⟩ = some (.slice A7 (srcB (im :: r.src)).length c7) ∧ w'.cell? ⟨nb, 3, none⟩ = some (.slice A9 (cmdW X.suf raw im name X.ways).length c9) ∧ w'.cell? ⟨nb, 4, none⟩ = some (.slice none 0 0) ∧ w'.cell? ⟨nb, 5, none⟩ = some (.string im) ∧ w'.cell? ⟨nb, 6, none⟩ = some (.bool false) ∧ w'.cell? ⟨nb, 7, none⟩ = some (.bool b7) ∧ w'.cell? ⟨nb, 8, none⟩ = some (.bool b8) ∧ w'.cell? ⟨nb, 9, none⟩ = some (.bool b9) ∧ w'.cell? ⟨X.b, 3, none⟩ = some (.map (some X.fb)) ∧ (Instr.lookup 61 (.map (some X.fb)) (.string name) false).run Try.prog w' = .ok (.bool fl) w')) [(.load, 0), (.pure, 1), (.pure, 2), (.pure, 3), (.load, 4), (.pure, 5), (.pure, 6), (.pure, 7), (.pure, 8), (.load, 9), (.pure, 10), (.pure, 11), (.pure, 12), (.pure, 13), (.pure, 14), (.load, 15), (.pure, 16), (.load, 17), (.pure, 18), (.eff, 19), (.pure, 20)] (by kernel_rfl) rfl (by kernel_rfl) rfl (fun _ _ _ _ _ h => h) hS0 ?_
            have hb9 := HMd.out.at_ 4 rfl
            have z0 := Blk.cell_ hb9 0
            have fz0 := Blk.frozen hb9 0
            have z1 := Blk.cell_ hb9 1
            have fz1 := Blk.frozen hb9 1
            have z2 := Blk.cell_ hb9 2
            have fz2 := Blk.frozen hb9 2
            have z3 := Blk.cell_ hb9 3
            have fz3 := Blk.frozen hb9 3
            have z4 := Blk.cell_ hb9 4
            have fz4 := Blk.frozen hb9 4
            have z5 := Blk.cell_ hb9 5
            have fz5 := Blk.frozen hb9 5
            have z6 := Blk.cell_ hb9 6
            have fz6 := Blk.frozen hb9 6
            have z7 := Blk.cell_ hb9 7
            have fz7 := Blk.frozen hb9 7
            have z8 := Blk.cell_ hb9 8
            have fz8 := Blk.frozen hb9 8
            have z9 := Blk.cell_ hb9 9
            have fz9 := Blk.frozen hb9 9
            simp only [List.getElem?_toArray, List.getElem?_cons_succ, List.getElem?_cons_zero] at z0 z1 z2 z3 z4 z5 z6 z7 z8 z9
            clear hbn hbX hfl2 hS0 HMo n2 nf2 hb9
            generalize World.drew _ = W10 at *
            repeat (first | (refine plan_pure (v := ?_) (a' := ?_) rfl rfl rfl ?_ ?_ ?_; rotate_left 2; (focus (intro w'; go_simp; with_reducible rfl)); (focus (simp only [Act.put, List.setIfInBounds_toArray, List.set_cons_zero, List.set_cons_succ]; rfl))) | (refine plan_load (v := ?_) (a' := ?_) rfl rfl rfl ?_ ?_ ?_; rotate_left 2; (focus (intro w' hw'; obtain ⟨q0, q1, q2, q3, q4, q5, q6, q7, q8, q9, q10, q11⟩ := hw'.out; clear hw'; go_simp; with_reducible rfl)); (focus (simp only [Act.put, List.setIfInBounds_toArray, List.set_cons_zero, List.set_cons_succ]; rfl))) | (refine plan_skip rfl rfl (by decide +kernel) (by simp only [Act.put, List.setIfInBounds_toArray, List.set_cons_zero, List.set_cons_succ]; rfl) ?_) | (refine plan_skip (a' := ?_) rfl rfl rfl ?_ ?_; rotate_left 1; (focus (simp only [Act.put, List.setIfInBounds_toArray, List.set_cons_zero, List.set_cons_succ]; rfl))) | (refine plan_skipL (a' := ?_) rfl rfl rfl ?_ ?_; rotate_left 1; (focus (simp only [Act.put, List.setIfInBounds_toArray, List.set_cons_zero, List.set_cons_succ]; rfl))))
            refine plan_eff rfl (fun K hK => ?_)
            go_wp2_with fail
            have HMe := HMd.out.psel (L := [_, _, _, _, _]) [4, 0, 1, 2] 5 rfl (by decide)
            clear HMd
            have G0 : Mem fp w0 (Blk nb0 38 #[.string ⟨#[]⟩, .int .i64 0, .slice none 0 0, .slice none 0 0, .slice none 0 0, .string ⟨#[]⟩, .bool false, .bool false, .bool false, .bool false] :: ([Blk nb 38 #[.string name, .int .i64 r.kind, .slice A7 (srcB (im :: r.src)).length c7, .slice A9 (cmdW X.suf raw im name X.ways).length c9, .slice none 0 0, .string im, .bool false, .bool b7, .bool b8, .bool b9], StrRow (.slice A7 (srcB (im :: r.src)).length c7) (srcB (im :: r.src)), StrRow (.slice A9 (cmdW X.suf raw im name X.ways).length c9) (cmdW X.suf raw im name X.ways)] ++ ({ X with links := L } : BS).mem F)) W10 := HMe
            clear HMe
            have G1 : Mem fp w0 (Blk nb0 38 #[.string name, .int .i64 0, .slice none 0 0, .slice none 0 0, .slice none 0 0, .string ⟨#[]⟩, .bool false, .bool false, .bool false, .bool false] :: ([Blk nb 38 #[.string name, .int .i64 r.kind, .slice A7 (srcB (im :: r.src)).length c7, .slice A9 (cmdW X.suf raw im name X.ways).length c9, .slice none 0 0, .string im, .bool false, .bool b7, .bool b8, .bool b9], StrRow (.slice A7 (srcB (im :: r.src)).length c7) (srcB (im :: r.src)), StrRow (.slice A9 (cmdW X.suf raw im name X.ways).length c9) (cmdW X.suf raw im name X.ways)] ++ ({ X with links := L } : BS).mem F)) _ := G0.blkSet 0 (.string name)
            clear G0
            have G2 : Mem fp w0 (Blk nb0 38 #[.string name, .int .i64 r.kind, .slice none 0 0, .slice none 0 0, .slice none 0 0, .string ⟨#[]⟩, .bool false, .bool false, .bool false, .bool false] :: ([Blk nb 38 #[.string name, .int .i64 r.kind, .slice A7 (srcB (im :: r.src)).length c7, .slice A9 (cmdW X.suf raw im name X.ways).length c9, .slice none 0 0, .string im, .bool false, .bool b7, .bool b8, .bool b9], StrRow (.slice A7 (srcB (im :: r.src)).length c7) (srcB (im :: r.src)), StrRow (.slice A9 (cmdW X.suf raw im name X.ways).length c9) (cmdW X.suf raw im name X.ways)] ++ ({ X with links := L } : BS).mem F)) _ := G1.blkSet 1 (.int .i64 r.kind)
            clear G1
            have G3 : Mem fp w0 (Blk nb0 38 #[.string name, .int .i64 r.kind, .slice A7 (srcB (im :: r.src)).length c7, .slice none 0 0, .slice none 0 0, .string ⟨#[]⟩, .bool false, .bool false, .bool false, .bool false] :: ([Blk nb 38 #[.string name, .int .i64 r.kind, .slice A7 (srcB (im :: r.src)).length c7, .slice A9 (cmdW X.suf raw im name X.ways).length c9, .slice none 0 0, .string im, .bool false, .bool b7, .bool b8, .bool b9], StrRow (.slice A7 (srcB (im :: r.src)).length c7) (srcB (im :: r.src)), StrRow (.slice A9 (cmdW X.suf raw im name X.ways).length c9) (cmdW X.suf raw im name X.ways)] ++ ({ X with links := L } : BS).mem F)) _ := G2.blkSet 2 (.slice A7 (srcB (im :: r.src)).length c7)
            clear G2
            have G4 : Mem fp w0 (Blk nb0 38 #[.string name, .int .i64 r.kind, .slice A7 (srcB (im :: r.src)).length c7, .slice A9 (cmdW X.suf raw im name X.ways).length c9, .slice none 0 0, .string ⟨#[]⟩, .bool false, .bool false, .bool false, .bool false] :: ([Blk nb 38 #[.string name, .int .i64 r.kind, .slice A7 (srcB (im :: r.src)).length c7, .slice A9 (cmdW X.suf raw im name X.ways).length c9, .slice none 0 0, .string im, .bool false, .bool b7, .bool b8, .bool b9], StrRow (.slice A7 (srcB (im :: r.src)).length c7) (srcB (im :: r.src)), StrRow (.slice A9 (cmdW X.suf raw im name X.ways).length c9) (cmdW X.suf raw im name X.ways)] ++ ({ X with links := L } : BS).mem F)) _ := G3.blkSet 3 (.slice A9 (cmdW X.suf raw im name X.ways).length c9)
            clear G3
            have G5 : Mem fp w0 (Blk nb0 38 #[.string name, .int .i64 r.kind, .slice A7 (srcB (im :: r.src)).length c7, .slice A9 (cmdW X.suf raw im name X.ways).length c9, .slice none 0 0, .string ⟨#[]⟩, .bool false, .bool false, .bool false, .bool false] :: ([Blk nb 38 #[.string name, .int .i64 r.kind, .slice A7 (srcB (im :: r.src)).length c7, .slice A9 (cmdW X.suf raw im name X.ways).length c9, .slice none 0 0, .string im, .bool false, .bool b7, .bool b8, .bool b9], StrRow (.slice A7 (srcB (im :: r.src)).length c7) (srcB (im :: r.src)), StrRow (.slice A9 (cmdW X.suf raw im name X.ways).length c9) (cmdW X.suf raw im name X.ways)] ++ ({ X with links := L } : BS).mem F)) _ := G4.blkSet 4 (.slice none 0 0)
            clear G4
            have G6 : Mem fp w0 (Blk nb0 38 #[.string name, .int .i64 r.kind, .slice A7 (srcB (im :: r.src)).length c7, .slice A9 (cmdW X.suf raw im name X.ways).length c9, .slice none 0 0, .string im, .bool false, .bool false, .bool false, .bool false] :: ([Blk nb 38 #[.string name, .int .i64 r.kind, .slice A7 (srcB (im :: r.src)).length c7, .slice A9 (cmdW X.suf raw im name X.ways).length c9, .slice none 0 0, .string im, .bool false, .bool b7, .bool b8, .bool b9], StrRow (.slice A7 (srcB (im :: r.src)).length c7) (srcB (im :: r.src)), StrRow (.slice A9 (cmdW X.suf raw im name X.ways).length c9) (cmdW X.suf raw im name X.ways)] ++ ({ X with links := L } : BS).mem F)) _ := G5.blkSet 5 (.string im)
            clear G5
            have G7 : Mem fp w0 (Blk nb0 38 #[.string name, .int .i64 r.kind, .slice A7 (srcB (im :: r.src)).length c7, .slice A9 (cmdW X.suf raw im name X.ways).length c9, .slice none 0 0, .string im, .bool false, .bool false, .bool false, .bool false] :: ([Blk nb 38 #[.string name, .int .i64 r.kind, .slice A7 (srcB (im :: r.src)).length c7, .slice A9 (cmdW X.suf raw im name X.ways).length c9, .slice none 0 0, .string im, .bool false, .bool b7, .bool b8, .bool b9], StrRow (.slice A7 (srcB (im :: r.src)).length c7) (srcB (im :: r.src)), StrRow (.slice A9 (cmdW X.suf raw im name X.ways).length c9) (cmdW X.suf raw im name X.ways)] ++ ({ X with links := L } : BS).mem F)) _ := G6.blkSet 6 (.bool false)
            clear G6
            have G8 : Mem fp w0 (Blk nb0 38 #[.string name, .int .i64 r.kind, .slice A7 (srcB (im :: r.src)).length c7, .slice A9 (cmdW X.suf raw im name X.ways).length c9, .slice none 0 0, .string im, .bool false, .bool b7, .bool false, .bool false] :: ([Blk nb 38 #[.string name, .int .i64 r.kind, .slice A7 (srcB (im :: r.src)).length c7, .slice A9 (cmdW X.suf raw im name X.ways).length c9, .slice none 0 0, .string im, .bool false, .bool b7, .bool b8, .bool b9], StrRow (.slice A7 (srcB (im :: r.src)).length c7) (srcB (im :: r.src)), StrRow (.slice A9 (cmdW X.suf raw im name X.ways).length c9) (cmdW X.suf raw im name X.ways)] ++ ({ X with links := L } : BS).mem F)) _ := G7.blkSet 7 (.bool b7)
            clear G7
            have G9 : Mem fp w0 (Blk nb0 38 #[.string name, .int .i64 r.kind, .slice A7 (srcB (im :: r.src)).length c7, .slice A9 (cmdW X.suf raw im name X.ways).length c9, .slice none 0 0, .string im, .bool false, .bool b7, .bool b8, .bool false] :: ([Blk nb 38 #[.string name, .int .i64 r.kind, .slice A7 (srcB (im :: r.src)).length c7, .slice A9 (cmdW X.suf raw im name X.ways).length c9, .slice none 0 0, .string im, .bool false, .bool b7, .bool b8, .bool b9], StrRow (.slice A7 (srcB (im :: r.src)).length c7) (srcB (im :: r.src)), StrRow (.slice A9 (cmdW X.suf raw im name X.ways).length c9) (cmdW X.suf raw im name X.ways)] ++ ({ X with links := L } : BS).mem F)) _ := G8.blkSet 8 (.bool b8)
            clear G8
            have G10 : Mem fp w0 (Blk nb0 38 #[.string name, .int .i64 r.kind, .slice A7 (srcB (im :: r.src)).length c7, .slice A9 (cmdW X.suf raw im name X.ways).length c9, .slice none 0 0, .string im, .bool false, .bool b7, .bool b8, .bool b9] :: ([Blk nb 38 #[.string name, .int .i64 r.kind, .slice A7 (srcB (im :: r.src)).length c7, .slice A9 (cmdW X.suf raw im name X.ways).length c9, .slice none 0 0, .string im, .bool false, .bool b7, .bool b8, .bool b9], StrRow (.slice A7 (srcB (im :: r.src)).length c7) (srcB (im :: r.src)), StrRow (.slice A9 (cmdW X.suf raw im name X.ways).length c9) (cmdW X.suf raw im name X.ways)] ++ ({ X with links := L } : BS).mem F)) _ := G9.blkSet 9 (.bool b9)
            clear G9
            generalize World.setCell _ _ _ = W11 at *
            have hbn := G10.at_ 1 rfl
            have hbX : (Blk X.b 67 X.cells).ok _ := G10.at_ 4 rfl
            have hfl2 := lookF X (G10.at_ 7 rfl) hfl.out
            have hS1 := Lib.hid (show _ ∧ _ ∧ _ ∧ _ ∧ _ ∧ _ ∧ _ ∧ _ ∧ _ ∧ _ ∧ _ ∧ _ from ⟨Blk.cell_ hbn 0, Blk.cell_ hbn 1, Blk.cell_ hbn 2, Blk.cell_ hbn 3, Blk.cell_ hbn 4, Blk.cell_ hbn 5, Blk.cell_ hbn 6, Blk.cell_ hbn 7, Blk.cell_ hbn 8, Blk.cell_ hbn 9, Blk.cell_ hbX 3, hfl2⟩)
            refine hK _ _ hS1 ?_
            clear hK hS1 hbn hbX hfl2
            repeat (first | (refine plan_pure (v := ?_) (a' := ?_) rfl rfl rfl ?_ ?_ ?_; rotate_left 2; (focus (intro w'; go_simp; with_reducible rfl)); (focus (simp only [Act.put, List.setIfInBounds_toArray, List.set_cons_zero, List.set_cons_succ]; rfl))) | (refine plan_load (v := ?_) (a' := ?_) rfl rfl rfl ?_ ?_ ?_; rotate_left 2; (focus (intro w' hw'; obtain ⟨q0, q1, q2, q3, q4, q5, q6, q7, q8, q9, q10, q11⟩ := hw'.out; clear hw'; go_simp; with_reducible rfl)); (focus (simp only [Act.put, List.setIfInBounds_toArray, List.set_cons_zero, List.set_cons_succ]; rfl))) | (refine plan_skip rfl rfl (by decide +kernel) (by simp only [Act.put, List.setIfInBounds_toArray, List.set_cons_zero, List.set_cons_succ]; rfl) ?_) | (refine plan_skip (a' := ?_) rfl rfl rfl ?_ ?_; rotate_left 1; (focus (simp only [Act.put, List.setIfInBounds_toArray, List.set_cons_zero, List.set_cons_succ]; rfl))) | (refine plan_skipL (a' := ?_) rfl rfl rfl ?_ ?_; rotate_left 1; (focus (simp only [Act.put, List.setIfInBounds_toArray, List.set_cons_zero, List.set_cons_succ]; rfl))))
            refine plan_done ?_
            have y0 := Blk.cell_ G10.head 0
            have y1 := Blk.cell_ G10.head 1
            have y2 := Blk.cell_ G10.head 2
            have y3 := Blk.cell_ G10.head 3
            have y4 := Blk.cell_ G10.head 4
            have y5 := Blk.cell_ G10.head 5
            have y6 := Blk.cell_ G10.head 6
            have y7 := Blk.cell_ G10.head 7
            have y8 := Blk.cell_ G10.head 8
            have y9 := Blk.cell_ G10.head 9
            clear z0 fz0 z1 fz1 z2 fz2 z3 fz3 z4 fz4 z5 fz5 z6 fz6 z7 fz7 z8 fz8 z9 fz9
            go_wp2_with fail
            (try simp only [Exit.inBlock, Exit.then])
            refine bodyPost_ret (v := .tuple #[.agg #[.string name, .int .i64 r.kind, .slice A7 (srcB (im :: r.src)).length c7, .slice A9 (cmdW X.suf raw im name X.ways).length c9, .slice none 0 0, .string im, .bool false, .bool b7, .bool b8, .bool b9], .bool true]) ?hr rfl ?_
            case hr =>
              unfold results
              go_simp
            rw [HB.out]
            exact ⟨_, _, rfl, G10.tail.tail⟩
      · have HB := Lib.hid (hNot.out hc)
        have hSo := sources_calls _ r.src _ (hsrc _ HMn.out.drop) (by omega)
        have g8 : (r.cmd.length == 0 && !b6) = false := by
          cases b6
          · have : ¬ r.cmd.length = 0 := fun h => hc ⟨h, rfl⟩
            simp [this]
          · simp
        by_cases h1 : r.cmd.length = 0
        · have o1 : ((r.cmd.length : Int) == 0) = true := by rw [h1]; rfl
          have e6 : b6 = true := by cases b6; exact absurd ⟨h1, rfl⟩ hc; rfl
          subst e6
          clear hc h1 g8 hNot hImp
          go_wp2_with (go_at_call 67; refine hSo.mono ?_; clear hSo; rintro e w2 ⟨v, rfl, hm⟩; have HMo := Lib.hid (HMn.out.got hm); have n2 := Blk.cell_ (HMo.out.at_ 1 rfl) 2; have nf2 := Blk.frozen (HMo.out.at_ 1 rfl) 2; simp only [List.getElem?_toArray, List.getElem?_cons_succ, List.getElem?_cons_zero] at n2; obtain ⟨A7, c7, e7, _⟩ := Row.any_ (HMo.out.at_ 0 rfl); subst e7; clear hm HMn rc2 rc3 n6)
          cases ok with
          | true =>
            have HMd := Lib.hid ((HMo.out.psel (L := [_, _, _, _, _]) [1, 0, 2, 3, 4] 5 rfl (by decide)).blkSet 2 (.slice A7 (srcB r.src).length c7)).drew
            have hbn := HMd.out.at_ 0 rfl
            have hbX : (Blk X.b 67 X.cells).ok _ := HMd.out.at_ 5 rfl
            have hfl2 := lookF X (HMd.out.at_ 8 rfl) hfl.out
            have hS0 := Lib.hid (show _ ∧ _ ∧ _ ∧ _ ∧ _ ∧ _ ∧ _ ∧ _ ∧ _ ∧ _ ∧ _ ∧ _ from ⟨Blk.cell_ hbn 0, Blk.cell_ hbn 1, Blk.cell_ hbn 2, Blk.cell_ hbn 3, Blk.cell_ hbn 4, Blk.cell_ hbn 5, Blk.cell_ hbn 6, Blk.cell_ hbn 7, Blk.cell_ hbn 8, Blk.cell_ hbn 9, Blk.cell_ hbX 3, hfl2⟩)
            refine wp_plan [] (S := fun w' => Hid (w'.cell? ⟨nb, 0, none⟩ = some (.string name) ∧ w'.cell? ⟨nb, 1, none⟩ = some (.int .i64 r.kind) ∧ w'.cell? ⟨nb, 2, none⟩ = some (.slice A7 (srcB r.src).length c7) ∧ w'.cell? ⟨nb, 3, none⟩ = some (.slice B1 m1 d1') ∧ w'.cell? ⟨nb, 4, none⟩ = some (.slice none 0 0) ∧ w'.cell? ⟨nb, 5, none⟩ = some (.string ⟨#[]⟩) ∧ w'.cell? ⟨nb, 6, none⟩ = some (.bool true) ∧ w'.cell? ⟨nb, 7, none⟩ = some (.bool b7) ∧ w'.cell? ⟨nb, 8, none⟩ = some (.bool b8) ∧ w'.cell? ⟨nb, 9, none⟩ = some (.bool b9) ∧ w'.cell? ⟨X.b, 3, none⟩ = some (.map (some X.fb)) ∧ (Instr.lookup 61 (.map (some X.fb)) (.string name) false).run Try.prog w' = .ok (.bool fl) w')) [(.load, 0), (.pure, 1), (.pure, 2), (.pure, 3), (.load, 4), (.pure, 5), (.pure, 6), (.pure, 7), (.pure, 8), (.load, 9), (.pure, 10), (.pure, 11), (.pure, 12), (.pure, 13), (.pure, 14), (.load, 15), (.pure, 16), (.load, 17), (.pure, 18), (.eff, 19), (.pure, 20)] (by kernel_rfl) rfl (by kernel_rfl) rfl (fun _ _ _ _ _ h => h) hS0 ?_
            have hb9 := HMd.out.at_ 4 rfl
            have z0 := Blk.cell_ hb9 0
            have fz0 := Blk.frozen hb9 0
            have z1 := Blk.cell_ hb9 1
            have fz1 := Blk.frozen hb9 1
            have z2 := Blk.cell_ hb9 2
            have fz2 := Blk.frozen hb9 2
            have z3 := Blk.cell_ hb9 3
            have fz3 := Blk.frozen hb9 3
            have z4 := Blk.cell_ hb9 4
            have fz4 := Blk.frozen hb9 4
            have z5 := Blk.cell_ hb9 5
            have fz5 := Blk.frozen hb9 5
            have z6 := Blk.cell_ hb9 6
            have fz6 := Blk.frozen hb9 6
            have z7 := Blk.cell_ hb9 7
            have fz7 := Blk.frozen hb9 7
            have z8 := Blk.cell_ hb9 8
            have fz8 := Blk.frozen hb9 8
            have z9 := Blk.cell_ hb9 9
            have fz9 := Blk.frozen hb9 9
            simp only [List.getElem?_toArray, List.getElem?_cons_succ, List.getElem?_cons_zero] at z0 z1 z2 z3 z4 z5 z6 z7 z8 z9
            clear hbn hbX hfl2 hS0 HMo n2 nf2 hb9
            generalize World.drew _ = W10 at *
            repeat (first | (refine plan_pure (v := ?_) (a' := ?_) rfl rfl rfl ?_ ?_ ?_; rotate_left 2; (focus (intro w'; go_simp; with_reducible rfl)); (focus (simp only [Act.put, List.setIfInBounds_toArray, List.set_cons_zero, List.set_cons_succ]; rfl))) | (refine plan_load (v := ?_) (a' := ?_) rfl rfl rfl ?_ ?_ ?_; rotate_left 2; (focus (intro w' hw'; obtain ⟨q0, q1, q2, q3, q4, q5, q6, q7, q8, q9, q10, q11⟩ := hw'.out; clear hw'; go_simp; with_reducible rfl)); (focus (simp only [Act.put, List.setIfInBounds_toArray, List.set_cons_zero, List.set_cons_succ]; rfl))) | (refine plan_skip rfl rfl (by decide +kernel) (by simp only [Act.put, List.setIfInBounds_toArray, List.set_cons_zero, List.set_cons_succ]; rfl) ?_) | (refine plan_skip (a' := ?_) rfl rfl rfl ?_ ?_; rotate_left 1; (focus (simp only [Act.put, List.setIfInBounds_toArray, List.set_cons_zero, List.set_cons_succ]; rfl))) | (refine plan_skipL (a' := ?_) rfl rfl rfl ?_ ?_; rotate_left 1; (focus (simp only [Act.put, List.setIfInBounds_toArray, List.set_cons_zero, List.set_cons_succ]; rfl))))
            refine plan_eff rfl (fun K hK => ?_)
            go_wp2_with fail
            have HMe := HMd.out.psel (L := [_, _, _, _, _]) [4, 0, 1, 2] 5 rfl (by decide)
            clear HMd
            have G0 : Mem fp w0 (Blk nb0 38 #[.string ⟨#[]⟩, .int .i64 0, .slice none 0 0, .slice none 0 0, .slice none 0 0, .string ⟨#[]⟩, .bool false, .bool false, .bool false, .bool false] :: ([Blk nb 38 #[.string name, .int .i64 r.kind, .slice A7 (srcB r.src).length c7, .slice B1 m1 d1', .slice none 0 0, .string ⟨#[]⟩, .bool true, .bool b7, .bool b8, .bool b9], StrRow (.slice A7 (srcB r.src).length c7) (srcB r.src), StrRow (.slice B1 m1 d1') (r.cmd)] ++ X.mem F)) W10 := HMe
            clear HMe
            have G1 : Mem fp w0 (Blk nb0 38 #[.string name, .int .i64 0, .slice none 0 0, .slice none 0 0, .slice none 0 0, .string ⟨#[]⟩, .bool false, .bool false, .bool false, .bool false] :: ([Blk nb 38 #[.string name, .int .i64 r.kind, .slice A7 (srcB r.src).length c7, .slice B1 m1 d1', .slice none 0 0, .string ⟨#[]⟩, .bool true, .bool b7, .bool b8, .bool b9], StrRow (.slice A7 (srcB r.src).length c7) (srcB r.src), StrRow (.slice B1 m1 d1') (r.cmd)] ++ X.mem F)) _ := G0.blkSet 0 (.string name)
            clear G0
            have G2 : Mem fp w0 (Blk nb0 38 #[.string name, .int .i64 r.kind, .slice none 0 0, .slice none 0 0, .slice none 0 0, .string ⟨#[]⟩, .bool false, .bool false, .bool false, .bool false] :: ([Blk nb 38 #[.string name, .int .i64 r.kind, .slice A7 (srcB r.src).length c7, .slice B1 m1 d1', .slice none 0 0, .string ⟨#[]⟩, .bool true, .bool b7, .bool b8, .bool b9], StrRow (.slice A7 (srcB r.src).length c7) (srcB r.src), StrRow (.slice B1 m1 d1') (r.cmd)] ++ X.mem F)) _ := G1.blkSet 1 (.int .i64 r.kind)
            clear G1
            have G3 : Mem fp w0 (Blk nb0 38 #[.string name, .int .i64 r.kind, .slice A7 (srcB r.src).length c7, .slice none 0 0, .slice none 0 0, .string ⟨#[]⟩, .bool false, .bool false, .bool false, .bool false] :: ([Blk nb 38 #[.string name, .int .i64 r.kind, .slice A7 (srcB r.src).length c7, .slice B1 m1 d1', .slice none 0 0, .string ⟨#[]⟩, .bool true, .bool b7, .bool b8, .bool b9], StrRow (.slice A7 (srcB r.src).length c7) (srcB r.src), StrRow (.slice B1 m1 d1') (r.cmd)] ++ X.mem F)) _ := G2.blkSet 2 (.slice A7 (srcB r.src).length c7)
            clear G2
            have G4 : Mem fp w0 (Blk nb0 38 #[.string name, .int .i64 r.kind, .slice A7 (srcB r.src).length c7, .slice B1 m1 d1', .slice none 0 0, .string ⟨#[]⟩, .bool false, .bool false, .bool false, .bool false] :: ([Blk nb 38 #[.string name, .int .i64 r.kind, .slice A7 (srcB r.src).length c7, .slice B1 m1 d1', .slice none 0 0, .string ⟨#[]⟩, .bool true, .bool b7, .bool b8, .bool b9], StrRow (.slice A7 (srcB r.src).length c7) (srcB r.src), StrRow (.slice B1 m1 d1') (r.cmd)] ++ X.mem F)) _ := G3.blkSet 3 (.slice B1 m1 d1')
            clear G3
            have G5 : Mem fp w0 (Blk nb0 38 #[.string name, .int .i64 r.kind, .slice A7 (srcB r.src).length c7, .slice B1 m1 d1', .slice none 0 0, .string ⟨#[]⟩, .bool false, .bool false, .bool false, .bool false] :: ([Blk nb 38 #[.string name, .int .i64 r.kind, .slice A7 (srcB r.src).length c7, .slice B1 m1 d1', .slice none 0 0, .string ⟨#[]⟩, .bool true, .bool b7, .bool b8, .bool b9], StrRow (.slice A7 (srcB r.src).length c7) (srcB r.src), StrRow (.slice B1 m1 d1') (r.cmd)] ++ X.mem F)) _ := G4.blkSet 4 (.slice none 0 0)
            clear G4
            have G6 : Mem fp w0 (Blk nb0 38 #[.string name, .int .i64 r.kind, .slice A7 (srcB r.src).length c7, .slice B1 m1 d1', .slice none 0 0, .string ⟨#[]⟩, .bool false, .bool false, .bool false, .bool false] :: ([Blk nb 38 #[.string name, .int .i64 r.kind, .slice A7 (srcB r.src).length c7, .slice B1 m1 d1', .slice none 0 0, .string ⟨#[]⟩, .bool true, .bool b7, .bool b8, .bool b9], StrRow (.slice A7 (srcB r.src).length c7) (srcB r.src), StrRow (.slice B1 m1 d1') (r.cmd)] ++ X.mem F)) _ := G5.blkSet 5 (.string ⟨#[]⟩)
            clear G5
            have G7 : Mem fp w0 (Blk nb0 38 #[.string name, .int .i64 r.kind, .slice A7 (srcB r.src).length c7, .slice B1 m1 d1', .slice none 0 0, .string ⟨#[]⟩, .bool true, .bool false, .bool false, .bool false] :: ([Blk nb 38 #[.string name, .int .i64 r.kind, .slice A7 (srcB r.src).length c7, .slice B1 m1 d1', .slice none 0 0, .string ⟨#[]⟩, .bool true, .bool b7, .bool b8, .bool b9], StrRow (.slice A7 (srcB r.src).length c7) (srcB r.src), StrRow (.slice B1 m1 d1') (r.cmd)] ++ X.mem F)) _ := G6.blkSet 6 (.bool true)
            clear G6
            have G8 : Mem fp w0 (Blk nb0 38 #[.string name, .int .i64 r.kind, .slice A7 (srcB r.src).length c7, .slice B1 m1 d1', .slice none 0 0, .string ⟨#[]⟩, .bool true, .bool b7, .bool false, .bool false] :: ([Blk nb 38 #[.string name, .int .i64 r.kind, .slice A7 (srcB r.src).length c7, .slice B1 m1 d1', .slice none 0 0, .string ⟨#[]⟩, .bool true, .bool b7, .bool b8, .bool b9], StrRow (.slice A7 (srcB r.src).length c7) (srcB r.src), StrRow (.slice B1 m1 d1') (r.cmd)] ++ X.mem F)) _ := G7.blkSet 7 (.bool b7)
            clear G7
            have G9 : Mem fp w0 (Blk nb0 38 #[.string name, .int .i64 r.kind, .slice A7 (srcB r.src).length c7, .slice B1 m1 d1', .slice none 0 0, .string ⟨#[]⟩, .bool true, .bool b7, .bool b8, .bool false] :: ([Blk nb 38 #[.string name, .int .i64 r.kind, .slice A7 (srcB r.src).length c7, .slice B1 m1 d1', .slice none 0 0, .string ⟨#[]⟩, .bool true, .bool b7, .bool b8, .bool b9], StrRow (.slice A7 (srcB r.src).length c7) (srcB r.src), StrRow (.slice B1 m1 d1') (r.cmd)] ++ X.mem F)) _ := G8.blkSet 8 (.bool b8)
            clear G8
            have G10 : Mem fp w0 (Blk nb0 38 #[.string name, .int .i64 r.kind, .slice A7 (srcB r.src).length c7, .slice B1 m1 d1', .slice none 0 0, .string ⟨#[]⟩, .bool true, .bool b7, .bool b8, .bool b9] :: ([Blk nb 38 #[.string name, .int .i64 r.kind, .slice A7 (srcB r.src).length c7, .slice B1 m1 d1', .slice none 0 0, .string ⟨#[]⟩, .bool true, .bool b7, .bool b8, .bool b9], StrRow (.slice A7 (srcB r.src).length c7) (srcB r.src), StrRow (.slice B1 m1 d1') (r.cmd)] ++ X.mem F)) _ := G9.blkSet 9 (.bool b9)
            clear G9
            generalize World.setCell _ _ _ = W11 at *
            have hbn := G10.at_ 1 rfl
            have hbX : (Blk X.b 67 X.cells).ok _ := G10.at_ 4 rfl
            have hfl2 := lookF X (G10.at_ 7 rfl) hfl.out
            have hS1 := Lib.hid (show _ ∧ _ ∧ _ ∧ _ ∧ _ ∧ _ ∧ _ ∧ _ ∧ _ ∧ _ ∧ _ ∧ _ from ⟨Blk.cell_ hbn 0, Blk.cell_ hbn 1, Blk.cell_ hbn 2, Blk.cell_ hbn 3, Blk.cell_ hbn 4, Blk.cell_ hbn 5, Blk.cell_ hbn 6, Blk.cell_ hbn 7, Blk.cell_ hbn 8, Blk.cell_ hbn 9, Blk.cell_ hbX 3, hfl2⟩)
            refine hK _ _ hS1 ?_
            clear hK hS1 hbn hbX hfl2
            repeat (first | (refine plan_pure (v := ?_) (a' := ?_) rfl rfl rfl ?_ ?_ ?_; rotate_left 2; (focus (intro w'; go_simp; with_reducible rfl)); (focus (simp only [Act.put, List.setIfInBounds_toArray, List.set_cons_zero, List.set_cons_succ]; rfl))) | (refine plan_load (v := ?_) (a' := ?_) rfl rfl rfl ?_ ?_ ?_; rotate_left 2; (focus (intro w' hw'; obtain ⟨q0, q1, q2, q3, q4, q5, q6, q7, q8, q9, q10, q11⟩ := hw'.out; clear hw'; go_simp; with_reducible rfl)); (focus (simp only [Act.put, List.setIfInBounds_toArray, List.set_cons_zero, List.set_cons_succ]; rfl))) | (refine plan_skip rfl rfl (by decide +kernel) (by simp only [Act.put, List.setIfInBounds_toArray, List.set_cons_zero, List.set_cons_succ]; rfl) ?_) | (refine plan_skip (a' := ?_) rfl rfl rfl ?_ ?_; rotate_left 1; (focus (simp only [Act.put, List.setIfInBounds_toArray, List.set_cons_zero, List.set_cons_succ]; rfl))) | (refine plan_skipL (a' := ?_) rfl rfl rfl ?_ ?_; rotate_left 1; (focus (simp only [Act.put, List.setIfInBounds_toArray, List.set_cons_zero, List.set_cons_succ]; rfl))))
            refine plan_done ?_
            have y0 := Blk.cell_ G10.head 0
            have y1 := Blk.cell_ G10.head 1
            have y2 := Blk.cell_ G10.head 2
            have y3 := Blk.cell_ G10.head 3
            have y4 := Blk.cell_ G10.head 4
            have y5 := Blk.cell_ G10.head 5
            have y6 := Blk.cell_ G10.head 6
            have y7 := Blk.cell_ G10.head 7
            have y8 := Blk.cell_ G10.head 8
            have y9 := Blk.cell_ G10.head 9
            clear z0 fz0 z1 fz1 z2 fz2 z3 fz3 z4 fz4 z5 fz5 z6 fz6 z7 fz7 z8 fz8 z9 fz9
            go_wp2_with fail
            (try simp only [Exit.inBlock, Exit.then])
            refine bodyPost_ret (v := .tuple #[.agg #[.string name, .int .i64 r.kind, .slice A7 (srcB r.src).length c7, .slice B1 m1 d1', .slice none 0 0, .string ⟨#[]⟩, .bool true, .bool b7, .bool b8, .bool b9], .bool true]) ?hr rfl ?_
            case hr =>
              unfold results
              go_simp
            rw [HB.out]
            exact ⟨_, _, rfl, G10.tail.tail⟩
          | false =>
            have HMd := Lib.hid ((HMo.out.psel (L := [_, _, _, _, _]) [1, 0, 2, 3, 4] 5 rfl (by decide)).blkSet 2 (.slice A7 (srcB r.src).length c7)).drew
            have hbn := HMd.out.at_ 0 rfl
            have hbX : (Blk X.b 67 X.cells).ok _ := HMd.out.at_ 5 rfl
            have hfl2 := lookF X (HMd.out.at_ 8 rfl) hfl.out
            have hS0 := Lib.hid (show _ ∧ _ ∧ _ ∧ _ ∧ _ ∧ _ ∧ _ ∧ _ ∧ _ ∧ _ ∧ _ ∧ _ from ⟨Blk.cell_ hbn 0, Blk.cell_ hbn 1, Blk.cell_ hbn 2, Blk.cell_ hbn 3, Blk.cell_ hbn 4, Blk.cell_ hbn 5, Blk.cell_ hbn 6, Blk.cell_ hbn 7, Blk.cell_ hbn 8, Blk.cell_ hbn 9, Blk.cell_ hbX 3, hfl2⟩)
            refine wp_plan [] (S := fun w' => Hid (w'.cell? ⟨nb, 0, none⟩ = some (.string name) ∧ w'.cell? ⟨nb, 1, none⟩ = some (.int .i64 r.kind) ∧ w'.cell? ⟨nb, 2, none⟩ = some (.slice A7 (srcB r.src).length c7) ∧ w'.cell? ⟨nb, 3, none⟩ = some (.slice B1 m1 d1') ∧ w'.cell? ⟨nb, 4, none⟩ = some (.slice none 0 0) ∧ w'.cell? ⟨nb, 5, none⟩ = some (.string ⟨#[]⟩) ∧ w'.cell? ⟨nb, 6, none⟩ = some (.bool true) ∧ w'.cell? ⟨nb, 7, none⟩ = some (.bool b7) ∧ w'.cell? ⟨nb, 8, none⟩ = some (.bool b8) ∧ w'.cell? ⟨nb, 9, none⟩ = some (.bool b9) ∧ w'.cell? ⟨X.b, 3, none⟩ = some (.map (some X.fb)) ∧ (Instr.lookup 61 (.map (some X.fb)) (.string name) false).run Try.prog w' = .ok (.bool fl) w')) [(.load, 0), (.pure, 1), (.pure, 2), (.pure, 3), (.load, 4), (.pure, 5), (.pure, 6), (.pure, 7), (.pure, 8), (.load, 9), (.pure, 10), (.pure, 11), (.pure, 12), (.pure, 13), (.pure, 14), (.load, 15), (.pure, 16), (.load, 17), (.pure, 18), (.eff, 19), (.pure, 20)] (by kernel_rfl) rfl (by kernel_rfl) rfl (fun _ _ _ _ _ h => h) hS0 ?_
            have hb9 := HMd.out.at_ 4 rfl
            have z0 := Blk.cell_ hb9 0
            have fz0 := Blk.frozen hb9 0
            have z1 := Blk.cell_ hb9 1
            have fz1 := Blk.frozen hb9 1
            have z2 := Blk.cell_ hb9 2
            have fz2 := Blk.frozen hb9 2
            have z3 := Blk.cell_ hb9 3
            have fz3 := Blk.frozen hb9 3
            have z4 := Blk.cell_ hb9 4
            have fz4 := Blk.frozen hb9 4
            have z5 := Blk.cell_ hb9 5
            have fz5 := Blk.frozen hb9 5
            have z6 := Blk.cell_ hb9 6
            have fz6 := Blk.frozen hb9 6
            have z7 := Blk.cell_ hb9 7
            have fz7 := Blk.frozen hb9 7
            have z8 := Blk.cell_ hb9 8
            have fz8 := Blk.frozen hb9 8
            have z9 := Blk.cell_ hb9 9
            have fz9 := Blk.frozen hb9 9
            simp only [List.getElem?_toArray, List.getElem?_cons_succ, List.getElem?_cons_zero] at z0 z1 z2 z3 z4 z5 z6 z7 z8 z9
            clear hbn hbX hfl2 hS0 HMo n2 nf2 hb9
            generalize World.drew _ = W10 at *
            repeat (first | (refine plan_pure (v := ?_) (a' := ?_) rfl rfl rfl ?_ ?_ ?_; rotate_left 2; (focus (intro w'; go_simp; with_reducible rfl)); (focus (simp only [Act.put, List.setIfInBounds_toArray, List.set_cons_zero, List.set_cons_succ]; rfl))) | (refine plan_load (v := ?_) (a' := ?_) rfl rfl rfl ?_ ?_ ?_; rotate_left 2; (focus (intro w' hw'; obtain ⟨q0, q1, q2, q3, q4, q5, q6, q7, q8, q9, q10, q11⟩ := hw'.out; clear hw'; go_simp; with_reducible rfl)); (focus (simp only [Act.put, List.setIfInBounds_toArray, List.set_cons_zero, List.set_cons_succ]; rfl))) | (refine plan_skip rfl rfl (by decide +kernel) (by simp only [Act.put, List.setIfInBounds_toArray, List.set_cons_zero, List.set_cons_succ]; rfl) ?_) | (refine plan_skip (a' := ?_) rfl rfl rfl ?_ ?_; rotate_left 1; (focus (simp only [Act.put, List.setIfInBounds_toArray, List.set_cons_zero, List.set_cons_succ]; rfl))) | (refine plan_skipL (a' := ?_) rfl rfl rfl ?_ ?_; rotate_left 1; (focus (simp only [Act.put, List.setIfInBounds_toArray, List.set_cons_zero, List.set_cons_succ]; rfl))))
            refine plan_eff rfl (fun K hK => ?_)
            go_wp2_with fail
            have HMe := HMd.out.psel (L := [_, _, _, _, _]) [4, 0, 1, 2] 5 rfl (by decide)
            clear HMd
            have G0 : Mem fp w0 (Blk nb0 38 #[.string ⟨#[]⟩, .int .i64 0, .slice none 0 0, .slice none 0 0, .slice none 0 0, .string ⟨#[]⟩, .bool false, .bool false, .bool false, .bool false] :: ([Blk nb 38 #[.string name, .int .i64 r.kind, .slice A7 (srcB r.src).length c7, .slice B1 m1 d1', .slice none 0 0, .string ⟨#[]⟩, .bool true, .bool b7, .bool b8, .bool b9], StrRow (.slice A7 (srcB r.src).length c7) (srcB r.src), StrRow (.slice B1 m1 d1') (r.cmd)] ++ X.mem F)) W10 := HMe
            clear HMe
            have G1 : Mem fp w0 (Blk nb0 38 #[.string name, .int .i64 0, .slice none 0 0, .slice none 0 0, .slice none 0 0, .string ⟨#[]⟩, .bool false, .bool false, .bool false, .bool false] :: ([Blk nb 38 #[.string name, .int .i64 r.kind, .slice A7 (srcB r.src).length c7, .slice B1 m1 d1', .slice none 0 0, .string ⟨#[]⟩, .bool true, .bool b7, .bool b8, .bool b9], StrRow (.slice A7 (srcB r.src).length c7) (srcB r.src), StrRow (.slice B1 m1 d1') (r.cmd)] ++ X.mem F)) _ := G0.blkSet 0 (.string name)
            clear G0
            have G2 : Mem fp w0 (Blk nb0 38 #[.string name, .int .i64 r.kind, .slice none 0 0, .slice none 0 0, .slice none 0 0, .string ⟨#[]⟩, .bool false, .bool false, .bool false, .bool false] :: ([Blk nb 38 #[.string name, .int .i64 r.kind, .slice A7 (srcB r.src).length c7, .slice B1 m1 d1', .slice none 0 0, .string ⟨#[]⟩, .bool true, .bool b7, .bool b8, .bool b9], StrRow (.slice A7 (srcB r.src).length c7) (srcB r.src), StrRow (.slice B1 m1 d1') (r.cmd)] ++ X.mem F)) _ := G1.blkSet 1 (.int .i64 r.kind)
            clear G1
            have G3 : Mem fp w0 (Blk nb0 38 #[.string name, .int .i64 r.kind, .slice A7 (srcB r.src).length c7, .slice none 0 0, .slice none 0 0, .string ⟨#[]⟩, .bool false, .bool false, .bool false, .bool false] :: ([Blk nb 38 #[.string name, .int .i64 r.kind, .slice A7 (srcB r.src).length c7, .slice B1 m1 d1', .slice none 0 0, .string ⟨#[]⟩, .bool true, .bool b7, .bool b8, .bool b9], StrRow (.slice A7 (srcB r.src).length c7) (srcB r.src), StrRow (.slice B1 m1 d1') (r.cmd)] ++ X.mem F)) _ := G2.blkSet 2 (.slice A7 (srcB r.src).length c7)
            clear G2
            have G4 : Mem fp w0 (Blk nb0 38 #[.string name, .int .i64 r.kind, .slice A7 (srcB r.src).length c7, .slice B1 m1 d1', .slice none 0 0, .string ⟨#[]⟩, .bool false, .bool false, .bool false, .bool false] :: ([Blk nb 38 #[.string name, .int .i64 r.kind, .slice A7 (srcB r.src).length c7, .slice B1 m1 d1', .slice none 0 0, .string ⟨#[]⟩, .bool true, .bool b7, .bool b8, .bool b9], StrRow (.slice A7 (srcB r.src).length c7) (srcB r.src), StrRow (.slice B1 m1 d1') (r.cmd)] ++ X.mem F)) _ := G3.blkSet 3 (.slice B1 m1 d1')
            clear G3
            have G5 : Mem fp w0 (Blk nb0 38 #[.string name, .int .i64 r.kind, .slice A7 (srcB r.src).length c7, .slice B1 m1 d1', .slice none 0 0, .string ⟨#[]⟩, .bool false, .bool false, .bool false, .bool false] :: ([Blk nb 38 #[.string name, .int .i64 r.kind, .slice A7 (srcB r.src).length c7, .slice B1 m1 d1', .slice none 0 0, .string ⟨#[]⟩, .bool true, .bool b7, .bool b8, .bool b9], StrRow (.slice A7 (srcB r.src).length c7) (srcB r.src), StrRow (.slice B1 m1 d1') (r.cmd)] ++ X.mem F)) _ := G4.blkSet 4 (.slice none 0 0)
            clear G4
            have G6 : Mem fp w0 (Blk nb0 38 #[.string name, .int .i64 r.kind, .slice A7 (srcB r.src).length c7, .slice B1 m1 d1', .slice none 0 0, .string ⟨#[]⟩, .bool false, .bool false, .bool false, .bool false] :: ([Blk nb 38 #[.string name, .int .i64 r.kind, .slice A7 (srcB r.src).length c7, .slice B1 m1 d1', .slice none 0 0, .string ⟨#[]⟩, .bool true, .bool b7, .bool b8, .bool b9], StrRow (.slice A7 (srcB r.src).length c7) (srcB r.src), StrRow (.slice B1 m1 d1') (r.cmd)] ++ X.mem F)) _ := G5.blkSet 5 (.string ⟨#[]⟩)
            clear G5
            have G7 : Mem fp w0 (Blk nb0 38 #[.string name, .int .i64 r.kind, .slice A7 (srcB r.src).length c7, .slice B1 m1 d1', .slice none 0 0, .string ⟨#[]⟩, .bool true, .bool false, .bool false, .bool false] :: ([Blk nb 38 #[.string name, .int .i64 r.kind, .slice A7 (srcB r.src).length c7, .slice B1 m1 d1', .slice none 0 0, .string ⟨#[]⟩, .bool true, .bool b7, .bool b8, .bool b9], StrRow (.slice A7 (srcB r.src).length c7) (srcB r.src), StrRow (.slice B1 m1 d1') (r.cmd)] ++ X.mem F)) _ := G6.blkSet 6 (.bool true)
            clear G6
            have G8 : Mem fp w0 (Blk nb0 38 #[.string name, .int .i64 r.kind, .slice A7 (srcB r.src).length c7, .slice B1 m1 d1', .slice none 0 0, .string ⟨#[]⟩, .bool true, .bool b7, .bool false, .bool false] :: ([Blk nb 38 #[.string name, .int .i64 r.kind, .slice A7 (srcB r.src).length c7, .slice B1 m1 d1', .slice none 0 0, .string ⟨#[]⟩, .bool true, .bool b7, .bool b8, .bool b9], StrRow (.slice A7 (srcB r.src).length c7) (srcB r.src), StrRow (.slice B1 m1 d1') (r.cmd)] ++ X.mem F)) _ := G7.blkSet 7 (.bool b7)
            clear G7
            have G9 : Mem fp w0 (Blk nb0 38 #[.string name, .int .i64 r.kind, .slice A7 (srcB r.src).length c7, .slice B1 m1 d1', .slice none 0 0, .string ⟨#[]⟩, .bool true, .bool b7, .bool b8, .bool false] :: ([Blk nb 38 #[.string name, .int .i64 r.kind, .slice A7 (srcB r.src).length c7, .slice B1 m1 d1', .slice none 0 0, .string ⟨#[]⟩, .bool true, .bool b7, .bool b8, .bool b9], StrRow (.slice A7 (srcB r.src).length c7) (srcB r.src), StrRow (.slice B1 m1 d1') (r.cmd)] ++ X.mem F)) _ := G8.blkSet 8 (.bool b8)
            clear G8
            have G10 : Mem fp w0 (Blk nb0 38 #[.string name, .int .i64 r.kind, .slice A7 (srcB r.src).length c7, .slice B1 m1 d1', .slice none 0 0, .string ⟨#[]⟩, .bool true, .bool b7, .bool b8, .bool b9] :: ([Blk nb 38 #[.string name, .int .i64 r.kind, .slice A7 (srcB r.src).length c7, .slice B1 m1 d1', .slice none 0 0, .string ⟨#[]⟩, .bool true, .bool b7, .bool b8, .bool b9], StrRow (.slice A7 (srcB r.src).length c7) (srcB r.src), StrRow (.slice B1 m1 d1') (r.cmd)] ++ X.mem F)) _ := G9.blkSet 9 (.bool b9)
            clear G9
            generalize World.setCell _ _ _ = W11 at *
            have hbn := G10.at_ 1 rfl
            have hbX : (Blk X.b 67 X.cells).ok _ := G10.at_ 4 rfl
            have hfl2 := lookF X (G10.at_ 7 rfl) hfl.out
            have hS1 := Lib.hid (show _ ∧ _ ∧ _ ∧ _ ∧ _ ∧ _ ∧ _ ∧ _ ∧ _ ∧ _ ∧ _ ∧ _ from ⟨Blk.cell_ hbn 0, Blk.cell_ hbn 1, Blk.cell_ hbn 2, Blk.cell_ hbn 3, Blk.cell_ hbn 4, Blk.cell_ hbn 5, Blk.cell_ hbn 6, Blk.cell_ hbn 7, Blk.cell_ hbn 8, Blk.cell_ hbn 9, Blk.cell_ hbX 3, hfl2⟩)
            refine hK _ _ hS1 ?_
            clear hK hS1 hbn hbX hfl2
            repeat (first | (refine plan_pure (v := ?_) (a' := ?_) rfl rfl rfl ?_ ?_ ?_; rotate_left 2; (focus (intro w'; go_simp; with_reducible rfl)); (focus (simp only [Act.put, List.setIfInBounds_toArray, List.set_cons_zero, List.set_cons_succ]; rfl))) | (refine plan_load (v := ?_) (a' := ?_) rfl rfl rfl ?_ ?_ ?_; rotate_left 2; (focus (intro w' hw'; obtain ⟨q0, q1, q2, q3, q4, q5, q6, q7, q8, q9, q10, q11⟩ := hw'.out; clear hw'; go_simp; with_reducible rfl)); (focus (simp only [Act.put, List.setIfInBounds_toArray, List.set_cons_zero, List.set_cons_succ]; rfl))) | (refine plan_skip rfl rfl (by decide +kernel) (by simp only [Act.put, List.setIfInBounds_toArray, List.set_cons_zero, List.set_cons_succ]; rfl) ?_) | (refine plan_skip (a' := ?_) rfl rfl rfl ?_ ?_; rotate_left 1; (focus (simp only [Act.put, List.setIfInBounds_toArray, List.set_cons_zero, List.set_cons_succ]; rfl))) | (refine plan_skipL (a' := ?_) rfl rfl rfl ?_ ?_; rotate_left 1; (focus (simp only [Act.put, List.setIfInBounds_toArray, List.set_cons_zero, List.set_cons_succ]; rfl))))
            refine plan_done ?_
            have y0 := Blk.cell_ G10.head 0
            have y1 := Blk.cell_ G10.head 1
            have y2 := Blk.cell_ G10.head 2
            have y3 := Blk.cell_ G10.head 3
            have y4 := Blk.cell_ G10.head 4
            have y5 := Blk.cell_ G10.head 5
            have y6 := Blk.cell_ G10.head 6
            have y7 := Blk.cell_ G10.head 7
            have y8 := Blk.cell_ G10.head 8
            have y9 := Blk.cell_ G10.head 9
            clear z0 fz0 z1 fz1 z2 fz2 z3 fz3 z4 fz4 z5 fz5 z6 fz6 z7 fz7 z8 fz8 z9 fz9
            go_wp2_with fail
            (try simp only [Exit.inBlock, Exit.then])
            refine bodyPost_ret (v := .tuple #[.agg #[.string name, .int .i64 r.kind, .slice A7 (srcB r.src).length c7, .slice B1 m1 d1', .slice none 0 0, .string ⟨#[]⟩, .bool true, .bool b7, .bool b8, .bool b9], .bool true]) ?hr rfl ?_
            case hr =>
              unfold results
              go_simp
            rw [HB.out]
            exact ⟨_, _, rfl, G10.tail.tail⟩
        · have o1 : ((r.cmd.length : Int) == 0) = false := by rw [beq_eq_false_iff_ne]; omega
          clear hc h1 g8 hNot hImp
          go_wp2_with (go_at_call 67; refine hSo.mono ?_; clear hSo; rintro e w2 ⟨v, rfl, hm⟩; have HMo := Lib.hid (HMn.out.got hm); have n2 := Blk.cell_ (HMo.out.at_ 1 rfl) 2; have nf2 := Blk.frozen (HMo.out.at_ 1 rfl) 2; simp only [List.getElem?_toArray, List.getElem?_cons_succ, List.getElem?_cons_zero] at n2; obtain ⟨A7, c7, e7, _⟩ := Row.any_ (HMo.out.at_ 0 rfl); subst e7; clear hm HMn rc2 rc3 n6)
          cases ok with
          | true =>
            have HMd := Lib.hid ((HMo.out.psel (L := [_, _, _, _, _]) [1, 0, 2, 3, 4] 5 rfl (by decide)).blkSet 2 (.slice A7 (srcB r.src).length c7)).drew
            have hbn := HMd.out.at_ 0 rfl
            have hbX : (Blk X.b 67 X.cells).ok _ := HMd.out.at_ 5 rfl
            have hfl2 := lookF X (HMd.out.at_ 8 rfl) hfl.out
            have hS0 := Lib.hid (show _ ∧ _ ∧ _ ∧ _ ∧ _ ∧ _ ∧ _ ∧ _ ∧ _ ∧ _ ∧ _ ∧ _ from ⟨Blk.cell_ hbn 0, Blk.cell_ hbn 1, Blk.cell_ hbn 2, Blk.cell_ hbn 3, Blk.cell_ hbn 4, Blk.cell_ hbn 5, Blk.cell_ hbn 6, Blk.cell_ hbn 7, Blk.cell_ hbn 8, Blk.cell_ hbn 9, Blk.cell_ hbX 3, hfl2⟩)
            refine wp_plan [] (S := fun w' => Hid (w'.cell? ⟨nb, 0, none⟩ = some (.string name) ∧ w'.cell? ⟨nb, 1, none⟩ = some (.int .i64 r.kind) ∧ w'.cell? ⟨nb, 2, none⟩ = some (.slice A7 (srcB r.src).length c7) ∧ w'.cell? ⟨nb, 3, none⟩ = some (.slice B1 m1 d1') ∧ w'.cell? ⟨nb, 4, none⟩ = some (.slice none 0 0) ∧ w'.cell? ⟨nb, 5, none⟩ = some (.string ⟨#[]⟩) ∧ w'.cell? ⟨nb, 6, none⟩ = some (.bool b6) ∧ w'.cell? ⟨nb, 7, none⟩ = some (.bool b7) ∧ w'.cell? ⟨nb, 8, none⟩ = some (.bool b8) ∧ w'.cell? ⟨nb, 9, none⟩ = some (.bool b9) ∧ w'.cell? ⟨X.b, 3, none⟩ = some (.map (some X.fb)) ∧ (Instr.lookup 61 (.map (some X.fb)) (.string name) false).run Try.prog w' = .ok (.bool fl) w')) [(.load, 0), (.pure, 1), (.pure, 2), (.pure, 3), (.load, 4), (.pure, 5), (.pure, 6), (.pure, 7), (.pure, 8), (.load, 9), (.pure, 10), (.pure, 11), (.pure, 12), (.pure, 13), (.pure, 14), (.load, 15), (.pure, 16), (.load, 17), (.pure, 18), (.eff, 19), (.pure, 20)] (by kernel_rfl) rfl (by kernel_rfl) rfl (fun _ _ _ _ _ h => h) hS0 ?_
            have hb9 := HMd.out.at_ 4 rfl
            have z0 := Blk.cell_ hb9 0
            have fz0 := Blk.frozen hb9 0
            have z1 := Blk.cell_ hb9 1
            have fz1 := Blk.frozen hb9 1
            have z2 := Blk.cell_ hb9 2
            have fz2 := Blk.frozen hb9 2
            have z3 := Blk.cell_ hb9 3
            have fz3 := Blk.frozen hb9 3
            have z4 := Blk.cell_ hb9 4
            have fz4 := Blk.frozen hb9 4
            have z5 := Blk.cell_ hb9 5
            have fz5 := Blk.frozen hb9 5
            have z6 := Blk.cell_ hb9 6
            have fz6 := Blk.frozen hb9 6
            have z7 := Blk.cell_ hb9 7
            have fz7 := Blk.frozen hb9 7
            have z8 := Blk.cell_ hb9 8
            have fz8 := Blk.frozen hb9 8
            have z9 := Blk.cell_ hb9 9
            have fz9 := Blk.frozen hb9 9
            simp only [List.getElem?_toArray, List.getElem?_cons_succ, List.getElem?_cons_zero] at z0 z1 z2 z3 z4 z5 z6 z7 z8 z9
            clear hbn hbX hfl2 hS0 HMo n2 nf2 hb9
            generalize World.drew _ = W10 at *
            repeat (first | (refine plan_pure (v := ?_) (a' := ?_) rfl rfl rfl ?_ ?_ ?_; rotate_left 2; (focus (intro w'; go_simp; with_reducible rfl)); (focus (simp only [Act.put, List.setIfInBounds_toArray, List.set_cons_zero, List.set_cons_succ]; rfl))) | (refine plan_load (v := ?_) (a' := ?_) rfl rfl rfl ?_ ?_ ?_; rotate_left 2; (focus (intro w' hw'; obtain ⟨q0, q1, q2, q3, q4, q5, q6, q7, q8, q9, q10, q11⟩ := hw'.out; clear hw'; go_simp; with_reducible rfl)); (focus (simp only [Act.put, List.setIfInBounds_toArray, List.set_cons_zero, List.set_cons_succ]; rfl))) | (refine plan_skip rfl rfl (by decide +kernel) (by simp only [Act.put, List.setIfInBounds_toArray, List.set_cons_zero, List.set_cons_succ]; rfl) ?_) | (refine plan_skip (a' := ?_) rfl rfl rfl ?_ ?_; rotate_left 1; (focus (simp only [Act.put, List.setIfInBounds_toArray, List.set_cons_zero, List.set_cons_succ]; rfl))) | (refine plan_skipL (a' := ?_) rfl rfl rfl ?_ ?_; rotate_left 1; (focus (simp only [Act.put, List.setIfInBounds_toArray, List.set_cons_zero, List.set_cons_succ]; rfl))))
            refine plan_eff rfl (fun K hK => ?_)
            go_wp2_with fail
            have HMe := HMd.out.psel (L := [_, _, _, _, _]) [4, 0, 1, 2] 5 rfl (by decide)
            clear HMd
            have G0 : Mem fp w0 (Blk nb0 38 #[.string ⟨#[]⟩, .int .i64 0, .slice none 0 0, .slice none 0 0, .slice none 0 0, .string ⟨#[]⟩, .bool false, .bool false, .bool false, .bool false] :: ([Blk nb 38 #[.string name, .int .i64 r.kind, .slice A7 (srcB r.src).length c7, .slice B1 m1 d1', .slice none 0 0, .string ⟨#[]⟩, .bool b6, .bool b7, .bool b8, .bool b9], StrRow (.slice A7 (srcB r.src).length c7) (srcB r.src), StrRow (.slice B1 m1 d1') (r.cmd)] ++ X.mem F)) W10 := HMe
            clear HMe
            have G1 : Mem fp w0 (Blk nb0 38 #[.string name, .int .i64 0, .slice none 0 0, .slice none 0 0, .slice none 0 0, .string ⟨#[]⟩, .bool false, .bool false, .bool false, .bool false] :: ([Blk nb 38 #[.string name, .int .i64 r.kind, .slice A7 (srcB r.src).length c7, .slice B1 m1 d1', .slice none 0 0, .string ⟨#[]⟩, .bool b6, .bool b7, .bool b8, .bool b9], StrRow (.slice A7 (srcB r.src).length c7) (srcB r.src), StrRow (.slice B1 m1 d1') (r.cmd)] ++ X.mem F)) _ := G0.blkSet 0 (.string name)
            clear G0
            have G2 : Mem fp w0 (Blk nb0 38 #[.string name, .int .i64 r.kind, .slice none 0 0, .slice none 0 0, .slice none 0 0, .string ⟨#[]⟩, .bool false, .bool false, .bool false, .bool false] :: ([Blk nb 38 #[.string name, .int .i64 r.kind, .slice A7 (srcB r.src).length c7, .slice B1 m1 d1', .slice none 0 0, .string ⟨#[]⟩, .bool b6, .bool b7, .bool b8, .bool b9], StrRow (.slice A7 (srcB r.src).length c7) (srcB r.src), StrRow (.slice B1 m1 d1') (r.cmd)] ++ X.mem F)) _ := G1.blkSet 1 (.int .i64 r.kind)
            clear G1
            have G3 : Mem fp w0 (Blk nb0 38 #[.string name, .int .i64 r.kind, .slice A7 (srcB r.src).length c7, .slice none 0 0, .slice none 0 0, .string ⟨#[]⟩, .bool false, .bool false, .bool false, .bool false] :: ([Blk nb 38 #[.string name, .int .i64 r.kind, .slice A7 (srcB r.src).length c7, .slice B1 m1 d1', .slice none 0 0, .string ⟨#[]⟩, .bool b6, .bool b7, .bool b8, .bool b9], StrRow (.slice A7 (srcB r.src).length c7) (srcB r.src), StrRow (.slice B1 m1 d1') (r.cmd)] ++ X.mem F)) _ := G2.blkSet 2 (.slice A7 (srcB r.src).length c7)
            clear G2
            have G4 : Mem fp w0 (Blk nb0 38 #[.string name, .int .i64 r.kind, .slice A7 (srcB r.src).length c7, .slice B1 m1 d1', .slice none 0 0, .string ⟨#[]⟩, .bool false, .bool false, .bool false, .bool false] :: ([Blk nb 38 #[.string name, .int .i64 r.kind, .slice A7 (srcB r.src).length c7, .slice B1 m1 d1', .slice none 0 0, .string ⟨#[]⟩, .bool b6, .bool b7, .bool b8, .bool b9], StrRow (.slice A7 (srcB r.src).length c7) (srcB r.src), StrRow (.slice B1 m1 d1') (r.cmd)] ++ X.mem F)) _ := G3.blkSet 3 (.slice B1 m1 d1')
            clear G3
            have G5 : Mem fp w0 (Blk nb0 38 #[.string name, .int .i64 r.kind, .slice A7 (srcB r.src).length c7, .slice B1 m1 d1', .slice none 0 0, .string ⟨#[]⟩, .bool false, .bool false, .bool false, .bool false] :: ([Blk nb 38 #[.string name, .int .i64 r.kind, .slice A7 (srcB r.src).length c7, .slice B1 m1 d1', .slice none 0 0, .string ⟨#[]⟩, .bool b6, .bool b7, .bool b8, .bool b9], StrRow (.slice A7 (srcB r.src).length c7) (srcB r.src), StrRow (.slice B1 m1 d1') (r.cmd)] ++ X.mem F)) _ := G4.blkSet 4 (.slice none 0 0)
            clear G4
            have G6 : Mem fp w0 (Blk nb0 38 #[.string name, .int .i64 r.kind, .slice A7 (srcB r.src).length c7, .slice B1 m1 d1', .slice none 0 0, .string ⟨#[]⟩, .bool false, .bool false, .bool false, .bool false] :: ([Blk nb 38 #[.string name, .int .i64 r.kind, .slice A7 (srcB r.src).length c7, .slice B1 m1 d1', .slice none 0 0, .string ⟨#[]⟩, .bool b6, .bool b7, .bool b8, .bool b9], StrRow (.slice A7 (srcB r.src).length c7) (srcB r.src), StrRow (.slice B1 m1 d1') (r.cmd)] ++ X.mem F)) _ := G5.blkSet 5 (.string ⟨#[]⟩)
            clear G5
            have G7 : Mem fp w0 (Blk nb0 38 #[.string name, .int .i64 r.kind, .slice A7 (srcB r.src).length c7, .slice B1 m1 d1', .slice none 0 0, .string ⟨#[]⟩, .bool b6, .bool false, .bool false, .bool false] :: ([Blk nb 38 #[.string name, .int .i64 r.kind, .slice A7 (srcB r.src).length c7, .slice B1 m1 d1', .slice none 0 0, .string ⟨#[]⟩, .bool b6, .bool b7, .bool b8, .bool b9], StrRow (.slice A7 (srcB r.src).length c7) (srcB r.src), StrRow (.slice B1 m1 d1') (r.cmd)] ++ X.mem F)) _ := G6.blkSet 6 (.bool b6)
            clear G6
            have G8 : Mem fp w0 (Blk nb0 38 #[.string name, .int .i64 r.kind, .slice A7 (srcB r.src).length c7, .slice B1 m1 d1', .slice none 0 0, .string ⟨#[]⟩, .bool b6, .bool b7, .bool false, .bool false] :: ([Blk nb 38 #[.string name, .int .i64 r.kind, .slice A7 (srcB r.src).length c7, .slice B1 m1 d1', .slice none 0 0, .string ⟨#[]⟩, .bool b6, .bool b7, .bool b8, .bool b9], StrRow (.slice A7 (srcB r.src).length c7) (srcB r.src), StrRow (.slice B1 m1 d1') (r.cmd)] ++ X.mem F)) _ := G7.blkSet 7 (.bool b7)
            clear G7
            have G9 : Mem fp w0 (Blk nb0 38 #[.string name, .int .i64 r.kind, .slice A7 (srcB r.src).length c7, .slice B1 m1 d1', .slice none 0 0, .string ⟨#[]⟩, .bool b6, .bool b7, .bool b8, .bool false] :: ([Blk nb 38 #[.string name, .int .i64 r.kind, .slice A7 (srcB r.src).length c7, .slice B1 m1 d1', .slice none 0 0, .string ⟨#[]⟩, .bool b6, .bool b7, .bool b8, .bool b9], StrRow (.slice A7 (srcB r.src).length c7) (srcB r.src), StrRow (.slice B1 m1 d1') (r.cmd)] ++ X.mem F)) _ := G8.blkSet 8 (.bool b8)
            clear G8
            have G10 : Mem fp w0 (Blk nb0 38 #[.string name, .int .i64 r.kind, .slice A7 (srcB r.src).length c7, .slice B1 m1 d1', .slice none 0 0, .string ⟨#[]⟩, .bool b6, .bool b7, .bool b8, .bool b9] :: ([Blk nb 38 #[.string name, .int .i64 r.kind, .slice A7 (srcB r.src).length c7, .slice B1 m1 d1', .slice none 0 0, .string ⟨#[]⟩, .bool b6, .bool b7, .bool b8, .bool b9], StrRow (.slice A7 (srcB r.src).length c7) (srcB r.src), StrRow (.slice B1 m1 d1') (r.cmd)] ++ X.mem F)) _ := G9.blkSet 9 (.bool b9)
            clear G9
            generalize World.setCell _ _ _ = W11 at *
            have hbn := G10.at_ 1 rfl
            have hbX : (Blk X.b 67 X.cells).ok _ := G10.at_ 4 rfl
            have hfl2 := lookF X (G10.at_ 7 rfl) hfl.out
            have hS1 := Lib.hid (show _ ∧ _ ∧ _ ∧ _ ∧ _ ∧ _ ∧ _ ∧ _ ∧ _ ∧ _ ∧ _ ∧ _ from ⟨Blk.cell_ hbn 0, Blk.cell_ hbn 1, Blk.cell_ hbn 2, Blk.cell_ hbn 3, Blk.cell_ hbn 4, Blk.cell_ hbn 5, Blk.cell_ hbn 6, Blk.cell_ hbn 7, Blk.cell_ hbn 8, Blk.cell_ hbn 9, Blk.cell_ hbX 3, hfl2⟩)
            refine hK _ _ hS1 ?_
            clear hK hS1 hbn hbX hfl2
            repeat (first | (refine plan_pure (v := ?_) (a' := ?_) rfl rfl rfl ?_ ?_ ?_; rotate_left 2; (focus (intro w'; go_simp; with_reducible rfl)); (focus (simp only [Act.put, List.setIfInBounds_toArray, List.set_cons_zero, List.set_cons_succ]; rfl))) | (refine plan_load (v := ?_) (a' := ?_) rfl rfl rfl ?_ ?_ ?_; rotate_left 2; (focus (intro w' hw'; obtain ⟨q0, q1, q2, q3, q4, q5, q6, q7, q8, q9, q10, q11⟩ := hw'.out; clear hw'; go_simp; with_reducible rfl)); (focus (simp only [Act.put, List.setIfInBounds_toArray, List.set_cons_zero, List.set_cons_succ]; rfl))) | (refine plan_skip rfl rfl (by decide +kernel) (by simp only [Act.put, List.setIfInBounds_toArray, List.set_cons_zero, List.set_cons_succ]; rfl) ?_) | (refine plan_skip (a' := ?_) rfl rfl rfl ?_ ?_; rotate_left 1; (focus (simp only [Act.put, List.setIfInBounds_toArray, List.set_cons_zero, List.set_cons_succ]; rfl))) | (refine plan_skipL (a' := ?_) rfl rfl rfl ?_ ?_; rotate_left 1; (focus (simp only [Act.put, List.setIfInBounds_toArray, List.set_cons_zero, List.set_cons_succ]; rfl))))
            refine plan_done ?_
            have y0 := Blk.cell_ G10.head 0
            have y1 := Blk.cell_ G10.head 1
            have y2 := Blk.cell_ G10.head 2
            have y3 := Blk.cell_ G10.head 3
            have y4 := Blk.cell_ G10.head 4
            have y5 := Blk.cell_ G10.head 5
            have y6 := Blk.cell_ G10.head 6
            have y7 := Blk.cell_ G10.head 7
            have y8 := Blk.cell_ G10.head 8
            have y9 := Blk.cell_ G10.head 9
            clear z0 fz0 z1 fz1 z2 fz2 z3 fz3 z4 fz4 z5 fz5 z6 fz6 z7 fz7 z8 fz8 z9 fz9
            go_wp2_with fail
            (try simp only [Exit.inBlock, Exit.then])
            refine bodyPost_ret (v := .tuple #[.agg #[.string name, .int .i64 r.kind, .slice A7 (srcB r.src).length c7, .slice B1 m1 d1', .slice none 0 0, .string ⟨#[]⟩, .bool b6, .bool b7, .bool b8, .bool b9], .bool true]) ?hr rfl ?_
            case hr =>
              unfold results
              go_simp
            rw [HB.out]
            exact ⟨_, _, rfl, G10.tail.tail⟩
          | false =>
            cases b6 with
            | true =>
              have HMd := Lib.hid ((HMo.out.psel (L := [_, _, _, _, _]) [1, 0, 2, 3, 4] 5 rfl (by decide)).blkSet 2 (.slice A7 (srcB r.src).length c7)).drew
              have hbn := HMd.out.at_ 0 rfl
              have hbX : (Blk X.b 67 X.cells).ok _ := HMd.out.at_ 5 rfl
              have hfl2 := lookF X (HMd.out.at_ 8 rfl) hfl.out
              have hS0 := Lib.hid (show _ ∧ _ ∧ _ ∧ _ ∧ _ ∧ _ ∧ _ ∧ _ ∧ _ ∧ _ ∧ _ ∧ _ from ⟨Blk.cell_ hbn 0, Blk.cell_ hbn 1, Blk.cell_ hbn 2, Blk.cell_ hbn 3, Blk.cell_ hbn 4, Blk.cell_ hbn 5, Blk.cell_ hbn 6, Blk.cell_ hbn 7, Blk.cell_ hbn 8, Blk.cell_ hbn 9, Blk.cell_ hbX 3, hfl2⟩)
              refine wp_plan [] (S := fun w' => Hid (w'.cell? ⟨nb, 0, none⟩ = some (.string name) ∧ w'.cell? ⟨nb, 1, none⟩ = some (.int .i64 r.kind) ∧ w'.cell? ⟨nb, 2, none⟩ = some (.slice A7 (srcB r.src).length c7) ∧ w'.cell? ⟨nb, 3, none⟩ = some (.slice B1 m1 d1') ∧ w'.cell? ⟨nb, 4, none⟩ = some (.slice none 0 0) ∧ w'.cell? ⟨nb, 5, none⟩ = some (.string ⟨#[]⟩) ∧ w'.cell? ⟨nb, 6, none⟩ = some (.bool true) ∧ w'.cell? ⟨nb, 7, none⟩ = some (.bool b7) ∧ w'.cell? ⟨nb, 8, none⟩ = some (.bool b8) ∧ w'.cell? ⟨nb, 9, none⟩ = some (.bool b9) ∧ w'.cell? ⟨X.b, 3, none⟩ = some (.map (some X.fb)) ∧ (Instr.lookup 61 (.map (some X.fb)) (.string name) false).run Try.prog w' = .ok (.bool fl) w')) [(.load, 0), (.pure, 1), (.pure, 2), (.pure, 3), (.load, 4), (.pure, 5), (.pure, 6), (.pure, 7), (.pure, 8), (.load, 9), (.pure, 10), (.pure, 11), (.pure, 12), (.pure, 13), (.pure, 14), (.load, 15), (.pure, 16), (.load, 17), (.pure, 18), (.eff, 19), (.pure, 20)] (by kernel_rfl) rfl (by kernel_rfl) rfl (fun _ _ _ _ _ h => h) hS0 ?_
              have hb9 := HMd.out.at_ 4 rfl
              have z0 := Blk.cell_ hb9 0
              have fz0 := Blk.frozen hb9 0
              have z1 := Blk.cell_ hb9 1
              have fz1 := Blk.frozen hb9 1
              have z2 := Blk.cell_ hb9 2
              have fz2 := Blk.frozen hb9 2
              have z3 := Blk.cell_ hb9 3
              have fz3 := Blk.frozen hb9 3
              have z4 := Blk.cell_ hb9 4
              have fz4 := Blk.frozen hb9 4
              have z5 := Blk.cell_ hb9 5
              have fz5 := Blk.frozen hb9 5
              have z6 := Blk.cell_ hb9 6
              have fz6 := Blk.frozen hb9 6
              have z7 := Blk.cell_ hb9 7
              have fz7 := Blk.frozen hb9 7
              have z8 := Blk.cell_ hb9 8
              have fz8 := Blk.frozen hb9 8
              have z9 := Blk.cell_ hb9 9
              have fz9 := Blk.frozen hb9 9
              simp only [List.getElem?_toArray, List.getElem?_cons_succ, List.getElem?_cons_zero] at z0 z1 z2 z3 z4 z5 z6 z7 z8 z9
              clear hbn hbX hfl2 hS0 HMo n2 nf2 hb9
              generalize World.drew _ = W10 at *
              repeat (first | (refine plan_pure (v := ?_) (a' := ?_) rfl rfl rfl ?_ ?_ ?_; rotate_left 2; (focus (intro w'; go_simp; with_reducible rfl)); (focus (simp only [Act.put, List.setIfInBounds_toArray, List.set_cons_zero, List.set_cons_succ]; rfl))) | (refine plan_load (v := ?_) (a' := ?_) rfl rfl rfl ?_ ?_ ?_; rotate_left 2; (focus (intro w' hw'; obtain ⟨q0, q1, q2, q3, q4, q5, q6, q7, q8, q9, q10, q11⟩ := hw'.out; clear hw'; go_simp; with_reducible rfl)); (focus (simp only [Act.put, List.setIfInBounds_toArray, List.set_cons_zero, List.set_cons_succ]; rfl))) | (refine plan_skip rfl rfl (by decide +kernel) (by simp only [Act.put, List.setIfInBounds_toArray, List.set_cons_zero, List.set_cons_succ]; rfl) ?_) | (refine plan_skip (a' := ?_) rfl rfl rfl ?_ ?_; rotate_left 1; (focus (simp only [Act.put, List.setIfInBounds_toArray, List.set_cons_zero, List.set_cons_succ]; rfl))) | (refine plan_skipL (a' := ?_) rfl rfl rfl ?_ ?_; rotate_left 1; (focus (simp only [Act.put, List.setIfInBounds_toArray, List.set_cons_zero, List.set_cons_succ]; rfl))))
              refine plan_eff rfl (fun K hK => ?_)
              go_wp2_with fail
              have HMe := HMd.out.psel (L := [_, _, _, _, _]) [4, 0, 1, 2] 5 rfl (by decide)
              clear HMd
              have G0 : Mem fp w0 (Blk nb0 38 #[.string ⟨#[]⟩, .int .i64 0, .slice none 0 0, .slice none 0 0, .slice none 0 0, .string ⟨#[]⟩, .bool false, .bool false, .bool false, .bool false] :: ([Blk nb 38 #[.string name, .int .i64 r.kind, .slice A7 (srcB r.src).length c7, .slice B1 m1 d1', .slice none 0 0, .string ⟨#[]⟩, .bool true, .bool b7, .bool b8, .bool b9], StrRow (.slice A7 (srcB r.src).length c7) (srcB r.src), StrRow (.slice B1 m1 d1') (r.cmd)] ++ X.mem F)) W10 := HMe
              clear HMe
              have G1 : Mem fp w0 (Blk nb0 38 #[.string name, .int .i64 0, .slice none 0 0, .slice none 0 0, .slice none 0 0, .string ⟨#[]⟩, .bool false, .bool false, .bool false, .bool false] :: ([Blk nb 38 #[.string name, .int .i64 r.kind, .slice A7 (srcB r.src).length c7, .slice B1 m1 d1', .slice none 0 0, .string ⟨#[]⟩, .bool true, .bool b7, .bool b8, .bool b9], StrRow (.slice A7 (srcB r.src).length c7) (srcB r.src), StrRow (.slice B1 m1 d1') (r.cmd)] ++ X.mem F)) _ := G0.blkSet 0 (.string name)
              clear G0
              have G2 : Mem fp w0 (Blk nb0 38 #[.string name, .int .i64 r.kind, .slice none 0 0, .slice none 0 0, .slice none 0 0, .string ⟨#[]⟩, .bool false, .bool false, .bool false, .bool false] :: ([Blk nb 38 #[.string name, .int .i64 r.kind, .slice A7 (srcB r.src).length c7, .slice B1 m1 d1', .slice none 0 0, .string ⟨#[]⟩, .bool true, .bool b7, .bool b8, .bool b9], StrRow (.slice A7 (srcB r.src).length c7) (srcB r.src), StrRow (.slice B1 m1 d1') (r.cmd)] ++ X.mem F)) _ := G1.blkSet 1 (.int .i64 r.kind)
              clear G1
              have G3 : Mem fp w0 (Blk nb0 38 #[.string name, .int .i64 r.kind, .slice A7 (srcB r.src).length c7, .slice none 0 0, .slice none 0 0, .string ⟨#[]⟩, .bool false, .bool false, .bool false, .bool false] :: ([Blk nb 38 #[.string name, .int .i64 r.kind, .slice A7 (srcB r.src).length c7, .slice B1 m1 d1', .slice none 0 0, .string ⟨#[]⟩, .bool true, .bool b7, .bool b8, .bool b9], StrRow (.slice A7 (srcB r.src).length c7) (srcB r.src), StrRow (.slice B1 m1 d1') (r.cmd)] ++ X.mem F)) _ := G2.blkSet 2 (.slice A7 (srcB r.src).length c7)
              clear G2
              have G4 : Mem fp w0 (Blk nb0 38 #[.string name, .int .i64 r.kind, .slice A7 (srcB r.src).length c7, .slice B1 m1 d1', .slice none 0 0, .string ⟨#[]⟩, .bool false, .bool false, .bool false, .bool false] :: ([Blk nb 38 #[.string name, .int .i64 r.kind, .slice A7 (srcB r.src).length c7, .slice B1 m1 d1', .slice none 0 0, .string ⟨#[]⟩, .bool true, .bool b7, .bool b8, .bool b9], StrRow (.slice A7 (srcB r.src).length c7) (srcB r.src), StrRow (.slice B1 m1 d1') (r.cmd)] ++ X.mem F)) _ := G3.blkSet 3 (.slice B1 m1 d1')
              clear G3
              have G5 : Mem fp w0 (Blk nb0 38 #[.string name, .int .i64 r.kind, .slice A7 (srcB r.src).length c7, .slice B1 m1 d1', .slice none 0 0, .string ⟨#[]⟩, .bool false, .bool false, .bool false, .bool false] :: ([Blk nb 38 #[.string name, .int .i64 r.kind, .slice A7 (srcB r.src).length c7, .slice B1 m1 d1', .slice none 0 0, .string ⟨#[]⟩, .bool true, .bool b7, .bool b8, .bool b9], StrRow (.slice A7 (srcB r.src).length c7) (srcB r.src), StrRow (.slice B1 m1 d1') (r.cmd)] ++ X.mem F)) _ := G4.blkSet 4 (.slice none 0 0)
              clear G4
              have G6 : Mem fp w0 (Blk nb0 38 #[.string name, .int .i64 r.kind, .slice A7 (srcB r.src).length c7, .slice B1 m1 d1', .slice none 0 0, .string ⟨#[]⟩, .bool false, .bool false, .bool false, .bool false] :: ([Blk nb 38 #[.string name, .int .i64 r.kind, .slice A7 (srcB r.src).length c7, .slice B1 m1 d1', .slice none 0 0, .string ⟨#[]⟩, .bool true, .bool b7, .bool b8, .bool b9], StrRow (.slice A7 (srcB r.src).length c7) (srcB r.src), StrRow (.slice B1 m1 d1') (r.cmd)] ++ X.mem F)) _ := G5.blkSet 5 (.string ⟨#[]⟩)
              clear G5
              have G7 : Mem fp w0 (Blk nb0 38 #[.string name, .int .i64 r.kind, .slice A7 (srcB r.src).length c7, .slice B1 m1 d1', .slice none 0 0, .string ⟨#[]⟩, .bool true, .bool false, .bool false, .bool false] :: ([Blk nb 38 #[.string name, .int .i64 r.kind, .slice A7 (srcB r.src).length c7, .slice B1 m1 d1', .slice none 0 0, .string ⟨#[]⟩, .bool true, .bool b7, .bool b8, .bool b9], StrRow (.slice A7 (srcB r.src).length c7) (srcB r.src), StrRow (.slice B1 m1 d1') (r.cmd)] ++ X.mem F)) _ := G6.blkSet 6 (.bool true)
              clear G6
              have G8 : Mem fp w0 (Blk nb0 38 #[.string name, .int .i64 r.kind, .slice A7 (srcB r.src).length c7, .slice B1 m1 d1', .slice none 0 0, .string ⟨#[]⟩, .bool true, .bool b7, .bool false, .bool false] :: ([Blk nb 38 #[.string name, .int .i64 r.kind, .slice A7 (srcB r.src).length c7, .slice B1 m1 d1', .slice none 0 0, .string ⟨#[]⟩, .bool true, .bool b7, .bool b8, .bool b9], StrRow (.slice A7 (srcB r.src).length c7) (srcB r.src), StrRow (.slice B1 m1 d1') (r.cmd)] ++ X.mem F)) _ := G7.blkSet 7 (.bool b7)
              clear G7
              have G9 : Mem fp w0 (Blk nb0 38 #[.string name, .int .i64 r.kind, .slice A7 (srcB r.src).length c7, .slice B1 m1 d1', .slice none 0 0, .string ⟨#[]⟩, .bool true, .bool b7, .bool b8, .bool false] :: ([Blk nb 38 #[.string name, .int .i64 r.kind, .slice A7 (srcB r.src).length c7, .slice B1 m1 d1', .slice none 0 0, .string ⟨#[]⟩, .bool true, .bool b7, .bool b8, .bool b9], StrRow (.slice A7 (srcB r.src).length c7) (srcB r.src), StrRow (.slice B1 m1 d1') (r.cmd)] ++ X.mem F)) _ := G8.blkSet 8 (.bool b8)
              clear G8
              have G10 : Mem fp w0 (Blk nb0 38 #[.string name, .int .i64 r.kind, .slice A7 (srcB r.src).length c7, .slice B1 m1 d1', .slice none 0 0, .string ⟨#[]⟩, .bool true, .bool b7, .bool b8, .bool b9] :: ([Blk nb 38 #[.string name, .int .i64 r.kind, .slice A7 (srcB r.src).length c7, .slice B1 m1 d1', .slice none 0 0, .string ⟨#[]⟩, .bool true, .bool b7, .bool b8, .bool b9], StrRow (.slice A7 (srcB r.src).length c7) (srcB r.src), StrRow (.slice B1 m1 d1') (r.cmd)] ++ X.mem F)) _ := G9.blkSet 9 (.bool b9)
              clear G9
              generalize World.setCell _ _ _ = W11 at *
              have hbn := G10.at_ 1 rfl
              have hbX : (Blk X.b 67 X.cells).ok _ := G10.at_ 4 rfl
              have hfl2 := lookF X (G10.at_ 7 rfl) hfl.out
              have hS1 := Lib.hid (show _ ∧ _ ∧ _ ∧ _ ∧ _ ∧ _ ∧ _ ∧ _ ∧ _ ∧ _ ∧ _ ∧ _ from ⟨Blk.cell_ hbn 0, Blk.cell_ hbn 1, Blk.cell_ hbn 2, Blk.cell_ hbn 3, Blk.cell_ hbn 4, Blk.cell_ hbn 5, Blk.cell_ hbn 6, Blk.cell_ hbn 7, Blk.cell_ hbn 8, Blk.cell_ hbn 9, Blk.cell_ hbX 3, hfl2⟩)
              refine hK _ _ hS1 ?_
              clear hK hS1 hbn hbX hfl2
              repeat (first | (refine plan_pure (v := ?_) (a' := ?_) rfl rfl rfl ?_ ?_ ?_; rotate_left 2; (focus (intro w'; go_simp; with_reducible rfl)); (focus (simp only [Act.put, List.setIfInBounds_toArray, List.set_cons_zero, List.set_cons_succ]; rfl))) | (refine plan_load (v := ?_) (a' := ?_) rfl rfl rfl ?_ ?_ ?_; rotate_left 2; (focus (intro w' hw'; obtain ⟨q0, q1, q2, q3, q4, q5, q6, q7, q8, q9, q10, q11⟩ := hw'.out; clear hw'; go_simp; with_reducible rfl)); (focus (simp only [Act.put, List.setIfInBounds_toArray, List.set_cons_zero, List.set_cons_succ]; rfl))) | (refine plan_skip rfl rfl (by decide +kernel) (by simp only [Act.put, List.setIfInBounds_toArray, List.set_cons_zero, List.set_cons_succ]; rfl) ?_) | (refine plan_skip (a' := ?_) rfl rfl rfl ?_ ?_; rotate_left 1; (focus (simp only [Act.put, List.setIfInBounds_toArray, List.set_cons_zero, List.set_cons_succ]; rfl))) | (refine plan_skipL (a' := ?_) rfl rfl rfl ?_ ?_; rotate_left 1; (focus (simp only [Act.put, List.setIfInBounds_toArray, List.set_cons_zero, List.set_cons_succ]; rfl))))
              refine plan_done ?_
              have y0 := Blk.cell_ G10.head 0
              have y1 := Blk.cell_ G10.head 1
              have y2 := Blk.cell_ G10.head 2
              have y3 := Blk.cell_ G10.head 3
              have y4 := Blk.cell_ G10.head 4
              have y5 := Blk.cell_ G10.head 5
              have y6 := Blk.cell_ G10.head 6
              have y7 := Blk.cell_ G10.head 7
              have y8 := Blk.cell_ G10.head 8
              have y9 := Blk.cell_ G10.head 9
              clear z0 fz0 z1 fz1 z2 fz2 z3 fz3 z4 fz4 z5 fz5 z6 fz6 z7 fz7 z8 fz8 z9 fz9
              go_wp2_with fail
              (try simp only [Exit.inBlock, Exit.then])
              refine bodyPost_ret (v := .tuple #[.agg #[.string name, .int .i64 r.kind, .slice A7 (srcB r.src).length c7, .slice B1 m1 d1', .slice none 0 0, .string ⟨#[]⟩, .bool true, .bool b7, .bool b8, .bool b9], .bool true]) ?hr rfl ?_
              case hr =>
                unfold results
                go_simp
              rw [HB.out]
              exact ⟨_, _, rfl, G10.tail.tail⟩
            | false =>
              have HMd := Lib.hid ((HMo.out.psel (L := [_, _, _, _, _]) [1, 0, 2, 3, 4] 5 rfl (by decide)).blkSet 2 (.slice A7 (srcB r.src).length c7)).drew
              have hbn := HMd.out.at_ 0 rfl
              have hbX : (Blk X.b 67 X.cells).ok _ := HMd.out.at_ 5 rfl
              have hfl2 := lookF X (HMd.out.at_ 8 rfl) hfl.out
              have hS0 := Lib.hid (show _ ∧ _ ∧ _ ∧ _ ∧ _ ∧ _ ∧ _ ∧ _ ∧ _ ∧ _ ∧ _ ∧ _ from ⟨Blk.cell_ hbn 0, Blk.cell_ hbn 1, Blk.cell_ hbn 2, Blk.cell_ hbn 3, Blk.cell_ hbn 4, Blk.cell_ hbn 5, Blk.cell_ hbn 6, Blk.cell_ hbn 7, Blk.cell_ hbn 8, Blk.cell_ hbn 9, Blk.cell_ hbX 3, hfl2⟩)
              refine wp_plan [] (S := fun w' => Hid (w'.cell? ⟨nb, 0, none⟩ = some (.string name) ∧ w'.cell? ⟨nb, 1, none⟩ = some (.int .i64 r.kind) ∧ w'.cell? ⟨nb, 2, none⟩ = some (.slice A7 (srcB r.src).length c7) ∧ w'.cell? ⟨nb, 3, none⟩ = some (.slice B1 m1 d1') ∧ w'.cell? ⟨nb, 4, none⟩ = some (.slice none 0 0) ∧ w'.cell? ⟨nb, 5, none⟩ = some (.string ⟨#[]⟩) ∧ w'.cell? ⟨nb, 6, none⟩ = some (.bool false) ∧ w'.cell? ⟨nb, 7, none⟩ = some (.bool b7) ∧ w'.cell? ⟨nb, 8, none⟩ = some (.bool b8) ∧ w'.cell? ⟨nb, 9, none⟩ = some (.bool b9) ∧ w'.cell? ⟨X.b, 3, none⟩ = some (.map (some X.fb)) ∧ (Instr.lookup 61 (.map (some X.fb)) (.string name) false).run Try.prog w' = .ok (.bool fl) w')) [(.load, 0), (.pure, 1), (.pure, 2), (.pure, 3), (.load, 4), (.pure, 5), (.pure, 6), (.pure, 7), (.pure, 8), (.load, 9), (.pure, 10), (.pure, 11), (.pure, 12), (.pure, 13), (.pure, 14), (.load, 15), (.pure, 16), (.load, 17), (.pure, 18), (.eff, 19), (.pure, 20)] (by kernel_rfl) rfl (by kernel_rfl) rfl (fun _ _ _ _ _ h => h) hS0 ?_
              have hb9 := HMd.out.at_ 4 rfl
              have z0 := Blk.cell_ hb9 0
              have fz0 := Blk.frozen hb9 0
              have z1 := Blk.cell_ hb9 1
              have fz1 := Blk.frozen hb9 1
              have z2 := Blk.cell_ hb9 2
              have fz2 := Blk.frozen hb9 2
              have z3 := Blk.cell_ hb9 3
              have fz3 := Blk.frozen hb9 3
              have z4 := Blk.cell_ hb9 4
              have fz4 := Blk.frozen hb9 4
              have z5 := Blk.cell_ hb9 5
              have fz5 := Blk.frozen hb9 5
              have z6 := Blk.cell_ hb9 6
              have fz6 := Blk.frozen hb9 6
              have z7 := Blk.cell_ hb9 7
              have fz7 := Blk.frozen hb9 7
              have z8 := Blk.cell_ hb9 8
              have fz8 := Blk.frozen hb9 8
              have z9 := Blk.cell_ hb9 9
              have fz9 := Blk.frozen hb9 9
              simp only [List.getElem?_toArray, List.getElem?_cons_succ, List.getElem?_cons_zero] at z0 z1 z2 z3 z4 z5 z6 z7 z8 z9
              clear hbn hbX hfl2 hS0 HMo n2 nf2 hb9
              generalize World.drew _ = W10 at *
              repeat (first | (refine plan_pure (v := ?_) (a' := ?_) rfl rfl rfl ?_ ?_ ?_; rotate_left 2; (focus (intro w'; go_simp; with_reducible rfl)); (focus (simp only [Act.put, List.setIfInBounds_toArray, List.set_cons_zero, List.set_cons_succ]; rfl))) | (refine plan_load (v := ?_) (a' := ?_) rfl rfl rfl ?_ ?_ ?_; rotate_left 2; (focus (intro w' hw'; obtain ⟨q0, q1, q2, q3, q4, q5, q6, q7, q8, q9, q10, q11⟩ := hw'.out; clear hw'; go_simp; with_reducible rfl)); (focus (simp only [Act.put, List.setIfInBounds_toArray, List.set_cons_zero, List.set_cons_succ]; rfl))) | (refine plan_skip rfl rfl (by decide +kernel) (by simp only [Act.put, List.setIfInBounds_toArray, List.set_cons_zero, List.set_cons_succ]; rfl) ?_) | (refine plan_skip (a' := ?_) rfl rfl rfl ?_ ?_; rotate_left 1; (focus (simp only [Act.put, List.setIfInBounds_toArray, List.set_cons_zero, List.set_cons_succ]; rfl))) | (refine plan_skipL (a' := ?_) rfl rfl rfl ?_ ?_; rotate_left 1; (focus (simp only [Act.put, List.setIfInBounds_toArray, List.set_cons_zero, List.set_cons_succ]; rfl))))
              refine plan_eff rfl (fun K hK => ?_)
              go_wp2_with fail
              have HMe := HMd.out.psel (L := [_, _, _, _, _]) [4, 0, 1, 2] 5 rfl (by decide)
              clear HMd
              have G0 : Mem fp w0 (Blk nb0 38 #[.string ⟨#[]⟩, .int .i64 0, .slice none 0 0, .slice none 0 0, .slice none 0 0, .string ⟨#[]⟩, .bool false, .bool false, .bool false, .bool false] :: ([Blk nb 38 #[.string name, .int .i64 r.kind, .slice A7 (srcB r.src).length c7, .slice B1 m1 d1', .slice none 0 0, .string ⟨#[]⟩, .bool false, .bool b7, .bool b8, .bool b9], StrRow (.slice A7 (srcB r.src).length c7) (srcB r.src), StrRow (.slice B1 m1 d1') (r.cmd)] ++ X.mem F)) W10 := HMe
              clear HMe
              have G1 : Mem fp w0 (Blk nb0 38 #[.string name, .int .i64 0, .slice none 0 0, .slice none 0 0, .slice none 0 0, .string ⟨#[]⟩, .bool false, .bool false, .bool false, .bool false] :: ([Blk nb 38 #[.string name, .int .i64 r.kind, .slice A7 (srcB r.src).length c7, .slice B1 m1 d1', .slice none 0 0, .string ⟨#[]⟩, .bool false, .bool b7, .bool b8, .bool b9], StrRow (.slice A7 (srcB r.src).length c7) (srcB r.src), StrRow (.slice B1 m1 d1') (r.cmd)] ++ X.mem F)) _ := G0.blkSet 0 (.string name)
              clear G0
              have G2 : Mem fp w0 (Blk nb0 38 #[.string name, .int .i64 r.kind, .slice none 0 0, .slice none 0 0, .slice none 0 0, .string ⟨#[]⟩, .bool false, .bool false, .bool false, .bool false] :: ([Blk nb 38 #[.string name, .int .i64 r.kind, .slice A7 (srcB r.src).length c7, .slice B1 m1 d1', .slice none 0 0, .string ⟨#[]⟩, .bool false, .bool b7, .bool b8, .bool b9], StrRow (.slice A7 (srcB r.src).length c7) (srcB r.src), StrRow (.slice B1 m1 d1') (r.cmd)] ++ X.mem F)) _ := G1.blkSet 1 (.int .i64 r.kind)
              clear G1
              have G3 : Mem fp w0 (Blk nb0 38 #[.string name, .int .i64 r.kind, .slice A7 (srcB r.src).length c7, .slice none 0 0, .slice none 0 0, .string ⟨#[]⟩, .bool false, .bool false, .bool false, .bool false] :: ([Blk nb 38 #[.string name, .int .i64 r.kind, .slice A7 (srcB r.src).length c7, .slice B1 m1 d1', .slice none 0 0, .string ⟨#[]⟩, .bool false, .bool b7, .bool b8, .bool b9], StrRow (.slice A7 (srcB r.src).length c7) (srcB r.src), StrRow (.slice B1 m1 d1') (r.cmd)] ++ X.mem F)) _ := G2.blkSet 2 (.slice A7 (srcB r.src).length c7)
              clear G2
              have G4 : Mem fp w0 (Blk nb0 38 #[.string name, .int .i64 r.kind, .slice A7 (srcB r.src).length c7, .slice B1 m1 d1', .slice none 0 0, .string ⟨#[]⟩, .bool false, .bool false, .bool false, .bool false] :: ([Blk nb 38 #[.string name, .int .i64 r.kind, .slice A7 (srcB r.src).length c7, .slice B1 m1 d1', .slice none 0 0, .string ⟨#[]⟩, .bool false, .bool b7, .bool b8, .bool b9], StrRow (.slice A7 (srcB r.src).length c7) (srcB r.src), StrRow (.slice B1 m1 d1') (r.cmd)] ++ X.mem F)) _ := G3.blkSet 3 (.slice B1 m1 d1')
              clear G3
              have G5 : Mem fp w0 (Blk nb0 38 #[.string name, .int .i64 r.kind, .slice A7 (srcB r.src).length c7, .slice B1 m1 d1', .slice none 0 0, .string ⟨#[]⟩, .bool false, .bool false, .bool false, .bool false] :: ([Blk nb 38 #[.string name, .int .i64 r.kind, .slice A7 (srcB r.src).length c7, .slice B1 m1 d1', .slice none 0 0, .string ⟨#[]⟩, .bool false, .bool b7, .bool b8, .bool b9], StrRow (.slice A7 (srcB r.src).length c7) (srcB r.src), StrRow (.slice B1 m1 d1') (r.cmd)] ++ X.mem F)) _ := G4.blkSet 4 (.slice none 0 0)
              clear G4
              have G6 : Mem fp w0 (Blk nb0 38 #[.string name, .int .i64 r.kind, .slice A7 (srcB r.src).length c7, .slice B1 m1 d1', .slice none 0 0, .string ⟨#[]⟩, .bool false, .bool false, .bool false, .bool false] :: ([Blk nb 38 #[.string name, .int .i64 r.kind, .slice A7 (srcB r.src).length c7, .slice B1 m1 d1', .slice none 0 0, .string ⟨#[]⟩, .bool false, .bool b7, .bool b8, .bool b9], StrRow (.slice A7 (srcB r.src).length c7) (srcB r.src), StrRow (.slice B1 m1 d1') (r.cmd)] ++ X.mem F)) _ := G5.blkSet 5 (.string ⟨#[]⟩)
              clear G5
              have G7 : Mem fp w0 (Blk nb0 38 #[.string name, .int .i64 r.kind, .slice A7 (srcB r.src).length c7, .slice B1 m1 d1', .slice none 0 0, .string ⟨#[]⟩, .bool false, .bool false, .bool false, .bool false] :: ([Blk nb 38 #[.string name, .int .i64 r.kind, .slice A7 (srcB r.src).length c7, .slice B1 m1 d1', .slice none 0 0, .string ⟨#[]⟩, .bool false, .bool b7, .bool b8, .bool b9], StrRow (.slice A7 (srcB r.src).length c7) (srcB r.src), StrRow (.slice B1 m1 d1') (r.cmd)] ++ X.mem F)) _ := G6.blkSet 6 (.bool false)
              clear G6
              have G8 : Mem fp w0 (Blk nb0 38 #[.string name, .int .i64 r.kind, .slice A7 (srcB r.src).length c7, .slice B1 m1 d1', .slice none 0 0, .string ⟨#[]⟩, .bool false, .bool b7, .bool false, .bool false] :: ([Blk nb 38 #[.string name, .int .i64 r.kind, .slice A7 (srcB r.src).length c7, .slice B1 m1 d1', .slice none 0 0, .string ⟨#[]⟩, .bool false, .bool b7, .bool b8, .bool b9], StrRow (.slice A7 (srcB r.src).length c7) (srcB r.src), StrRow (.slice B1 m1 d1') (r.cmd)] ++ X.mem F)) _ := G7.blkSet 7 (.bool b7)
              clear G7
              have G9 : Mem fp w0 (Blk nb0 38 #[.string name, .int .i64 r.kind, .slice A7 (srcB r.src).length c7, .slice B1 m1 d1', .slice none 0 0, .string ⟨#[]⟩, .bool false, .bool b7, .bool b8, .bool false] :: ([Blk nb 38 #[.string name, .int .i64 r.kind, .slice A7 (srcB r.src).length c7, .slice B1 m1 d1', .slice none 0 0, .string ⟨#[]⟩, .bool false, .bool b7, .bool b8, .bool b9], StrRow (.slice A7 (srcB r.src).length c7) (srcB r.src), StrRow (.slice B1 m1 d1') (r.cmd)] ++ X.mem F)) _ := G8.blkSet 8 (.bool b8)
              clear G8
              have G10 : Mem fp w0 (Blk nb0 38 #[.string name, .int .i64 r.kind, .slice A7 (srcB r.src).length c7, .slice B1 m1 d1', .slice none 0 0, .string ⟨#[]⟩, .bool false, .bool b7, .bool b8, .bool b9] :: ([Blk nb 38 #[.string name, .int .i64 r.kind, .slice A7 (srcB r.src).length c7, .slice B1 m1 d1', .slice none 0 0, .string ⟨#[]⟩, .bool false, .bool b7, .bool b8, .bool b9], StrRow (.slice A7 (srcB r.src).length c7) (srcB r.src), StrRow (.slice B1 m1 d1') (r.cmd)] ++ X.mem F)) _ := G9.blkSet 9 (.bool b9)
              clear G9
              generalize World.setCell _ _ _ = W11 at *
              have hbn := G10.at_ 1 rfl
              have hbX : (Blk X.b 67 X.cells).ok _ := G10.at_ 4 rfl
              have hfl2 := lookF X (G10.at_ 7 rfl) hfl.out
              have hS1 := Lib.hid (show _ ∧ _ ∧ _ ∧ _ ∧ _ ∧ _ ∧ _ ∧ _ ∧ _ ∧ _ ∧ _ ∧ _ from ⟨Blk.cell_ hbn 0, Blk.cell_ hbn 1, Blk.cell_ hbn 2, Blk.cell_ hbn 3, Blk.cell_ hbn 4, Blk.cell_ hbn 5, Blk.cell_ hbn 6, Blk.cell_ hbn 7, Blk.cell_ hbn 8, Blk.cell_ hbn 9, Blk.cell_ hbX 3, hfl2⟩)
              refine hK _ _ hS1 ?_
              clear hK hS1 hbn hbX hfl2
              repeat (first | (refine plan_pure (v := ?_) (a' := ?_) rfl rfl rfl ?_ ?_ ?_; rotate_left 2; (focus (intro w'; go_simp; with_reducible rfl)); (focus (simp only [Act.put, List.setIfInBounds_toArray, List.set_cons_zero, List.set_cons_succ]; rfl))) | (refine plan_load (v := ?_) (a' := ?_) rfl rfl rfl ?_ ?_ ?_; rotate_left 2; (focus (intro w' hw'; obtain ⟨q0, q1, q2, q3, q4, q5, q6, q7, q8, q9, q10, q11⟩ := hw'.out; clear hw'; go_simp; with_reducible rfl)); (focus (simp only [Act.put, List.setIfInBounds_toArray, List.set_cons_zero, List.set_cons_succ]; rfl))) | (refine plan_skip rfl rfl (by decide +kernel) (by simp only [Act.put, List.setIfInBounds_toArray, List.set_cons_zero, List.set_cons_succ]; rfl) ?_) | (refine plan_skip (a' := ?_) rfl rfl rfl ?_ ?_; rotate_left 1; (focus (simp only [Act.put, List.setIfInBounds_toArray, List.set_cons_zero, List.set_cons_succ]; rfl))) | (refine plan_skipL (a' := ?_) rfl rfl rfl ?_ ?_; rotate_left 1; (focus (simp only [Act.put, List.setIfInBounds_toArray, List.set_cons_zero, List.set_cons_succ]; rfl))))
              refine plan_done ?_
              have y0 := Blk.cell_ G10.head 0
              have y1 := Blk.cell_ G10.head 1
              have y2 := Blk.cell_ G10.head 2
              have y3 := Blk.cell_ G10.head 3
              have y4 := Blk.cell_ G10.head 4
              have y5 := Blk.cell_ G10.head 5
              have y6 := Blk.cell_ G10.head 6
              have y7 := Blk.cell_ G10.head 7
              have y8 := Blk.cell_ G10.head 8
              have y9 := Blk.cell_ G10.head 9
              clear z0 fz0 z1 fz1 z2 fz2 z3 fz3 z4 fz4 z5 fz5 z6 fz6 z7 fz7 z8 fz8 z9 fz9
              go_wp2_with fail
              (try simp only [Exit.inBlock, Exit.then])
              refine bodyPost_ret (v := .tuple #[.agg #[.string name, .int .i64 r.kind, .slice A7 (srcB r.src).length c7, .slice B1 m1 d1', .slice none 0 0, .string ⟨#[]⟩, .bool false, .bool b7, .bool b8, .bool b9], .bool fl]) ?hr rfl ?_
              case hr =>
                unfold results
                go_simp
              rw [HB.out]
              exact ⟨_, _, rfl, G10.tail.tail⟩
    · intro k v seen' w2 hpm HM2 hmu hen
      have hst := flag_step (fl := fun k => mark X.marks k name) HS.out HF.out hpm
      have HS2 := Lib.hid hst.1
      have HF2 := Lib.hid hst.2
      have hl2 : (leftZ es flagM seen').length + 1 = (leftZ es flagM seen).length := by rw [hpm.length_eq]; rfl
      have hv := flagM_val (HS.out (k, v) (hpm.mem_iff.2 (List.mem_cons_self ..)))
      clear hz HM HS HF hpm hmu hst
      have hn0 := HM2.at_ 2 rfl
      have hcv : w2.cell? ⟨nb, v, none⟩ = some (.bool (f v)) := by
        rw [Blk.cell_ hn0 v]
        rcases hv with rfl | rfl | rfl | rfl <;> rfl
      have hfv := Blk.frozen hn0 v
      have hbk : (Blk X.b 67 X.cells).ok w2 := HM2.at_ 6 rfl
      have k6 : w2.cell? ⟨X.b, 6, none⟩ = some (.map (some X.mb)) := Blk.cell_ hbk 6
      have hmm6 : (MapC X.mb Value.string markV X.marks).ok w2 := HM2.at_ 12 rfl
      have HX2 : Mem fp w0 (X.mem F) w2 := HM2.drop (cs := [_, _, _, _, _, _])
      have hset : ∀ u : Bool, Mem fp w0 ([IterC it fm clk seen', ZC fm Value.string (fun i : Nat => Value.pointer (some ⟨nb, i, none⟩)) flagM es clk, Blk nb 38 (nodeC name r.kind (.slice none 0 0) (.slice B1 m1 d1') (.slice none 0 0) ⟨#[]⟩ ((fun i => if i = v then u else f i) 6) ((fun i => if i = v then u else f i) 7) ((fun i => if i = v then u else f i) 8) ((fun i => if i = v then u else f i) 9)), StrRow (.slice B1 m1 d1') r.cmd, Blk rb 25 #[.slice A1 r.tg.length c1, .int .i64 r.kind, .slice A2 r.src.length c2, .slice A3 r.cmd.length c3, .int .i64 r.at_], Blk nb0 38 (nodeC ⟨#[]⟩ 0 (.slice none 0 0) (.slice none 0 0) (.slice none 0 0) ⟨#[]⟩ false false false false)] ++ X.mem F) (w2.setCell ⟨nb, v, none⟩ (.bool u)) := by
        intro u
        have h3 := (HM2.psel (L := [_, _, _, _, _, _]) [2, 0, 1, 3, 4, 5] 6 rfl (by decide)).blkSet v (.bool u)
        have e : (nodeC name r.kind (.slice none 0 0) (.slice B1 m1 d1') (.slice none 0 0) ⟨#[]⟩ (f 6) (f 7) (f 8) (f 9)).setIfInBounds v (.bool u) = nodeC name r.kind (.slice none 0 0) (.slice B1 m1 d1') (.slice none 0 0) ⟨#[]⟩ ((fun i => if i = v then u else f i) 6) ((fun i => if i = v then u else f i) 7) ((fun i => if i = v then u else f i) 8) ((fun i => if i = v then u else f i) 9) := by
          rcases hv with rfl | rfl | rfl | rfl <;> rfl
        rw [e] at h3
        exact h3.psel (L := [_, _, _, _, _, _]) [1, 2, 0, 3, 4, 5] 6 rfl (by decide)
      have hset := Lib.hid hset
      clear hv hn0 hbk
      have hzM : ∀ w, (zeroValue 61).run Try.prog w = .ok (.map none) w := fun w => by kernel_rfl
      cases hmk : mget X.marks k with
      | none =>
        have hmk2 : mark X.marks k name = false := by unfold mark; rw [hmk]
        have hlk : (if false = true then Value.tuple #[((mget X.marks k).map markV).getD (.map none), .bool (mhas X.marks k)] else ((mget X.marks k).map markV).getD (.map none)) = .map none := by rw [if_neg (by decide), hmk]; rfl
        rw [hmk2] at HF2
        clear hmk hmk2 HX2
        have hnil : (Instr.lookup 61 (.map none) (.string name) false).run Try.prog w2 = .ok (.bool false) w2 := by
          unfold Instr.lookup
          go_simp
          rw [keyS.check true name w2, Result.andThen_ok, keyS.find name [] [] w2 rfl, Result.andThen_ok]
          exact zeroB w2
        go_wp2_with (at_lookup; refine wpList_get keyS Try.underlying63 hzM rfl _ _ false rfl hmm6 rfl k rfl _ hlk ?_)
        go_roundg ((leftZ es flagM seen').length)
        case measure => omega
        case rel => exact ⟨fun i => if i = v then false else f i, seen', Nat.le_refl _, HS2, HF2, hset.out false⟩
      | some p =>
        have hmk2 : mark X.marks k name = mhas p.2 name := by unfold mark; rw [hmk]
        have hlk : (if false = true then Value.tuple #[((mget X.marks k).map markV).getD (.map none), .bool (mhas X.marks k)] else ((mget X.marks k).map markV).getD (.map none)) = .map (some p.1) := by rw [if_neg (by decide), hmk]; rfl
        have hpc := mark_reads X k HX2 p hmk
        rw [hmk2] at HF2
        clear hmk hmk2 HX2
        go_wp2_with (first | (at_lookup; refine wpList_get keyS Try.underlying63 hzM rfl _ _ false rfl hmm6 rfl k rfl _ hlk ?_) | (at_lookup; refine wpList_get keyS Try.underlying61 zeroB rfl _ _ false rfl hpc rfl name rfl (.bool (mhas p.2 name)) (by rw [if_neg (by decide)]; exact set_get p.2 name) ?_))
        go_roundg ((leftZ es flagM seen').length)
        case measure => omega
        case rel => exact ⟨fun i => if i = v then mhas p.2 name else f i, seen', Nat.le_refl _, HS2, HF2, hset.out (mhas p.2 name)⟩
end Go.Proofs.Ytliglejbkpjamaa
