/-
  Layer 16 (graph): the walk of visit.
-/
import Derived.Test.YtliglejbkpjamaaVGrM
import Derived.Test.YtliglejbkpjamaaVGrN0
set_option linter.unusedVariables false
set_option linter.unusedSimpArgs false
set_option maxRecDepth 100000
namespace Go.Proofs.Ytliglejbkpjamaa
open Go.RowKit

theorem box10 {fp : Nat → Prop} {w0 w : World} {F : List Chunk} {b t : Nat} {o0 o1 o2 o3 o4 o5 o6 o7 o8 o9 : Value} (h : Mem fp w0 (Blk b t #[o0, o1, o2, o3, o4, o5, o6, o7, o8, o9] :: F) w) (v0 v1 v2 v3 v4 v5 v6 v7 v8 v9 : Value) :
    Mem fp w0 (Blk b t #[v0, v1, v2, v3, v4, v5, v6, v7, v8, v9] :: F) ((((((((((w.setCell ⟨b, 0, none⟩ v0).setCell ⟨b, 1, none⟩ v1).setCell ⟨b, 2, none⟩ v2).setCell ⟨b, 3, none⟩ v3).setCell ⟨b, 4, none⟩ v4).setCell ⟨b, 5, none⟩ v5).setCell ⟨b, 6, none⟩ v6).setCell ⟨b, 7, none⟩ v7).setCell ⟨b, 8, none⟩ v8).setCell ⟨b, 9, none⟩ v9) := by
  have h0 : Mem fp w0 (Blk b t #[v0, o1, o2, o3, o4, o5, o6, o7, o8, o9] :: F) _ := h.blkSet 0 v0
  have h1 : Mem fp w0 (Blk b t #[v0, v1, o2, o3, o4, o5, o6, o7, o8, o9] :: F) _ := h0.blkSet 1 v1
  have h2 : Mem fp w0 (Blk b t #[v0, v1, v2, o3, o4, o5, o6, o7, o8, o9] :: F) _ := h1.blkSet 2 v2
  have h3 : Mem fp w0 (Blk b t #[v0, v1, v2, v3, o4, o5, o6, o7, o8, o9] :: F) _ := h2.blkSet 3 v3
  have h4 : Mem fp w0 (Blk b t #[v0, v1, v2, v3, v4, o5, o6, o7, o8, o9] :: F) _ := h3.blkSet 4 v4
  have h5 : Mem fp w0 (Blk b t #[v0, v1, v2, v3, v4, v5, o6, o7, o8, o9] :: F) _ := h4.blkSet 5 v5
  have h6 : Mem fp w0 (Blk b t #[v0, v1, v2, v3, v4, v5, v6, o7, o8, o9] :: F) _ := h5.blkSet 6 v6
  have h7 : Mem fp w0 (Blk b t #[v0, v1, v2, v3, v4, v5, v6, v7, o8, o9] :: F) _ := h6.blkSet 7 v7
  have h8 : Mem fp w0 (Blk b t #[v0, v1, v2, v3, v4, v5, v6, v7, v8, o9] :: F) _ := h7.blkSet 8 v8
  exact h8.blkSet 9 v9
/-- The builder's block turns. -/
theorem bs_set {fp : Nat → Prop} {w0 w : World} {X : BS} (Y : BS) {L F : List Chunk} (h : Mem fp w0 (L ++ X.mem F) w) (j : Nat) (u : Value) (hr : Y.mem F = Blk X.b 67 (X.cells.setIfInBounds j u) :: (X.mem F).tail) :
    Mem fp w0 (L ++ Y.mem F) (w.setCell ⟨X.b, j, none⟩ u) := by
  rw [hr]
  exact ((show Mem fp w0 (L ++ Blk X.b 67 X.cells :: (X.mem F).tail) w from h).perm List.perm_middle |>.blkSet j u).perm List.perm_middle.symm
def BS.no8 (X : BS) (F : List Chunk) : List Chunk := [Blk X.b 67 X.cells, StrRow X.SV X.suf, PrsRow X.WV X.ways, MapC X.fb Value.string setV X.files, MapC X.ob Value.string RX.val X.own, StrRow X.TH X.there, MapC X.mb Value.string markV X.marks, MapC X.lb Value.string Value.string X.links] ++ (NRow X.NV X.nodes :: (X.tails ++ F))
theorem state_out {fp : Nat → Prop} {w0 w : World} {X : BS} {L F : List Chunk} (h : Mem fp w0 (L ++ X.mem F) w) : Mem fp w0 (MapC X.sb Value.string (Value.int .i64) X.state :: (L ++ X.no8 F)) w := by
  have e : ∀ (c : Chunk) (A B L : List Chunk), (L ++ (A ++ c :: B)).Perm (c :: (L ++ (A ++ B))) := fun c A B L => by
    rw [← List.append_assoc, ← List.append_assoc]; exact List.perm_middle
  exact h.perm (e (MapC X.sb Value.string (Value.int .i64) X.state) [_, _, _, _, _, _, _, _] (NRow X.NV X.nodes :: (X.tails ++ F)) L)
theorem state_in {fp : Nat → Prop} {w0 w : World} {X : BS} (m : List (ByteArray × Int)) {L F : List Chunk} (h : Mem fp w0 (MapC X.sb Value.string (Value.int .i64) m :: (L ++ X.no8 F)) w) : Mem fp w0 (L ++ ({ X with state := m } : BS).mem F) w := by
  have e : ∀ (c : Chunk) (A B L : List Chunk), (L ++ (A ++ c :: B)).Perm (c :: (L ++ (A ++ B))) := fun c A B L => by
    rw [← List.append_assoc, ← List.append_assoc]; exact List.perm_middle
  exact h.perm (e (MapC X.sb Value.string (Value.int .i64) m) [Blk X.b 67 X.cells, StrRow X.SV X.suf, PrsRow X.WV X.ways, MapC X.fb Value.string setV X.files, MapC X.ob Value.string RX.val X.own, StrRow X.TH X.there, MapC X.mb Value.string markV X.marks, MapC X.lb Value.string Value.string X.links] (NRow X.NV X.nodes :: (X.tails ++ F)) L).symm
theorem nodeE : Elem Try.prog 27 38 10 120 := Elem.of (z := .agg #[.string ⟨#[]⟩, .int .i64 0, .slice none 0 0, .slice none 0 0, .slice none 0 0, .string ⟨#[]⟩, .bool false, .bool false, .bool false, .bool false]) Try.underlying27 (by kernel_rfl) rfl (by decide) (by decide)
/-- One node more. -/
theorem node_push {fp : Nat → Prop} {w0 w : World} {X : BS} {x : NX} {NV' : Value} {F : List Chunk} (h : Mem fp w0 (Row 38 10 NV' (X.nodes.length + 1) (X.nodes.flatMap NX.cells ++ x.cells) :: Blk X.b 67 (X.cells.setIfInBounds 9 NV') :: (x.own ++ ([StrRow X.SV X.suf, PrsRow X.WV X.ways, MapC X.fb Value.string setV X.files, MapC X.ob Value.string RX.val X.own, StrRow X.TH X.there, MapC X.mb Value.string markV X.marks, MapC X.lb Value.string Value.string X.links, MapC X.sb Value.string (Value.int .i64) X.state] ++ (X.tails ++ F)))) w) :
    Mem fp w0 (({ X with NV := NV', nodes := X.nodes ++ [x] } : BS).mem F) w := by
  have e1 : NRow NV' (X.nodes ++ [x]) = Row 38 10 NV' (X.nodes.length + 1) (X.nodes.flatMap NX.cells ++ x.cells) := by
    unfold NRow
    rw [List.length_append, List.flatMap_append, List.flatMap_singleton]; rfl
  have e2 : ({ X with NV := NV', nodes := X.nodes ++ [x] } : BS).tails = Cls (X.own.map (·.2)) ++ (X.marks.map markC ++ (X.nodes.flatMap NX.own ++ x.own)) := by
    unfold BS.tails
    rw [List.flatMap_append, List.flatMap_singleton]
  unfold BS.mem BS.heads
  rw [e2]
  show Mem fp w0 ([Blk X.b 67 (X.cells.setIfInBounds 9 NV'), StrRow X.SV X.suf, PrsRow X.WV X.ways, MapC X.fb Value.string setV X.files, MapC X.ob Value.string RX.val X.own, StrRow X.TH X.there, MapC X.mb Value.string markV X.marks, MapC X.lb Value.string Value.string X.links, MapC X.sb Value.string (Value.int .i64) X.state, NRow NV' (X.nodes ++ [x])] ++ _) w
  rw [e1]
  refine h.perm ?_
  unfold BS.tails
  generalize Row 38 10 NV' (X.nodes.length + 1) (X.nodes.flatMap NX.cells ++ x.cells) = r
  generalize Blk X.b 67 (X.cells.setIfInBounds 9 NV') = b
  generalize x.own = o
  generalize Cls (X.own.map (·.2)) = c1
  generalize X.marks.map markC = c2
  generalize X.nodes.flatMap NX.own = c3
  have p1 : (r :: b :: (o ++ ([StrRow X.SV X.suf, PrsRow X.WV X.ways, MapC X.fb Value.string setV X.files, MapC X.ob Value.string RX.val X.own, StrRow X.TH X.there, MapC X.mb Value.string markV X.marks, MapC X.lb Value.string Value.string X.links, MapC X.sb Value.string (Value.int .i64) X.state] ++ (c1 ++ (c2 ++ c3) ++ F)))).Perm
      (r :: b :: ([StrRow X.SV X.suf, PrsRow X.WV X.ways, MapC X.fb Value.string setV X.files, MapC X.ob Value.string RX.val X.own, StrRow X.TH X.there, MapC X.mb Value.string markV X.marks, MapC X.lb Value.string Value.string X.links, MapC X.sb Value.string (Value.int .i64) X.state] ++ (c1 ++ (c2 ++ (c3 ++ o)) ++ F))) := by
    refine ((List.perm_append_comm_assoc _ _ _).trans ?_).cons _ |>.cons _
    refine List.Perm.append_left _ ?_
    have e : c1 ++ (c2 ++ (c3 ++ o)) ++ F = (c1 ++ (c2 ++ c3)) ++ (o ++ F) := by simp only [List.append_assoc]
    rw [e]
    exact List.perm_append_comm_assoc _ _ _
  refine p1.trans ?_
  exact (List.perm_middle (l₁ := [b, StrRow X.SV X.suf, PrsRow X.WV X.ways, MapC X.fb Value.string setV X.files, MapC X.ob Value.string RX.val X.own, StrRow X.TH X.there, MapC X.mb Value.string markV X.marks, MapC X.lb Value.string Value.string X.links, MapC X.sb Value.string (Value.int .i64) X.state])).symm
theorem state_get (s : VS) (name : ByteArray) : ((mget s.state name).map (Value.int .i64)).getD (.int .i64 0) = .int .i64 (stAt s name) := by unfold stAt; cases mget s.state name <;> rfl
theorem put_node (raw : List RuleS) (X : BS) (NV : Value) (xs : List NX) (s : VS) (name : ByteArray) : nodeB raw (X.put NV xs s) name = nodeL raw X s.links name := rfl
set_option maxHeartbeats 16000000 in
theorem visit_calls (raw : List RuleS) (X : BS) (Z : Nat) (E : Env raw X Z) {fp : Nat → Prop} {w0 : World} (hR : ∀ w', Mut fp w0 w' → Rules w' X.RV raw) : ∀ (k : Nat) (F : List Chunk) (NV : Value) (xs : List NX) (s : VS) (name : ByteArray) (w : World), xs.map NX.nd = s.nodes → VOk Z s → (s.why = 0 → name.size ≤ bnd Z s.count) → 512 < s.count + k → Mem fp w0 ((X.put NV xs s).mem F) w →
    Calls Try.prog 26 #[.pointer (some ⟨X.b, 0, none⟩), .string name] w fun e w' => e = .returned (.tuple #[]) ∧ ∃ NV' xs', xs'.map NX.nd = (visitB raw X k name s).nodes ∧ Mem fp w0 ((X.put NV' xs' (visitB raw X k name s)).mem F) w' := by
  intro k
  induction k with
  | zero => intro F NV xs s name w hxs hV hn hk HX; have := hV.cnt; omega
  | succ k ih =>
    intro F NV xs s name w hxs hV hn hk HX
    have hb := HX.at_ 0 rfl
    have k11 : w.cell? ⟨X.b, 11, none⟩ = some (.int .i64 s.why) := Blk.cell_ hb 11
    have k8 : w.cell? ⟨X.b, 8, none⟩ = some (.map (some X.sb)) := Blk.cell_ hb 8
    have k10 : w.cell? ⟨X.b, 10, none⟩ = some (.int .i64 s.count) := Blk.cell_ hb 10
    have HM1 := Lib.hid HX
    clear hb HX
    obtain ⟨R, hRR⟩ : ∃ R, visitB raw X (k + 1) name s = R := ⟨_, rfl⟩
    rw [hRR]
    unfold visitB at hRR
    have hms : (MapC X.sb Value.string (Value.int .i64) s.state).ok w := HM1.out.at_ 8 rfl
    by_cases c0 : s.why = 0
    · have c0a : (s.why != 0) = false := by rw [c0]; rfl
      have c0b : decide (s.why = 0) = true := decide_eq_true c0
      have hn := hn c0
      have hlk : (if false = true then Value.tuple #[((mget s.state name).map (Value.int .i64)).getD (.int .i64 0), .bool (mhas s.state name)] else ((mget s.state name).map (Value.int .i64)).getD (.int .i64 0)) = .int .i64 (stAt s name) := by rw [if_neg (by decide), state_get]
      by_cases c2 : stAt s name = 2
      · rw [if_pos (.inr c2)] at hRR
        subst hRR
        rw [c2] at hlk
        clear c0 c2
        go_enter Try.func26, Try.ntmps26
        go_wp2_with (at_lookup; refine wpList_get keyS Try.underlying65 zeroJ rfl _ _ false rfl hms rfl name rfl _ hlk ?_)
        refine bodyPost_ret (v := .tuple #[]) ?hr1 rfl ?_
        case hr1 =>
          unfold results
          go_simp
        exact ⟨rfl, NV, xs, hxs, HM1.out⟩
      rw [if_neg (show ¬ (s.why ≠ 0 ∨ stAt s name = 2) from fun h => h.elim (fun h => h c0) c2)] at hRR
      have c2a : (stAt s name == 2) = false := by rw [beq_eq_false_iff_ne]; exact c2
      have c2b : decide (stAt s name = 2) = false := decide_eq_false c2
      by_cases c1 : stAt s name = 1
      · rw [if_pos c1] at hRR
        subst hRR
        rw [c1] at hlk
        have hW := wrong_calls (X.put NV xs s) 11 name w HM1.out
        rw [put_wrong] at hW
        clear c0 c1 c2
        go_enter Try.func26, Try.ntmps26
        go_wp2_with (first | (at_lookup; refine wpList_get keyS Try.underlying65 zeroJ rfl _ _ false rfl hms rfl name rfl _ hlk ?_) | (go_at_call 46; refine hW.mono ?_; clear hW; rintro e w2 ⟨rfl, hm⟩))
        refine bodyPost_ret (v := .tuple #[]) ?hr2 rfl ?_
        case hr2 =>
          unfold results
          go_simp
        exact ⟨rfl, NV, xs, hxs.trans (wrong_keep s 11 name).1.symm, hm⟩
      rw [if_neg c1] at hRR
      have c1a : (stAt s name == 1) = false := by rw [beq_eq_false_iff_ne]; exact c1
      have c1b : decide (stAt s name = 1) = false := decide_eq_false c1
      have hbl := bnd_le (c := s.count) E.hZ hV.cnt
      have hN := node_calls raw (X.put NV xs s) name w HM1.out hR (fun p hp => by have := E.ways p hp; have := E.hZ; omega) (by omega) E.cmds (E.own name).1 (E.own name).2.1
      have hz := nodeL_szd E hV.cnt0 (hV.szd c0) hn
      have hf := nodeL_facts raw X s.links name
      have hB := begin_ok E hV c0 hn
      rw [put_node] at hN
      obtain ⟨⟨⟨nm, kd, src, cmd, aft, im, ph, pr, si, ig⟩, ok, L⟩, hq⟩ : ∃ q, nodeL raw X s.links name = q := ⟨_, rfl⟩
      rw [hq] at hN hz hf hRR hB
      simp only at hN hz hf hRR hB
      obtain ⟨hf1, hf2, hf3, rfl⟩ := hf
      obtain rfl : name = nm := hf1.symm
      have hN : Calls Try.prog 47 #[.pointer (some ⟨X.b, 0, none⟩), .string name] w fun e w' => ∃ SV CV, e = .returned (.tuple #[.agg #[.string name, .int .i64 kd, SV, CV, .slice none 0 0, .string im, .bool ph, .bool pr, .bool si, .bool ig], .bool ok]) ∧
        Mem fp w0 ([StrRow SV src, StrRow CV cmd] ++ (X.put NV xs { s with links := L }).mem F) w' := hN
      clear hq
      generalize hst : stAt s name = st at *
      have c0 := Lib.hid c0
      have hV := Lib.hid hV
      clear c1 c2 hst
      cases ok with
      | false =>
        rw [if_pos rfl] at hRR
        subst hRR
        go_enter Try.func26, Try.ntmps26
        go_wp2_with (first | (at_lookup; refine wpList_get keyS Try.underlying65 zeroJ rfl _ _ false rfl hms rfl name rfl _ hlk ?_) | (go_at_call 47; go_loud (refine hN.mono ?_; clear hN; rintro e w2 ⟨SV, CV, rfl, hm⟩; obtain ⟨A1, n1, rfl, _, u1⟩ := Row.any_ (hm.at_ 0 rfl); obtain ⟨A2, n2, rfl, _, u2⟩ := Row.any_ (hm.at_ 1 rfl); have HM2 := Lib.hid (hm.box #[.string name, .int .i64 kd, .slice A1 src.length n1, .slice A2 cmd.length n2, .slice none 0 0, .string im, .bool ph, .bool pr, .bool si, .bool ig] 38); have q10 : World.cell? _ ⟨X.b, 10, none⟩ = some (Value.int .i64 s.count) := Blk.cell_ (HM2.out.at_ 3 rfl) 10; have hW := fun e => wrong_calls (X.put NV xs { s with links := L }) e name _ (mem_in (L := [_, _, _]) (X := X.put NV xs { s with links := L }) HM2.out); simp only [put_wrong] at hW; clear hm)) | (go_at_call 46; refine (hW 6).mono ?_; clear hW; rintro e w3 ⟨rfl, hm⟩; have HM3 := Lib.hid (mem_out (L := [_, _, _]) hm); clear hm HM2))
        refine bodyPost_ret (v := .tuple #[]) ?hr3 rfl ?_
        case hr3 =>
          unfold results
          go_simp
        exact ⟨rfl, NV, xs, hxs.trans (wrong_keep { s with links := L } 6 name).1.symm, HM3.out.drop (cs := [_, _, _])⟩
      | true =>
        rw [if_neg (by decide)] at hRR
        by_cases c4 : s.count = 512
        · rw [if_pos c4] at hRR
          subst hRR
          have c4a : (s.count == 512) = true := by rw [beq_iff_eq]; exact c4
          have c4b : decide (s.count = 512) = true := decide_eq_true c4
          clear c4 hB
          go_enter Try.func26, Try.ntmps26
          go_wp2_with (first | (at_lookup; refine wpList_get keyS Try.underlying65 zeroJ rfl _ _ false rfl hms rfl name rfl _ hlk ?_) | (go_at_call 47; go_loud (refine hN.mono ?_; clear hN; rintro e w2 ⟨SV, CV, rfl, hm⟩; obtain ⟨A1, n1, rfl, _, u1⟩ := Row.any_ (hm.at_ 0 rfl); obtain ⟨A2, n2, rfl, _, u2⟩ := Row.any_ (hm.at_ 1 rfl); have HM2 := Lib.hid (hm.box #[.string name, .int .i64 kd, .slice A1 src.length n1, .slice A2 cmd.length n2, .slice none 0 0, .string im, .bool ph, .bool pr, .bool si, .bool ig] 38); have q10 : World.cell? _ ⟨X.b, 10, none⟩ = some (Value.int .i64 s.count) := Blk.cell_ (HM2.out.at_ 3 rfl) 10; have hW := fun e => wrong_calls (X.put NV xs { s with links := L }) e name _ (mem_in (L := [_, _, _]) (X := X.put NV xs { s with links := L }) HM2.out); simp only [put_wrong] at hW; clear hm)) | (go_at_call 46; refine (hW 5).mono ?_; clear hW; rintro e w3 ⟨rfl, hm⟩; have HM3 := Lib.hid (mem_out (L := [_, _, _]) hm); clear hm HM2))
          refine bodyPost_ret (v := .tuple #[]) ?hr4 rfl ?_
          case hr4 =>
            unfold results
            go_simp
          exact ⟨rfl, NV, xs, hxs.trans (wrong_keep { s with links := L } 5 name).1.symm, HM3.out.drop (cs := [_, _, _])⟩
        · rw [if_neg c4] at hRR
          have hB := Lib.hid (hB c4)
          have c4a : (s.count == 512) = false := by rw [beq_eq_false_iff_ne]; exact c4
          have c4b : decide (s.count = 512) = false := decide_eq_false c4
          have hc0 := hV.out.cnt0
          have hc1 := hV.out.cnt
          clear c4
          go_enter Try.func26, Try.ntmps26
          go_wp2_with (first | (at_lookup; refine wpList_get keyS Try.underlying65 zeroJ rfl _ _ false rfl hms rfl name rfl _ hlk ?_) | (go_at_call 47; go_loud (refine hN.mono ?_; clear hN; rintro e w2 ⟨SV, CV, rfl, hm⟩; obtain ⟨A1, n1, rfl, _, u1⟩ := Row.any_ (hm.at_ 0 rfl); obtain ⟨A2, n2, rfl, _, u2⟩ := Row.any_ (hm.at_ 1 rfl); have HM2 := Lib.hid (hm.box #[.string name, .int .i64 kd, .slice A1 src.length n1, .slice A2 cmd.length n2, .slice none 0 0, .string im, .bool ph, .bool pr, .bool si, .bool ig] 38); have q10 : World.cell? _ ⟨X.b, 10, none⟩ = some (Value.int .i64 s.count) := Blk.cell_ (HM2.out.at_ 3 rfl) 10; have f10 : World.frozen? _ ⟨X.b, 10, none⟩ = false := Blk.frozen (HM2.out.at_ 3 rfl) 10; have HM3 := Lib.hid (bs_set (L := [_, _, _]) (X.put NV xs { s with links := L, count := s.count + 1 }) HM2.out 10 (.int .i64 (s.count + 1)) rfl); have q8 : World.cell? _ ⟨X.b, 8, none⟩ = some (Value.map (some X.sb)) := Blk.cell_ (HM2.out.at_ 3 rfl) 8; clear hm)) | (refine wpList_put keyS Try.underlying65 rfl _ _ _ (.inl rfl) (state_out (L := [_, _, _]) HM3.out) rfl name rfl (1 : Int) rfl ?_; intro w3 hm3 hU3; have HM4 := Lib.hid (state_in (L := [_, _, _]) (X := X.put NV xs { s with links := L, count := s.count + 1 }) _ hm3); have k2 : w3.cell? ⟨w2.heap.size, 2, none⟩ = some (.slice A1 src.length n1) := Blk.cell_ (HM4.out.at_ 0 rfl) 2; clear hm3 hU3 HM3 HM2))
          have hs2 : (X.put NV xs (beginB s name L)).mem F = (X.put NV xs (beginB s name L)).mem F := rfl
          have HM5 : Hid (Mem fp w0 ([Blk w2.heap.size 38 #[.string name, .int .i64 kd, .slice A1 src.length n1, .slice A2 cmd.length n2, .slice none 0 0, .string im, .bool ph, .bool pr, .bool si, .bool ig], StrRow (.slice A1 src.length n1) src, StrRow (.slice A2 cmd.length n2) cmd] ++ (X.put NV xs (beginB s name L)).mem F) w3) := HM4
          have hRR2 : endB (visitAll raw X k src (beginB s name L)) name ⟨name, kd, src, cmd, [], im, ph, pr, si, ig⟩ = R := hRR
          have hG : ∀ i, Grows Z (beginB s name L) (visitAll raw X k (src.take i) (beginB s name L)) := fun i => all_grows (visit_grows E k) _ _ hB.out (fun _ x hx => hz.2 x (List.mem_of_mem_take hx))
          have hcb : (beginB s name L).count = s.count + 1 := rfl
          have hxs : xs.map NX.nd = (beginB s name L).nodes := hxs
          have hRR := Lib.hid hRR2
          have hz := Lib.hid hz.2
          have hG := Lib.hid hG
          have hk := Lib.hid hk
          have hcb := Lib.hid hcb
          generalize beginB s name L = s2 at *
          clear hs2 HM4 hRR2 k2 q10 q8 f10 HM1 hlk hms k11 k8 k10
          generalize w2.heap.size = nb at *
          unfold maxLen at u1 u2
          go_loopw [67] (fun v67 wr => ∃ (i : Nat) (NV' : Value) (xs' : List NX), i ≤ src.length ∧ v67 = .int .i64 i ∧ Hid (xs'.map NX.nd = (visitAll raw X k (src.take i) s2).nodes) ∧ Mem fp w0 ([Blk nb 38 #[.string name, .int .i64 kd, .slice A1 src.length n1, .slice A2 cmd.length n2, .slice none 0 0, .string im, .bool ph, .bool pr, .bool si, .bool ig], StrRow (.slice A1 src.length n1) src, StrRow (.slice A2 cmd.length n2) cmd] ++ (X.put NV' xs' (visitAll raw X k (src.take i) s2)).mem F) wr) (fun v _ => src.length - (intOf v).toNat)
          case atStart => exact ⟨0, NV, xs, Nat.zero_le _, rfl, Lib.hid hxs, HM5.out⟩
          case round =>
            clear HM5 hxs
            obtain ⟨i, NV', xs', hi, rfl, hxs, HM⟩ := hrel
            by_cases hlt : i < src.length
            · have hlt' : decide ((i : Int) < (src.length : Int)) = true := decide_eq_true (by omega)
              have hltN : decide (i < src.length) = true := decide_eq_true hlt
              have hrow := HM.at_ 1 rfl
              obtain ⟨g1, m1, eg, _⟩ := Row.at_ hrow (by omega)
              cases eg
              have x0 : wr.cell? ⟨g1, i, none⟩ = some (.string src[i]) := Row.cell hrow (strs_get hlt)
              have hV := ih (F ++ [_, _, _]) NV' xs' _ src[i] wr hxs.out (hG.out i).ok (fun h0 => Nat.le_trans (hz.out _ (List.getElem_mem hlt)) (bnd_mono Z (by rw [← hcb.out]; exact (hG.out i).cnt))) (by have := (hG.out i).cnt; have := hcb.out; have := hk.out; omega) (mem_in HM)
              rw [← visitAll_snoc raw X k src s2 i hlt] at hV
              clear HM hrow hxs
              generalize src[i] = x at *
              go_wp2_with (go_at_call 26; refine hV.mono ?_; clear hV; rintro e w4 ⟨rfl, NV2, xs2, hxs2, hm⟩; have HM6 := Lib.hid (mem_out hm); have hxs3 := Lib.hid hxs2; clear hm hxs2)
              go_roundw
              case rel => exact ⟨i + 1, NV2, xs2, by omega, by go_num, hxs3, HM6.out⟩
              case measure => simp [intOf]; omega
            · have hlt' : decide ((i : Int) < (src.length : Int)) = false := decide_eq_false (by omega)
              have hltN : decide (i < src.length) = false := decide_eq_false hlt
              have e : i = src.length := by omega
              subst e
              rw [List.take_length] at HM hxs
              have hGo := (hG.out src.length).ok
              rw [List.take_length] at hGo
              clear hG hz hk hcb ih hB
              generalize visitAll raw X k src s2 = t at *
              have HM6 := Lib.hid HM
              have q8 : World.cell? _ ⟨X.b, 8, none⟩ = some (Value.map (some X.sb)) := Blk.cell_ (HM.at_ 3 rfl) 8
              have hcn := hGo.cnt
              have hln := hGo.len
              have hxl := Lib.hid (show xs'.length ≤ 512 from by
                have : xs'.length = t.nodes.length := by rw [← hxs.out, List.length_map]
                omega)
              clear HM hGo hcn hln
              by_cases c9 : t.why = 0
              · have c9a : (t.why == 0) = true := by rw [beq_iff_eq]; exact c9
                have c9b : decide (t.why = 0) = true := decide_eq_true c9
                have hRR := hRR.out
                unfold endB at hRR
                rw [if_pos c9] at hRR
                have c9 := Lib.hid c9
                go_wp2_with (first | (refine wpList_put keyS Try.underlying65 rfl _ _ _ (.inl rfl) (state_out (L := [_, _, _]) HM6.out) rfl name rfl (2 : Int) rfl ?_; intro w5 hm5 hU5; have HM7 := Lib.hid (state_in (L := [_, _, _]) (X := X.put NV' xs' t) _ hm5); have k11 : w5.cell? ⟨X.b, 11, none⟩ = some (.int .i64 t.why) := Blk.cell_ (HM7.out.at_ 3 rfl) 11; clear hm5 hU5 HM6 q8))
                have hRR := Lib.hid hRR
                obtain ⟨A3, m3, e3, _, u3⟩ := Row.any_ (HM7.out.at_ 12 rfl)
                have e3 : NV' = .slice A3 xs'.length m3 := e3
                subst e3
                unfold maxLen at u3
                clear k11
                have HM8 := Lib.hid HM7.out.drew
                clear HM7
                have hbX : (Blk X.b 67 _).ok _ := HM8.out.at_ 3 rfl
                have hbn := HM8.out.at_ 0 rfl
                have hS0 := Lib.hid (show _ ∧ _ ∧ _ ∧ _ ∧ _ ∧ _ ∧ _ ∧ _ ∧ _ ∧ _ ∧ _ from ⟨Blk.cell_ hbX 9, Blk.cell_ hbn 0, Blk.cell_ hbn 1, Blk.cell_ hbn 2, Blk.cell_ hbn 3, Blk.cell_ hbn 4, Blk.cell_ hbn 5, Blk.cell_ hbn 6, Blk.cell_ hbn 7, Blk.cell_ hbn 8, Blk.cell_ hbn 9⟩)
                refine wp_plan [7, 10] (S := fun w' => Hid (w'.cell? ⟨X.b, 9, none⟩ = some (.slice A3 xs'.length m3) ∧ w'.cell? ⟨nb, 0, none⟩ = some (.string name) ∧ w'.cell? ⟨nb, 1, none⟩ = some (.int .i64 kd) ∧ w'.cell? ⟨nb, 2, none⟩ = some (.slice A1 src.length n1) ∧ w'.cell? ⟨nb, 3, none⟩ = some (.slice A2 cmd.length n2) ∧ w'.cell? ⟨nb, 4, none⟩ = some (.slice none 0 0) ∧ w'.cell? ⟨nb, 5, none⟩ = some (.string im) ∧ w'.cell? ⟨nb, 6, none⟩ = some (.bool ph) ∧ w'.cell? ⟨nb, 7, none⟩ = some (.bool pr) ∧ w'.cell? ⟨nb, 8, none⟩ = some (.bool si) ∧ w'.cell? ⟨nb, 9, none⟩ = some (.bool ig))) [(.pure, 0), (.pure, 1), (.pure, 2), (.pure, 3), (.load, 4), (.load, 5), (.eff, 6), (.tail, 7), (.pure, 8), (.pure, 9), (.tail, 10)] (by kernel_rfl) rfl (by kernel_rfl) rfl (fun _ _ _ _ _ h => h) hS0 ?_
                clear hbX hbn hS0
                generalize World.drew _ = W5 at *
                repeat (first | (refine plan_pure (v := ?_) (a' := ?_) rfl rfl rfl ?_ ?_ ?_; rotate_left 2; (focus (intro w'; go_simp; with_reducible rfl)); (focus (simp only [Act.put, List.setIfInBounds_toArray, List.set_cons_zero, List.set_cons_succ]; rfl))) | (refine plan_load (v := ?_) (a' := ?_) rfl rfl rfl ?_ ?_ ?_; rotate_left 2; (focus (intro w' hw'; obtain ⟨q0, q1, q2, q3, q4, q5, q6, q7, q8, q9, q10⟩ := hw'.out; clear hw'; go_simp; with_reducible rfl)); (focus (simp only [Act.put, List.setIfInBounds_toArray, List.set_cons_zero, List.set_cons_succ]; rfl))) | (refine plan_skip rfl rfl (by decide +kernel) (by simp only [Act.put, List.setIfInBounds_toArray, List.set_cons_zero, List.set_cons_succ]; rfl) ?_) | (refine plan_skip (a' := ?_) rfl rfl rfl ?_ ?_; rotate_left 1; (focus (simp only [Act.put, List.setIfInBounds_toArray, List.set_cons_zero, List.set_cons_succ]; rfl))) | (refine plan_skipL (a' := ?_) rfl rfl rfl ?_ ?_; rotate_left 1; (focus (simp only [Act.put, List.setIfInBounds_toArray, List.set_cons_zero, List.set_cons_succ]; rfl))))
                refine plan_eff rfl (fun K hK => ?_)
                go_wp2_with fail
                refine hK _ _ ?_ ?_
                · have HMa := HM8.out.alloc (.cells #[.string name, .int .i64 kd, .slice A1 src.length n1, .slice A2 cmd.length n2, .slice none 0 0, .string im, .bool ph, .bool pr, .bool si, .bool ig] 38)
                  have hbX : (Blk X.b 67 _).ok _ := HMa.at_ 3 rfl
                  have hbn := HMa.at_ 0 rfl
                  exact Lib.hid ⟨Blk.cell_ hbX 9, Blk.cell_ hbn 0, Blk.cell_ hbn 1, Blk.cell_ hbn 2, Blk.cell_ hbn 3, Blk.cell_ hbn 4, Blk.cell_ hbn 5, Blk.cell_ hbn 6, Blk.cell_ hbn 7, Blk.cell_ hbn 8, Blk.cell_ hbn 9⟩
                clear hK
                have HM9 : Mem fp w0 (NRow (.slice A3 xs'.length m3) xs' :: _) W5 := HM8.out.nilS.psel (L := [_, _, _, _, _, _, _, _, _, _, _, _, _, _]) [13, 4, 2, 3, 0, 5, 6, 7, 8, 9, 10, 11, 12] 14 rfl (by decide)
                have hxl2 := hxl.out
                refine plan_tail_put rfl rfl (fun K hK => ?_)
                refine wpList_app1 nodeE rfl _ _ rfl HM9 rfl #[.string name, .int .i64 kd, .slice A1 src.length n1, .slice A2 cmd.length n2, .slice none 0 0, .string im, .bool ph, .bool pr, .bool si, .bool ig] _ rfl rfl rfl (by simp [Value.oneCell']) ?hb ?_
                case hb =>
                  show (xs'.length + 1) * 120 ≤ 140737488355328
                  omega
                intro v' W6 HM10 HU10
                refine wpList_nil_ (hK _ _ ?_)
                clear hK HU10 HM9 HM8
                obtain ⟨A4, m4, e4, _, _⟩ := Row.any_ HM10.head
                subst e4
                simp only [Act.put, List.setIfInBounds_toArray, List.set_cons_zero, List.set_cons_succ]
                repeat (first | (refine plan_pure (v := ?_) (a' := ?_) rfl rfl rfl ?_ ?_ ?_; rotate_left 2; (focus (intro w'; go_simp; with_reducible rfl)); (focus (simp only [Act.put, List.setIfInBounds_toArray, List.set_cons_zero, List.set_cons_succ]; rfl))) | (refine plan_load (v := ?_) (a' := ?_) rfl rfl rfl ?_ ?_ ?_; rotate_left 2; (focus (intro w' hw'; obtain ⟨q0, q1, q2, q3, q4, q5, q6, q7, q8, q9, q10⟩ := hw'.out; clear hw'; go_simp; with_reducible rfl)); (focus (simp only [Act.put, List.setIfInBounds_toArray, List.set_cons_zero, List.set_cons_succ]; rfl))) | (refine plan_skip rfl rfl (by decide +kernel) (by simp only [Act.put, List.setIfInBounds_toArray, List.set_cons_zero, List.set_cons_succ]; rfl) ?_) | (refine plan_skip (a' := ?_) rfl rfl rfl ?_ ?_; rotate_left 1; (focus (simp only [Act.put, List.setIfInBounds_toArray, List.set_cons_zero, List.set_cons_succ]; rfl))) | (refine plan_skipL (a' := ?_) rfl rfl rfl ?_ ?_; rotate_left 1; (focus (simp only [Act.put, List.setIfInBounds_toArray, List.set_cons_zero, List.set_cons_succ]; rfl))))
                have HM11 := Lib.hid (((HM10.front [_]).blkSet 9 (.slice A4 (xs'.length + 1) m4)).back [_])
                have hbX : (Blk X.b 67 _).ok W6 := HM10.at_ 1 rfl
                have z0 : W6.cell? ⟨X.b, 9, none⟩ = some (.slice A3 xs'.length m3) := Blk.cell_ hbX 9
                have z1 := Blk.frozen hbX 9
                clear hbX HM10
                refine plan_tail rfl (fun K hK => ?_)
                go_wp2_with fail
                refine plan_done ?_
                clear z0 z1
                go_wp2_with fail
                go_end0
                refine ⟨rfl, .slice A4 (xs'.length + 1) m4, xs' ++ [⟨.slice A1 src.length n1, .slice A2 cmd.length n2, .slice none 0 0, ⟨name, kd, src, cmd, [], im, ph, pr, si, ig⟩⟩], ?_, ?_⟩
                · rw [← hRR.out, List.map_append, hxs.out]; rfl
                · rw [← hRR.out]
                  exact node_push (X := { X.put (.slice A3 xs'.length m3) xs' t with state := mput t.state name 2 }) (x := ⟨.slice A1 src.length n1, .slice A2 cmd.length n2, .slice none 0 0, ⟨name, kd, src, cmd, [], im, ph, pr, si, ig⟩⟩) HM11.out
              · have c9a : (t.why == 0) = false := by rw [beq_eq_false_iff_ne]; exact c9
                have c9b : decide (t.why = 0) = false := decide_eq_false c9
                have hRR := hRR.out
                unfold endB at hRR
                rw [if_neg c9] at hRR
                subst hRR
                clear c9
                go_wp2_with (first | (refine wpList_put keyS Try.underlying65 rfl _ _ _ (.inl rfl) (state_out (L := [_, _, _]) HM6.out) rfl name rfl (2 : Int) rfl ?_; intro w5 hm5 hU5; have HM7 := Lib.hid (state_in (L := [_, _, _]) (X := X.put NV' xs' t) _ hm5); have k11 : w5.cell? ⟨X.b, 11, none⟩ = some (.int .i64 t.why) := Blk.cell_ (HM7.out.at_ 3 rfl) 11; clear hm5 hU5 HM6 q8))
                go_end0
                exact ⟨rfl, NV', xs', hxs.out, HM7.out.drop (cs := [_, _, _])⟩
    · have c0a : (s.why != 0) = true := by rw [bne_iff_ne]; exact c0
      have c0b : decide (s.why = 0) = false := decide_eq_false c0
      rw [if_pos (.inl c0)] at hRR
      subst hRR
      clear c0
      go_enter Try.func26, Try.ntmps26
      go_wp2_with fail
      refine bodyPost_ret (v := .tuple #[]) ?hr5 rfl ?_
      case hr5 =>
        unfold results
        go_simp
      exact ⟨rfl, NV, xs, hxs, HM1.out⟩
end Go.Proofs.Ytliglejbkpjamaa
