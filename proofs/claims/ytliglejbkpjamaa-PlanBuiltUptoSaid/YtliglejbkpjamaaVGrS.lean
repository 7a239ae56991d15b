/-
  Layer 16 (graph): the walk of Build.
-/
import Derived.Test.YtliglejbkpjamaaVGrS0
import Derived.Test.YtliglejbkpjamaaVGrI
import Derived.Test.YtliglejbkpjamaaVGrD
set_option linter.unusedVariables false
set_option linter.unusedSimpArgs false
set_option maxRecDepth 100000
namespace Go.Proofs.Ytliglejbkpjamaa
open Go.RowKit

theorem sz_alloc (w : World) (o : Obj) : (w.alloc o).heap.size = w.heap.size + 1 := by simp
def mkX (b fb ob mb lb sb : Nat) (RV SV WV TH : Value) (suf : List ByteArray) (ways : List (ByteArray × ByteArray)) (files : List (ByteArray × Unit)) (own : List (ByteArray × RX)) (there : List ByteArray) (marks : List (ByteArray × MarkS)) : BS := ⟨b, fb, ob, mb, lb, sb, RV, SV, WV, TH, .slice none 0 0, suf, ways, files, own, there, marks, [], [], [], 0, 0, ⟨#[]⟩, 0⟩
theorem Mem.nilN {fp : Nat → Prop} {w0 W : World} {F : List Chunk} (h : Mem fp w0 F W) : Mem fp w0 (NRow (.slice none 0 0) [] :: F) W :=
  Mem.new h (Mut.refl _ _) (by exact World.ownsRow_nil _ _ _ _) (by intro b hb; cases hb)
theorem final_mem {fp : Nat → Prop} {w0 w : World} {X : BS} {c : Chunk} {L F : List Chunk} (h : Mem fp w0 (L ++ (c :: X.mem F)) w) : Mem fp w0 (c :: NRow X.NV X.nodes :: X.nodes.flatMap NX.own) w := by
  have s1 : (X.nodes.flatMap NX.own).Sublist (X.tails ++ F) := by
    unfold BS.tails
    exact ((List.sublist_append_right _ _).trans (List.sublist_append_right _ _)).trans (List.sublist_append_left _ _)
  have s2 : (NRow X.NV X.nodes :: X.nodes.flatMap NX.own).Sublist (X.mem F) := by
    have : X.mem F = [Blk X.b 67 X.cells, StrRow X.SV X.suf, PrsRow X.WV X.ways, MapC X.fb Value.string setV X.files, MapC X.ob Value.string RX.val X.own, StrRow X.TH X.there, MapC X.mb Value.string markV X.marks, MapC X.lb Value.string Value.string X.links, MapC X.sb Value.string (Value.int .i64) X.state] ++ (NRow X.NV X.nodes :: (X.tails ++ F)) := rfl
    rw [this]
    exact (s1.cons_cons _).trans (List.sublist_append_right _ _)
  have s3 := (s2.cons_cons c).trans (List.sublist_append_right L _)
  exact h.only (fun d hd => s3.subset hd) (h.star.2.sublist s3)
theorem goals_key {w1 w4 w5 : World} {X : BS} {FB : List Chunk} {v : Value} {gs : List ByteArray} (HM : Mem none_ w1 (X.mem FB) w4) (hv : (Mem none_ w4 [] w5 ∧ Strs w1 v gs) ∨ Mem none_ w4 [StrRow v gs] w5) :
    ∃ FB', Mem none_ w1 (X.mem FB') w5 ∧ ∀ W (Y : BS), Mem none_ w1 (Y.mem FB') W → Strs W v gs := by
  rcases hv with ⟨h1, h2⟩ | h
  · exact ⟨FB, HM.keep h1.mu, fun W Y h => h2.pure h.mu⟩
  · refine ⟨FB ++ [StrRow v gs], mem_tail (L := []) (HM.got h), fun W Y h => Row.sl (mem_head (L := []) h).head⟩
theorem AOk.src {s0 : List NodeS} {K : Nat} {xs : List NX} (h : AOk s0 K xs) {x : NX} (hx : x ∈ xs) : ∃ n, n ∈ s0 ∧ strip n = strip x.nd := by
  have : strip x.nd ∈ s0.map strip := by rw [← h.same]; exact List.mem_map.2 ⟨x, hx, rfl⟩
  obtain ⟨n, hn, e⟩ := List.mem_map.1 this
  exact ⟨n, hn, e⟩
theorem pre_all {l : List RuleS} {Z Bs C N : Nat} (hs : Sized l Z Bs C N) : pre l l.length * (200 + 1) ≤ 40200 := by
  have := Nat.mul_le_mul_right 201 hs.hp
  omega
theorem aimB_len (l : List RuleS) {Z Bs C N : Nat} (hs : Sized l Z Bs C N) : (aimB l).length ≤ 200 := by
  unfold aimB aim1
  split
  · rename_i r hr
    have := (hs.rule r (List.mem_of_find?_eq_some hr)).1
    have := hs.hBs
    rw [List.length_take]
    omega
  · unfold aim3
    split <;> simp
theorem neFn (a : Int) (w : World) : (binOp .neq 53 (.agg #[.int .i64 14, .int .i64 a]) (.agg #[.int .i64 0, .int .i64 0])).run Try.prog w = .ok (.bool true) w := by kernel_rfl
theorem neFe (w : World) : (binOp .neq 53 (.agg #[.int .i64 0, .int .i64 0]) (.agg #[.int .i64 0, .int .i64 0])).run Try.prog w = .ok (.bool false) w := by kernel_rfl
set_option maxHeartbeats 16000000 in
theorem build_calls (LV FV GV : Value) (l : List RuleS) (files goals : List ByteArray) (Z Bs C N : Nat) (w : World) (hL : Rules w LV l) (hF : Strs w FV files) (hG : Strs w GV goals) (hs : Sized l Z Bs C N) (hgz : ∀ g, g ∈ goals → g.size ≤ Z) (hfl : files.length ≤ 1000) (hgl : goals.length ≤ 1000) :
    Calls Try.prog 9 #[LV, FV, GV] w fun e w' =>
      (∃ why nm pat, Bad l files goals why nm ∧ e = retB (.slice none 0 0) (.slice none 0 0) why nm pat ∧ Mem none_ w [] w') ∨
      (∃ gs xs GO NV, Good l files goals gs xs ∧ e = retB GO NV 0 ⟨#[]⟩ 0 ∧ Mem none_ w (StrRow GO gs :: NRow NV xs :: xs.flatMap NX.own) w') := by
  have HM0 := ((Mem.start (fp := none_) w).box #[.slice none 0 0, .slice none 0 0] 29).box #[.int .i64 0, .string ⟨#[]⟩, .int .i64 0] 32
  have eb : (w.alloc (.cells #[.slice none 0 0, .slice none 0 0] 29)).heap.size = w.heap.size + 1 := by simp
  rw [eb] at HM0
  have HM0 := Lib.hid HM0
  have hJ := fun w' (hp : Pure w w') => join_calls LV l w' 1048576 66 (hL.pure hp) (fun r hr => by have := hs.rule r hr; have := hs.hBs; have := hs.hC; omega) (Nat.le_trans hs.all hs.hN) (by omega) (by omega) (fun r hr t ht => by have := (hs.rule r hr).2.2.1 t ht; have := hs.hZ; omega)
  obtain ⟨Al, nl, cl, rfl⟩ : ∃ A n c, LV = .slice A n c := by
    obtain ⟨cells, ⟨A, c, e, _⟩, _⟩ := hL
    exact ⟨A, _, c, e⟩
  obtain ⟨rfl, gl1, gl2, _⟩ := hL.get
  obtain ⟨Af, cf, rfl, _, uf, _⟩ := id hF
  obtain ⟨Ag, cg, rfl, _, ug, _⟩ := id hG
  unfold maxLen at uf ug
  have hgl := Lib.hid (show goals.length ≤ 100000000 from by omega)
  clear eb
  go_enter Try.func9, Try.ntmps9
  cases hj : joinB l with
  | none =>
    go_wp2_with (go_at_call 22; refine (hJ _ HM0.out.mu).mono ?_; clear hJ; rintro e w1 ⟨hJn, _⟩; obtain ⟨a, rfl, hm1⟩ := hJn hj; have HM1 := Lib.hid (HM0.out.got hm1); have hne := neFn a; clear hm1 HM0 hJn)
    generalize w.heap.size + 1 = pb at *
    generalize w.heap.size = gb at *
    have HM2 := Lib.hid (HM1.out.box #[.int .i64 14, .int .i64 a] 53).drew
    have hS0 := Lib.hid (show _ ∧ _ from ⟨Blk.cell_ (HM2.out.at_ 0 rfl) 0, Blk.cell_ (HM2.out.at_ 0 rfl) 1⟩)
    refine wp_plan [7] (S := fun w' => Hid (w'.cell? ⟨w1.heap.size, 0, none⟩ = some (.int .i64 14) ∧ w'.cell? ⟨w1.heap.size, 1, none⟩ = some (.int .i64 a))) [(.pure, 0), (.pure, 1), (.load, 2), (.pure, 3), (.load, 4), (.pure, 5), (.eff, 6), (.tail, 7)] (by kernel_rfl) rfl (by kernel_rfl) rfl (fun _ _ _ _ _ h => h) hS0 ?_
    clear hS0 HM1
    generalize World.drew _ = W5 at *
    generalize w1.heap.size = fb at *
    repeat (first | (refine plan_pure (v := ?_) (a' := ?_) rfl rfl rfl ?_ ?_ ?_; rotate_left 2; (focus (intro w'; go_simp; with_reducible rfl)); (focus (simp only [Act.put, List.setIfInBounds_toArray, List.set_cons_zero, List.set_cons_succ]; rfl))) | (refine plan_load (v := ?_) (a' := ?_) rfl rfl rfl ?_ ?_ ?_; rotate_left 2; (focus (intro w' hw'; obtain ⟨q0, q1⟩ := hw'.out; clear hw'; go_simp; with_reducible rfl)); (focus (simp only [Act.put, List.setIfInBounds_toArray, List.set_cons_zero, List.set_cons_succ]; rfl))) | (refine plan_skip rfl rfl (by decide +kernel) (by simp only [Act.put, List.setIfInBounds_toArray, List.set_cons_zero, List.set_cons_succ]; rfl) ?_))
    have HMa := HM2.out.psel (L := [_, _, _]) [2, 0, 1] 3 rfl (by decide)
    have x0 := (Blk.cell_ HMa.head 0).trans (show _ = some (Value.slice none 0 0) from rfl)
    have x1 := (Blk.cell_ HMa.head 1).trans (show _ = some (Value.slice none 0 0) from rfl)
    have y0 := Blk.frozen HMa.head 0
    have y1 := Blk.frozen HMa.head 1
    refine plan_eff rfl (fun K hK => ?_)
    go_wp2_with fail
    have HMb := (HMa.blkSet 0 (.slice none 0 0)).blkSet 1 (.slice none 0 0)
    generalize World.setCell _ _ _ = W6 at *
    refine hK _ _ (Lib.hid ⟨Blk.cell_ (HMb.at_ 1 rfl) 0, Blk.cell_ (HMb.at_ 1 rfl) 1⟩) ?_
    clear hK x0 x1 y0 y1 HMa HM2
    have HMc := HMb.psel (L := [_, _, _]) [2, 0] 3 rfl (by decide)
    have x0 := (Blk.cell_ HMc.head 0).trans (show _ = some (Value.int .i64 0) from rfl)
    have x1 := (Blk.cell_ HMc.head 1).trans (show _ = some (Value.string ⟨#[]⟩) from rfl)
    have x2 := (Blk.cell_ HMc.head 2).trans (show _ = some (Value.int .i64 0) from rfl)
    have y0 := Blk.frozen HMc.head 0
    have y1 := Blk.frozen HMc.head 1
    have y2 := Blk.frozen HMc.head 2
    refine plan_tail rfl (fun K hK => ?_)
    go_wp2_with fail
    refine plan_done ?_
    have HMd := ((HMc.blkSet 0 (.int .i64 14)).blkSet 1 (.string ⟨#[]⟩)).blkSet 2 (.int .i64 a)
    generalize World.setCell _ _ _ = W7 at *
    clear x0 x1 x2 y0 y1 y2 HMb HMc
    have x0 := (Blk.cell_ HMd.head 0).trans (show _ = some (Value.int .i64 14) from rfl)
    have x1 := (Blk.cell_ HMd.head 1).trans (show _ = some (Value.string ⟨#[]⟩) from rfl)
    have x2 := (Blk.cell_ HMd.head 2).trans (show _ = some (Value.int .i64 a) from rfl)
    have z0 := (Blk.cell_ (HMd.at_ 1 rfl) 0).trans (show _ = some (Value.slice none 0 0) from rfl)
    have z1 := (Blk.cell_ (HMd.at_ 1 rfl) 1).trans (show _ = some (Value.slice none 0 0) from rfl)
    go_wp2_with fail
    (try simp only [Exit.inBlock, Exit.then])
    refine bodyPost_ret (v := .tuple #[.agg #[.slice none 0 0, .slice none 0 0], .agg #[.int .i64 14, .string ⟨#[]⟩, .int .i64 a]]) ?hr1 rfl ?_
    case hr1 =>
      unfold results
      go_simp
    exact .inl ⟨14, ⟨#[]⟩, a, ⟨by decide, .inl hj⟩, rfl, HMd.only (fun d hd => by cases hd) .nil⟩
  | some rules =>
    have hne := neFe
    have hmm := @run_makeMap Try.prog
    go_wp2_with (first | (go_at_call 22; refine (hJ _ HM0.out.mu).mono ?_; clear hJ; rintro e w1 ⟨_, hJs⟩; obtain ⟨JV, rfl, hm1, hRJ⟩ := hJs rules hj; have HM1 := Lib.hid (HM0.out.got hm1); have hL1 := hL.pure HM1.out.mu; have hO := of_calls (.slice Al l.length cl) l; have HMs := Lib.hid ((Mem.start (fp := none_) w1).box #[.int .i64 0, .int .i64 0] 53); clear hm1 HM0 hJs) | (go_at_call 23; refine (hO _ (hL1.pure HMs.out.mu)).mono ?_; clear hO; rintro e w2 ⟨SV, WV, rfl, hm2⟩; obtain ⟨A1, n1, d1, e1⟩ : ∃ A n c, SV = .slice A n c := (by obtain ⟨A, c, e, _⟩ := Row.any_ (hm2.at_ 0 rfl); exact ⟨A, _, c, e⟩); obtain ⟨A2, n2, d2, e2⟩ : ∃ A n c, WV = .slice A n c := (by obtain ⟨A, c, e, _⟩ := Row.any_ (hm2.at_ 1 rfl); exact ⟨A, _, c, e⟩); subst e1 e2; have HM2 := Lib.hid (HMs.out.got hm2); clear hm2 HMs))
    clear hmm
    have HM3 := MapC.made HM2.out Value.string setV
    have HM3 := MapC.made HM3 Value.string RX.val
    have HM3 := MapC.made HM3 Value.string markV
    have HM3 := MapC.made HM3 Value.string Value.string
    have HM3 := MapC.made HM3 Value.string (Value.int .i64)
    simp only [sz_alloc] at HM3
    have HM3 := HM3.box #[.slice Al l.length cl, .slice A1 n1 d1, .slice A2 n2 d2, .map (some w2.heap.size), .map (some (w2.heap.size + 1)), .slice none 0 0, .map (some (w2.heap.size + 1 + 1)), .map (some (w2.heap.size + 1 + 1 + 1)), .map (some (w2.heap.size + 1 + 1 + 1 + 1)), .slice none 0 0, .int .i64 0, .int .i64 0, .string ⟨#[]⟩, .int .i64 0] 67
    simp only [sz_alloc] at HM3
    have HM4 : Hid (Mem none_ w1 ((mkX (w2.heap.size + 1 + 1 + 1 + 1 + 1) w2.heap.size (w2.heap.size + 1) (w2.heap.size + 1 + 1) (w2.heap.size + 1 + 1 + 1) (w2.heap.size + 1 + 1 + 1 + 1) (.slice Al l.length cl) (.slice A1 n1 d1) (.slice A2 n2 d2) (.slice none 0 0) (ofSuf l) (ofWays l) (fset (files.take 0)) [] (files.take 0) []).mem [Blk w1.heap.size 53 #[.int .i64 0, .int .i64 0]]) _) := HM3.nilS.nilN.psel (L := [_, _, _, _, _, _, _, _, _, _, _]) [2, 8, 9, 7, 6, 1, 5, 4, 3, 0, 10] 11 rfl (by decide)
    clear HM2 HM3
    generalize World.alloc _ _ = W3 at *
    generalize w2.heap.size + 1 + 1 + 1 + 1 + 1 = b at *
    generalize w2.heap.size + 1 + 1 + 1 + 1 = sb at *
    generalize w2.heap.size + 1 + 1 + 1 = lb at *
    generalize w2.heap.size + 1 + 1 = mb at *
    generalize w2.heap.size + 1 = ob at *
    generalize w2.heap.size = fb at *
    have hF1 := Lib.hid (hF.pure HM1.out.mu)
    have hG1 := Lib.hid (hG.pure HM1.out.mu)
    generalize w1.heap.size = fbx at *
    obtain ⟨FB, hFB⟩ : ∃ FB, [Blk fbx 53 #[.int .i64 0, .int .i64 0]] = FB := ⟨_, rfl⟩
    rw [hFB] at HM4
    clear hFB
    go_loopw [41] (fun v41 wr => ∃ (k : Nat) (TH : Value), k ≤ files.length ∧ v41 = .int .i64 k ∧ Mem none_ w1 ((mkX b fb ob mb lb sb (.slice Al l.length cl) (.slice A1 n1 d1) (.slice A2 n2 d2) TH (ofSuf l) (ofWays l) (fset (files.take k)) [] (files.take k) []).mem FB) wr) (fun v _ => files.length - (intOf v).toNat)
    case atStart => exact ⟨0, .slice none 0 0, Nat.zero_le _, rfl, HM4.out⟩
    case round =>
      clear HM4
      obtain ⟨k, TH, hk, rfl, HM⟩ := hrel
      by_cases hlt : k < files.length
      · have hlt' : decide ((k : Int) < (files.length : Int)) = true := decide_eq_true (by omega)
        have hltN : decide (k < files.length) = true := decide_eq_true hlt
        obtain ⟨A', c', e', _, _, _, f2⟩ := hF1.out
        cases e'
        obtain ⟨b2, o2, rfl, hc2⟩ := f2.resolve_left (by omega)
        have y0 : wr.cell? ⟨b2, o2 + k, none⟩ = some (.string files[k]) := Pure.cell HM.mu (hc2 _ _ (strs_get hlt))
        have q3 : wr.cell? ⟨b, 3, none⟩ = some (.map (some fb)) := Blk.cell_ (HM.at_ 0 rfl) 3
        have hfs := Lib.hid (fset_snoc files k hlt)
        have htk := Lib.hid (List.take_succ_eq_append_getElem hlt)
        have htl := Lib.hid (show (files.take k).length = k from by rw [List.length_take]; omega)
        clear f2 hc2
        generalize files[k] = p at *
        generalize files.take k = ft at *
        go_wp2_with (first | (at_mapUpdate; refine wpList_put keyS Try.underlying61 rfl _ _ _ (.inl rfl) (HM.psel (L := [_, _, _, _, _, _, _, _, _, _]) [3, 0, 1, 2, 4, 5, 6, 7, 8, 9] 10 rfl (by decide)) rfl p rfl () rfl ?_; intro w5 hm5 hU5; have HM5 := Lib.hid (hm5.psel (L := [_, _, _, _, _, _, _, _, _, _]) [5, 1, 2, 3, 0, 4, 6, 7, 8, 9] 10 rfl (by decide)); have q5 : w5.cell? ⟨b, 5, none⟩ = some TH := Blk.cell_ (HM5.out.at_ 1 rfl) 5; clear hm5 hU5 HM) | (at_builtin; refine wpList_appS strE rfl _ _ rfl HM5.out rfl p _ rfl (by simp) (show (ft.length + 1) * 16 ≤ 140737488355328 from by have := htl.out; omega) ?_; intro v6 w6 hm6 hU6; obtain ⟨B0, n4, d4, e4⟩ : ∃ A n c, v6 = .slice A n c := (by obtain ⟨A, c, e, _⟩ := Row.any_ hm6.head; exact ⟨A, _, c, e⟩); subst e4; have tk5 : w6.cell? ⟨b, 5, none⟩ = some TH := Blk.cell_ (hm6.at_ 1 rfl) 5; have tf5 : World.frozen? w6 ⟨b, 5, none⟩ = false := Blk.frozen (hm6.at_ 1 rfl) 5; have hm7 := ((hm6.psel (L := [_, _, _, _, _, _, _, _, _, _]) [1, 0, 2, 3, 4, 5, 6, 7, 8, 9] 10 rfl (by decide)).blkSet 5 (.slice B0 n4 d4)); have HM7 := Lib.hid (hm7.psel (L := [_, _, _, _, _, _, _, _, _, _]) [0, 2, 3, 4, 5, 1, 6, 7, 8, 9] 10 rfl (by decide)); clear hm6 hU6 hm7 HM5))
        go_roundw
        case rel => exact ⟨k + 1, .slice B0 n4 d4, by omega, by go_num, by rw [hfs.out, htk.out]; exact HM7.out⟩
        case measure => simp [intOf]; omega
      · have hlt' : decide ((k : Int) < (files.length : Int)) = false := decide_eq_false (by omega)
        have hltN : decide (k < files.length) = false := decide_eq_false hlt
        have e : k = files.length := by omega
        subst e
        rw [List.take_length] at HM
        obtain ⟨j1, j2⟩ := join_law (Pt := fun t => t.size ≤ Z) (Ps := fun x => x.size ≤ Z) hj hs.rule hs.all
        have hCo := collect_calls (mkX b fb ob mb lb sb (.slice Al l.length cl) (.slice A1 n1 d1) (.slice A2 n2 d2) TH (ofSuf l) (ofWays l) (fset files) [] files []) rules (66 * 1048576) wr HM rfl rfl JV hRJ (fun r hr => by
          obtain ⟨_, _, ⟨t, e, ht⟩, _⟩ := j2 r hr
          rw [e]
          have := hs.hZ
          exact ⟨Nat.le_refl _, by show t.size ≤ _; omega⟩) (fun r hr => by
          obtain ⟨a, b', _⟩ := j2 r hr
          have h1 : N * Bs ≤ 66 * 200 := Nat.mul_le_mul hs.hN hs.hBs
          have h2 : N * C ≤ 66 * 1048576 := Nat.mul_le_mul hs.hN hs.hC
          omega) (by have := Nat.le_trans j1 hs.hN; omega) (by show files.length + rules.length ≤ _; have := Nat.le_trans j1 hs.hN; omega)
        have hLs := Lib.hid hL1
        have hj := Lib.hid hj
        have hs := Lib.hid hs
        clear HM j1 j2 hL1 hne hlt hlt' hltN hk hL hF hG
        by_cases hg0 : goals.length = 0
        · have hg1 : ((goals.length : Int) == 0) = true := by rw [hg0]; rfl
          have hgs := show goalsOf l goals = aimB l from by unfold goalsOf; rw [if_pos hg0]
          have hAi := fun w' hp => aim_calls (.slice Al l.length cl) l (w0 := w1) w' hLs.out hp (fun r hr t ht => by have := (hs.out.rule r hr).2.2.1 t ht; have := hs.out.hZ; omega)
          have hgz2 := aimB_size (l := l) (Z := Z) (fun r hr => (hs.out.rule r hr).2.2)
          have hal : (aimB l).length ≤ 200 := aimB_len l hs.out
          generalize aimB l = gs at *
          have hgs := Lib.hid hgs
          have hgz2 := Lib.hid hgz2
          have ugs := Lib.hid (show gs.length ≤ 100000000 from by omega)
          clear hg0 hgz hal
          by_cases hge : gs.length = 0
          · have hge1 : ((gs.length : Int) == 0) = true := by rw [hge]; rfl
            have hbad := Lib.hid (show Bad l files goals 6 ⟨#[]⟩ from ⟨by decide, .inr ⟨rules, hj.out, .inl (by rw [hgs.out]; exact List.length_eq_zero_iff.1 hge)⟩⟩)
            clear hge
            go_wp2_with (first | (go_at_call 24; refine hCo.mono ?_; clear hCo; rintro e w4 ⟨rfl, TH2, own, marks, ho, hmk, hm⟩; have HM5 := Lib.hid hm; have ho := Lib.hid ho; have hmk := Lib.hid hmk; clear hm) | (go_at_call 25; refine (hAi _ HM5.out.mu).mono ?_; clear hAi; rintro e w5 ⟨v, rfl, hv⟩; obtain ⟨FBx, hmx, hGs⟩ := goals_key HM5.out hv; obtain ⟨Agx, cgx, ev, _, ugx, _⟩ := hGs _ _ hmx; subst ev; have HMw := Lib.hid ((HM1.out.got hmx).perm (List.perm_append_comm (l₂ := [_, _]))); have x0 := (Blk.cell_ (HMw.out.at_ 1 rfl) 0).trans (show _ = some (Value.slice none 0 0) from rfl); have x1 := (Blk.cell_ (HMw.out.at_ 1 rfl) 1).trans (show _ = some (Value.slice none 0 0) from rfl); have y0 := Blk.frozen (HMw.out.at_ 1 rfl) 0; have y1 := Blk.frozen (HMw.out.at_ 1 rfl) 1; have z0 := (Blk.cell_ (HMw.out.at_ 0 rfl) 0).trans (show _ = some (Value.int .i64 0) from rfl); have z1 := (Blk.cell_ (HMw.out.at_ 0 rfl) 1).trans (show _ = some (Value.string ⟨#[]⟩) from rfl); have z2 := (Blk.cell_ (HMw.out.at_ 0 rfl) 2).trans (show _ = some (Value.int .i64 0) from rfl); have u0 := Blk.frozen (HMw.out.at_ 0 rfl) 0; have u1 := Blk.frozen (HMw.out.at_ 0 rfl) 1; have u2 := Blk.frozen (HMw.out.at_ 0 rfl) 2; clear hv hmx HM5 hGs))
            have HMd := Lib.hid (((((HMw.out.psel (L := [_, _]) [1, 0] 2 rfl (by decide)).blkSet 0 (.slice none 0 0)).blkSet 1 (.slice none 0 0)).psel (L := [_, _]) [1, 0] 2 rfl (by decide)).blkSet 0 (.int .i64 6) |>.blkSet 1 (.string ⟨#[]⟩) |>.blkSet 2 (.int .i64 0))
            clear HMw x0 x1 y0 y1 z0 z1 z2 u0 u1 u2
            generalize World.setCell _ _ _ = W7 at *
            have x0 := (Blk.cell_ HMd.out.head 0).trans (show _ = some (Value.int .i64 6) from rfl)
            have x1 := (Blk.cell_ HMd.out.head 1).trans (show _ = some (Value.string ⟨#[]⟩) from rfl)
            have x2 := (Blk.cell_ HMd.out.head 2).trans (show _ = some (Value.int .i64 0) from rfl)
            have z0 := (Blk.cell_ (HMd.out.at_ 1 rfl) 0).trans (show _ = some (Value.slice none 0 0) from rfl)
            have z1 := (Blk.cell_ (HMd.out.at_ 1 rfl) 1).trans (show _ = some (Value.slice none 0 0) from rfl)
            (try simp only [Exit.inBlock, Exit.then])
            refine bodyPost_ret (v := .tuple #[.agg #[.slice none 0 0, .slice none 0 0], .agg #[.int .i64 6, .string ⟨#[]⟩, .int .i64 0]]) ?hr2 rfl ?_
            case hr2 =>
              unfold results
              go_simp
            exact .inl ⟨6, ⟨#[]⟩, 0, hbad.out, rfl, HMd.out.only (fun d hd => by cases hd) .nil⟩
          · have hge1 : ((gs.length : Int) == 0) = false := by rw [beq_eq_false_iff_ne]; omega
            have hgp := Lib.hid (show gs ≠ [] from fun e => hge (by rw [e]; rfl))
            clear hge
            go_wp2_with (first | (go_at_call 24; refine hCo.mono ?_; clear hCo; rintro e w4 ⟨rfl, TH2, own, marks, ho, hmk, hm⟩; have HM5 := Lib.hid hm; have ho := Lib.hid ho; have hmk := Lib.hid hmk; clear hm) | (go_at_call 25; refine (hAi _ HM5.out.mu).mono ?_; clear hAi; rintro e w5 ⟨v, rfl, hv⟩; obtain ⟨FBx, hmx, hGs⟩ := goals_key HM5.out hv; obtain ⟨Agx, cgx, ev, _, ugx, _⟩ := hGs _ _ hmx; subst ev; have HM6 := Lib.hid hmx; have hGs := Lib.hid hGs; clear hv hmx HM5))
            unfold maxLen at ugx
            have E := env_of (X := (mkX b fb ob mb lb sb (.slice Al l.length cl) (.slice A1 n1 d1) (.slice A2 n2 d2) TH2 (ofSuf l) (ofWays l) (fset files) own (ownB (ofSuf l) rules files).2 marks)) hs.out hj.out rfl ho.out
            have hSP : SameP (mkX b fb ob mb lb sb (.slice Al l.length cl) (.slice A1 n1 d1) (.slice A2 n2 d2) TH2 (ofSuf l) (ofWays l) (fset files) own (ownB (ofSuf l) rules files).2 marks) (startX l rules files) := ⟨rfl, rfl, rfl, rfl, ho.out.trans (startX_own l rules files).symm, hmk.out.trans (startX_marks l rules files).symm⟩
            have hVe2 := Lib.hid (visitAll_congr (raw := l) hSP 513 gs vs0)
            have hVV := Lib.hid (visitAll_congr (raw := l) hSP 513 gs vs0)
            have hG : ∀ k, Grows Z vs0 (visitAll l (mkX b fb ob mb lb sb (.slice Al l.length cl) (.slice A1 n1 d1) (.slice A2 n2 d2) TH2 (ofSuf l) (ofWays l) (fset files) own (ownB (ofSuf l) rules files).2 marks) 513 (gs.take k) vs0) := fun k => all_grows (visit_grows E 513) _ _ (vok0 Z) (fun _ x hx => Nat.le_trans (hgz2.out x (List.mem_of_mem_take hx)) (bnd_ge Z 0))
            have hRR := Lib.hid (fun w' (h : Mut none_ w1 w') => hLs.out.pure h)
            have hEn := Lib.hid E
            have hG := Lib.hid hG
            have HM7 : Hid (Mem none_ w1 (((mkX b fb ob mb lb sb (.slice Al l.length cl) (.slice A1 n1 d1) (.slice A2 n2 d2) TH2 (ofSuf l) (ofWays l) (fset files) own (ownB (ofSuf l) rules files).2 marks).put (.slice none 0 0) [] (visitAll l (mkX b fb ob mb lb sb (.slice Al l.length cl) (.slice A1 n1 d1) (.slice A2 n2 d2) TH2 (ofSuf l) (ofWays l) (fset files) own (ownB (ofSuf l) rules files).2 marks) 513 (gs.take 0) vs0)).mem FBx) _) := HM6
            clear HM6 hSP E
            go_loopw [76] (fun v76 wr => ∃ (k : Nat) (NV : Value) (xs : List NX), k ≤ gs.length ∧ v76 = .int .i64 k ∧ Hid (xs.map NX.nd = (visitAll l (mkX b fb ob mb lb sb (.slice Al l.length cl) (.slice A1 n1 d1) (.slice A2 n2 d2) TH2 (ofSuf l) (ofWays l) (fset files) own (ownB (ofSuf l) rules files).2 marks) 513 (gs.take k) vs0).nodes) ∧ Mem none_ w1 (((mkX b fb ob mb lb sb (.slice Al l.length cl) (.slice A1 n1 d1) (.slice A2 n2 d2) TH2 (ofSuf l) (ofWays l) (fset files) own (ownB (ofSuf l) rules files).2 marks).put NV xs (visitAll l (mkX b fb ob mb lb sb (.slice Al l.length cl) (.slice A1 n1 d1) (.slice A2 n2 d2) TH2 (ofSuf l) (ofWays l) (fset files) own (ownB (ofSuf l) rules files).2 marks) 513 (gs.take k) vs0)).mem FBx) wr) (fun v _ => gs.length - (intOf v).toNat)
            case atStart => exact ⟨0, .slice none 0 0, [], Nat.zero_le _, rfl, rfl, HM7.out⟩
            case round =>
              clear HM7
              obtain ⟨k, NV, xs, hk, rfl, hxs, HM⟩ := hrel
              by_cases hlt : k < gs.length
              · have hlt' : decide ((k : Int) < (gs.length : Int)) = true := decide_eq_true (by omega)
                have hltN : decide (k < gs.length) = true := decide_eq_true hlt
                obtain ⟨A', c', e', _, _, _, f2⟩ := hGs.out _ _ HM
                cases e'
                obtain ⟨b2, o2, rfl, hc2⟩ := f2.resolve_left (by omega)
                have y0 : wr.cell? ⟨b2, o2 + k, none⟩ = some (.string gs[k]) := hc2 _ _ (strs_get hlt)
                have hVi := visit_calls l (mkX b fb ob mb lb sb (.slice Al l.length cl) (.slice A1 n1 d1) (.slice A2 n2 d2) TH2 (ofSuf l) (ofWays l) (fset files) own (ownB (ofSuf l) rules files).2 marks) Z hEn.out hRR.out 513 FBx NV xs (visitAll l (mkX b fb ob mb lb sb (.slice Al l.length cl) (.slice A1 n1 d1) (.slice A2 n2 d2) TH2 (ofSuf l) (ofWays l) (fset files) own (ownB (ofSuf l) rules files).2 marks) 513 (gs.take k) vs0) gs[k] wr hxs.out (hG.out k).ok (fun _ => Nat.le_trans (hgz2.out _ (List.getElem_mem hlt)) (bnd_ge Z _)) (by have := (hG.out k).ok.cnt0; omega) HM
                rw [← visitAll_snoc l (mkX b fb ob mb lb sb (.slice Al l.length cl) (.slice A1 n1 d1) (.slice A2 n2 d2) TH2 (ofSuf l) (ofWays l) (fset files) own (ownB (ofSuf l) rules files).2 marks) 513 gs vs0 k hlt] at hVi
                clear f2 hc2 HM hxs
                generalize gs[k] = x at *
                go_wp2_with (go_at_call 26; refine hVi.mono ?_; clear hVi; rintro e w6 ⟨rfl, NV2, xs2, hxs2, hm⟩; have HM8 := Lib.hid hm; have hxs3 := Lib.hid hxs2; clear hm hxs2)
                go_roundw
                case rel => exact ⟨k + 1, NV2, xs2, by omega, by go_num, hxs3, HM8.out⟩
                case measure => simp [intOf]; omega
              · have hlt' : decide ((k : Int) < (gs.length : Int)) = false := decide_eq_false (by omega)
                have hltN : decide (k < gs.length) = false := decide_eq_false hlt
                have e : k = gs.length := by omega
                subst e
                rw [List.take_length] at HM hxs
                have hGo := hG.out gs.length
                rw [List.take_length] at hGo
                obtain ⟨V, hV⟩ : ∃ V, visitAll l (mkX b fb ob mb lb sb (.slice Al l.length cl) (.slice A1 n1 d1) (.slice A2 n2 d2) TH2 (ofSuf l) (ofWays l) (fset files) own (ownB (ofSuf l) rules files).2 marks) 513 gs vs0 = V := ⟨_, rfl⟩
                have hVe : Hid (V = visV l rules files gs) := by
                  have h := hVV.out
                  rw [hV] at h
                  exact h
                rw [hV] at HM hxs hGo
                clear hV hVV hG hlt hk
                have k11 : wr.cell? ⟨b, 11, none⟩ = some (.int .i64 V.why) := Blk.cell_ (HM.at_ 0 rfl) 11
                by_cases c9 : V.why = 0
                · have c9a : (V.why == 0) = true := by rw [beq_iff_eq]; exact c9
                  have c9c : (V.why != 0) = false := by rw [c9]; rfl
                  have c9b : decide (V.why = 0) = true := decide_eq_true c9
                  have hgo := visV_goes l rules files gs (by rw [← hVe.out]; exact c9)
                  rw [← hVe.out] at hgo
                  have hinv := hgo.inv
                  have hnl : ∀ n, n ∈ V.nodes → n.src.length ≤ 1000001 := by
                    have := all_nodes (raw := l) (X := (mkX b fb ob mb lb sb (.slice Al l.length cl) (.slice A1 n1 d1) (.slice A2 n2 d2) TH2 (ofSuf l) (ofWays l) (fset files) own (ownB (ofSuf l) rules files).2 marks)) (P := fun n => n.src.length ≤ 1000001) (fun L name => nodeL_srclen hEn.out L name) 513 gs vs0 (fun n hn => by cases hn)
                    rw [hVe.out]
                    have e2 : visV l rules files gs = visitAll l (mkX b fb ob mb lb sb (.slice Al l.length cl) (.slice A1 n1 d1) (.slice A2 n2 d2) TH2 (ofSuf l) (ofWays l) (fset files) own (ownB (ofSuf l) rules files).2 marks) 513 gs vs0 := hVe2.out.symm
                    rw [e2]
                    exact this
                  have hBe := behind_calls ((mkX b fb ob mb lb sb (.slice Al l.length cl) (.slice A1 n1 d1) (.slice A2 n2 d2) TH2 (ofSuf l) (ofWays l) (fset files) own (ownB (ofSuf l) rules files).2 marks).put NV xs V) l 200 wr HM hLs.out (fun x hx => (hinv.sd x.nd (by rw [← hxs.out]; exact List.mem_map_of_mem hx)).2.2) (fun r hr => Nat.le_trans (hs.out.rule r hr).1 hs.out.hBs) (Nat.le_trans (pre_all hs.out) (by decide)) (by decide)
                  have hBe2 := hBe
                  have hlen := hGo.ok.len
                  have hcnt := hGo.ok.cnt
                  have hx0 := Lib.hid hxs.out
                  have hinv := Lib.hid hinv
                  have hnl := Lib.hid hnl
                  have c9h := Lib.hid c9
                  clear c9
                  have hln := Lib.hid (show V.nodes.length ≤ 512 from by omega)
                  clear HM hBe2 hlen hcnt hGo hgo
                  go_wp2_with (go_at_call 27; refine hBe.mono ?_; clear hBe; rintro e w6 ⟨rfl, xs2, hA, hQ, hm⟩; have HM8 := Lib.hid hm; have hA := Lib.hid hA; have hQ := Lib.hid hQ; clear hm)
                  have hA2 : AOk V.nodes 40200 xs2 := by
                    have h := hA.out.mono (pre_all hs.out)
                    have e : ((mkX b fb ob mb lb sb (.slice Al l.length cl) (.slice A1 n1 d1) (.slice A2 n2 d2) TH2 (ofSuf l) (ofWays l) (fset files) own (ownB (ofSuf l) rules files).2 marks).put NV xs V).nodes.map NX.nd = V.nodes := hx0.out
                    rw [e] at h
                    exact h
                  have hsl2 : ∀ x, x ∈ xs2 → x.nd.src.length ≤ 1000001 := fun x hx => by
                    obtain ⟨n, hn, e⟩ := hA2.src hx
                    have e2 : n.src = x.nd.src := (congrArg NodeS.src e : (strip n).src = (strip x.nd).src)
                    rw [← e2]
                    exact hnl.out n hn
                  have hLo := loops_calls ((mkX b fb ob mb lb sb (.slice Al l.length cl) (.slice A1 n1 d1) (.slice A2 n2 d2) TH2 (ofSuf l) (ofWays l) (fset files) own (ownB (ofSuf l) rules files).2 marks).put NV xs2 V) 1100000 w6 HM8.out (by show (xs2.map fun x => x.nd.name).Nodup; rw [hA2.names]; exact hinv.out.nd) (fun x hx => by have := hsl2 x hx; have := hA2.len x hx; omega) (by decide) (by show xs2.length ≤ 512; rw [hA2.size]; exact hln.out)
                  refine hLo.mono ?_
                  clear hLo
                  rintro e w7 ⟨rfl, hlp⟩
                  rcases hlp with ⟨hm7, hno⟩ | ⟨xl, hxl, hrl, hm7⟩
                  · have hgood := Lib.hid (show Good l files goals gs xs2 from ⟨hgs.out.symm, hgp.out, ⟨rules, hj.out, by rw [← hVe.out]; exact c9h.out, by rw [← hVe.out]; exact hA2, hQ.out, hsl2⟩, hno⟩)
                    clear HM8 hA hA2 hsl2 hno hQ
                    have HM8 := Lib.hid hm7
                    have k11 : w7.cell? ⟨b, 11, none⟩ = some (.int .i64 V.why) := Blk.cell_ (hm7.at_ 0 rfl) 11
                    clear hm7
                    go_wp2_with fail
                    obtain ⟨An, cn, eN, _⟩ : ∃ A c, NV = .slice A xs2.length c ∧ xs2.length ≤ c ∧ c ≤ maxLen := Row.any_ (HM8.out.at_ 9 rfl)
                    subst eN
                    have HMw := Lib.hid ((HM1.out.got HM8.out).perm (List.perm_append_comm (l₁ := ((mkX b fb ob mb lb sb (.slice Al l.length cl) (.slice A1 n1 d1) (.slice A2 n2 d2) TH2 (ofSuf l) (ofWays l) (fset files) own (ownB (ofSuf l) rules files).2 marks).put (.slice An xs2.length cn) xs2 V).mem FBx) (l₂ := [_, _]))).drew
                    have hbX : (Blk b 67 _).ok _ := HMw.out.at_ 2 rfl
                    have hS0 := Lib.hid (Blk.cell_ hbX 9)
                    refine wp_plan [9] (S := fun w' => Hid (w'.cell? ⟨b, 9, none⟩ = some (.slice An xs2.length cn))) [(.pure, 0), (.pure, 2), (.pure, 3), (.pure, 4), (.load, 5), (.pure, 7), (.eff, 1), (.pure, 6), (.eff, 8), (.tail, 9)] (by kernel_rfl) rfl (by kernel_rfl) rfl (fun _ _ _ _ _ h => h) hS0 ?_
                    have hCl := clone_calls (.slice Agx gs.length cgx) gs _ (hGs.out _ _ HM8.out.drew) (by have := ugs.out; omega)
                    clear hS0 hbX HM8 k11
                    generalize World.drew _ = W5 at *
                    generalize w.heap.size + 1 = pb at *
                    generalize w.heap.size = gb at *
                    repeat (first | (refine plan_pure (v := ?_) (a' := ?_) rfl rfl rfl ?_ ?_ ?_; rotate_left 2; (focus (intro w'; go_simp; with_reducible rfl)); (focus (simp only [Act.put, List.setIfInBounds_toArray, List.set_cons_zero, List.set_cons_succ]; rfl))) | (refine plan_load (v := ?_) (a' := ?_) rfl rfl rfl ?_ ?_ ?_; rotate_left 2; (focus (intro w' hw'; have q0 := hw'.out; clear hw'; go_simp; with_reducible rfl)); (focus (simp only [Act.put, List.setIfInBounds_toArray, List.set_cons_zero, List.set_cons_succ]; rfl))) | (refine plan_skip rfl rfl (by decide +kernel) (by simp only [Act.put, List.setIfInBounds_toArray, List.set_cons_zero, List.set_cons_succ]; rfl) ?_))
                    refine plan_eff rfl (fun K hK => ?_)
                    go_wp2_with (go_at_call 29; refine hCl.mono ?_; clear hCl; rintro e w9 ⟨GO, rfl, hm9⟩)
                    have HMc := Lib.hid (HMw.out.got hm9)
                    obtain ⟨Ao, no, co, eo⟩ : ∃ A n c, GO = .slice A n c := by
                      obtain ⟨A, c, e, _⟩ := Row.any_ (HMc.out.at_ 0 rfl)
                      exact ⟨A, _, c, e⟩
                    subst eo
                    have hbX : (Blk b 67 _).ok _ := HMc.out.at_ 3 rfl
                    refine hK _ _ (Lib.hid (Blk.cell_ hbX 9)) ?_
                    clear hK hbX HMw hm9
                    repeat (first | (refine plan_pure (v := ?_) (a' := ?_) rfl rfl rfl ?_ ?_ ?_; rotate_left 2; (focus (intro w'; go_simp; with_reducible rfl)); (focus (simp only [Act.put, List.setIfInBounds_toArray, List.set_cons_zero, List.set_cons_succ]; rfl))) | (refine plan_load (v := ?_) (a' := ?_) rfl rfl rfl ?_ ?_ ?_; rotate_left 2; (focus (intro w' hw'; have q0 := hw'.out; clear hw'; go_simp; with_reducible rfl)); (focus (simp only [Act.put, List.setIfInBounds_toArray, List.set_cons_zero, List.set_cons_succ]; rfl))) | (refine plan_skip rfl rfl (by decide +kernel) (by simp only [Act.put, List.setIfInBounds_toArray, List.set_cons_zero, List.set_cons_succ]; rfl) ?_))
                    have HMa := HMc.out.psel (L := [_, _, _]) [2, 1, 0] 3 rfl (by decide)
                    have x0 := (Blk.cell_ HMa.head 0).trans (show _ = some (Value.slice none 0 0) from rfl)
                    have y0 := Blk.frozen HMa.head 0
                    have x1 := (Blk.cell_ HMa.head 1).trans (show _ = some (Value.slice none 0 0) from rfl)
                    have y1 := Blk.frozen HMa.head 1
                    clear HMc
                    refine plan_eff rfl (fun K hK => ?_)
                    go_wp2_with fail
                    have HMb := Lib.hid ((HMa.blkSet 0 (.slice Ao no co)).blkSet 1 (.slice An xs2.length cn))
                    generalize World.setCell _ _ _ = W6 at *
                    have hbX : (Blk b 67 _).ok _ := HMb.out.at_ 3 rfl
                    refine hK _ _ (Lib.hid (Blk.cell_ hbX 9)) ?_
                    clear hK hbX x0 x1 y0 y1
                    have HMc := HMb.out.psel (L := [_, _, _]) [1, 0, 2] 3 rfl (by decide)
                    have x0 := (Blk.cell_ HMc.head 0).trans (show _ = some (Value.int .i64 0) from rfl)
                    have y0 := Blk.frozen HMc.head 0
                    have x1 := (Blk.cell_ HMc.head 1).trans (show _ = some (Value.string ⟨#[]⟩) from rfl)
                    have y1 := Blk.frozen HMc.head 1
                    have x2 := (Blk.cell_ HMc.head 2).trans (show _ = some (Value.int .i64 0) from rfl)
                    have y2 := Blk.frozen HMc.head 2
                    clear HMb HMa
                    refine plan_tail rfl (fun K hK => ?_)
                    go_wp2_with fail
                    refine plan_done ?_
                    have HMd := Lib.hid (((HMc.blkSet 0 (.int .i64 0)).blkSet 1 (.string ⟨#[]⟩)).blkSet 2 (.int .i64 0))
                    generalize World.setCell _ _ _ = W7 at *
                    clear x0 x1 x2 y0 y1 y2 HMc
                    have x0 := (Blk.cell_ HMd.out.head 0).trans (show _ = some (Value.int .i64 0) from rfl)
                    have x1 := (Blk.cell_ HMd.out.head 1).trans (show _ = some (Value.string ⟨#[]⟩) from rfl)
                    have x2 := (Blk.cell_ HMd.out.head 2).trans (show _ = some (Value.int .i64 0) from rfl)
                    have z0 := (Blk.cell_ (HMd.out.at_ 1 rfl) 0).trans (show _ = some (Value.slice Ao no co) from rfl)
                    have z1 := (Blk.cell_ (HMd.out.at_ 1 rfl) 1).trans (show _ = some (Value.slice An xs2.length cn) from rfl)
                    go_wp2_with fail
                    (try simp only [Exit.inBlock, Exit.then])
                    refine bodyPost_ret (v := .tuple #[.agg #[.slice Ao no co, .slice An xs2.length cn], .agg #[.int .i64 0, .string ⟨#[]⟩, .int .i64 0]]) ?hr11 rfl ?_
                    case hr11 =>
                      unfold results
                      go_simp
                    exact .inr ⟨gs, xs2, _, _, hgood.out, rfl, final_mem (X := ((mkX b fb ob mb lb sb (.slice Al l.length cl) (.slice A1 n1 d1) (.slice A2 n2 d2) TH2 (ofSuf l) (ofWays l) (fset files) own (ownB (ofSuf l) rules files).2 marks).put (.slice An xs2.length cn) xs2 V)) (L := [_, _]) HMd.out⟩
                  · unfold BS.wrong at hm7
                    rw [if_pos (show ((mkX b fb ob mb lb sb (.slice Al l.length cl) (.slice A1 n1 d1) (.slice A2 n2 d2) TH2 (ofSuf l) (ofWays l) (fset files) own (ownB (ofSuf l) rules files).2 marks).put NV xs2 V).why = 0 from c9h.out)] at hm7
                    have hbad := Lib.hid (show Bad l files goals 11 xl.nd.name from ⟨by decide, .inr ⟨rules, hj.out, .inr (.inr ⟨by rw [hgs.out, ← hVe.out]; exact c9h.out, xs2, by rw [hgs.out, ← hVe.out]; exact hA2, hQ.out, fun h => h xl hxl hrl⟩)⟩⟩)
                    clear HM8 hA hA2 hsl2 hQ hxl hrl
                    have HM8 := Lib.hid hm7
                    have k11 : w7.cell? ⟨b, 11, none⟩ = some (.int .i64 11) := Blk.cell_ (hm7.at_ 0 rfl) 11
                    clear hm7
                    go_wp2_with fail

                    have HMw := Lib.hid ((HM1.out.got HM8.out).perm (List.perm_append_comm (l₁ := ({ (mkX b fb ob mb lb sb (.slice Al l.length cl) (.slice A1 n1 d1) (.slice A2 n2 d2) TH2 (ofSuf l) (ofWays l) (fset files) own (ownB (ofSuf l) rules files).2 marks).put NV xs2 V with why := 11, pname := xl.nd.name, pat := 0 } : BS).mem FBx) (l₂ := [_, _]))).drew
                    have hbX : (Blk b 67 _).ok _ := HMw.out.at_ 2 rfl
                    have hS0 := Lib.hid (show _ ∧ _ ∧ _ from ⟨Blk.cell_ hbX 11, Blk.cell_ hbX 12, Blk.cell_ hbX 13⟩)
                    refine wp_plan [6] (S := fun w' => Hid (w'.cell? ⟨b, 11, none⟩ = some (.int .i64 11) ∧ w'.cell? ⟨b, 12, none⟩ = some (.string xl.nd.name) ∧ w'.cell? ⟨b, 13, none⟩ = some (.int .i64 0))) [(.pure, 0), (.pure, 1), (.pure, 2), (.pure, 3), (.load, 4), (.eff, 5), (.tail, 6)] (by kernel_rfl) rfl (by kernel_rfl) rfl (fun _ _ _ _ _ h => h) hS0 ?_
                    clear hS0 hbX HM8 k11
                    generalize World.drew _ = W5 at *
                    generalize w.heap.size + 1 = pb at *
                    generalize w.heap.size = gb at *
                    repeat (first | (refine plan_pure (v := ?_) (a' := ?_) rfl rfl rfl ?_ ?_ ?_; rotate_left 2; (focus (intro w'; go_simp; with_reducible rfl)); (focus (simp only [Act.put, List.setIfInBounds_toArray, List.set_cons_zero, List.set_cons_succ]; rfl))) | (refine plan_load (v := ?_) (a' := ?_) rfl rfl rfl ?_ ?_ ?_; rotate_left 2; (focus (intro w' hw'; obtain ⟨q0, q1, q2⟩ := hw'.out; clear hw'; go_simp; with_reducible rfl)); (focus (simp only [Act.put, List.setIfInBounds_toArray, List.set_cons_zero, List.set_cons_succ]; rfl))) | (refine plan_skip rfl rfl (by decide +kernel) (by simp only [Act.put, List.setIfInBounds_toArray, List.set_cons_zero, List.set_cons_succ]; rfl) ?_))
                    have HMa := HMw.out.psel (L := [_, _]) [1, 0] 2 rfl (by decide)
                    have x0 := (Blk.cell_ HMa.head 0).trans (show _ = some (Value.slice none 0 0) from rfl)
                    have y0 := Blk.frozen HMa.head 0
                    have x1 := (Blk.cell_ HMa.head 1).trans (show _ = some (Value.slice none 0 0) from rfl)
                    have y1 := Blk.frozen HMa.head 1
                    refine plan_eff rfl (fun K hK => ?_)
                    go_wp2_with fail
                    have HMb := Lib.hid ((HMa.blkSet 0 (.slice none 0 0)).blkSet 1 (.slice none 0 0))
                    generalize World.setCell _ _ _ = W6 at *
                    have hbX : (Blk b 67 _).ok _ := HMb.out.at_ 2 rfl
                    refine hK _ _ (Lib.hid ⟨Blk.cell_ hbX 11, Blk.cell_ hbX 12, Blk.cell_ hbX 13⟩) ?_
                    clear hK hbX x0 x1 y0 y1 HMa HMw
                    have HMc := HMb.out.psel (L := [_, _]) [1, 0] 2 rfl (by decide)
                    have x0 := (Blk.cell_ HMc.head 0).trans (show _ = some (Value.int .i64 0) from rfl)
                    have y0 := Blk.frozen HMc.head 0
                    have x1 := (Blk.cell_ HMc.head 1).trans (show _ = some (Value.string ⟨#[]⟩) from rfl)
                    have y1 := Blk.frozen HMc.head 1
                    have x2 := (Blk.cell_ HMc.head 2).trans (show _ = some (Value.int .i64 0) from rfl)
                    have y2 := Blk.frozen HMc.head 2
                    clear HMb
                    refine plan_tail rfl (fun K hK => ?_)
                    go_wp2_with fail
                    refine plan_done ?_
                    have HMd := Lib.hid (((HMc.blkSet 0 (.int .i64 11)).blkSet 1 (.string xl.nd.name)).blkSet 2 (.int .i64 0))
                    generalize World.setCell _ _ _ = W7 at *
                    clear x0 x1 x2 y0 y1 y2 HMc
                    have x0 := (Blk.cell_ HMd.out.head 0).trans (show _ = some (Value.int .i64 11) from rfl)
                    have x1 := (Blk.cell_ HMd.out.head 1).trans (show _ = some (Value.string xl.nd.name) from rfl)
                    have x2 := (Blk.cell_ HMd.out.head 2).trans (show _ = some (Value.int .i64 0) from rfl)
                    have z0 := (Blk.cell_ (HMd.out.at_ 1 rfl) 0).trans (show _ = some (Value.slice none 0 0) from rfl)
                    have z1 := (Blk.cell_ (HMd.out.at_ 1 rfl) 1).trans (show _ = some (Value.slice none 0 0) from rfl)
                    go_wp2_with fail
                    (try simp only [Exit.inBlock, Exit.then])
                    refine bodyPost_ret (v := .tuple #[.agg #[.slice none 0 0, .slice none 0 0], .agg #[.int .i64 11, .string xl.nd.name, .int .i64 0]]) ?hr12 rfl ?_
                    case hr12 =>
                      unfold results
                      go_simp
                    exact .inl ⟨11, xl.nd.name, 0, hbad.out, rfl, HMd.out.only (fun d hd => by cases hd) .nil⟩

                · have c9a : (V.why == 0) = false := by rw [beq_eq_false_iff_ne]; exact c9
                  have c9c : (V.why != 0) = true := by rw [bne_iff_ne]; exact c9
                  have c9b : decide (V.why = 0) = false := decide_eq_false c9
                  have hbad := Lib.hid (show Bad l files goals V.why V.pname from ⟨c9, .inr ⟨rules, hj.out, .inr (.inl ⟨by rw [hgs.out, ← hVe.out]; exact c9, by rw [hgs.out, ← hVe.out], by rw [hgs.out, ← hVe.out]⟩)⟩⟩)
                  have HM8 := Lib.hid HM
                  clear HM c9 hGo hVe hxs
                  go_wp2_with fail

                  have HMw := Lib.hid ((HM1.out.got HM8.out).perm (List.perm_append_comm (l₁ := ((mkX b fb ob mb lb sb (.slice Al l.length cl) (.slice A1 n1 d1) (.slice A2 n2 d2) TH2 (ofSuf l) (ofWays l) (fset files) own (ownB (ofSuf l) rules files).2 marks).put NV xs V).mem FBx) (l₂ := [_, _]))).drew
                  have hbX : (Blk b 67 _).ok _ := HMw.out.at_ 2 rfl
                  have hS0 := Lib.hid (show _ ∧ _ ∧ _ from ⟨Blk.cell_ hbX 11, Blk.cell_ hbX 12, Blk.cell_ hbX 13⟩)
                  refine wp_plan [6] (S := fun w' => Hid (w'.cell? ⟨b, 11, none⟩ = some (.int .i64 V.why) ∧ w'.cell? ⟨b, 12, none⟩ = some (.string V.pname) ∧ w'.cell? ⟨b, 13, none⟩ = some (.int .i64 V.pat))) [(.pure, 0), (.pure, 1), (.pure, 2), (.pure, 3), (.load, 4), (.eff, 5), (.tail, 6)] (by kernel_rfl) rfl (by kernel_rfl) rfl (fun _ _ _ _ _ h => h) hS0 ?_
                  clear hS0 hbX HM8 k11
                  generalize World.drew _ = W5 at *
                  generalize w.heap.size + 1 = pb at *
                  generalize w.heap.size = gb at *
                  repeat (first | (refine plan_pure (v := ?_) (a' := ?_) rfl rfl rfl ?_ ?_ ?_; rotate_left 2; (focus (intro w'; go_simp; with_reducible rfl)); (focus (simp only [Act.put, List.setIfInBounds_toArray, List.set_cons_zero, List.set_cons_succ]; rfl))) | (refine plan_load (v := ?_) (a' := ?_) rfl rfl rfl ?_ ?_ ?_; rotate_left 2; (focus (intro w' hw'; obtain ⟨q0, q1, q2⟩ := hw'.out; clear hw'; go_simp; with_reducible rfl)); (focus (simp only [Act.put, List.setIfInBounds_toArray, List.set_cons_zero, List.set_cons_succ]; rfl))) | (refine plan_skip rfl rfl (by decide +kernel) (by simp only [Act.put, List.setIfInBounds_toArray, List.set_cons_zero, List.set_cons_succ]; rfl) ?_))
                  have HMa := HMw.out.psel (L := [_, _]) [1, 0] 2 rfl (by decide)
                  have x0 := (Blk.cell_ HMa.head 0).trans (show _ = some (Value.slice none 0 0) from rfl)
                  have y0 := Blk.frozen HMa.head 0
                  have x1 := (Blk.cell_ HMa.head 1).trans (show _ = some (Value.slice none 0 0) from rfl)
                  have y1 := Blk.frozen HMa.head 1
                  refine plan_eff rfl (fun K hK => ?_)
                  go_wp2_with fail
                  have HMb := Lib.hid ((HMa.blkSet 0 (.slice none 0 0)).blkSet 1 (.slice none 0 0))
                  generalize World.setCell _ _ _ = W6 at *
                  have hbX : (Blk b 67 _).ok _ := HMb.out.at_ 2 rfl
                  refine hK _ _ (Lib.hid ⟨Blk.cell_ hbX 11, Blk.cell_ hbX 12, Blk.cell_ hbX 13⟩) ?_
                  clear hK hbX x0 x1 y0 y1 HMa HMw
                  have HMc := HMb.out.psel (L := [_, _]) [1, 0] 2 rfl (by decide)
                  have x0 := (Blk.cell_ HMc.head 0).trans (show _ = some (Value.int .i64 0) from rfl)
                  have y0 := Blk.frozen HMc.head 0
                  have x1 := (Blk.cell_ HMc.head 1).trans (show _ = some (Value.string ⟨#[]⟩) from rfl)
                  have y1 := Blk.frozen HMc.head 1
                  have x2 := (Blk.cell_ HMc.head 2).trans (show _ = some (Value.int .i64 0) from rfl)
                  have y2 := Blk.frozen HMc.head 2
                  clear HMb
                  refine plan_tail rfl (fun K hK => ?_)
                  go_wp2_with fail
                  refine plan_done ?_
                  have HMd := Lib.hid (((HMc.blkSet 0 (.int .i64 V.why)).blkSet 1 (.string V.pname)).blkSet 2 (.int .i64 V.pat))
                  generalize World.setCell _ _ _ = W7 at *
                  clear x0 x1 x2 y0 y1 y2 HMc
                  have x0 := (Blk.cell_ HMd.out.head 0).trans (show _ = some (Value.int .i64 V.why) from rfl)
                  have x1 := (Blk.cell_ HMd.out.head 1).trans (show _ = some (Value.string V.pname) from rfl)
                  have x2 := (Blk.cell_ HMd.out.head 2).trans (show _ = some (Value.int .i64 V.pat) from rfl)
                  have z0 := (Blk.cell_ (HMd.out.at_ 1 rfl) 0).trans (show _ = some (Value.slice none 0 0) from rfl)
                  have z1 := (Blk.cell_ (HMd.out.at_ 1 rfl) 1).trans (show _ = some (Value.slice none 0 0) from rfl)
                  go_wp2_with fail
                  (try simp only [Exit.inBlock, Exit.then])
                  refine bodyPost_ret (v := .tuple #[.agg #[.slice none 0 0, .slice none 0 0], .agg #[.int .i64 V.why, .string V.pname, .int .i64 V.pat]]) ?hr13 rfl ?_
                  case hr13 =>
                    unfold results
                    go_simp
                  exact .inl ⟨V.why, V.pname, V.pat, hbad.out, rfl, HMd.out.only (fun d hd => by cases hd) .nil⟩

        · have hg1 : ((goals.length : Int) == 0) = false := by rw [beq_eq_false_iff_ne]; omega
          have hgs := Lib.hid (show goalsOf l goals = goals from by unfold goalsOf; rw [if_neg hg0])
          have hgz2 := Lib.hid hgz
          have hgp := Lib.hid (show goals ≠ [] from fun e => hg0 (by rw [e]; rfl))
          clear hg0 hgz
          go_wp2_with (first | (go_at_call 24; refine hCo.mono ?_; clear hCo; rintro e w4 ⟨rfl, TH2, own, marks, ho, hmk, hm⟩; have HM5 := Lib.hid hm; have ho := Lib.hid ho; have hmk := Lib.hid hmk; clear hm))
          have HM6 := HM5
          clear HM5
          have hGs : Hid (∀ W (Y : BS), Mem none_ w1 (Y.mem FB) W → Strs W (.slice Ag goals.length cg) goals) := fun W Y h => hG1.out.pure h.mu
          have ugs := Lib.hid (show goals.length ≤ 100000000 from hgl.out)
          have E := env_of (X := (mkX b fb ob mb lb sb (.slice Al l.length cl) (.slice A1 n1 d1) (.slice A2 n2 d2) TH2 (ofSuf l) (ofWays l) (fset files) own (ownB (ofSuf l) rules files).2 marks)) hs.out hj.out rfl ho.out
          have hSP : SameP (mkX b fb ob mb lb sb (.slice Al l.length cl) (.slice A1 n1 d1) (.slice A2 n2 d2) TH2 (ofSuf l) (ofWays l) (fset files) own (ownB (ofSuf l) rules files).2 marks) (startX l rules files) := ⟨rfl, rfl, rfl, rfl, ho.out.trans (startX_own l rules files).symm, hmk.out.trans (startX_marks l rules files).symm⟩
          have hVe2 := Lib.hid (visitAll_congr (raw := l) hSP 513 goals vs0)
          have hVV := Lib.hid (visitAll_congr (raw := l) hSP 513 goals vs0)
          have hG : ∀ k, Grows Z vs0 (visitAll l (mkX b fb ob mb lb sb (.slice Al l.length cl) (.slice A1 n1 d1) (.slice A2 n2 d2) TH2 (ofSuf l) (ofWays l) (fset files) own (ownB (ofSuf l) rules files).2 marks) 513 (goals.take k) vs0) := fun k => all_grows (visit_grows E 513) _ _ (vok0 Z) (fun _ x hx => Nat.le_trans (hgz2.out x (List.mem_of_mem_take hx)) (bnd_ge Z 0))
          have hRR := Lib.hid (fun w' (h : Mut none_ w1 w') => hLs.out.pure h)
          have hEn := Lib.hid E
          have hG := Lib.hid hG
          have HM7 : Hid (Mem none_ w1 (((mkX b fb ob mb lb sb (.slice Al l.length cl) (.slice A1 n1 d1) (.slice A2 n2 d2) TH2 (ofSuf l) (ofWays l) (fset files) own (ownB (ofSuf l) rules files).2 marks).put (.slice none 0 0) [] (visitAll l (mkX b fb ob mb lb sb (.slice Al l.length cl) (.slice A1 n1 d1) (.slice A2 n2 d2) TH2 (ofSuf l) (ofWays l) (fset files) own (ownB (ofSuf l) rules files).2 marks) 513 (goals.take 0) vs0)).mem FB) _) := HM6
          clear HM6 hSP E
          go_loopw [76] (fun v76 wr => ∃ (k : Nat) (NV : Value) (xs : List NX), k ≤ goals.length ∧ v76 = .int .i64 k ∧ Hid (xs.map NX.nd = (visitAll l (mkX b fb ob mb lb sb (.slice Al l.length cl) (.slice A1 n1 d1) (.slice A2 n2 d2) TH2 (ofSuf l) (ofWays l) (fset files) own (ownB (ofSuf l) rules files).2 marks) 513 (goals.take k) vs0).nodes) ∧ Mem none_ w1 (((mkX b fb ob mb lb sb (.slice Al l.length cl) (.slice A1 n1 d1) (.slice A2 n2 d2) TH2 (ofSuf l) (ofWays l) (fset files) own (ownB (ofSuf l) rules files).2 marks).put NV xs (visitAll l (mkX b fb ob mb lb sb (.slice Al l.length cl) (.slice A1 n1 d1) (.slice A2 n2 d2) TH2 (ofSuf l) (ofWays l) (fset files) own (ownB (ofSuf l) rules files).2 marks) 513 (goals.take k) vs0)).mem FB) wr) (fun v _ => goals.length - (intOf v).toNat)
          case atStart => exact ⟨0, .slice none 0 0, [], Nat.zero_le _, rfl, rfl, HM7.out⟩
          case round =>
            clear HM7
            obtain ⟨k, NV, xs, hk, rfl, hxs, HM⟩ := hrel
            by_cases hlt : k < goals.length
            · have hlt' : decide ((k : Int) < (goals.length : Int)) = true := decide_eq_true (by omega)
              have hltN : decide (k < goals.length) = true := decide_eq_true hlt
              obtain ⟨A', c', e', _, _, _, f2⟩ := hGs.out _ _ HM
              cases e'
              obtain ⟨b2, o2, rfl, hc2⟩ := f2.resolve_left (by omega)
              have y0 : wr.cell? ⟨b2, o2 + k, none⟩ = some (.string goals[k]) := hc2 _ _ (strs_get hlt)
              have hVi := visit_calls l (mkX b fb ob mb lb sb (.slice Al l.length cl) (.slice A1 n1 d1) (.slice A2 n2 d2) TH2 (ofSuf l) (ofWays l) (fset files) own (ownB (ofSuf l) rules files).2 marks) Z hEn.out hRR.out 513 FB NV xs (visitAll l (mkX b fb ob mb lb sb (.slice Al l.length cl) (.slice A1 n1 d1) (.slice A2 n2 d2) TH2 (ofSuf l) (ofWays l) (fset files) own (ownB (ofSuf l) rules files).2 marks) 513 (goals.take k) vs0) goals[k] wr hxs.out (hG.out k).ok (fun _ => Nat.le_trans (hgz2.out _ (List.getElem_mem hlt)) (bnd_ge Z _)) (by have := (hG.out k).ok.cnt0; omega) HM
              rw [← visitAll_snoc l (mkX b fb ob mb lb sb (.slice Al l.length cl) (.slice A1 n1 d1) (.slice A2 n2 d2) TH2 (ofSuf l) (ofWays l) (fset files) own (ownB (ofSuf l) rules files).2 marks) 513 goals vs0 k hlt] at hVi
              clear f2 hc2 HM hxs
              generalize goals[k] = x at *
              go_wp2_with (go_at_call 26; refine hVi.mono ?_; clear hVi; rintro e w6 ⟨rfl, NV2, xs2, hxs2, hm⟩; have HM8 := Lib.hid hm; have hxs3 := Lib.hid hxs2; clear hm hxs2)
              go_roundw
              case rel => exact ⟨k + 1, NV2, xs2, by omega, by go_num, hxs3, HM8.out⟩
              case measure => simp [intOf]; omega
            · have hlt' : decide ((k : Int) < (goals.length : Int)) = false := decide_eq_false (by omega)
              have hltN : decide (k < goals.length) = false := decide_eq_false hlt
              have e : k = goals.length := by omega
              subst e
              rw [List.take_length] at HM hxs
              have hGo := hG.out goals.length
              rw [List.take_length] at hGo
              obtain ⟨V, hV⟩ : ∃ V, visitAll l (mkX b fb ob mb lb sb (.slice Al l.length cl) (.slice A1 n1 d1) (.slice A2 n2 d2) TH2 (ofSuf l) (ofWays l) (fset files) own (ownB (ofSuf l) rules files).2 marks) 513 goals vs0 = V := ⟨_, rfl⟩
              have hVe : Hid (V = visV l rules files goals) := by
                have h := hVV.out
                rw [hV] at h
                exact h
              rw [hV] at HM hxs hGo
              clear hV hVV hG hlt hk
              have k11 : wr.cell? ⟨b, 11, none⟩ = some (.int .i64 V.why) := Blk.cell_ (HM.at_ 0 rfl) 11
              by_cases c9 : V.why = 0
              · have c9a : (V.why == 0) = true := by rw [beq_iff_eq]; exact c9
                have c9c : (V.why != 0) = false := by rw [c9]; rfl
                have c9b : decide (V.why = 0) = true := decide_eq_true c9
                have hgo := visV_goes l rules files goals (by rw [← hVe.out]; exact c9)
                rw [← hVe.out] at hgo
                have hinv := hgo.inv
                have hnl : ∀ n, n ∈ V.nodes → n.src.length ≤ 1000001 := by
                  have := all_nodes (raw := l) (X := (mkX b fb ob mb lb sb (.slice Al l.length cl) (.slice A1 n1 d1) (.slice A2 n2 d2) TH2 (ofSuf l) (ofWays l) (fset files) own (ownB (ofSuf l) rules files).2 marks)) (P := fun n => n.src.length ≤ 1000001) (fun L name => nodeL_srclen hEn.out L name) 513 goals vs0 (fun n hn => by cases hn)
                  rw [hVe.out]
                  have e2 : visV l rules files goals = visitAll l (mkX b fb ob mb lb sb (.slice Al l.length cl) (.slice A1 n1 d1) (.slice A2 n2 d2) TH2 (ofSuf l) (ofWays l) (fset files) own (ownB (ofSuf l) rules files).2 marks) 513 goals vs0 := hVe2.out.symm
                  rw [e2]
                  exact this
                have hBe := behind_calls ((mkX b fb ob mb lb sb (.slice Al l.length cl) (.slice A1 n1 d1) (.slice A2 n2 d2) TH2 (ofSuf l) (ofWays l) (fset files) own (ownB (ofSuf l) rules files).2 marks).put NV xs V) l 200 wr HM hLs.out (fun x hx => (hinv.sd x.nd (by rw [← hxs.out]; exact List.mem_map_of_mem hx)).2.2) (fun r hr => Nat.le_trans (hs.out.rule r hr).1 hs.out.hBs) (Nat.le_trans (pre_all hs.out) (by decide)) (by decide)
                have hBe2 := hBe
                have hlen := hGo.ok.len
                have hcnt := hGo.ok.cnt
                have hx0 := Lib.hid hxs.out
                have hinv := Lib.hid hinv
                have hnl := Lib.hid hnl
                have c9h := Lib.hid c9
                clear c9
                have hln := Lib.hid (show V.nodes.length ≤ 512 from by omega)
                clear HM hBe2 hlen hcnt hGo hgo
                go_wp2_with (go_at_call 27; refine hBe.mono ?_; clear hBe; rintro e w6 ⟨rfl, xs2, hA, hQ, hm⟩; have HM8 := Lib.hid hm; have hA := Lib.hid hA; have hQ := Lib.hid hQ; clear hm)
                have hA2 : AOk V.nodes 40200 xs2 := by
                  have h := hA.out.mono (pre_all hs.out)
                  have e : ((mkX b fb ob mb lb sb (.slice Al l.length cl) (.slice A1 n1 d1) (.slice A2 n2 d2) TH2 (ofSuf l) (ofWays l) (fset files) own (ownB (ofSuf l) rules files).2 marks).put NV xs V).nodes.map NX.nd = V.nodes := hx0.out
                  rw [e] at h
                  exact h
                have hsl2 : ∀ x, x ∈ xs2 → x.nd.src.length ≤ 1000001 := fun x hx => by
                  obtain ⟨n, hn, e⟩ := hA2.src hx
                  have e2 : n.src = x.nd.src := (congrArg NodeS.src e : (strip n).src = (strip x.nd).src)
                  rw [← e2]
                  exact hnl.out n hn
                have hLo := loops_calls ((mkX b fb ob mb lb sb (.slice Al l.length cl) (.slice A1 n1 d1) (.slice A2 n2 d2) TH2 (ofSuf l) (ofWays l) (fset files) own (ownB (ofSuf l) rules files).2 marks).put NV xs2 V) 1100000 w6 HM8.out (by show (xs2.map fun x => x.nd.name).Nodup; rw [hA2.names]; exact hinv.out.nd) (fun x hx => by have := hsl2 x hx; have := hA2.len x hx; omega) (by decide) (by show xs2.length ≤ 512; rw [hA2.size]; exact hln.out)
                refine hLo.mono ?_
                clear hLo
                rintro e w7 ⟨rfl, hlp⟩
                rcases hlp with ⟨hm7, hno⟩ | ⟨xl, hxl, hrl, hm7⟩
                · have hgood := Lib.hid (show Good l files goals goals xs2 from ⟨hgs.out.symm, hgp.out, ⟨rules, hj.out, by rw [← hVe.out]; exact c9h.out, by rw [← hVe.out]; exact hA2, hQ.out, hsl2⟩, hno⟩)
                  clear HM8 hA hA2 hsl2 hno hQ
                  have HM8 := Lib.hid hm7
                  have k11 : w7.cell? ⟨b, 11, none⟩ = some (.int .i64 V.why) := Blk.cell_ (hm7.at_ 0 rfl) 11
                  clear hm7
                  go_wp2_with fail
                  obtain ⟨An, cn, eN, _⟩ : ∃ A c, NV = .slice A xs2.length c ∧ xs2.length ≤ c ∧ c ≤ maxLen := Row.any_ (HM8.out.at_ 9 rfl)
                  subst eN
                  have HMw := Lib.hid ((HM1.out.got HM8.out).perm (List.perm_append_comm (l₁ := ((mkX b fb ob mb lb sb (.slice Al l.length cl) (.slice A1 n1 d1) (.slice A2 n2 d2) TH2 (ofSuf l) (ofWays l) (fset files) own (ownB (ofSuf l) rules files).2 marks).put (.slice An xs2.length cn) xs2 V).mem FB) (l₂ := [_, _]))).drew
                  have hbX : (Blk b 67 _).ok _ := HMw.out.at_ 2 rfl
                  have hS0 := Lib.hid (Blk.cell_ hbX 9)
                  refine wp_plan [9] (S := fun w' => Hid (w'.cell? ⟨b, 9, none⟩ = some (.slice An xs2.length cn))) [(.pure, 0), (.pure, 2), (.pure, 3), (.pure, 4), (.load, 5), (.pure, 7), (.eff, 1), (.pure, 6), (.eff, 8), (.tail, 9)] (by kernel_rfl) rfl (by kernel_rfl) rfl (fun _ _ _ _ _ h => h) hS0 ?_
                  have hCl := clone_calls (.slice Ag goals.length cg) goals _ (hGs.out _ _ HM8.out.drew) (by have := ugs.out; omega)
                  clear hS0 hbX HM8 k11
                  generalize World.drew _ = W5 at *
                  generalize w.heap.size + 1 = pb at *
                  generalize w.heap.size = gb at *
                  repeat (first | (refine plan_pure (v := ?_) (a' := ?_) rfl rfl rfl ?_ ?_ ?_; rotate_left 2; (focus (intro w'; go_simp; with_reducible rfl)); (focus (simp only [Act.put, List.setIfInBounds_toArray, List.set_cons_zero, List.set_cons_succ]; rfl))) | (refine plan_load (v := ?_) (a' := ?_) rfl rfl rfl ?_ ?_ ?_; rotate_left 2; (focus (intro w' hw'; have q0 := hw'.out; clear hw'; go_simp; with_reducible rfl)); (focus (simp only [Act.put, List.setIfInBounds_toArray, List.set_cons_zero, List.set_cons_succ]; rfl))) | (refine plan_skip rfl rfl (by decide +kernel) (by simp only [Act.put, List.setIfInBounds_toArray, List.set_cons_zero, List.set_cons_succ]; rfl) ?_))
                  refine plan_eff rfl (fun K hK => ?_)
                  go_wp2_with (go_at_call 29; refine hCl.mono ?_; clear hCl; rintro e w9 ⟨GO, rfl, hm9⟩)
                  have HMc := Lib.hid (HMw.out.got hm9)
                  obtain ⟨Ao, no, co, eo⟩ : ∃ A n c, GO = .slice A n c := by
                    obtain ⟨A, c, e, _⟩ := Row.any_ (HMc.out.at_ 0 rfl)
                    exact ⟨A, _, c, e⟩
                  subst eo
                  have hbX : (Blk b 67 _).ok _ := HMc.out.at_ 3 rfl
                  refine hK _ _ (Lib.hid (Blk.cell_ hbX 9)) ?_
                  clear hK hbX HMw hm9
                  repeat (first | (refine plan_pure (v := ?_) (a' := ?_) rfl rfl rfl ?_ ?_ ?_; rotate_left 2; (focus (intro w'; go_simp; with_reducible rfl)); (focus (simp only [Act.put, List.setIfInBounds_toArray, List.set_cons_zero, List.set_cons_succ]; rfl))) | (refine plan_load (v := ?_) (a' := ?_) rfl rfl rfl ?_ ?_ ?_; rotate_left 2; (focus (intro w' hw'; have q0 := hw'.out; clear hw'; go_simp; with_reducible rfl)); (focus (simp only [Act.put, List.setIfInBounds_toArray, List.set_cons_zero, List.set_cons_succ]; rfl))) | (refine plan_skip rfl rfl (by decide +kernel) (by simp only [Act.put, List.setIfInBounds_toArray, List.set_cons_zero, List.set_cons_succ]; rfl) ?_))
                  have HMa := HMc.out.psel (L := [_, _, _]) [2, 1, 0] 3 rfl (by decide)
                  have x0 := (Blk.cell_ HMa.head 0).trans (show _ = some (Value.slice none 0 0) from rfl)
                  have y0 := Blk.frozen HMa.head 0
                  have x1 := (Blk.cell_ HMa.head 1).trans (show _ = some (Value.slice none 0 0) from rfl)
                  have y1 := Blk.frozen HMa.head 1
                  clear HMc
                  refine plan_eff rfl (fun K hK => ?_)
                  go_wp2_with fail
                  have HMb := Lib.hid ((HMa.blkSet 0 (.slice Ao no co)).blkSet 1 (.slice An xs2.length cn))
                  generalize World.setCell _ _ _ = W6 at *
                  have hbX : (Blk b 67 _).ok _ := HMb.out.at_ 3 rfl
                  refine hK _ _ (Lib.hid (Blk.cell_ hbX 9)) ?_
                  clear hK hbX x0 x1 y0 y1
                  have HMc := HMb.out.psel (L := [_, _, _]) [1, 0, 2] 3 rfl (by decide)
                  have x0 := (Blk.cell_ HMc.head 0).trans (show _ = some (Value.int .i64 0) from rfl)
                  have y0 := Blk.frozen HMc.head 0
                  have x1 := (Blk.cell_ HMc.head 1).trans (show _ = some (Value.string ⟨#[]⟩) from rfl)
                  have y1 := Blk.frozen HMc.head 1
                  have x2 := (Blk.cell_ HMc.head 2).trans (show _ = some (Value.int .i64 0) from rfl)
                  have y2 := Blk.frozen HMc.head 2
                  clear HMb HMa
                  refine plan_tail rfl (fun K hK => ?_)
                  go_wp2_with fail
                  refine plan_done ?_
                  have HMd := Lib.hid (((HMc.blkSet 0 (.int .i64 0)).blkSet 1 (.string ⟨#[]⟩)).blkSet 2 (.int .i64 0))
                  generalize World.setCell _ _ _ = W7 at *
                  clear x0 x1 x2 y0 y1 y2 HMc
                  have x0 := (Blk.cell_ HMd.out.head 0).trans (show _ = some (Value.int .i64 0) from rfl)
                  have x1 := (Blk.cell_ HMd.out.head 1).trans (show _ = some (Value.string ⟨#[]⟩) from rfl)
                  have x2 := (Blk.cell_ HMd.out.head 2).trans (show _ = some (Value.int .i64 0) from rfl)
                  have z0 := (Blk.cell_ (HMd.out.at_ 1 rfl) 0).trans (show _ = some (Value.slice Ao no co) from rfl)
                  have z1 := (Blk.cell_ (HMd.out.at_ 1 rfl) 1).trans (show _ = some (Value.slice An xs2.length cn) from rfl)
                  go_wp2_with fail
                  (try simp only [Exit.inBlock, Exit.then])
                  refine bodyPost_ret (v := .tuple #[.agg #[.slice Ao no co, .slice An xs2.length cn], .agg #[.int .i64 0, .string ⟨#[]⟩, .int .i64 0]]) ?hr14 rfl ?_
                  case hr14 =>
                    unfold results
                    go_simp
                  exact .inr ⟨goals, xs2, _, _, hgood.out, rfl, final_mem (X := ((mkX b fb ob mb lb sb (.slice Al l.length cl) (.slice A1 n1 d1) (.slice A2 n2 d2) TH2 (ofSuf l) (ofWays l) (fset files) own (ownB (ofSuf l) rules files).2 marks).put (.slice An xs2.length cn) xs2 V)) (L := [_, _]) HMd.out⟩
                · unfold BS.wrong at hm7
                  rw [if_pos (show ((mkX b fb ob mb lb sb (.slice Al l.length cl) (.slice A1 n1 d1) (.slice A2 n2 d2) TH2 (ofSuf l) (ofWays l) (fset files) own (ownB (ofSuf l) rules files).2 marks).put NV xs2 V).why = 0 from c9h.out)] at hm7
                  have hbad := Lib.hid (show Bad l files goals 11 xl.nd.name from ⟨by decide, .inr ⟨rules, hj.out, .inr (.inr ⟨by rw [hgs.out, ← hVe.out]; exact c9h.out, xs2, by rw [hgs.out, ← hVe.out]; exact hA2, hQ.out, fun h => h xl hxl hrl⟩)⟩⟩)
                  clear HM8 hA hA2 hsl2 hQ hxl hrl
                  have HM8 := Lib.hid hm7
                  have k11 : w7.cell? ⟨b, 11, none⟩ = some (.int .i64 11) := Blk.cell_ (hm7.at_ 0 rfl) 11
                  clear hm7
                  go_wp2_with fail

                  have HMw := Lib.hid ((HM1.out.got HM8.out).perm (List.perm_append_comm (l₁ := ({ (mkX b fb ob mb lb sb (.slice Al l.length cl) (.slice A1 n1 d1) (.slice A2 n2 d2) TH2 (ofSuf l) (ofWays l) (fset files) own (ownB (ofSuf l) rules files).2 marks).put NV xs2 V with why := 11, pname := xl.nd.name, pat := 0 } : BS).mem FB) (l₂ := [_, _]))).drew
                  have hbX : (Blk b 67 _).ok _ := HMw.out.at_ 2 rfl
                  have hS0 := Lib.hid (show _ ∧ _ ∧ _ from ⟨Blk.cell_ hbX 11, Blk.cell_ hbX 12, Blk.cell_ hbX 13⟩)
                  refine wp_plan [6] (S := fun w' => Hid (w'.cell? ⟨b, 11, none⟩ = some (.int .i64 11) ∧ w'.cell? ⟨b, 12, none⟩ = some (.string xl.nd.name) ∧ w'.cell? ⟨b, 13, none⟩ = some (.int .i64 0))) [(.pure, 0), (.pure, 1), (.pure, 2), (.pure, 3), (.load, 4), (.eff, 5), (.tail, 6)] (by kernel_rfl) rfl (by kernel_rfl) rfl (fun _ _ _ _ _ h => h) hS0 ?_
                  clear hS0 hbX HM8 k11
                  generalize World.drew _ = W5 at *
                  generalize w.heap.size + 1 = pb at *
                  generalize w.heap.size = gb at *
                  repeat (first | (refine plan_pure (v := ?_) (a' := ?_) rfl rfl rfl ?_ ?_ ?_; rotate_left 2; (focus (intro w'; go_simp; with_reducible rfl)); (focus (simp only [Act.put, List.setIfInBounds_toArray, List.set_cons_zero, List.set_cons_succ]; rfl))) | (refine plan_load (v := ?_) (a' := ?_) rfl rfl rfl ?_ ?_ ?_; rotate_left 2; (focus (intro w' hw'; obtain ⟨q0, q1, q2⟩ := hw'.out; clear hw'; go_simp; with_reducible rfl)); (focus (simp only [Act.put, List.setIfInBounds_toArray, List.set_cons_zero, List.set_cons_succ]; rfl))) | (refine plan_skip rfl rfl (by decide +kernel) (by simp only [Act.put, List.setIfInBounds_toArray, List.set_cons_zero, List.set_cons_succ]; rfl) ?_))
                  have HMa := HMw.out.psel (L := [_, _]) [1, 0] 2 rfl (by decide)
                  have x0 := (Blk.cell_ HMa.head 0).trans (show _ = some (Value.slice none 0 0) from rfl)
                  have y0 := Blk.frozen HMa.head 0
                  have x1 := (Blk.cell_ HMa.head 1).trans (show _ = some (Value.slice none 0 0) from rfl)
                  have y1 := Blk.frozen HMa.head 1
                  refine plan_eff rfl (fun K hK => ?_)
                  go_wp2_with fail
                  have HMb := Lib.hid ((HMa.blkSet 0 (.slice none 0 0)).blkSet 1 (.slice none 0 0))
                  generalize World.setCell _ _ _ = W6 at *
                  have hbX : (Blk b 67 _).ok _ := HMb.out.at_ 2 rfl
                  refine hK _ _ (Lib.hid ⟨Blk.cell_ hbX 11, Blk.cell_ hbX 12, Blk.cell_ hbX 13⟩) ?_
                  clear hK hbX x0 x1 y0 y1 HMa HMw
                  have HMc := HMb.out.psel (L := [_, _]) [1, 0] 2 rfl (by decide)
                  have x0 := (Blk.cell_ HMc.head 0).trans (show _ = some (Value.int .i64 0) from rfl)
                  have y0 := Blk.frozen HMc.head 0
                  have x1 := (Blk.cell_ HMc.head 1).trans (show _ = some (Value.string ⟨#[]⟩) from rfl)
                  have y1 := Blk.frozen HMc.head 1
                  have x2 := (Blk.cell_ HMc.head 2).trans (show _ = some (Value.int .i64 0) from rfl)
                  have y2 := Blk.frozen HMc.head 2
                  clear HMb
                  refine plan_tail rfl (fun K hK => ?_)
                  go_wp2_with fail
                  refine plan_done ?_
                  have HMd := Lib.hid (((HMc.blkSet 0 (.int .i64 11)).blkSet 1 (.string xl.nd.name)).blkSet 2 (.int .i64 0))
                  generalize World.setCell _ _ _ = W7 at *
                  clear x0 x1 x2 y0 y1 y2 HMc
                  have x0 := (Blk.cell_ HMd.out.head 0).trans (show _ = some (Value.int .i64 11) from rfl)
                  have x1 := (Blk.cell_ HMd.out.head 1).trans (show _ = some (Value.string xl.nd.name) from rfl)
                  have x2 := (Blk.cell_ HMd.out.head 2).trans (show _ = some (Value.int .i64 0) from rfl)
                  have z0 := (Blk.cell_ (HMd.out.at_ 1 rfl) 0).trans (show _ = some (Value.slice none 0 0) from rfl)
                  have z1 := (Blk.cell_ (HMd.out.at_ 1 rfl) 1).trans (show _ = some (Value.slice none 0 0) from rfl)
                  go_wp2_with fail
                  (try simp only [Exit.inBlock, Exit.then])
                  refine bodyPost_ret (v := .tuple #[.agg #[.slice none 0 0, .slice none 0 0], .agg #[.int .i64 11, .string xl.nd.name, .int .i64 0]]) ?hr15 rfl ?_
                  case hr15 =>
                    unfold results
                    go_simp
                  exact .inl ⟨11, xl.nd.name, 0, hbad.out, rfl, HMd.out.only (fun d hd => by cases hd) .nil⟩

              · have c9a : (V.why == 0) = false := by rw [beq_eq_false_iff_ne]; exact c9
                have c9c : (V.why != 0) = true := by rw [bne_iff_ne]; exact c9
                have c9b : decide (V.why = 0) = false := decide_eq_false c9
                have hbad := Lib.hid (show Bad l files goals V.why V.pname from ⟨c9, .inr ⟨rules, hj.out, .inr (.inl ⟨by rw [hgs.out, ← hVe.out]; exact c9, by rw [hgs.out, ← hVe.out], by rw [hgs.out, ← hVe.out]⟩)⟩⟩)
                have HM8 := Lib.hid HM
                clear HM c9 hGo hVe hxs
                go_wp2_with fail

                have HMw := Lib.hid ((HM1.out.got HM8.out).perm (List.perm_append_comm (l₁ := ((mkX b fb ob mb lb sb (.slice Al l.length cl) (.slice A1 n1 d1) (.slice A2 n2 d2) TH2 (ofSuf l) (ofWays l) (fset files) own (ownB (ofSuf l) rules files).2 marks).put NV xs V).mem FB) (l₂ := [_, _]))).drew
                have hbX : (Blk b 67 _).ok _ := HMw.out.at_ 2 rfl
                have hS0 := Lib.hid (show _ ∧ _ ∧ _ from ⟨Blk.cell_ hbX 11, Blk.cell_ hbX 12, Blk.cell_ hbX 13⟩)
                refine wp_plan [6] (S := fun w' => Hid (w'.cell? ⟨b, 11, none⟩ = some (.int .i64 V.why) ∧ w'.cell? ⟨b, 12, none⟩ = some (.string V.pname) ∧ w'.cell? ⟨b, 13, none⟩ = some (.int .i64 V.pat))) [(.pure, 0), (.pure, 1), (.pure, 2), (.pure, 3), (.load, 4), (.eff, 5), (.tail, 6)] (by kernel_rfl) rfl (by kernel_rfl) rfl (fun _ _ _ _ _ h => h) hS0 ?_
                clear hS0 hbX HM8 k11
                generalize World.drew _ = W5 at *
                generalize w.heap.size + 1 = pb at *
                generalize w.heap.size = gb at *
                repeat (first | (refine plan_pure (v := ?_) (a' := ?_) rfl rfl rfl ?_ ?_ ?_; rotate_left 2; (focus (intro w'; go_simp; with_reducible rfl)); (focus (simp only [Act.put, List.setIfInBounds_toArray, List.set_cons_zero, List.set_cons_succ]; rfl))) | (refine plan_load (v := ?_) (a' := ?_) rfl rfl rfl ?_ ?_ ?_; rotate_left 2; (focus (intro w' hw'; obtain ⟨q0, q1, q2⟩ := hw'.out; clear hw'; go_simp; with_reducible rfl)); (focus (simp only [Act.put, List.setIfInBounds_toArray, List.set_cons_zero, List.set_cons_succ]; rfl))) | (refine plan_skip rfl rfl (by decide +kernel) (by simp only [Act.put, List.setIfInBounds_toArray, List.set_cons_zero, List.set_cons_succ]; rfl) ?_))
                have HMa := HMw.out.psel (L := [_, _]) [1, 0] 2 rfl (by decide)
                have x0 := (Blk.cell_ HMa.head 0).trans (show _ = some (Value.slice none 0 0) from rfl)
                have y0 := Blk.frozen HMa.head 0
                have x1 := (Blk.cell_ HMa.head 1).trans (show _ = some (Value.slice none 0 0) from rfl)
                have y1 := Blk.frozen HMa.head 1
                refine plan_eff rfl (fun K hK => ?_)
                go_wp2_with fail
                have HMb := Lib.hid ((HMa.blkSet 0 (.slice none 0 0)).blkSet 1 (.slice none 0 0))
                generalize World.setCell _ _ _ = W6 at *
                have hbX : (Blk b 67 _).ok _ := HMb.out.at_ 2 rfl
                refine hK _ _ (Lib.hid ⟨Blk.cell_ hbX 11, Blk.cell_ hbX 12, Blk.cell_ hbX 13⟩) ?_
                clear hK hbX x0 x1 y0 y1 HMa HMw
                have HMc := HMb.out.psel (L := [_, _]) [1, 0] 2 rfl (by decide)
                have x0 := (Blk.cell_ HMc.head 0).trans (show _ = some (Value.int .i64 0) from rfl)
                have y0 := Blk.frozen HMc.head 0
                have x1 := (Blk.cell_ HMc.head 1).trans (show _ = some (Value.string ⟨#[]⟩) from rfl)
                have y1 := Blk.frozen HMc.head 1
                have x2 := (Blk.cell_ HMc.head 2).trans (show _ = some (Value.int .i64 0) from rfl)
                have y2 := Blk.frozen HMc.head 2
                clear HMb
                refine plan_tail rfl (fun K hK => ?_)
                go_wp2_with fail
                refine plan_done ?_
                have HMd := Lib.hid (((HMc.blkSet 0 (.int .i64 V.why)).blkSet 1 (.string V.pname)).blkSet 2 (.int .i64 V.pat))
                generalize World.setCell _ _ _ = W7 at *
                clear x0 x1 x2 y0 y1 y2 HMc
                have x0 := (Blk.cell_ HMd.out.head 0).trans (show _ = some (Value.int .i64 V.why) from rfl)
                have x1 := (Blk.cell_ HMd.out.head 1).trans (show _ = some (Value.string V.pname) from rfl)
                have x2 := (Blk.cell_ HMd.out.head 2).trans (show _ = some (Value.int .i64 V.pat) from rfl)
                have z0 := (Blk.cell_ (HMd.out.at_ 1 rfl) 0).trans (show _ = some (Value.slice none 0 0) from rfl)
                have z1 := (Blk.cell_ (HMd.out.at_ 1 rfl) 1).trans (show _ = some (Value.slice none 0 0) from rfl)
                go_wp2_with fail
                (try simp only [Exit.inBlock, Exit.then])
                refine bodyPost_ret (v := .tuple #[.agg #[.slice none 0 0, .slice none 0 0], .agg #[.int .i64 V.why, .string V.pname, .int .i64 V.pat]]) ?hr16 rfl ?_
                case hr16 =>
                  unfold results
                  go_simp
                exact .inl ⟨V.why, V.pname, V.pat, hbad.out, rfl, HMd.out.only (fun d hd => by cases hd) .nil⟩

end Go.Proofs.Ytliglejbkpjamaa
