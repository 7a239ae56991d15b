/-
  Layer 16 (graph): the walk of Of.
-/
import Derived.Test.YtliglejbkpjamaaVGrE
set_option linter.unusedVariables false
set_option linter.unusedSimpArgs false
set_option maxRecDepth 20000
namespace Go.Proofs.Ytliglejbkpjamaa
open Go.RowKit

abbrev PrsRow (v : Value) (l : List (ByteArray × ByteArray)) : Chunk := Row 93 2 v l.length (prs l)
abbrev TabB (b : Nat) (SV WV : Value) : Chunk := Blk b 59 #[SV, WV]
set_option maxHeartbeats 8000000 in
theorem of_calls (V : Value) (l : List RuleS) (w : World) (hV : Rules w V l) :
    Calls Try.prog 23 #[V] w fun e w' => ∃ SV WV, e = .returned (.agg #[SV, WV]) ∧ Mem none_ w [StrRow SV (ofSuf l), PrsRow WV (ofWays l)] w' := by
  obtain ⟨A, n, c, rfl⟩ : ∃ A n c, V = .slice A n c := by
    obtain ⟨cells, ⟨A, c, rfl, _⟩, _⟩ := hV
    exact ⟨A, _, c, rfl⟩
  obtain ⟨rfl, g1, g2, g3⟩ := hV.get
  unfold maxLen at g2
  have HM0 := ((Mem.start (fp := none_) w).box #[.slice none 0 0, .slice none 0 0] 59).box #[.slice none 0 0, .slice none 0 0] 59
  have e1 : (w.alloc (.cells #[.slice none 0 0, .slice none 0 0] 59)).heap.size = w.heap.size + 1 := by simp
  rw [e1] at HM0
  go_enter Try.func23, Try.ntmps23
  go_wp2_with fail
  have HM1 := Lib.hid (HM0.nilS.sel [1, 0, 2] (by decide))
  generalize w.heap.size = b2 at *
  go_loopw [16] (fun v16 wr => ∃ (k : Nat) (SV : Value), k ≤ l.length ∧ v16 = .int .i64 k ∧ Mem none_ w [TabB (b2 + 1) SV (.slice none 0 0), StrRow SV ((l.take k).foldl ofSuf1 []), TabB b2 (.slice none 0 0) (.slice none 0 0)] wr) (fun v _ => l.length - (intOf v).toNat)
  case atStart => exact ⟨0, _, Nat.zero_le _, rfl, HM1.out⟩
  case round =>
    clear HM1
    obtain ⟨k, SV, hk, rfl, HM⟩ := hrel
    by_cases hlt : k < l.length
    · have hlt' : decide ((k : Int) < (l.length : Int)) = true := decide_eq_true (by omega)
      have hltN : decide (k < l.length) = true := decide_eq_true hlt
      obtain ⟨b, o, rfl, hcells⟩ := g3.resolve_left (by omega)
      obtain ⟨TV, XV, CV, x0, x1, x2, x3, x4, t1, t2, t3⟩ := hcells k hlt
      have hst := Lib.hid (foldl_snoc ofSuf1 [] l k hlt)
      clear hcells g3
      have x0 := Pure.cell HM.mu x0
      have x1 := Pure.cell HM.mu x1
      have x2 := Pure.cell HM.mu x2
      have x3 := Pure.cell HM.mu x3
      have x4 := Pure.cell HM.mu x4
      generalize l[k] = r at *
      generalize (l.take k).foldl ofSuf1 [] = t at *
      obtain ⟨A2, c2, rfl, s1, s2, s3, s4⟩ := id t2
      obtain ⟨A1, c1, eT, _⟩ := id t1
      obtain ⟨A3, c3, eC, _⟩ := t3
      subst eT eC
      have HM2 := HM.box #[.slice A1 r.tg.length c1, .int .i64 r.kind, .slice A2 r.src.length c2, .slice A3 r.cmd.length c3, .int .i64 r.at_] 25
      have hSi := single_calls _ (.slice A2 r.src.length c2) (.slice A3 r.cmd.length c3) r _ (t1.pure HM2.mu)
      unfold maxLen at s2
      have a0 := Blk.cell_ (HM2.at_ 0 rfl) 0
      have a1 := Blk.cell_ (HM2.at_ 0 rfl) 1
      have a2 := Blk.cell_ (HM2.at_ 0 rfl) 2
      have a3 := Blk.cell_ (HM2.at_ 0 rfl) 3
      have a4 := Blk.cell_ (HM2.at_ 0 rfl) 4
      simp only [List.getElem?_toArray, List.getElem?_cons_succ, List.getElem?_cons_zero] at a0 a1 a2 a3 a4
      have HM3 := Lib.hid HM2
      clear HM HM2 t1 s3 s4
      obtain ⟨sg, hsg⟩ : ∃ sg, singleB r = sg := ⟨_, rfl⟩
      rw [hsg] at hSi
      have hst2 : ofSuf1 t r = if singleB r = sufN then r.src.foldl addSuf (if r.src.length = 0 then [] else t) else t := rfl
      rw [hsg] at hst2
      by_cases hs : sg = sufN
      · rw [if_pos hs] at hst2
        have hst3 := Lib.hid (hst.out.trans hst2)
        obtain ⟨q1, q2⟩ := isC (l := [46, 83, 85, 70, 70, 73, 88, 69, 83]) hs
        have Ht2 := Lib.hid (t2.pure HM3.out.mu)
        clear hst hst2 hs hsg
        by_cases h0 : r.src.length = 0
        · have z1 : ((r.src.length : Int) == 0) = true := by rw [beq_iff_eq]; omega
          have z2 : (r.src.length : Int) = 0 := by omega
          have hnil := Lib.hid (List.length_eq_zero_iff.1 h0)
          clear h0
          go_wp2_with (go_at_call 40; refine hSi.mono ?_; clear hSi; rintro e w1 ⟨rfl, hm⟩; have HM4 := Mem.got (ds := []) HM3.out hm; have bb0 := Blk.cell_ (HM4.at_ 0 rfl) 2; simp only [List.getElem?_toArray, List.getElem?_cons_succ, List.getElem?_cons_zero] at bb0; have bb1 := Blk.cell_ (HM4.at_ 1 rfl) 0; simp only [List.getElem?_toArray, List.getElem?_cons_succ, List.getElem?_cons_zero] at bb1; have fz := Blk.frozen (HM4.at_ 1 rfl) 0; have HM5 := Lib.hid HM4; clear HM3 hm HM4 a0 a1 a2 a3 a4 x0 x1 x2 x3 x4)
          have HM6 := Lib.hid (((HM5.out.sel [1, 3] (by decide)).blkSet 0 (.slice none 0 0)).nilS.sel [1, 0, 2] (by decide))
          clear HM5 bb0 bb1 fz
          generalize World.setCell _ _ _ = W1 at *
          have z3 : decide ((0 : Int) < (r.src.length : Int)) = false := decide_eq_false (by omega)
          have hst4 := Lib.hid (hst3.out.trans (show _ = ([] : List ByteArray) from by rw [hnil.out]; rfl))
          go_loopw [31] (fun v31 wr => v31 = .int .i64 0 ∧ Mem none_ w [TabB (b2 + 1) (.slice none 0 0) (.slice none 0 0), StrRow (.slice none 0 0) [], TabB b2 (.slice none 0 0) (.slice none 0 0)] wr) (fun _ _ => 0)
          case atStart => exact ⟨rfl, HM6.out⟩
          case round =>
            clear HM6
            obtain ⟨rfl, HM⟩ := hrel
            go_wp2_with fail
            go_roundw
            case rel => exact ⟨k + 1, _, by omega, by go_num, by rw [hst4.out]; exact HM⟩
            case measure => simp [intOf]; omega
        · have z1 : ((r.src.length : Int) == 0) = false := by rw [beq_eq_false_iff_ne]; omega
          have z2 : ¬ (r.src.length : Int) = 0 := by omega
          have hst3 := Lib.hid (hst3.out.trans (show _ = r.src.foldl addSuf t from by rw [if_neg h0]))
          clear h0
          go_wp2_with (go_at_call 40; refine hSi.mono ?_; clear hSi; rintro e w1 ⟨rfl, hm⟩; have HM4 := Mem.got (ds := []) HM3.out hm; have bb0 := Blk.cell_ (HM4.at_ 0 rfl) 2; simp only [List.getElem?_toArray, List.getElem?_cons_succ, List.getElem?_cons_zero] at bb0; have bb1 := Blk.cell_ (HM4.at_ 1 rfl) 0; simp only [List.getElem?_toArray, List.getElem?_cons_succ, List.getElem?_cons_zero] at bb1; have fz := Blk.frozen (HM4.at_ 1 rfl) 0; have HM5 := Lib.hid HM4; clear HM3 hm HM4 a0 a1 a2 a3 a4 x0 x1 x2 x3 x4)
          have HM6 := Lib.hid (HM5.out.sel [1, 2, 3] (by decide))
          clear HM5 bb0 bb1 fz Ht2
          go_loopw [31] (fun v31 wr => ∃ (j : Nat) (SV : Value), j ≤ r.src.length ∧ v31 = .int .i64 j ∧ Mem none_ w [TabB (b2 + 1) SV (.slice none 0 0), StrRow SV ((r.src.take j).foldl addSuf t), TabB b2 (.slice none 0 0) (.slice none 0 0)] wr) (fun v _ => r.src.length - (intOf v).toNat)
          case atStart => exact ⟨0, SV, Nat.zero_le _, rfl, HM6.out⟩
          case round =>
            clear HM6
            obtain ⟨j, SV, hj, rfl, HM⟩ := hrel
            by_cases hjt : j < r.src.length
            · have hjt' : decide ((j : Int) < (r.src.length : Int)) = true := decide_eq_true (by omega)
              have hjtN : decide (j < r.src.length) = true := decide_eq_true hjt
              obtain ⟨bs, os, rfl, hc⟩ : ∃ bs os, A2 = some ⟨bs, os, none⟩ ∧ ∀ i u, (strs r.src)[i]? = some u → w.cell? ⟨bs, os + i, none⟩ = some u := by
                obtain ⟨_, _, e, _, _, _, s4⟩ := t2
                cases e
                exact s4.resolve_left (by omega)
              have y0 := Pure.cell HM.mu (hc _ _ (strs_get hjt))
              clear hc t2
              have hI := Lib.hid (foldl_snoc addSuf t r.src j hjt)
              generalize r.src[j] = s at *
              generalize (r.src.take j).foldl addSuf t = t' at *
              have hCo := contains_calls SV t' s _ (Row.sl (HM.at_ 1 rfl))
              obtain ⟨A', c', rfl, u1, u2⟩ := Row.any_ (HM.at_ 1 rfl)
              unfold maxLen at u2
              have bb1 := Blk.cell_ (HM.at_ 0 rfl) 0
              simp only [List.getElem?_toArray, List.getElem?_cons_succ, List.getElem?_cons_zero] at bb1
              by_cases c1 : s = ⟨#[]⟩
              · obtain ⟨p1, p2, p3⟩ := isE c1
                have hI2 := Lib.hid (hI.out.trans (show addSuf t' s = t' from by unfold addSuf; rw [if_neg (fun h => h.1 c1)]))
                clear hCo c1 hI
                go_wp2_with fail
                go_roundw
                case rel => exact ⟨j + 1, _, by omega, by go_num, by rw [hI2.out]; exact HM⟩
                case measure => simp [intOf]; omega
              · obtain ⟨p1, p2, p3⟩ := neE c1
                by_cases c2 : t'.length < 64
                · have p4 : decide ((t'.length : Int) < 64) = true := decide_eq_true (by omega)
                  have p5 : decide (t'.length < 64) = true := decide_eq_true c2
                  by_cases c3 : mem t' s = false
                  · have hI2 := Lib.hid (hI.out.trans (show addSuf t' s = t' ++ [s] from by unfold addSuf; rw [if_pos ⟨c1, c2, c3⟩]))
                    rw [c3] at hCo
                    clear c1 c3 hI
                    have fz := Blk.frozen (HM.at_ 0 rfl) 0
                    have HMs := Lib.hid (HM.sel [1, 0, 2] (by decide))
                    go_wp2_with (first | (go_at_call 41; refine hCo.mono ?_; clear hCo; rintro e w1 ⟨rfl, rfl⟩) | (at_builtin; refine wpList_appS strE rfl _ _ rfl HMs.out rfl s _ rfl ?hnb ?hb ?_; (case hnb => simp); (case hb => omega); intro v' w4 HM4 HU4; have HM5 : Mem none_ w [TabB (b2 + 1) (.slice A' t'.length c') (.slice none 0 0), StrRow v' (t' ++ [s]), TabB b2 (.slice none 0 0) (.slice none 0 0)] w4 := HM4.sel [1, 0, 2] (by decide); have bb2 := Blk.cell_ (HM5.at_ 0 rfl) 0; simp only [List.getElem?_toArray, List.getElem?_cons_succ, List.getElem?_cons_zero] at bb2; have fz2 := Blk.frozen (HM5.at_ 0 rfl) 0; have HM6 := Lib.hid HM5; obtain ⟨A6, c6, e6, u6, u7⟩ := Row.any_ (HM5.at_ 1 rfl); obtain ⟨n6, hn6⟩ : ∃ n, (t' ++ [s]).length = n := ⟨_, rfl⟩; rw [hn6] at e6; subst e6; clear u6 u7 hn6 HM4 HU4 HM5 HM HMs bb1 fz y0))
                    have HM7 := Lib.hid (HM6.out.blkSet 0 (.slice A6 n6 c6))
                    clear HM6
                    go_roundw
                    case rel => exact ⟨j + 1, _, by omega, by go_num, by rw [hI2.out]; exact HM7.out⟩
                    case measure => simp [intOf]; omega
                  · have hI2 := Lib.hid (hI.out.trans (show addSuf t' s = t' from by unfold addSuf; rw [if_neg (fun h => c3 h.2.2)]))
                    rw [Bool.not_eq_false] at c3
                    rw [c3] at hCo
                    clear c1 c3 hI
                    go_wp2_with (go_at_call 41; refine hCo.mono ?_; clear hCo; rintro e w1 ⟨rfl, rfl⟩)
                    go_roundw
                    case rel => exact ⟨j + 1, _, by omega, by go_num, by rw [hI2.out]; exact HM⟩
                    case measure => simp [intOf]; omega
                · have p4 : decide ((t'.length : Int) < 64) = false := decide_eq_false (by omega)
                  have p5 : decide (t'.length < 64) = false := decide_eq_false c2
                  have hI2 := Lib.hid (hI.out.trans (show addSuf t' s = t' from by unfold addSuf; rw [if_neg (fun h => c2 h.2.1)]))
                  clear hCo c1 hI
                  go_wp2_with fail
                  go_roundw
                  case rel => exact ⟨j + 1, _, by omega, by go_num, by rw [hI2.out]; exact HM⟩
                  case measure => simp [intOf]; omega
            · have hjt' : decide ((j : Int) < (r.src.length : Int)) = false := decide_eq_false (by omega)
              have hjtN : decide (j < r.src.length) = false := decide_eq_false hjt
              have e : j = r.src.length := by omega
              subst e
              rw [List.take_length] at HM
              go_wp2_with fail
              go_roundw
              case rel => exact ⟨k + 1, _, by omega, by go_num, by rw [hst3.out]; exact HM⟩
              case measure => simp [intOf]; omega
      · rw [if_neg hs] at hst2
        have hst3 := Lib.hid (hst.out.trans hst2)
        obtain ⟨q1, q2⟩ := neC (l := [46, 83, 85, 70, 70, 73, 88, 69, 83]) hs
        clear hst hst2 hs hsg
        go_wp2_with (go_at_call 40; refine hSi.mono ?_; clear hSi; rintro e w1 ⟨rfl, hm⟩; have HM4 := Mem.got (ds := []) HM3.out hm; clear HM3 hm)
        go_roundw
        case rel => exact ⟨k + 1, SV, by omega, by go_num, by rw [hst3.out]; exact HM4.sel [1, 2, 3] (by decide)⟩
        case measure => simp [intOf]; omega
    · have hlt' : decide ((k : Int) < (l.length : Int)) = false := decide_eq_false (by omega)
      have hltN : decide (k < l.length) = false := decide_eq_false hlt
      have e : k = l.length := by omega
      subst e
      rw [List.take_length] at HM
      go_wp2_with fail
      have HM1 : Hid (Mem none_ w [TabB (b2 + 1) SV (.slice none 0 0), StrRow SV (ofSuf l), PrsRow (.slice none 0 0) [], TabB b2 (.slice none 0 0) (.slice none 0 0)] wr) := by
        have h0 : Mem none_ w [PrsRow (.slice none 0 0) [], TabB (b2 + 1) SV (.slice none 0 0), StrRow SV (ofSuf l), TabB b2 (.slice none 0 0) (.slice none 0 0)] wr := Mem.new HM (Mut.refl _ _) (by exact World.ownsRow_nil _ _ _ _) (by intro b hb; cases hb)
        exact h0.sel [1, 2, 0, 3] (by decide)
      have hW0 : ofWays l = l.foldl (ofWay1 (ofSuf l)) [] := rfl
      have hW := Lib.hid hW0
      clear hW0 HM
      obtain ⟨suf, hsf⟩ : ∃ x, ofSuf l = x := ⟨_, rfl⟩
      rw [hsf] at HM1 hW
      have hsf := Lib.hid hsf
      obtain ⟨A4, sc, rfl, sv1, sv2⟩ := Row.any_ (HM1.out.at_ 1 rfl)
      unfold maxLen at sv2
      go_loopw [60] (fun v60 wr => ∃ (k : Nat) (WV : Value), k ≤ l.length ∧ v60 = .int .i64 k ∧ Mem none_ w [TabB (b2 + 1) (.slice A4 suf.length sc) WV, StrRow (.slice A4 suf.length sc) suf, PrsRow WV ((l.take k).foldl (ofWay1 suf) []), TabB b2 (.slice none 0 0) (.slice none 0 0)] wr) (fun v _ => l.length - (intOf v).toNat)
      case atStart => exact ⟨0, _, Nat.zero_le _, rfl, HM1.out⟩
      case round =>
        clear HM1 hlt' hltN hlt hk
        obtain ⟨k, WV, hk, rfl, HM⟩ := hrel
        by_cases hlt : k < l.length
        · have hlt' : decide ((k : Int) < (l.length : Int)) = true := decide_eq_true (by omega)
          have hltN : decide (k < l.length) = true := decide_eq_true hlt
          obtain ⟨b, o, rfl, hcells⟩ := g3.resolve_left (by omega)
          obtain ⟨TV, XV, CV, x0, x1, x2, x3, x4, t1, t2, t3⟩ := hcells k hlt
          have hI := Lib.hid (foldl_snoc (ofWay1 suf) [] l k hlt)
          clear hcells g3
          have x0 := Pure.cell HM.mu x0
          have x1 := Pure.cell HM.mu x1
          have x2 := Pure.cell HM.mu x2
          have x3 := Pure.cell HM.mu x3
          have x4 := Pure.cell HM.mu x4
          generalize l[k] = r at *
          generalize (l.take k).foldl (ofWay1 suf) [] = t at *
          obtain ⟨A2, c2, rfl, _⟩ := t2
          obtain ⟨A1, c1, eT, _⟩ := id t1
          obtain ⟨A3, c3, rfl, _, d2, _⟩ := t3
          subst eT
          unfold maxLen at d2
          obtain ⟨A5, c5', rfl, _, wv2⟩ := Row.any_ (HM.at_ 2 rfl)
          unfold maxLen at wv2
          have HM2 := HM.box #[.slice A1 r.tg.length c1, .int .i64 r.kind, .slice A2 r.src.length c2, .slice A3 r.cmd.length c3, .int .i64 r.at_] 25
          have HM3 := Lib.hid HM2.drew
          clear HM HM2
          go_wp2_with fail
          clear x0 x1 x2 x3 x4
          have hb0 := HM3.out.at_ 0 rfl
          have hb1 := HM3.out.at_ 1 rfl
          refine wp_plan [] (S := fun w' => Hid (w'.cell? ⟨wr.heap.size, 0, none⟩ = some (.slice A1 r.tg.length c1) ∧ w'.cell? ⟨wr.heap.size, 1, none⟩ = some (.int .i64 r.kind) ∧ w'.cell? ⟨wr.heap.size, 2, none⟩ = some (.slice A2 r.src.length c2) ∧ w'.cell? ⟨wr.heap.size, 3, none⟩ = some (.slice A3 r.cmd.length c3) ∧ w'.cell? ⟨wr.heap.size, 4, none⟩ = some (.int .i64 r.at_) ∧ w'.cell? ⟨b2 + 1, 0, none⟩ = some (.slice A4 suf.length sc))) [(.load, 0), (.pure, 2), (.load, 3), (.eff, 1), (.eff, 4), (.pure, 5), (.pure, 6), (.pure, 7), (.pure, 8), (.pure, 9), (.pure, 10), (.pure, 11)] (by kernel_rfl) rfl (by kernel_rfl) rfl (fun _ _ _ _ _ h => h) (Lib.hid ⟨Blk.cell_ hb0 0, Blk.cell_ hb0 1, Blk.cell_ hb0 2, Blk.cell_ hb0 3, Blk.cell_ hb0 4, Blk.cell_ hb1 0⟩) ?_
          clear hb0 hb1
          generalize wr.heap.size = rb at *
          generalize World.drew _ = W5 at *
          have hSi := single_calls _ (.slice A2 r.src.length c2) (.slice A3 r.cmd.length c3) r _ (t1.pure HM3.out.mu)
          obtain ⟨sg, hsg⟩ : ∃ sg, singleB r = sg := ⟨_, rfl⟩
          rw [hsg] at hSi
          have hsg := Lib.hid hsg
          clear t1
          repeat (first | (refine plan_pure (v := ?_) (a' := ?_) rfl rfl rfl ?_ ?_ ?_; rotate_left 2; (focus (intro w'; go_simp; with_reducible rfl)); (focus (simp only [Act.put, List.setIfInBounds_toArray, List.set_cons_zero, List.set_cons_succ]; rfl))) | (refine plan_load (v := ?_) (a' := ?_) rfl rfl rfl ?_ ?_ ?_; rotate_left 2; (focus (intro w' hw'; obtain ⟨q0, q1, q2, q3, q4, q5⟩ := hw'.out; clear hw'; go_simp; with_reducible rfl)); (focus (simp only [Act.put, List.setIfInBounds_toArray, List.set_cons_zero, List.set_cons_succ]; rfl))) | (refine plan_skip rfl rfl (by decide +kernel) (by simp only [Act.put, List.setIfInBounds_toArray, List.set_cons_zero, List.set_cons_succ]; rfl) ?_))
          refine plan_eff rfl (fun K hK => ?_)
          go_wp2_with (go_at_call 40; refine hSi.mono ?_; clear hSi; rintro e w1 ⟨rfl, hm⟩)
          have HM4 := Lib.hid (Mem.got (ds := []) HM3.out hm)
          clear HM3 hm
          have hb0 := HM4.out.at_ 0 rfl
          have hb1 := HM4.out.at_ 1 rfl
          have hS1 := Lib.hid (show _ ∧ _ ∧ _ ∧ _ ∧ _ ∧ _ from ⟨Blk.cell_ hb0 0, Blk.cell_ hb0 1, Blk.cell_ hb0 2, Blk.cell_ hb0 3, Blk.cell_ hb0 4, Blk.cell_ hb1 0⟩)
          clear hb0 hb1
          have hSx := sufx_calls sg _ suf _ (Row.sl (HM4.out.at_ 2 rfl))
          obtain ⟨q, hq⟩ : ∃ q, sufx sg suf suf = q := ⟨_, rfl⟩
          rw [hq] at hSx
          have hq : sufx (singleB r) suf suf = q := by rw [hsg.out]; exact hq
          refine hK _ _ hS1 ?_
          clear hK
          refine plan_eff rfl (fun K hK => ?_)
          go_wp2_with (go_at_call 42; refine hSx.mono ?_; clear hSx; rintro e w2 ⟨rfl, rfl⟩)
          refine hK _ _ hS1 ?_
          clear hK hS1
          obtain ⟨qa, qb, qc⟩ := q
          simp only
          repeat (first | (refine plan_pure (v := ?_) (a' := ?_) rfl rfl rfl ?_ ?_ ?_; rotate_left 2; (focus (intro w'; go_simp; with_reducible rfl)); (focus (simp only [Act.put, List.setIfInBounds_toArray, List.set_cons_zero, List.set_cons_succ]; rfl))) | (refine plan_load (v := ?_) (a' := ?_) rfl rfl rfl ?_ ?_ ?_; rotate_left 2; (focus (intro w' hw'; obtain ⟨q0, q1, q2, q3, q4, q5⟩ := hw'.out; clear hw'; go_simp; with_reducible rfl)); (focus (simp only [Act.put, List.setIfInBounds_toArray, List.set_cons_zero, List.set_cons_succ]; rfl))) | (refine plan_skip rfl rfl (by decide +kernel) (by simp only [Act.put, List.setIfInBounds_toArray, List.set_cons_zero, List.set_cons_succ]; rfl) ?_))
          refine plan_done ?_
          have HM6 := HM4.out.box #[.string qa, .string qb] 93
          have y0 := Blk.cell_ (HM6.at_ 0 rfl) 0
          have y1 := Blk.cell_ (HM6.at_ 0 rfl) 1
          have a3 := Blk.cell_ (HM6.at_ 1 rfl) 3
          have bb1 := Blk.cell_ (HM6.at_ 2 rfl) 1
          simp only [List.getElem?_toArray, List.getElem?_cons_succ, List.getElem?_cons_zero] at y0 y1 a3 bb1
          have HM7 := Lib.hid HM6
          have hCo := containsP_calls _ t (qa, qb) _ (Row.sl (HM7.out.at_ 4 rfl))
          clear HM4 HM6
          cases qc with
          | false =>
            have hI2 := Lib.hid (hI.out.trans (show ofWay1 suf t r = t from by unfold ofWay1; rw [hq]; exact if_neg (fun h => by cases h.1)))
            clear hI hq hCo
            go_wp2_with fail
            go_roundw
            case rel => exact ⟨k + 1, _, by omega, by go_num, by rw [hI2.out]; exact HM7.out.sel [2, 3, 4, 5] (by decide)⟩
            case measure => simp [intOf]; omega
          | true =>
            by_cases c1 : 0 < r.cmd.length
            · have p1 : decide ((0 : Int) < (r.cmd.length : Int)) = true := decide_eq_true (by omega)
              have p1N : decide (0 < r.cmd.length) = true := decide_eq_true c1
              by_cases c2 : qb = ⟨#[]⟩
              · obtain ⟨r1, r2, r3⟩ := isE c2
                have hI2 := Lib.hid (hI.out.trans (show ofWay1 suf t r = t from by unfold ofWay1; rw [hq]; exact if_neg (fun h => h.2.2.1 c2)))
                clear hI hq hCo c2
                go_wp2_with fail
                go_roundw
                case rel => exact ⟨k + 1, _, by omega, by go_num, by rw [hI2.out]; exact HM7.out.sel [2, 3, 4, 5] (by decide)⟩
                case measure => simp [intOf]; omega
              · obtain ⟨r1, r2, r3⟩ := neE c2
                by_cases c3 : qa = qb
                · have u1 : (qa.toList == qb.toList) = true := by rw [strEq]; exact decide_eq_true c3
                  have u2 : (!(qa.toList == qb.toList)) = false := by rw [u1]; rfl
                  have hI2 := Lib.hid (hI.out.trans (show ofWay1 suf t r = t from by unfold ofWay1; rw [hq]; exact if_neg (fun h => h.2.2.2.1 c3)))
                  clear hI hq hCo c3
                  go_wp2_with fail
                  go_roundw
                  case rel => exact ⟨k + 1, _, by omega, by go_num, by rw [hI2.out]; exact HM7.out.sel [2, 3, 4, 5] (by decide)⟩
                  case measure => simp [intOf]; omega
                · have u1 : (qa.toList == qb.toList) = false := by rw [strEq]; exact decide_eq_false c3
                  have u2 : (!(qa.toList == qb.toList)) = true := by rw [u1]; rfl
                  have u3 : ¬ qa.toList = qb.toList := fun e => by rw [e] at u1; simp at u1
                  by_cases c4 : t.length < 256
                  · have p4 : decide ((t.length : Int) < 256) = true := decide_eq_true (by omega)
                    have p5 : decide (t.length < 256) = true := decide_eq_true c4
                    by_cases c5 : memP t (qa, qb) = false
                    · have hI2 := Lib.hid (hI.out.trans (show ofWay1 suf t r = t ++ [(qa, qb)] from by unfold ofWay1; rw [hq]; exact if_pos ⟨rfl, c1, c2, c3, c4, c5⟩))
                      rw [c5] at hCo
                      clear hI hq c1 c2 c3 c5
                      have HE : Elem Try.prog 57 93 2 32 := Elem.of (z := .agg #[.string ⟨#[]⟩, .string ⟨#[]⟩]) Try.underlying57 (by kernel_rfl) rfl (by decide) (by decide)
                      go_wp2_with (first | (go_at_call 43; go_loud (refine hCo.mono ?_; clear hCo; rintro e w1 ⟨rfl, hm⟩; have HM8 : Mem none_ w [PrsRow (.slice A5 t.length c5') t, Blk _ 93 #[.string qa, .string qb], TabB (b2 + 1) (.slice A4 suf.length sc) (.slice A5 t.length c5'), StrRow (.slice A4 suf.length sc) suf, TabB b2 (.slice none 0 0) (.slice none 0 0)] w1 := (Mem.got (ds := []) HM7.out hm).sel [4, 0, 2, 3, 5] (by decide); have z0 := Blk.cell_ (HM8.at_ 1 rfl) 0; have z1 := Blk.cell_ (HM8.at_ 1 rfl) 1; have z2 := Blk.cell_ (HM8.at_ 2 rfl) 1; simp only [List.getElem?_toArray, List.getElem?_cons_succ, List.getElem?_cons_zero] at z0 z1 z2; have fz := Blk.frozen (HM8.at_ 2 rfl) 1; have HM8 := Lib.hid HM8; clear HM7 hm y0 y1 a3 bb1)) | (at_builtin; go_loud (refine wpList_app1 HE rfl _ _ rfl HM8.out rfl #[.string qa, .string qb] _ rfl ?hnb rfl ?h1 ?hb ?_; (case hnb => simp); (case h1 => simp [Value.oneCell']); (case hb => omega); intro v' w4 HM9 HU9; have hv : Mem none_ w [TabB (b2 + 1) (.slice A4 suf.length sc) (.slice A5 t.length c5'), StrRow (.slice A4 suf.length sc) suf, Row 93 2 v' (t.length + 1) (prs t ++ [.string qa, .string qb]), TabB b2 (.slice none 0 0) (.slice none 0 0)] w4 := HM9.sel [2, 3, 0, 4] (by decide); have y2 := Blk.cell_ (hv.at_ 0 rfl) 1; simp only [List.getElem?_toArray, List.getElem?_cons_succ, List.getElem?_cons_zero] at y2; have fz2 := Blk.frozen (hv.at_ 0 rfl) 1; obtain ⟨A6, c6, rfl, u6, u7⟩ := Row.any_ (hv.at_ 2 rfl); have HMv := Lib.hid hv; clear HM8 HM9 HU9 hv z0 z1 z2 fz u6 u7)))
                      have HM10 := HMv.out.blkSet 1 (.slice A6 (t.length + 1) c6)
                      have e2 : prs t ++ [.string qa, .string qb] = prs (t ++ [(qa, qb)]) := by simp [prs]
                      have e3 : t.length + 1 = (t ++ [(qa, qb)]).length := by simp
                      have HM11 : Hid (Mem none_ w [TabB (b2 + 1) (.slice A4 suf.length sc) (.slice A6 (t.length + 1) c6), StrRow (.slice A4 suf.length sc) suf, PrsRow (.slice A6 (t.length + 1) c6) (t ++ [(qa, qb)]), TabB b2 (.slice none 0 0) (.slice none 0 0)] (w4.setCell ⟨b2 + 1, 1, none⟩ (.slice A6 (t.length + 1) c6))) := by
                        unfold PrsRow
                        rw [← e2, ← e3]
                        exact HM10
                      clear HM10 HMv e2 e3
                      go_roundw
                      case rel => exact ⟨k + 1, _, by omega, by go_num, by rw [hI2.out]; exact HM11.out⟩
                      case measure => simp [intOf]; omega
                    · have c5 := c5
                      rw [Bool.not_eq_false] at c5
                      rw [c5] at hCo
                      have hI2 := Lib.hid (hI.out.trans (show ofWay1 suf t r = t from by unfold ofWay1; rw [hq]; exact if_neg (fun h => by have := h.2.2.2.2.2; rw [c5] at this; cases this)))
                      clear hI hq c1 c2 c3 c4 c5
                      go_wp2_with (go_at_call 43; refine hCo.mono ?_; clear hCo; rintro e w1 ⟨rfl, hm⟩; have HM8 := Mem.got (ds := []) HM7.out hm; clear HM7 hm)
                      go_roundw
                      case rel => exact ⟨k + 1, _, by omega, by go_num, by rw [hI2.out]; exact HM8.sel [2, 3, 4, 5] (by decide)⟩
                      case measure => simp [intOf]; omega
                  · have p4 : decide ((t.length : Int) < 256) = false := decide_eq_false (by omega)
                    have p5 : decide (t.length < 256) = false := decide_eq_false c4
                    have hI2 := Lib.hid (hI.out.trans (show ofWay1 suf t r = t from by unfold ofWay1; rw [hq]; exact if_neg (fun h => c4 h.2.2.2.2.1)))
                    clear hI hq hCo
                    go_wp2_with fail
                    go_roundw
                    case rel => exact ⟨k + 1, _, by omega, by go_num, by rw [hI2.out]; exact HM7.out.sel [2, 3, 4, 5] (by decide)⟩
                    case measure => simp [intOf]; omega
            · have p1 : decide ((0 : Int) < (r.cmd.length : Int)) = false := decide_eq_false (by omega)
              have p1N : decide (0 < r.cmd.length) = false := decide_eq_false c1
              have hI2 := Lib.hid (hI.out.trans (show ofWay1 suf t r = t from by unfold ofWay1; rw [hq]; exact if_neg (fun h => c1 h.2.1)))
              clear hI hq hCo
              go_wp2_with fail
              go_roundw
              case rel => exact ⟨k + 1, _, by omega, by go_num, by rw [hI2.out]; exact HM7.out.sel [2, 3, 4, 5] (by decide)⟩
              case measure => simp [intOf]; omega
        · have hlt' : decide ((k : Int) < (l.length : Int)) = false := decide_eq_false (by omega)
          have hltN : decide (k < l.length) = false := decide_eq_false hlt
          have e : k = l.length := by omega
          subst e
          rw [List.take_length, ← hW.out] at HM
          obtain ⟨A5, c5, rfl, _, wv2⟩ := Row.any_ (HM.at_ 2 rfl)
          have HM2 := Lib.hid (HM.sel [3, 0, 1, 2] (by decide))
          have bb0 := Blk.cell_ (HM.at_ 0 rfl) 0
          have bb1 := Blk.cell_ (HM.at_ 0 rfl) 1
          have b0 := Blk.cell_ (HM.at_ 3 rfl) 0
          have b1 := Blk.cell_ (HM.at_ 3 rfl) 1
          have fz := Blk.frozen (HM.at_ 3 rfl) 0
          have fz1 := Blk.frozen (HM.at_ 3 rfl) 1
          simp only [List.getElem?_toArray, List.getElem?_cons_succ, List.getElem?_cons_zero] at bb0 bb1 b0 b1
          obtain ⟨ws, hws⟩ : ∃ x, ofWays l = x := ⟨_, rfl⟩
          rw [hws] at HM HM2
          have hws := Lib.hid hws
          clear HM
          go_wp2_with fail
          have HM3 := (HM2.out.blkSet 0 (.slice A4 suf.length sc)).blkSet 1 (.slice A5 ws.length c5)
          have f0 := Blk.cell_ (HM3.at_ 0 rfl) 0
          have f1 := Blk.cell_ (HM3.at_ 0 rfl) 1
          generalize World.setCell _ _ _ = W9 at *
          refine bodyPost_ret (v := .agg #[.slice A4 suf.length sc, .slice A5 ws.length c5]) ?hr rfl ?_
          case hr =>
            unfold results
            go_simp
          exact ⟨_, _, rfl, by rw [hsf.out, hws.out]; exact HM3.sel [2, 3] (by decide)⟩
end Go.Proofs.Ytliglejbkpjamaa
