/-
  Layer 16 (graph): the walk of collect.
-/
import Derived.Test.YtliglejbkpjamaaVGrP0
set_option linter.unusedVariables false
set_option linter.unusedSimpArgs false
set_option maxRecDepth 100000
namespace Go.Proofs.Ytliglejbkpjamaa
open Go.RowKit

theorem eqMs (q : Nat) (w : World) : (binOp .eql 61 (.map (some q)) (.map none)).run Try.prog w = .ok (.bool false) w := by kernel_rfl
theorem eqMn (w : World) : (binOp .eql 61 (.map none) (.map none)).run Try.prog w = .ok (.bool true) w := by kernel_rfl
set_option maxHeartbeats 16000000 in
theorem collect_calls (X : BS) (rules : List RuleS) (B : Nat) {w0 : World} {F : List Chunk} (w : World) (HX : Mem none_ w0 (X.mem F) w) (hown : X.own = []) (hmarks : X.marks = []) (RJ : Value) (hR : Rules w0 RJ rules)
    (htg : ∀ r, r ∈ rules → 1 ≤ r.tg.length ∧ (r.tg.headD ⟨#[]⟩).size ≤ 4611686018427387904) (hB : ∀ r, r ∈ rules → r.src.length ≤ B ∧ r.cmd.length ≤ B) (hBB : rules.length * B ≤ 4398046511104) (hth : X.there.length + rules.length ≤ 1000000) :
    Calls Try.prog 24 #[.pointer (some ⟨X.b, 0, none⟩), RJ] w fun e w' => e = .returned (.tuple #[]) ∧ ∃ TH own marks, ownP own = (ownB X.suf rules X.there).1 ∧ markP marks = marksB rules ∧
      Mem none_ w0 (({ X with TH := TH, there := (ownB X.suf rules X.there).2, own := own, marks := marks } : BS).mem F) w' := by
  obtain ⟨A, n, c, rfl⟩ : ∃ A n c, RJ = .slice A n c := by
    obtain ⟨cells, ⟨A, c, rfl, _⟩, _⟩ := hR
    exact ⟨A, _, c, rfl⟩
  obtain ⟨rfl, g1, g2, g3⟩ := hR.get
  unfold maxLen at g2
  have hmm := @run_makeMap Try.prog
  have eX : ({ X with marks := [] } : BS) = X := by
    cases X; simp only at hmarks; subst hmarks; rfl
  have HM1 : Hid (Mem none_ w0 ([MapC w.heap.size Value.string setV (madeB X.suf (rules.take 0))] ++ ({ X with marks := [] } : BS).mem F) (w.alloc (.map #[] 0))) := by rw [eX]; exact MapC.made HX Value.string setV
  obtain ⟨As, ns, esv⟩ : ∃ A c, X.SV = .slice A X.suf.length c := by
    obtain ⟨A, c, e, _⟩ := Row.any_ (HX.at_ 1 rfl)
    exact ⟨A, c, e⟩
  have esv := Lib.hid esv
  have hown := Lib.hid hown
  clear eX HX hmarks hR
  go_enter Try.func24, Try.ntmps24
  go_wp2_with fail
  clear hmm
  generalize w.heap.size = mb at *
  generalize w.alloc _ = W1 at *
  go_loopw [21] (fun v21 wr => ∃ (k : Nat) (marks : List (ByteArray × MarkS)), k ≤ rules.length ∧ v21 = .int .i64 k ∧ Hid (markP marks = marksB (rules.take k)) ∧ Mem none_ w0 ([MapC mb Value.string setV (madeB X.suf (rules.take k))] ++ ({ X with marks := marks } : BS).mem F) wr) (fun v _ => rules.length - (intOf v).toNat)
  case atStart => exact ⟨0, [], Nat.zero_le _, rfl, rfl, HM1.out⟩
  case round =>
    clear HM1
    obtain ⟨k, marks, hk, rfl, HK, HM⟩ := hrel
    by_cases hlt : k < rules.length
    · have hlt' : decide ((k : Int) < (rules.length : Int)) = true := decide_eq_true (by omega)
      have hltN : decide (k < rules.length) = true := decide_eq_true hlt
      obtain ⟨b, o, rfl, hcells⟩ := g3.resolve_left (by omega)
      obtain ⟨TV, XV, CV, x0, x1, x2, x3, x4, t1, t2, t3⟩ := hcells k hlt
      have HK1 := Lib.hid ((congrArg (markR · rules[k]) HK.out).trans (marksB_snoc rules k hlt).symm)
      have HD1 := Lib.hid (madeB_snoc X.suf rules k hlt)
      have htk := Lib.hid (htg _ (List.getElem_mem hlt))
      clear hcells g3
      have x0 := Pure.cell HM.mu x0
      have x1 := Pure.cell HM.mu x1
      have x2 := Pure.cell HM.mu x2
      have x3 := Pure.cell HM.mu x3
      have x4 := Pure.cell HM.mu x4
      generalize rules[k] = r at *
      generalize madeB X.suf (rules.take k) = made at *
      obtain ⟨t, ts, etg⟩ : ∃ t ts, r.tg = t :: ts := by
        cases h : r.tg with
        | nil => have := htk.out.1; rw [h] at this; simp at this
        | cons t ts => exact ⟨t, ts, rfl⟩
      have ehd : r.tg.headD ⟨#[]⟩ = t := by rw [etg]; rfl
      obtain ⟨A2, c2, e2, _, d2, _⟩ := id t2
      obtain ⟨A1, c1, rfl, p1, p2, p3, p4⟩ := t1
      obtain ⟨A3, c3, e3, _, d3, _⟩ := id t3
      subst e2 e3
      unfold maxLen at p2 d2 d3
      obtain ⟨tb, to, rfl, htc⟩ := p4.resolve_left (by rw [etg]; simp)
      have y0 := htc 0 (.string t) (by rw [etg]; rfl)
      have hpos := Lib.hid (show 0 < r.tg.length from htk.out.1)
      have hts := htk.out.2
      rw [ehd] at hts
      have ehd := Lib.hid ehd
      clear htc p3 etg
      have HM2 := Lib.hid ((HM.box #[.slice (some ⟨tb, to, none⟩) r.tg.length c1, .int .i64 r.kind, .slice A2 r.src.length c2, .slice A3 r.cmd.length c3, .int .i64 r.at_] 25))
      have y1 : World.cell? _ ⟨tb, to, none⟩ = some (.string t) := Pure.cell HM2.out.mu y0
      have q1 : World.cell? _ ⟨X.b, 1, none⟩ = some X.SV := Blk.cell_ (HM2.out.at_ 2 rfl) 1
      have hp := hpos.out
      have hp' : decide ((0 : Int) < (r.tg.length : Int)) = true := decide_eq_true (by omega)
      rw [esv.out] at q1
      clear HM
      have hS := sufx_calls t _ X.suf _ (Row.sl (HM2.out.at_ 3 rfl))
      have hC := class_calls t
      simp only [esv.out] at hS
      obtain ⟨⟨sa, sb2, bs⟩, hsx⟩ : ∃ q, sufx t X.suf X.suf = q := ⟨_, rfl⟩
      rw [hsx] at hS
      simp only at hS
      unfold madeR at HD1
      rw [ehd.out, hsx] at HD1
      simp only at HD1
      clear hsx
      have HK2 := HK1.out
      clear HK1
      cases bs with
      | false =>
        have HD2 := Lib.hid (HD1.out.trans (if_neg (by simp)))
        clear HD1
        have HM3 : Hid (Mem none_ w0 ([MapC mb Value.string setV made, Blk wr.heap.size 25 #[.slice (some ⟨tb, to, none⟩) r.tg.length c1, .int .i64 r.kind, .slice A2 r.src.length c2, .slice A3 r.cmd.length c3, .int .i64 r.at_]] ++ ({ X with marks := marks } : BS).mem F) _) := HM2.out.psel (L := [_, _]) [1, 0] 2 rfl (by decide)
        have q6 : World.cell? _ ⟨X.b, 6, none⟩ = some (.map (some X.mb)) := Blk.cell_ (HM3.out.at_ 2 rfl) 6
        have hm6 : (MapC X.mb Value.string markV marks).ok _ := HM3.out.at_ 8 rfl
        have rc2 := Blk.cell_ (HM3.out.at_ 1 rfl) 2
        simp only [List.getElem?_toArray, List.getElem?_cons_succ, List.getElem?_cons_zero] at rc2
        clear HM2
        by_cases hcl : classB t = 0
        · have hcl1 : (classB t == 0) = true := by rw [beq_iff_eq]; exact hcl
          have hcl2 : decide (classB t = 0) = true := decide_eq_true hcl
          have HK3 := Lib.hid (show markP marks = marksB (rules.take (k + 1)) from by rw [← HK2]; show markP marks = markR (markP marks) r; unfold markR; rw [ehd.out, if_pos hcl])
          clear hcl HK2
          go_wp2_with (first | (go_at_call 42; refine hS.mono ?_; clear hS; rintro e w1 ⟨rfl, rfl⟩) | (go_at_call 39; refine (hC _ hts).mono ?_; rintro e w1 ⟨rfl, rfl⟩))
          go_roundw
          case rel => exact ⟨k + 1, marks, by omega, by go_num, HK3, by rw [HD2.out]; exact HM3.out.psel (L := [_, _]) [0] 2 rfl (by decide)⟩
          case measure => simp [intOf]; omega
        · have hcl1 : (classB t == 0) = false := by rw [beq_eq_false_iff_ne]; exact hcl
          have hcl2 : decide (classB t = 0) = false := decide_eq_false hcl
          have hzM : ∀ w, (zeroValue 61).run Try.prog w = .ok (.map none) w := fun w => by kernel_rfl
          cases hg : mget marks t with
          | some pq =>
            obtain ⟨q, m0⟩ := pq
            have hlk : (if false = true then Value.tuple #[((mget marks t).map markV).getD (.map none), .bool (mhas marks t)] else ((mget marks t).map markV).getD (.map none)) = .map (some q) := by rw [if_neg (by decide), hg]; rfl
            have h0 : Hid ((mget (markP marks) t).getD [] = m0) := by unfold Hid; rw [show mget (markP marks) t = (mget marks t).map Prod.snd from mget_map Prod.snd t marks, hg]; rfl
            have h1 : Hid (∀ m, mput marks t (q, m) = mput marks t (q, m)) := fun _ => rfl
            have hqe := eqMs q
            go_wp2_with (first | (go_at_call 42; refine hS.mono ?_; clear hS; rintro e w1 ⟨rfl, rfl⟩) | (go_at_call 39; refine (hC _ hts).mono ?_; rintro e w1 ⟨rfl, rfl⟩) | (at_lookup; refine wpList_get keyS Try.underlying63 hzM rfl _ _ false rfl hm6 rfl t rfl _ hlk ?_; obtain ⟨ms, hA, hm4⟩ := marks_get (X := { X with marks := marks }) (L := [_, _]) HM3.out hg; have HM4 := Lib.hid hm4; have hA1 := Lib.hid hA; clear hm4 hA HM3 hg))
            generalize wr.heap.size = rb at *
            go_loopw [68] (fun v68 wr2 => ∃ j : Nat, j ≤ r.src.length ∧ v68 = .int .i64 j ∧ Mem none_ w0 (MapC q Value.string setV ((r.src.take j).foldl (fun m x => mput m x ()) m0) :: ([MapC mb Value.string setV made, Blk rb 25 #[.slice (some ⟨tb, to, none⟩) r.tg.length c1, .int .i64 r.kind, .slice A2 r.src.length c2, .slice A3 r.cmd.length c3, .int .i64 r.at_]] ++ ({ X with marks := marks } : BS).noM ms F)) wr2) (fun v _ => r.src.length - (intOf v).toNat)
            case atStart => exact ⟨0, Nat.zero_le _, rfl, HM4.out⟩
            case round =>
              clear HM4
              obtain ⟨j, hj, rfl, HM⟩ := hrel
              by_cases hjl : j < r.src.length
              · have hjl' : decide ((j : Int) < (r.src.length : Int)) = true := decide_eq_true (by omega)
                have hjlN : decide (j < r.src.length) = true := decide_eq_true hjl
                obtain ⟨A2', c2', e2', _, _, _, f2⟩ := t2
                cases e2'
                obtain ⟨b2, o2, rfl, hc2⟩ := f2.resolve_left (by omega)
                have s0 : wr.cell? ⟨b2, o2 + j, none⟩ = some (.string r.src[j]) := Pure.cell HM.mu (hc2 _ _ (strs_get hjl))
                have q6 : wr.cell? ⟨X.b, 6, none⟩ = some (.map (some X.mb)) := Blk.cell_ (HM.at_ 3 rfl) 6
                have hm6 : (MapC X.mb Value.string markV marks).ok wr := HM.at_ 9 rfl
                have hlk2 : (if false = true then Value.tuple #[((mget marks t).map markV).getD (.map none), .bool (mhas marks t)] else ((mget marks t).map markV).getD (.map none)) = .map (some q) := by rw [if_neg (by decide), show mget marks t = some (q, m0) from hA1.out.get]; rfl
                have hfo := Lib.hid (show (r.src.take (j + 1)).foldl (fun m x => mput m x ()) m0 = mput ((r.src.take j).foldl (fun m x => mput m x ()) m0) r.src[j] () from by rw [List.take_succ_eq_append_getElem hjl, List.foldl_append]; rfl)
                clear hc2 f2
                generalize r.src[j] = x at *
                go_wp2_with (first | (at_lookup; refine wpList_get keyS Try.underlying63 hzM rfl _ _ false rfl hm6 rfl t rfl _ hlk2 ?_) | (at_mapUpdate; refine wpList_put keyS Try.underlying61 rfl _ _ _ (.inl rfl) HM rfl x rfl () rfl ?_; intro w4 hm HU; have HM5 := Lib.hid hm; clear hm HU HM))
                go_roundw
                case rel => exact ⟨j + 1, by omega, by go_num, by rw [hfo.out]; exact HM5.out⟩
                case measure => simp [intOf]; omega
              · have hjl' : decide ((j : Int) < (r.src.length : Int)) = false := decide_eq_false (by omega)
                have hjlN : decide (j < r.src.length) = false := decide_eq_false hjl
                have e : j = r.src.length := by omega
                subst e
                rw [List.take_length] at HM
                have HM6 := Lib.hid (marks_put hA1.out HM)
                have HK3 := Lib.hid ((markR_at (q := q) ehd.out hcl h0.out (fun _ => rfl)).trans HK2)
                clear HM hcl HK2
                go_wp2_with fail
                go_roundw
                case rel => exact ⟨k + 1, _, by omega, by go_num, HK3, by rw [HD2.out]; exact HM6.out.psel (L := [_, _]) [0] 2 rfl (by decide)⟩
                case measure => simp [intOf]; omega
          | none =>
            have hlk : (if false = true then Value.tuple #[((mget marks t).map markV).getD (.map none), .bool (mhas marks t)] else ((mget marks t).map markV).getD (.map none)) = .map none := by rw [if_neg (by decide), hg]; rfl
            have h0 : Hid ((mget (markP marks) t).getD [] = []) := by unfold Hid; rw [show mget (markP marks) t = (mget marks t).map Prod.snd from mget_map Prod.snd t marks, hg]; rfl
            have h1 : Hid (∀ (q : Nat) (m : List (ByteArray × Unit)), mput (mput marks t (q, [])) t (q, m) = mput marks t (q, m)) := fun _ _ => mput_put _ _ _ _
            have hmm := @run_makeMap Try.prog
            have hqe := eqMn
            have HMd := MapC.made HM3.out Value.string setV
            have eb : (wr.alloc (.cells #[.slice (some ⟨tb, to, none⟩) r.tg.length c1, .int .i64 r.kind, .slice A2 r.src.length c2, .slice A3 r.cmd.length c3, .int .i64 r.at_] 25)).heap.size = wr.heap.size + 1 := by simp
            rw [eb] at HMd
            have HMd := Lib.hid HMd
            clear eb
            go_wp2_with (first | (go_at_call 42; refine hS.mono ?_; clear hS; rintro e w1 ⟨rfl, rfl⟩) | (go_at_call 39; refine (hC _ hts).mono ?_; rintro e w1 ⟨rfl, rfl⟩) | (at_lookup; refine wpList_get keyS Try.underlying63 hzM rfl _ _ false rfl hm6 rfl t rfl _ hlk ?_) | (at_mapUpdate; refine wpList_put keyS Try.underlying63 rfl _ _ _ (.inl rfl) (HMd.out.psel (L := [_, _, _, _, _, _, _, _, _, _, _, _, _]) [9, 0, 1, 2, 3, 4, 5, 6, 7, 8, 10, 11, 12] 13 rfl (by decide)) rfl t rfl (_, []) rfl ?_; intro w3 hm HU; obtain ⟨q, hA, hm4⟩ : ∃ q, MarkAt { X with marks := mput marks t (q, []) } t q [] marks ∧ Mem none_ w0 (MapC q Value.string setV [] :: ([_, _] ++ ({ X with marks := mput marks t (q, []) } : BS).noM marks F)) w3 := ⟨_, marks_new (X := { X with marks := marks }) (L := [_, _]) hm hg⟩; have h2 := Lib.hid (h1.out q); have HM4 := Lib.hid hm4; have hA1 := Lib.hid hA; have rc2 := Blk.cell_ (hm4.at_ 2 rfl) 2; simp only [List.getElem?_toArray, List.getElem?_cons_succ, List.getElem?_cons_zero] at rc2; clear hm hm4 hA HM3 HMd hg HU hmm))
            generalize wr.heap.size = rb at *
            go_loopw [68] (fun v68 wr2 => ∃ j : Nat, j ≤ r.src.length ∧ v68 = .int .i64 j ∧ Mem none_ w0 (MapC q Value.string setV ((r.src.take j).foldl (fun m x => mput m x ()) []) :: ([MapC mb Value.string setV made, Blk rb 25 #[.slice (some ⟨tb, to, none⟩) r.tg.length c1, .int .i64 r.kind, .slice A2 r.src.length c2, .slice A3 r.cmd.length c3, .int .i64 r.at_]] ++ ({ X with marks := (mput marks t (q, [])) } : BS).noM marks F)) wr2) (fun v _ => r.src.length - (intOf v).toNat)
            case atStart => exact ⟨0, Nat.zero_le _, rfl, HM4.out⟩
            case round =>
              clear HM4
              obtain ⟨j, hj, rfl, HM⟩ := hrel
              by_cases hjl : j < r.src.length
              · have hjl' : decide ((j : Int) < (r.src.length : Int)) = true := decide_eq_true (by omega)
                have hjlN : decide (j < r.src.length) = true := decide_eq_true hjl
                obtain ⟨A2', c2', e2', _, _, _, f2⟩ := t2
                cases e2'
                obtain ⟨b2, o2, rfl, hc2⟩ := f2.resolve_left (by omega)
                have s0 : wr.cell? ⟨b2, o2 + j, none⟩ = some (.string r.src[j]) := Pure.cell HM.mu (hc2 _ _ (strs_get hjl))
                have q6 : wr.cell? ⟨X.b, 6, none⟩ = some (.map (some X.mb)) := Blk.cell_ (HM.at_ 3 rfl) 6
                have hm6 : (MapC X.mb Value.string markV (mput marks t (q, []))).ok wr := HM.at_ 9 rfl
                have hlk2 : (if false = true then Value.tuple #[((mget (mput marks t (q, [])) t).map markV).getD (.map none), .bool (mhas (mput marks t (q, [])) t)] else ((mget (mput marks t (q, [])) t).map markV).getD (.map none)) = .map (some q) := by rw [if_neg (by decide), show mget (mput marks t (q, [])) t = some (q, []) from hA1.out.get]; rfl
                have hfo := Lib.hid (show (r.src.take (j + 1)).foldl (fun m x => mput m x ()) [] = mput ((r.src.take j).foldl (fun m x => mput m x ()) []) r.src[j] () from by rw [List.take_succ_eq_append_getElem hjl, List.foldl_append]; rfl)
                clear hc2 f2
                generalize r.src[j] = x at *
                go_wp2_with (first | (at_lookup; refine wpList_get keyS Try.underlying63 hzM rfl _ _ false rfl hm6 rfl t rfl _ hlk2 ?_) | (at_mapUpdate; refine wpList_put keyS Try.underlying61 rfl _ _ _ (.inl rfl) HM rfl x rfl () rfl ?_; intro w4 hm HU; have HM5 := Lib.hid hm; clear hm HU HM))
                go_roundw
                case rel => exact ⟨j + 1, by omega, by go_num, by rw [hfo.out]; exact HM5.out⟩
                case measure => simp [intOf]; omega
              · have hjl' : decide ((j : Int) < (r.src.length : Int)) = false := decide_eq_false (by omega)
                have hjlN : decide (j < r.src.length) = false := decide_eq_false hjl
                have e : j = r.src.length := by omega
                subst e
                rw [List.take_length] at HM
                have HM6 := Lib.hid (marks_put hA1.out HM)
                have HK3 := Lib.hid ((markR_at (q := q) ehd.out hcl h0.out h2.out).trans HK2)
                clear HM hcl HK2
                go_wp2_with fail
                go_roundw
                case rel => exact ⟨k + 1, _, by omega, by go_num, HK3, by rw [HD2.out]; exact HM6.out.psel (L := [_, _]) [0] 2 rfl (by decide)⟩
                case measure => simp [intOf]; omega
      | true =>
        by_cases hcm : 0 < r.cmd.length
        · have HD2 := Lib.hid (HD1.out.trans (if_pos (by simp [hcm])))
          have hcm' : decide ((0 : Int) < (r.cmd.length : Int)) = true := decide_eq_true (by omega)
          have hcmN : decide (0 < r.cmd.length) = true := decide_eq_true hcm
          clear HD1
          by_cases hcl : classB t = 0
          · have hcl1 : (classB t == 0) = true := by rw [beq_iff_eq]; exact hcl
            have hcl2 : decide (classB t = 0) = true := decide_eq_true hcl
            have HK3 := Lib.hid (show markP marks = marksB (rules.take (k + 1)) from by rw [← HK2]; show markP marks = markR (markP marks) r; unfold markR; rw [ehd.out, if_pos hcl])
            clear hcl HK2
            go_wp2_with (first | (go_at_call 42; refine hS.mono ?_; clear hS; rintro e w1 ⟨rfl, rfl⟩) | (at_mapUpdate; refine wpList_put keyS Try.underlying61 rfl _ _ _ (.inl rfl) (HM2.out.psel (L := [_, _]) [1, 0] 2 rfl (by decide)) rfl t rfl () rfl ?_; intro w2 hm HU; have HM3 : Hid (Mem none_ w0 ([MapC mb Value.string setV (mput made t ()), Blk wr.heap.size 25 #[.slice (some ⟨tb, to, none⟩) r.tg.length c1, .int .i64 r.kind, .slice A2 r.src.length c2, .slice A3 r.cmd.length c3, .int .i64 r.at_]] ++ ({ X with marks := marks } : BS).mem F) w2) := hm; have q6 : w2.cell? ⟨X.b, 6, none⟩ = some (.map (some X.mb)) := Blk.cell_ (HM3.out.at_ 2 rfl) 6; have hm6 : (MapC X.mb Value.string markV marks).ok w2 := HM3.out.at_ 8 rfl; have rc2 := Blk.cell_ (HM3.out.at_ 1 rfl) 2; simp only [List.getElem?_toArray, List.getElem?_cons_succ, List.getElem?_cons_zero] at rc2; clear hm HU HM2) | (go_at_call 39; refine (hC _ hts).mono ?_; rintro e w1 ⟨rfl, rfl⟩))
            go_roundw
            case rel => exact ⟨k + 1, marks, by omega, by go_num, HK3, by rw [HD2.out]; exact HM3.out.psel (L := [_, _]) [0] 2 rfl (by decide)⟩
            case measure => simp [intOf]; omega
          · have hcl1 : (classB t == 0) = false := by rw [beq_eq_false_iff_ne]; exact hcl
            have hcl2 : decide (classB t = 0) = false := decide_eq_false hcl
            have hzM : ∀ w, (zeroValue 61).run Try.prog w = .ok (.map none) w := fun w => by kernel_rfl
            cases hg : mget marks t with
            | some pq =>
              obtain ⟨q, m0⟩ := pq
              have hlk : (if false = true then Value.tuple #[((mget marks t).map markV).getD (.map none), .bool (mhas marks t)] else ((mget marks t).map markV).getD (.map none)) = .map (some q) := by rw [if_neg (by decide), hg]; rfl
              have h0 : Hid ((mget (markP marks) t).getD [] = m0) := by unfold Hid; rw [show mget (markP marks) t = (mget marks t).map Prod.snd from mget_map Prod.snd t marks, hg]; rfl
              have h1 : Hid (∀ m, mput marks t (q, m) = mput marks t (q, m)) := fun _ => rfl
              have hqe := eqMs q
              go_wp2_with (first | (go_at_call 42; refine hS.mono ?_; clear hS; rintro e w1 ⟨rfl, rfl⟩) | (at_mapUpdate; refine wpList_put keyS Try.underlying61 rfl _ _ _ (.inl rfl) (HM2.out.psel (L := [_, _]) [1, 0] 2 rfl (by decide)) rfl t rfl () rfl ?_; intro w2 hm HU; have HM3 : Hid (Mem none_ w0 ([MapC mb Value.string setV (mput made t ()), Blk wr.heap.size 25 #[.slice (some ⟨tb, to, none⟩) r.tg.length c1, .int .i64 r.kind, .slice A2 r.src.length c2, .slice A3 r.cmd.length c3, .int .i64 r.at_]] ++ ({ X with marks := marks } : BS).mem F) w2) := hm; have q6 : w2.cell? ⟨X.b, 6, none⟩ = some (.map (some X.mb)) := Blk.cell_ (HM3.out.at_ 2 rfl) 6; have hm6 : (MapC X.mb Value.string markV marks).ok w2 := HM3.out.at_ 8 rfl; have rc2 := Blk.cell_ (HM3.out.at_ 1 rfl) 2; simp only [List.getElem?_toArray, List.getElem?_cons_succ, List.getElem?_cons_zero] at rc2; clear hm HU HM2) | (go_at_call 39; refine (hC _ hts).mono ?_; rintro e w1 ⟨rfl, rfl⟩) | (at_lookup; refine wpList_get keyS Try.underlying63 hzM rfl _ _ false rfl hm6 rfl t rfl _ hlk ?_; obtain ⟨ms, hA, hm4⟩ := marks_get (X := { X with marks := marks }) (L := [_, _]) HM3.out hg; have HM4 := Lib.hid hm4; have hA1 := Lib.hid hA; clear hm4 hA HM3 hg))
              generalize wr.heap.size = rb at *
              go_loopw [68] (fun v68 wr2 => ∃ j : Nat, j ≤ r.src.length ∧ v68 = .int .i64 j ∧ Mem none_ w0 (MapC q Value.string setV ((r.src.take j).foldl (fun m x => mput m x ()) m0) :: ([MapC mb Value.string setV (mput made t ()), Blk rb 25 #[.slice (some ⟨tb, to, none⟩) r.tg.length c1, .int .i64 r.kind, .slice A2 r.src.length c2, .slice A3 r.cmd.length c3, .int .i64 r.at_]] ++ ({ X with marks := marks } : BS).noM ms F)) wr2) (fun v _ => r.src.length - (intOf v).toNat)
              case atStart => exact ⟨0, Nat.zero_le _, rfl, HM4.out⟩
              case round =>
                clear HM4
                obtain ⟨j, hj, rfl, HM⟩ := hrel
                by_cases hjl : j < r.src.length
                · have hjl' : decide ((j : Int) < (r.src.length : Int)) = true := decide_eq_true (by omega)
                  have hjlN : decide (j < r.src.length) = true := decide_eq_true hjl
                  obtain ⟨A2', c2', e2', _, _, _, f2⟩ := t2
                  cases e2'
                  obtain ⟨b2, o2, rfl, hc2⟩ := f2.resolve_left (by omega)
                  have s0 : wr.cell? ⟨b2, o2 + j, none⟩ = some (.string r.src[j]) := Pure.cell HM.mu (hc2 _ _ (strs_get hjl))
                  have q6 : wr.cell? ⟨X.b, 6, none⟩ = some (.map (some X.mb)) := Blk.cell_ (HM.at_ 3 rfl) 6
                  have hm6 : (MapC X.mb Value.string markV marks).ok wr := HM.at_ 9 rfl
                  have hlk2 : (if false = true then Value.tuple #[((mget marks t).map markV).getD (.map none), .bool (mhas marks t)] else ((mget marks t).map markV).getD (.map none)) = .map (some q) := by rw [if_neg (by decide), show mget marks t = some (q, m0) from hA1.out.get]; rfl
                  have hfo := Lib.hid (show (r.src.take (j + 1)).foldl (fun m x => mput m x ()) m0 = mput ((r.src.take j).foldl (fun m x => mput m x ()) m0) r.src[j] () from by rw [List.take_succ_eq_append_getElem hjl, List.foldl_append]; rfl)
                  clear hc2 f2
                  generalize r.src[j] = x at *
                  go_wp2_with (first | (at_lookup; refine wpList_get keyS Try.underlying63 hzM rfl _ _ false rfl hm6 rfl t rfl _ hlk2 ?_) | (at_mapUpdate; refine wpList_put keyS Try.underlying61 rfl _ _ _ (.inl rfl) HM rfl x rfl () rfl ?_; intro w4 hm HU; have HM5 := Lib.hid hm; clear hm HU HM))
                  go_roundw
                  case rel => exact ⟨j + 1, by omega, by go_num, by rw [hfo.out]; exact HM5.out⟩
                  case measure => simp [intOf]; omega
                · have hjl' : decide ((j : Int) < (r.src.length : Int)) = false := decide_eq_false (by omega)
                  have hjlN : decide (j < r.src.length) = false := decide_eq_false hjl
                  have e : j = r.src.length := by omega
                  subst e
                  rw [List.take_length] at HM
                  have HM6 := Lib.hid (marks_put hA1.out HM)
                  have HK3 := Lib.hid ((markR_at (q := q) ehd.out hcl h0.out (fun _ => rfl)).trans HK2)
                  clear HM hcl HK2
                  go_wp2_with fail
                  go_roundw
                  case rel => exact ⟨k + 1, _, by omega, by go_num, HK3, by rw [HD2.out]; exact HM6.out.psel (L := [_, _]) [0] 2 rfl (by decide)⟩
                  case measure => simp [intOf]; omega
            | none =>
              have hlk : (if false = true then Value.tuple #[((mget marks t).map markV).getD (.map none), .bool (mhas marks t)] else ((mget marks t).map markV).getD (.map none)) = .map none := by rw [if_neg (by decide), hg]; rfl
              have h0 : Hid ((mget (markP marks) t).getD [] = []) := by unfold Hid; rw [show mget (markP marks) t = (mget marks t).map Prod.snd from mget_map Prod.snd t marks, hg]; rfl
              have h1 : Hid (∀ (q : Nat) (m : List (ByteArray × Unit)), mput (mput marks t (q, [])) t (q, m) = mput marks t (q, m)) := fun _ _ => mput_put _ _ _ _
              have hmm := @run_makeMap Try.prog
              have hqe := eqMn
              go_wp2_with (first | (go_at_call 42; refine hS.mono ?_; clear hS; rintro e w1 ⟨rfl, rfl⟩) | (at_mapUpdate; refine wpList_put keyS Try.underlying61 rfl _ _ _ (.inl rfl) (HM2.out.psel (L := [_, _]) [1, 0] 2 rfl (by decide)) rfl t rfl () rfl ?_; intro w2 hm HU; have HM3 : Hid (Mem none_ w0 ([MapC mb Value.string setV (mput made t ()), Blk wr.heap.size 25 #[.slice (some ⟨tb, to, none⟩) r.tg.length c1, .int .i64 r.kind, .slice A2 r.src.length c2, .slice A3 r.cmd.length c3, .int .i64 r.at_]] ++ ({ X with marks := marks } : BS).mem F) w2) := hm; have q6 : w2.cell? ⟨X.b, 6, none⟩ = some (.map (some X.mb)) := Blk.cell_ (HM3.out.at_ 2 rfl) 6; have hm6 : (MapC X.mb Value.string markV marks).ok w2 := HM3.out.at_ 8 rfl; have rc2 := Blk.cell_ (HM3.out.at_ 1 rfl) 2; simp only [List.getElem?_toArray, List.getElem?_cons_succ, List.getElem?_cons_zero] at rc2; have HMd := Lib.hid (MapC.made HM3.out Value.string setV); clear hm HU HM2) | (go_at_call 39; refine (hC _ hts).mono ?_; rintro e w1 ⟨rfl, rfl⟩) | (at_lookup; refine wpList_get keyS Try.underlying63 hzM rfl _ _ false rfl hm6 rfl t rfl _ hlk ?_) | (at_mapUpdate; refine wpList_put keyS Try.underlying63 rfl _ _ _ (.inl rfl) (HMd.out.psel (L := [_, _, _, _, _, _, _, _, _, _, _, _, _]) [9, 0, 1, 2, 3, 4, 5, 6, 7, 8, 10, 11, 12] 13 rfl (by decide)) rfl t rfl (_, []) rfl ?_; intro w3 hm HU; obtain ⟨q, hA, hm4⟩ : ∃ q, MarkAt { X with marks := mput marks t (q, []) } t q [] marks ∧ Mem none_ w0 (MapC q Value.string setV [] :: ([_, _] ++ ({ X with marks := mput marks t (q, []) } : BS).noM marks F)) w3 := ⟨_, marks_new (X := { X with marks := marks }) (L := [_, _]) hm hg⟩; have h2 := Lib.hid (h1.out q); have HM4 := Lib.hid hm4; have hA1 := Lib.hid hA; have rc2 := Blk.cell_ (hm4.at_ 2 rfl) 2; simp only [List.getElem?_toArray, List.getElem?_cons_succ, List.getElem?_cons_zero] at rc2; clear hm hm4 hA HM3 HMd hg HU hmm))
              generalize wr.heap.size = rb at *
              go_loopw [68] (fun v68 wr2 => ∃ j : Nat, j ≤ r.src.length ∧ v68 = .int .i64 j ∧ Mem none_ w0 (MapC q Value.string setV ((r.src.take j).foldl (fun m x => mput m x ()) []) :: ([MapC mb Value.string setV (mput made t ()), Blk rb 25 #[.slice (some ⟨tb, to, none⟩) r.tg.length c1, .int .i64 r.kind, .slice A2 r.src.length c2, .slice A3 r.cmd.length c3, .int .i64 r.at_]] ++ ({ X with marks := (mput marks t (q, [])) } : BS).noM marks F)) wr2) (fun v _ => r.src.length - (intOf v).toNat)
              case atStart => exact ⟨0, Nat.zero_le _, rfl, HM4.out⟩
              case round =>
                clear HM4
                obtain ⟨j, hj, rfl, HM⟩ := hrel
                by_cases hjl : j < r.src.length
                · have hjl' : decide ((j : Int) < (r.src.length : Int)) = true := decide_eq_true (by omega)
                  have hjlN : decide (j < r.src.length) = true := decide_eq_true hjl
                  obtain ⟨A2', c2', e2', _, _, _, f2⟩ := t2
                  cases e2'
                  obtain ⟨b2, o2, rfl, hc2⟩ := f2.resolve_left (by omega)
                  have s0 : wr.cell? ⟨b2, o2 + j, none⟩ = some (.string r.src[j]) := Pure.cell HM.mu (hc2 _ _ (strs_get hjl))
                  have q6 : wr.cell? ⟨X.b, 6, none⟩ = some (.map (some X.mb)) := Blk.cell_ (HM.at_ 3 rfl) 6
                  have hm6 : (MapC X.mb Value.string markV (mput marks t (q, []))).ok wr := HM.at_ 9 rfl
                  have hlk2 : (if false = true then Value.tuple #[((mget (mput marks t (q, [])) t).map markV).getD (.map none), .bool (mhas (mput marks t (q, [])) t)] else ((mget (mput marks t (q, [])) t).map markV).getD (.map none)) = .map (some q) := by rw [if_neg (by decide), show mget (mput marks t (q, [])) t = some (q, []) from hA1.out.get]; rfl
                  have hfo := Lib.hid (show (r.src.take (j + 1)).foldl (fun m x => mput m x ()) [] = mput ((r.src.take j).foldl (fun m x => mput m x ()) []) r.src[j] () from by rw [List.take_succ_eq_append_getElem hjl, List.foldl_append]; rfl)
                  clear hc2 f2
                  generalize r.src[j] = x at *
                  go_wp2_with (first | (at_lookup; refine wpList_get keyS Try.underlying63 hzM rfl _ _ false rfl hm6 rfl t rfl _ hlk2 ?_) | (at_mapUpdate; refine wpList_put keyS Try.underlying61 rfl _ _ _ (.inl rfl) HM rfl x rfl () rfl ?_; intro w4 hm HU; have HM5 := Lib.hid hm; clear hm HU HM))
                  go_roundw
                  case rel => exact ⟨j + 1, by omega, by go_num, by rw [hfo.out]; exact HM5.out⟩
                  case measure => simp [intOf]; omega
                · have hjl' : decide ((j : Int) < (r.src.length : Int)) = false := decide_eq_false (by omega)
                  have hjlN : decide (j < r.src.length) = false := decide_eq_false hjl
                  have e : j = r.src.length := by omega
                  subst e
                  rw [List.take_length] at HM
                  have HM6 := Lib.hid (marks_put hA1.out HM)
                  have HK3 := Lib.hid ((markR_at (q := q) ehd.out hcl h0.out h2.out).trans HK2)
                  clear HM hcl HK2
                  go_wp2_with fail
                  go_roundw
                  case rel => exact ⟨k + 1, _, by omega, by go_num, HK3, by rw [HD2.out]; exact HM6.out.psel (L := [_, _]) [0] 2 rfl (by decide)⟩
                  case measure => simp [intOf]; omega
        · have HD2 := Lib.hid (HD1.out.trans (if_neg (by simp [hcm])))
          have hcm' : decide ((0 : Int) < (r.cmd.length : Int)) = false := decide_eq_false (by omega)
          have hcmN : decide (0 < r.cmd.length) = false := decide_eq_false hcm
          clear HD1
          have HM3 : Hid (Mem none_ w0 ([MapC mb Value.string setV made, Blk wr.heap.size 25 #[.slice (some ⟨tb, to, none⟩) r.tg.length c1, .int .i64 r.kind, .slice A2 r.src.length c2, .slice A3 r.cmd.length c3, .int .i64 r.at_]] ++ ({ X with marks := marks } : BS).mem F) _) := HM2.out.psel (L := [_, _]) [1, 0] 2 rfl (by decide)
          have q6 : World.cell? _ ⟨X.b, 6, none⟩ = some (.map (some X.mb)) := Blk.cell_ (HM3.out.at_ 2 rfl) 6
          have hm6 : (MapC X.mb Value.string markV marks).ok _ := HM3.out.at_ 8 rfl
          have rc2 := Blk.cell_ (HM3.out.at_ 1 rfl) 2
          simp only [List.getElem?_toArray, List.getElem?_cons_succ, List.getElem?_cons_zero] at rc2
          clear HM2
          by_cases hcl : classB t = 0
          · have hcl1 : (classB t == 0) = true := by rw [beq_iff_eq]; exact hcl
            have hcl2 : decide (classB t = 0) = true := decide_eq_true hcl
            have HK3 := Lib.hid (show markP marks = marksB (rules.take (k + 1)) from by rw [← HK2]; show markP marks = markR (markP marks) r; unfold markR; rw [ehd.out, if_pos hcl])
            clear hcl HK2
            go_wp2_with (first | (go_at_call 42; refine hS.mono ?_; clear hS; rintro e w1 ⟨rfl, rfl⟩) | (go_at_call 39; refine (hC _ hts).mono ?_; rintro e w1 ⟨rfl, rfl⟩))
            go_roundw
            case rel => exact ⟨k + 1, marks, by omega, by go_num, HK3, by rw [HD2.out]; exact HM3.out.psel (L := [_, _]) [0] 2 rfl (by decide)⟩
            case measure => simp [intOf]; omega
          · have hcl1 : (classB t == 0) = false := by rw [beq_eq_false_iff_ne]; exact hcl
            have hcl2 : decide (classB t = 0) = false := decide_eq_false hcl
            have hzM : ∀ w, (zeroValue 61).run Try.prog w = .ok (.map none) w := fun w => by kernel_rfl
            cases hg : mget marks t with
            | some pq =>
              obtain ⟨q, m0⟩ := pq
              have hlk : (if false = true then Value.tuple #[((mget marks t).map markV).getD (.map none), .bool (mhas marks t)] else ((mget marks t).map markV).getD (.map none)) = .map (some q) := by rw [if_neg (by decide), hg]; rfl
              have h0 : Hid ((mget (markP marks) t).getD [] = m0) := by unfold Hid; rw [show mget (markP marks) t = (mget marks t).map Prod.snd from mget_map Prod.snd t marks, hg]; rfl
              have h1 : Hid (∀ m, mput marks t (q, m) = mput marks t (q, m)) := fun _ => rfl
              have hqe := eqMs q
              go_wp2_with (first | (go_at_call 42; refine hS.mono ?_; clear hS; rintro e w1 ⟨rfl, rfl⟩) | (go_at_call 39; refine (hC _ hts).mono ?_; rintro e w1 ⟨rfl, rfl⟩) | (at_lookup; refine wpList_get keyS Try.underlying63 hzM rfl _ _ false rfl hm6 rfl t rfl _ hlk ?_; obtain ⟨ms, hA, hm4⟩ := marks_get (X := { X with marks := marks }) (L := [_, _]) HM3.out hg; have HM4 := Lib.hid hm4; have hA1 := Lib.hid hA; clear hm4 hA HM3 hg))
              generalize wr.heap.size = rb at *
              go_loopw [68] (fun v68 wr2 => ∃ j : Nat, j ≤ r.src.length ∧ v68 = .int .i64 j ∧ Mem none_ w0 (MapC q Value.string setV ((r.src.take j).foldl (fun m x => mput m x ()) m0) :: ([MapC mb Value.string setV made, Blk rb 25 #[.slice (some ⟨tb, to, none⟩) r.tg.length c1, .int .i64 r.kind, .slice A2 r.src.length c2, .slice A3 r.cmd.length c3, .int .i64 r.at_]] ++ ({ X with marks := marks } : BS).noM ms F)) wr2) (fun v _ => r.src.length - (intOf v).toNat)
              case atStart => exact ⟨0, Nat.zero_le _, rfl, HM4.out⟩
              case round =>
                clear HM4
                obtain ⟨j, hj, rfl, HM⟩ := hrel
                by_cases hjl : j < r.src.length
                · have hjl' : decide ((j : Int) < (r.src.length : Int)) = true := decide_eq_true (by omega)
                  have hjlN : decide (j < r.src.length) = true := decide_eq_true hjl
                  obtain ⟨A2', c2', e2', _, _, _, f2⟩ := t2
                  cases e2'
                  obtain ⟨b2, o2, rfl, hc2⟩ := f2.resolve_left (by omega)
                  have s0 : wr.cell? ⟨b2, o2 + j, none⟩ = some (.string r.src[j]) := Pure.cell HM.mu (hc2 _ _ (strs_get hjl))
                  have q6 : wr.cell? ⟨X.b, 6, none⟩ = some (.map (some X.mb)) := Blk.cell_ (HM.at_ 3 rfl) 6
                  have hm6 : (MapC X.mb Value.string markV marks).ok wr := HM.at_ 9 rfl
                  have hlk2 : (if false = true then Value.tuple #[((mget marks t).map markV).getD (.map none), .bool (mhas marks t)] else ((mget marks t).map markV).getD (.map none)) = .map (some q) := by rw [if_neg (by decide), show mget marks t = some (q, m0) from hA1.out.get]; rfl
                  have hfo := Lib.hid (show (r.src.take (j + 1)).foldl (fun m x => mput m x ()) m0 = mput ((r.src.take j).foldl (fun m x => mput m x ()) m0) r.src[j] () from by rw [List.take_succ_eq_append_getElem hjl, List.foldl_append]; rfl)
                  clear hc2 f2
                  generalize r.src[j] = x at *
                  go_wp2_with (first | (at_lookup; refine wpList_get keyS Try.underlying63 hzM rfl _ _ false rfl hm6 rfl t rfl _ hlk2 ?_) | (at_mapUpdate; refine wpList_put keyS Try.underlying61 rfl _ _ _ (.inl rfl) HM rfl x rfl () rfl ?_; intro w4 hm HU; have HM5 := Lib.hid hm; clear hm HU HM))
                  go_roundw
                  case rel => exact ⟨j + 1, by omega, by go_num, by rw [hfo.out]; exact HM5.out⟩
                  case measure => simp [intOf]; omega
                · have hjl' : decide ((j : Int) < (r.src.length : Int)) = false := decide_eq_false (by omega)
                  have hjlN : decide (j < r.src.length) = false := decide_eq_false hjl
                  have e : j = r.src.length := by omega
                  subst e
                  rw [List.take_length] at HM
                  have HM6 := Lib.hid (marks_put hA1.out HM)
                  have HK3 := Lib.hid ((markR_at (q := q) ehd.out hcl h0.out (fun _ => rfl)).trans HK2)
                  clear HM hcl HK2
                  go_wp2_with fail
                  go_roundw
                  case rel => exact ⟨k + 1, _, by omega, by go_num, HK3, by rw [HD2.out]; exact HM6.out.psel (L := [_, _]) [0] 2 rfl (by decide)⟩
                  case measure => simp [intOf]; omega
            | none =>
              have hlk : (if false = true then Value.tuple #[((mget marks t).map markV).getD (.map none), .bool (mhas marks t)] else ((mget marks t).map markV).getD (.map none)) = .map none := by rw [if_neg (by decide), hg]; rfl
              have h0 : Hid ((mget (markP marks) t).getD [] = []) := by unfold Hid; rw [show mget (markP marks) t = (mget marks t).map Prod.snd from mget_map Prod.snd t marks, hg]; rfl
              have h1 : Hid (∀ (q : Nat) (m : List (ByteArray × Unit)), mput (mput marks t (q, [])) t (q, m) = mput marks t (q, m)) := fun _ _ => mput_put _ _ _ _
              have hmm := @run_makeMap Try.prog
              have hqe := eqMn
              have HMd := MapC.made HM3.out Value.string setV
              have eb : (wr.alloc (.cells #[.slice (some ⟨tb, to, none⟩) r.tg.length c1, .int .i64 r.kind, .slice A2 r.src.length c2, .slice A3 r.cmd.length c3, .int .i64 r.at_] 25)).heap.size = wr.heap.size + 1 := by simp
              rw [eb] at HMd
              have HMd := Lib.hid HMd
              clear eb
              go_wp2_with (first | (go_at_call 42; refine hS.mono ?_; clear hS; rintro e w1 ⟨rfl, rfl⟩) | (go_at_call 39; refine (hC _ hts).mono ?_; rintro e w1 ⟨rfl, rfl⟩) | (at_lookup; refine wpList_get keyS Try.underlying63 hzM rfl _ _ false rfl hm6 rfl t rfl _ hlk ?_) | (at_mapUpdate; refine wpList_put keyS Try.underlying63 rfl _ _ _ (.inl rfl) (HMd.out.psel (L := [_, _, _, _, _, _, _, _, _, _, _, _, _]) [9, 0, 1, 2, 3, 4, 5, 6, 7, 8, 10, 11, 12] 13 rfl (by decide)) rfl t rfl (_, []) rfl ?_; intro w3 hm HU; obtain ⟨q, hA, hm4⟩ : ∃ q, MarkAt { X with marks := mput marks t (q, []) } t q [] marks ∧ Mem none_ w0 (MapC q Value.string setV [] :: ([_, _] ++ ({ X with marks := mput marks t (q, []) } : BS).noM marks F)) w3 := ⟨_, marks_new (X := { X with marks := marks }) (L := [_, _]) hm hg⟩; have h2 := Lib.hid (h1.out q); have HM4 := Lib.hid hm4; have hA1 := Lib.hid hA; have rc2 := Blk.cell_ (hm4.at_ 2 rfl) 2; simp only [List.getElem?_toArray, List.getElem?_cons_succ, List.getElem?_cons_zero] at rc2; clear hm hm4 hA HM3 HMd hg HU hmm))
              generalize wr.heap.size = rb at *
              go_loopw [68] (fun v68 wr2 => ∃ j : Nat, j ≤ r.src.length ∧ v68 = .int .i64 j ∧ Mem none_ w0 (MapC q Value.string setV ((r.src.take j).foldl (fun m x => mput m x ()) []) :: ([MapC mb Value.string setV made, Blk rb 25 #[.slice (some ⟨tb, to, none⟩) r.tg.length c1, .int .i64 r.kind, .slice A2 r.src.length c2, .slice A3 r.cmd.length c3, .int .i64 r.at_]] ++ ({ X with marks := (mput marks t (q, [])) } : BS).noM marks F)) wr2) (fun v _ => r.src.length - (intOf v).toNat)
              case atStart => exact ⟨0, Nat.zero_le _, rfl, HM4.out⟩
              case round =>
                clear HM4
                obtain ⟨j, hj, rfl, HM⟩ := hrel
                by_cases hjl : j < r.src.length
                · have hjl' : decide ((j : Int) < (r.src.length : Int)) = true := decide_eq_true (by omega)
                  have hjlN : decide (j < r.src.length) = true := decide_eq_true hjl
                  obtain ⟨A2', c2', e2', _, _, _, f2⟩ := t2
                  cases e2'
                  obtain ⟨b2, o2, rfl, hc2⟩ := f2.resolve_left (by omega)
                  have s0 : wr.cell? ⟨b2, o2 + j, none⟩ = some (.string r.src[j]) := Pure.cell HM.mu (hc2 _ _ (strs_get hjl))
                  have q6 : wr.cell? ⟨X.b, 6, none⟩ = some (.map (some X.mb)) := Blk.cell_ (HM.at_ 3 rfl) 6
                  have hm6 : (MapC X.mb Value.string markV (mput marks t (q, []))).ok wr := HM.at_ 9 rfl
                  have hlk2 : (if false = true then Value.tuple #[((mget (mput marks t (q, [])) t).map markV).getD (.map none), .bool (mhas (mput marks t (q, [])) t)] else ((mget (mput marks t (q, [])) t).map markV).getD (.map none)) = .map (some q) := by rw [if_neg (by decide), show mget (mput marks t (q, [])) t = some (q, []) from hA1.out.get]; rfl
                  have hfo := Lib.hid (show (r.src.take (j + 1)).foldl (fun m x => mput m x ()) [] = mput ((r.src.take j).foldl (fun m x => mput m x ()) []) r.src[j] () from by rw [List.take_succ_eq_append_getElem hjl, List.foldl_append]; rfl)
                  clear hc2 f2
                  generalize r.src[j] = x at *
                  go_wp2_with (first | (at_lookup; refine wpList_get keyS Try.underlying63 hzM rfl _ _ false rfl hm6 rfl t rfl _ hlk2 ?_) | (at_mapUpdate; refine wpList_put keyS Try.underlying61 rfl _ _ _ (.inl rfl) HM rfl x rfl () rfl ?_; intro w4 hm HU; have HM5 := Lib.hid hm; clear hm HU HM))
                  go_roundw
                  case rel => exact ⟨j + 1, by omega, by go_num, by rw [hfo.out]; exact HM5.out⟩
                  case measure => simp [intOf]; omega
                · have hjl' : decide ((j : Int) < (r.src.length : Int)) = false := decide_eq_false (by omega)
                  have hjlN : decide (j < r.src.length) = false := decide_eq_false hjl
                  have e : j = r.src.length := by omega
                  subst e
                  rw [List.take_length] at HM
                  have HM6 := Lib.hid (marks_put hA1.out HM)
                  have HK3 := Lib.hid ((markR_at (q := q) ehd.out hcl h0.out h2.out).trans HK2)
                  clear HM hcl HK2
                  go_wp2_with fail
                  go_roundw
                  case rel => exact ⟨k + 1, _, by omega, by go_num, HK3, by rw [HD2.out]; exact HM6.out.psel (L := [_, _]) [0] 2 rfl (by decide)⟩
                  case measure => simp [intOf]; omega
    · have hlt' : decide ((k : Int) < (rules.length : Int)) = false := decide_eq_false (by omega)
      have hltN : decide (k < rules.length) = false := decide_eq_false hlt
      have e : k = rules.length := by omega
      subst e
      rw [List.take_length] at HM HK
      have HM2 := Lib.hid HM
      clear HM
      go_wp2_with fail
      have HMw : Hid (Mem none_ w0 ([MapC mb Value.string setV (madeB X.suf rules)] ++ ({ X with TH := X.TH, there := X.there, own := X.own, marks := marks } : BS).mem F) wr) := HM2
      have HO0 : Hid (OwnOk B 0 X.there.length (([], X.there) : CS)) := Lib.hid ⟨fun t y h => (by cases h), Nat.le_refl _⟩
      have hw0 : Hid (ownP X.own = (([], X.there) : CS).1) := by unfold Hid; rw [hown.out]; rfl
      clear HM2 hown
      generalize hmd : madeB X.suf rules = made at *
      have hmd := Lib.hid hmd
      go_loopw [83] (fun v83 wr => ∃ (k : Nat) (TH : Value) (own : List (ByteArray × RX)) (S : CS), k ≤ rules.length ∧ v83 = .int .i64 k ∧ Hid (S = (rules.take k).foldl (ownS made) ([], X.there)) ∧ Hid (ownP own = S.1) ∧ Hid (OwnOk B k X.there.length S) ∧
        Mem none_ w0 ([MapC mb Value.string setV made] ++ ({ X with TH := TH, there := S.2, own := own, marks := marks } : BS).mem F) wr) (fun v _ => rules.length - (intOf v).toNat)
      case atStart => exact ⟨0, X.TH, X.own, _, Nat.zero_le _, rfl, rfl, hw0, HO0, HMw.out⟩
      case round =>
        clear HMw HO0 hw0
        obtain ⟨k, TH, own, S, hk, rfl, HS, HW, HO, HM⟩ := hrel
        by_cases hlt : k < rules.length
        · have hlt' : decide ((k : Int) < (rules.length : Int)) = true := decide_eq_true (by omega)
          have hltN : decide (k < rules.length) = true := decide_eq_true hlt
          obtain ⟨b, o, rfl, hcells⟩ := g3.resolve_left (by omega)
          obtain ⟨TV, XV, CV, x0, x1, x2, x3, x4, t1, t2, t3⟩ := hcells k hlt
          have HS1 := Lib.hid ((congrArg (ownS made · rules[k]) HS.out).trans (ownRun_snoc made rules ([], X.there) k hlt).symm)
          have htk := Lib.hid (htg _ (List.getElem_mem hlt))
          have HO1 := Lib.hid (ownS_ok (made := made) HO.out (hB _ (List.getElem_mem hlt)))
          have hbk := Lib.hid (hB _ (List.getElem_mem hlt))
          have hkB := Lib.hid (Nat.mul_le_mul_right B (show k + 1 ≤ rules.length from hlt))
          clear hcells g3 HS
          have x0 := Pure.cell HM.mu x0
          have x1 := Pure.cell HM.mu x1
          have x2 := Pure.cell HM.mu x2
          have x3 := Pure.cell HM.mu x3
          have x4 := Pure.cell HM.mu x4
          generalize rules[k] = r at *
          have HS2 := HS1.out
          clear HS1
          have HS2 : ownS made S r = _ := HS2
          obtain ⟨t, ts, etg⟩ : ∃ t ts, r.tg = t :: ts := by
            cases h : r.tg with
            | nil => have := htk.out.1; rw [h] at this; simp at this
            | cons t ts => exact ⟨t, ts, rfl⟩
          have ehd : r.tg.headD ⟨#[]⟩ = t := by rw [etg]; rfl
          obtain ⟨A2, c2, e2, _, d2, _⟩ := id t2
          obtain ⟨A1, c1, rfl, p1, p2, p3, p4⟩ := t1
          obtain ⟨A3, c3, e3, _, d3, _⟩ := id t3
          subst e2 e3
          unfold maxLen at p2 d2 d3
          obtain ⟨tb, to, rfl, htc⟩ := p4.resolve_left (by rw [etg]; simp)
          have y0 := htc 0 (.string t) (by rw [etg]; rfl)
          have hpos := Lib.hid (show 0 < r.tg.length from htk.out.1)
          have hts := htk.out.2
          rw [ehd] at hts
          have ehd := Lib.hid ehd
          clear htc p3 etg
          have HM2 := Lib.hid ((HM.box #[.slice (some ⟨tb, to, none⟩) r.tg.length c1, .int .i64 r.kind, .slice A2 r.src.length c2, .slice A3 r.cmd.length c3, .int .i64 r.at_] 25))
          have y1 : World.cell? _ ⟨tb, to, none⟩ = some (.string t) := Pure.cell HM2.out.mu y0
          have q3 : World.cell? _ ⟨X.b, 3 + 1, none⟩ = some (.map (some X.ob)) := Blk.cell_ (HM2.out.at_ 2 rfl) 4
          have hp := hpos.out
          have hp' : decide ((0 : Int) < (r.tg.length : Int)) = true := decide_eq_true (by omega)
          have hC := class_calls t
          have hmk : (MapC mb Value.string setV made).ok _ := HM2.out.at_ 1 rfl
          have hlm : (if false = true then Value.tuple #[((mget made t).map setV).getD (.bool false), .bool (mhas made t)] else ((mget made t).map setV).getD (.bool false)) = .bool (mhas made t) := by rw [if_neg (by decide), set_get]
          clear HM
          by_cases hcl : classB t = 0
          · have hcl1 : (classB t != 0) = false := by rw [hcl]; rfl
            have hcl2 : decide (classB t = 0) = true := decide_eq_true hcl
            cases hmt : mhas made t with
            | true =>
              rw [hmt] at hlm
              have HS3 := Lib.hid (show S = (rules.take (k + 1)).foldl (ownS made) ([], X.there) from by
                rw [← HS2]; unfold ownS; rw [ehd.out, if_pos (.inr hmt)])
              have HO3 : Hid (OwnOk B (k + 1) X.there.length S) := by
                have := HO1.out
                unfold ownS at this
                rw [ehd.out, if_pos (.inr hmt)] at this
                exact this
              clear hcl HS2 hmt HO1
              go_wp2_with (first | (go_at_call 39; refine (hC _ hts).mono ?_; rintro e w1 ⟨rfl, rfl⟩) | (at_lookup; refine wpList_get keyS Try.underlying61 zeroB rfl _ _ false rfl hmk rfl t rfl _ hlm ?_))
              go_roundw
              case rel => exact ⟨k + 1, TH, own, S, by omega, by go_num, HS3, HW, HO3, HM2.out.psel (L := [_, _]) [1] 2 rfl (by decide)⟩
              case measure => simp [intOf]; omega
            | false =>
              rw [hmt] at hlm
              have hob : (MapC X.ob Value.string RX.val own).ok _ := HM2.out.at_ 6 rfl
              obtain ⟨os, hos, HM3⟩ := own_get (X := ({ X with TH := TH, there := S.2, own := own, marks := marks } : BS)) (L := [_, _]) HM2.out t
              have eb : (wr.alloc (.cells #[.slice (some ⟨tb, to, none⟩) r.tg.length c1, .int .i64 r.kind, .slice A2 r.src.length c2, .slice A3 r.cmd.length c3, .int .i64 r.at_] 25)).heap.size = wr.heap.size + 1 := by simp
              cases hg : mget own t with
              | some x0 =>
                obtain ⟨TVx, SVx, CVx, rx⟩ := x0
                have hgS : mget S.1 t = some rx := by rw [ownR_plain HW.out, hg]; rfl
                have HSx : Hid (ownS made S r = (mput S.1 t ⟨rx.tg, rx.kind, rx.src ++ r.src, rx.cmd ++ r.cmd, rx.at_⟩, S.2)) := by unfold ownS; rw [ehd.out, if_neg (by simp [hcl, hmt]), hgS]; rfl
                have hbx := Lib.hid (HO.out.own t rx hgS)
                rw [show ownX own t = ⟨TVx, SVx, CVx, rx⟩ from by unfold ownX; rw [hg]; rfl] at HM3
                obtain ⟨Ta, ct, et, _⟩ := Row.any_ (HM3.at_ 0 rfl)
                obtain ⟨Sa, cs, es, _⟩ := Row.any_ (HM3.at_ 1 rfl)
                obtain ⟨Ca, cc, ec, _⟩ := Row.any_ (HM3.at_ 2 rfl)
                simp only at et es ec
                subst et es ec
                clear hcl hmt hgS HM2
                have hlk : (if true = true then Value.tuple #[((mget own t).map RX.val).getD (.agg #[.slice none 0 0, .int .i64 0, .slice none 0 0, .slice none 0 0, .int .i64 0]), .bool (mhas own t)] else ((mget own t).map RX.val).getD (.agg #[.slice none 0 0, .int .i64 0, .slice none 0 0, .slice none 0 0, .int .i64 0])) = .tuple #[.agg #[.slice Ta rx.tg.length ct, .int .i64 rx.kind, .slice Sa rx.src.length cs, .slice Ca rx.cmd.length cc, .int .i64 rx.at_], .bool true] := by rw [if_pos rfl, hg, show mhas own t = true from by unfold mhas; rw [hg]; rfl]; rfl
                have HM4 := HM3.box #[.slice Ta rx.tg.length ct, .int .i64 rx.kind, .slice Sa rx.src.length cs, .slice Ca rx.cmd.length cc, .int .i64 rx.at_] 25
                rw [eb] at HM4
                have HMx := Lib.hid HM4
                clear HM4 eb
                have hbn := Lib.hid (show (rx.src.length + r.src.length) * 16 ≤ 140737488355328 ∧ (rx.cmd.length + r.cmd.length) * 16 ≤ 140737488355328 from by have h1 := hbk.out; have h2 := hkB.out; have h4 := hbx.out; rw [Nat.add_mul] at h2; omega)
                go_wp2_with (first | (go_at_call 39; refine (hC _ hts).mono ?_; rintro e w1 ⟨rfl, rfl⟩) | (at_lookup; refine wpList_get keyS Try.underlying61 zeroB rfl _ _ false rfl hmk rfl t rfl _ hlm ?_) | (at_lookup; refine wpList_get keyS Try.underlying62 zeroR rfl _ _ true rfl hob rfl t rfl _ hlk ?_) | (at_builtin; refine wpList_appL (xv := .slice A2 r.src.length c2) (m := r.src) strE rfl _ _ rfl (HMx.out.psel (L := [_, _, _, _, _, _, _, _, _, _, _, _, _, _, _, _]) [2, 0, 1, 3, 4, 5, 6, 7, 8, 9, 10, 11, 12, 13, 14, 15] 16 rfl (by decide)) rfl rfl (t2.pure HMx.out.mu) hbn.out.1 ?_; intro v5 w5 hm5 hU5; obtain ⟨B1, n5, d5, e5⟩ : ∃ A n c, v5 = .slice A n c := (by obtain ⟨A, c, e, _⟩ := Row.any_ hm5.head; exact ⟨A, _, c, e⟩); subst e5; have xk2 := (Blk.cell_ (hm5.at_ 1 rfl) 2).trans (show _ = some (.slice Sa rx.src.length cs) from rfl); have xk3 := (Blk.cell_ (hm5.at_ 1 rfl) 3).trans (show _ = some (.slice Ca rx.cmd.length cc) from rfl); have xf2 := Blk.frozen (hm5.at_ 1 rfl) 2; have xf3 := Blk.frozen (hm5.at_ 1 rfl) 3; have rk3 := (Blk.cell_ (hm5.at_ 4 rfl) 3).trans (show _ = some (Value.slice A3 r.cmd.length c3) from rfl); have HMy := Lib.hid ((hm5.psel (L := [_, _, _, _, _, _, _, _, _, _, _, _, _, _, _, _]) [1, 2, 0, 3, 4, 5, 6, 7, 8, 9, 10, 11, 12, 13, 14, 15] 16 rfl (by decide)).blkSet 2 (.slice B1 n5 d5)); clear hm5 hU5 HMx) | (at_builtin; refine wpList_appL (xv := .slice A3 r.cmd.length c3) (m := r.cmd) strE rfl _ _ rfl (HMy.out.psel (L := [_, _, _, _, _, _, _, _, _, _, _, _, _, _, _, _]) [3, 0, 1, 2, 4, 5, 6, 7, 8, 9, 10, 11, 12, 13, 14, 15] 16 rfl (by decide)) rfl rfl (t3.pure HMy.out.mu) hbn.out.2 ?_; intro v6 w6 hm6 hU6; obtain ⟨B2, n6, d6, e6⟩ : ∃ A n c, v6 = .slice A n c := (by obtain ⟨A, c, e, _⟩ := Row.any_ hm6.head; exact ⟨A, _, c, e⟩); subst e6; have yk3 := (Blk.cell_ (hm6.at_ 1 rfl) 3).trans (show _ = some (.slice Ca rx.cmd.length cc) from rfl); have yf3 := Blk.frozen (hm6.at_ 1 rfl) 3; have HMz := Lib.hid ((hm6.psel (L := [_, _, _, _, _, _, _, _, _, _, _, _, _, _, _, _]) [1, 2, 3, 0, 4, 5, 6, 7, 8, 9, 10, 11, 12, 13, 14, 15] 16 rfl (by decide)).blkSet 3 (.slice B2 n6 d6)); clear hm6 hU6 HMy))
                have HMa := Lib.hid HMz.out.drew
                clear HMz
                have hbx1 : (Blk (wr.heap.size + 1) 25 _).ok _ := HMa.out.at_ 0 rfl
                have hbX : (Blk X.b 67 _).ok _ := HMa.out.at_ 6 rfl
                have hS0 := Lib.hid (show _ ∧ _ ∧ _ ∧ _ ∧ _ ∧ _ from ⟨Blk.cell_ hbX 4, Blk.cell_ hbx1 0, Blk.cell_ hbx1 1, Blk.cell_ hbx1 2, Blk.cell_ hbx1 3, Blk.cell_ hbx1 4⟩)
                refine wp_plan [6] (S := fun w' => Hid (w'.cell? ⟨X.b, 4, none⟩ = some (.map (some X.ob)) ∧ w'.cell? ⟨wr.heap.size + 1, 0, none⟩ = some (.slice Ta rx.tg.length ct) ∧ w'.cell? ⟨wr.heap.size + 1, 1, none⟩ = some (.int .i64 rx.kind) ∧ w'.cell? ⟨wr.heap.size + 1, 2, none⟩ = some (.slice B1 n5 d5) ∧ w'.cell? ⟨wr.heap.size + 1, 3, none⟩ = some (.slice B2 n6 d6) ∧ w'.cell? ⟨wr.heap.size + 1, 4, none⟩ = some (.int .i64 rx.at_))) [(.pure, 0), (.pure, 1), (.pure, 2), (.load, 3), (.pure, 4), (.load, 5), (.tail, 6)] (by kernel_rfl) rfl (by kernel_rfl) rfl (fun _ _ _ _ _ h => h) hS0 ?_
                clear hbx1 hbX hS0
                generalize World.drew _ = W9 at *
                repeat (first | (refine plan_pure (v := ?_) (a' := ?_) rfl rfl rfl ?_ ?_ ?_; rotate_left 2; (focus (intro w'; go_simp; with_reducible rfl)); (focus (simp only [Act.put, List.setIfInBounds_toArray, List.set_cons_zero, List.set_cons_succ]; rfl))) | (refine plan_load (v := ?_) (a' := ?_) rfl rfl rfl ?_ ?_ ?_; rotate_left 2; (focus (intro w' hw'; obtain ⟨q0, q1, q2, q3, q4, q5⟩ := hw'.out; clear hw'; go_simp; with_reducible rfl)); (focus (simp only [Act.put, List.setIfInBounds_toArray, List.set_cons_zero, List.set_cons_succ]; rfl))) | (refine plan_skip rfl rfl (by decide +kernel) (by simp only [Act.put, List.setIfInBounds_toArray, List.set_cons_zero, List.set_cons_succ]; rfl) ?_) | (refine plan_skip (a' := ?_) rfl rfl rfl ?_ ?_; rotate_left 1; (focus (simp only [Act.put, List.setIfInBounds_toArray, List.set_cons_zero, List.set_cons_succ]; rfl))) | (refine plan_skipL (a' := ?_) rfl rfl rfl ?_ ?_; rotate_left 1; (focus (simp only [Act.put, List.setIfInBounds_toArray, List.set_cons_zero, List.set_cons_succ]; rfl))))
                refine plan_tail rfl (fun K hK => ?_)
                refine wpList_put keyS Try.underlying62 rfl _ _ _ (.inl rfl) (HMa.out.psel (L := [_, _, _, _, _, _, _, _, _, _, _, _, _, _, _, _]) [10, 1, 2, 3, 5, 6, 7, 8, 9, 11, 12, 13, 14, 15] 16 rfl (by decide)) rfl t rfl (⟨.slice Ta rx.tg.length ct, .slice B1 n5 d5, .slice B2 n6 d6, ⟨rx.tg, rx.kind, rx.src ++ r.src, rx.cmd ++ r.cmd, rx.at_⟩⟩ : RX) rfl ?_
                intro w10 hm10 hU10
                refine wpList_nil_ (hK _ _ (plan_done ?_))
                clear hK hU10
                have HMf := own_put (X := ({ X with TH := TH, there := S.2, own := own, marks := marks } : BS)) (L := [_]) (y := (⟨.slice Ta rx.tg.length ct, .slice B1 n5 d5, .slice B2 n6 d6, ⟨rx.tg, rx.kind, rx.src ++ r.src, rx.cmd ++ r.cmd, rx.at_⟩⟩ : RX)) (hos _) (hm10.psel (L := [_, _, _, _, _, _, _, _, _, _, _, _, _, _]) [1, 2, 3, 4, 5, 6, 7, 8, 0, 9, 10, 11, 12, 13] 14 rfl (by decide))
                have HMf := Lib.hid HMf
                have hw1 := Lib.hid (show ownP (mput own t (⟨.slice Ta rx.tg.length ct, .slice B1 n5 d5, .slice B2 n6 d6, ⟨rx.tg, rx.kind, rx.src ++ r.src, rx.cmd ++ r.cmd, rx.at_⟩⟩ : RX)) = mput S.1 t (⟨.slice Ta rx.tg.length ct, .slice B1 n5 d5, .slice B2 n6 d6, ⟨rx.tg, rx.kind, rx.src ++ r.src, rx.cmd ++ r.cmd, rx.at_⟩⟩ : RX).r from (mput_map RX.r t _ own).trans (by rw [← HW.out]; rfl))
                have ho1 := HO1.out
                rw [HSx.out] at ho1
                have ho1 := Lib.hid ho1
                have HS3 := Lib.hid (HSx.out.symm.trans HS2)
                clear hm10 HMa HS2 HSx HO1
                go_wp2_with fail
                go_roundw
                case rel => exact ⟨k + 1, TH, mput own t (⟨.slice Ta rx.tg.length ct, .slice B1 n5 d5, .slice B2 n6 d6, ⟨rx.tg, rx.kind, rx.src ++ r.src, rx.cmd ++ r.cmd, rx.at_⟩⟩ : RX), (mput S.1 t (⟨.slice Ta rx.tg.length ct, .slice B1 n5 d5, .slice B2 n6 d6, ⟨rx.tg, rx.kind, rx.src ++ r.src, rx.cmd ++ r.cmd, rx.at_⟩⟩ : RX).r, S.2), by omega, by go_num, HS3, hw1, ho1, HMf.out⟩
                case measure => simp [intOf]; omega
              | none =>
                have hgS : mget S.1 t = none := by rw [ownR_plain HW.out, hg]; rfl
                have HSx : Hid (ownS made S r = (mput S.1 t ⟨[], r.kind, r.src, r.cmd, 0⟩, S.2 ++ [t])) := by unfold ownS; rw [ehd.out, if_neg (by simp [hcl, hmt]), hgS]; rfl
                have hbx := Lib.hid (show ([] : List ByteArray).length ≤ k * B ∧ ([] : List ByteArray).length ≤ k * B from ⟨Nat.zero_le _, Nat.zero_le _⟩)
                rw [show ownX own t = noRX from by unfold ownX; rw [hg]; rfl] at HM3
                clear hcl hmt hgS HM2
                have hlk : (if true = true then Value.tuple #[((mget own t).map RX.val).getD (.agg #[.slice none 0 0, .int .i64 0, .slice none 0 0, .slice none 0 0, .int .i64 0]), .bool (mhas own t)] else ((mget own t).map RX.val).getD (.agg #[.slice none 0 0, .int .i64 0, .slice none 0 0, .slice none 0 0, .int .i64 0])) = .tuple #[.agg #[.slice none 0 0, .int .i64 0, .slice none 0 0, .slice none 0 0, .int .i64 0], .bool false] := by rw [if_pos rfl, hg, show mhas own t = false from by unfold mhas; rw [hg]; rfl]; rfl
                have HM4 := HM3.box #[.slice none 0 0, .int .i64 r.kind, .slice none 0 0, .slice none 0 0, .int .i64 0] 25
                rw [eb] at HM4
                have HMx0 := Lib.hid HM4
                clear HM4 eb
                have hbn := Lib.hid (show (([] : List ByteArray).length + r.src.length) * 16 ≤ 140737488355328 ∧ (([] : List ByteArray).length + r.cmd.length) * 16 ≤ 140737488355328 from by have h1 := hbk.out; have h2 := hkB.out; have h4 := hbx.out; rw [Nat.add_mul] at h2; omega)
                have q5 : World.cell? _ ⟨X.b, 5, none⟩ = some TH := Blk.cell_ (HMx0.out.at_ 6 rfl) 5
                have hlS := Lib.hid (show (S.2.length + 1) * 16 ≤ 140737488355328 from by have := HO.out.len; omega)
                go_wp2_with (first | (go_at_call 39; refine (hC _ hts).mono ?_; rintro e w1 ⟨rfl, rfl⟩) | (at_lookup; refine wpList_get keyS Try.underlying61 zeroB rfl _ _ false rfl hmk rfl t rfl _ hlm ?_) | (at_lookup; refine wpList_get keyS Try.underlying62 zeroR rfl _ _ true rfl hob rfl t rfl _ hlk ?_) | (at_builtin; refine wpList_appS strE rfl _ _ rfl (HMx0.out.psel (L := [_, _, _, _, _, _, _, _, _, _, _, _, _, _, _, _]) [11, 0, 1, 2, 3, 4, 5, 6, 7, 8, 9, 10, 12, 13, 14, 15] 16 rfl (by decide)) rfl t _ rfl (by simp) hlS.out ?_; intro v4 w4 hm4 hU4; obtain ⟨B0, n4, d4, e4⟩ : ∃ A n c, v4 = .slice A n c := (by obtain ⟨A, c, e, _⟩ := Row.any_ hm4.head; exact ⟨A, _, c, e⟩); subst e4; have tk5 : w4.cell? ⟨X.b, 5, none⟩ = some TH := Blk.cell_ (hm4.at_ 7 rfl) 5; have tf5 := Blk.frozen (hm4.at_ 7 rfl) 5; have xk2 := (Blk.cell_ (hm4.at_ 1 rfl) 2).trans (show _ = some (Value.slice none 0 0) from rfl); have rk2 := (Blk.cell_ (hm4.at_ 5 rfl) 2).trans (show _ = some (Value.slice A2 r.src.length c2) from rfl); have hm44 := (hm4.psel (L := [_, _, _, _, _, _, _, _, _, _, _, _, _, _, _, _]) [7, 0, 1, 2, 3, 4, 5, 6, 8, 9, 10, 11, 12, 13, 14, 15] 16 rfl (by decide)).blkSet 5 (.slice B0 n4 d4); have HMx : Hid (Mem none_ w0 ([_, _, _, _, _, _] ++ (({ X with TH := .slice B0 n4 d4, there := S.2 ++ [t], own := own, marks := marks } : BS)).noO os F) _) := hm44.psel (L := [_, _, _, _, _, _, _, _, _, _, _, _, _, _, _, _]) [2, 3, 4, 5, 6, 7, 0, 8, 9, 10, 11, 1, 12, 13, 14, 15] 16 rfl (by decide); clear hm4 hU4 hm44 HMx0 q5) | (at_builtin; refine wpList_appL (xv := .slice A2 r.src.length c2) (m := r.src) strE rfl _ _ rfl (HMx.out.psel (L := [_, _, _, _, _, _, _, _, _, _, _, _, _, _, _, _]) [2, 0, 1, 3, 4, 5, 6, 7, 8, 9, 10, 11, 12, 13, 14, 15] 16 rfl (by decide)) rfl rfl (t2.pure HMx.out.mu) hbn.out.1 ?_; intro v5 w5 hm5 hU5; obtain ⟨B1, n5, d5, e5⟩ : ∃ A n c, v5 = .slice A n c := (by obtain ⟨A, c, e, _⟩ := Row.any_ hm5.head; exact ⟨A, _, c, e⟩); subst e5; have xk2 := (Blk.cell_ (hm5.at_ 1 rfl) 2).trans (show _ = some (.slice none 0 0) from rfl); have xk3 := (Blk.cell_ (hm5.at_ 1 rfl) 3).trans (show _ = some (.slice none 0 0) from rfl); have xf2 := Blk.frozen (hm5.at_ 1 rfl) 2; have xf3 := Blk.frozen (hm5.at_ 1 rfl) 3; have rk3 := (Blk.cell_ (hm5.at_ 4 rfl) 3).trans (show _ = some (Value.slice A3 r.cmd.length c3) from rfl); have HMy := Lib.hid ((hm5.psel (L := [_, _, _, _, _, _, _, _, _, _, _, _, _, _, _, _]) [1, 2, 0, 3, 4, 5, 6, 7, 8, 9, 10, 11, 12, 13, 14, 15] 16 rfl (by decide)).blkSet 2 (.slice B1 n5 d5)); clear hm5 hU5 HMx) | (at_builtin; refine wpList_appL (xv := .slice A3 r.cmd.length c3) (m := r.cmd) strE rfl _ _ rfl (HMy.out.psel (L := [_, _, _, _, _, _, _, _, _, _, _, _, _, _, _, _]) [3, 0, 1, 2, 4, 5, 6, 7, 8, 9, 10, 11, 12, 13, 14, 15] 16 rfl (by decide)) rfl rfl (t3.pure HMy.out.mu) hbn.out.2 ?_; intro v6 w6 hm6 hU6; obtain ⟨B2, n6, d6, e6⟩ : ∃ A n c, v6 = .slice A n c := (by obtain ⟨A, c, e, _⟩ := Row.any_ hm6.head; exact ⟨A, _, c, e⟩); subst e6; have yk3 := (Blk.cell_ (hm6.at_ 1 rfl) 3).trans (show _ = some (.slice none 0 0) from rfl); have yf3 := Blk.frozen (hm6.at_ 1 rfl) 3; have HMz := Lib.hid ((hm6.psel (L := [_, _, _, _, _, _, _, _, _, _, _, _, _, _, _, _]) [1, 2, 3, 0, 4, 5, 6, 7, 8, 9, 10, 11, 12, 13, 14, 15] 16 rfl (by decide)).blkSet 3 (.slice B2 n6 d6)); clear hm6 hU6 HMy))
                have HMa := Lib.hid HMz.out.drew
                clear HMz
                have hbx1 : (Blk (wr.heap.size + 1) 25 _).ok _ := HMa.out.at_ 0 rfl
                have hbX : (Blk X.b 67 _).ok _ := HMa.out.at_ 6 rfl
                have hS0 := Lib.hid (show _ ∧ _ ∧ _ ∧ _ ∧ _ ∧ _ from ⟨Blk.cell_ hbX 4, Blk.cell_ hbx1 0, Blk.cell_ hbx1 1, Blk.cell_ hbx1 2, Blk.cell_ hbx1 3, Blk.cell_ hbx1 4⟩)
                refine wp_plan [6] (S := fun w' => Hid (w'.cell? ⟨X.b, 4, none⟩ = some (.map (some X.ob)) ∧ w'.cell? ⟨wr.heap.size + 1, 0, none⟩ = some (.slice none 0 0) ∧ w'.cell? ⟨wr.heap.size + 1, 1, none⟩ = some (.int .i64 r.kind) ∧ w'.cell? ⟨wr.heap.size + 1, 2, none⟩ = some (.slice B1 n5 d5) ∧ w'.cell? ⟨wr.heap.size + 1, 3, none⟩ = some (.slice B2 n6 d6) ∧ w'.cell? ⟨wr.heap.size + 1, 4, none⟩ = some (.int .i64 0))) [(.pure, 0), (.pure, 1), (.pure, 2), (.load, 3), (.pure, 4), (.load, 5), (.tail, 6)] (by kernel_rfl) rfl (by kernel_rfl) rfl (fun _ _ _ _ _ h => h) hS0 ?_
                clear hbx1 hbX hS0
                generalize World.drew _ = W9 at *
                repeat (first | (refine plan_pure (v := ?_) (a' := ?_) rfl rfl rfl ?_ ?_ ?_; rotate_left 2; (focus (intro w'; go_simp; with_reducible rfl)); (focus (simp only [Act.put, List.setIfInBounds_toArray, List.set_cons_zero, List.set_cons_succ]; rfl))) | (refine plan_load (v := ?_) (a' := ?_) rfl rfl rfl ?_ ?_ ?_; rotate_left 2; (focus (intro w' hw'; obtain ⟨q0, q1, q2, q3, q4, q5⟩ := hw'.out; clear hw'; go_simp; with_reducible rfl)); (focus (simp only [Act.put, List.setIfInBounds_toArray, List.set_cons_zero, List.set_cons_succ]; rfl))) | (refine plan_skip rfl rfl (by decide +kernel) (by simp only [Act.put, List.setIfInBounds_toArray, List.set_cons_zero, List.set_cons_succ]; rfl) ?_) | (refine plan_skip (a' := ?_) rfl rfl rfl ?_ ?_; rotate_left 1; (focus (simp only [Act.put, List.setIfInBounds_toArray, List.set_cons_zero, List.set_cons_succ]; rfl))) | (refine plan_skipL (a' := ?_) rfl rfl rfl ?_ ?_; rotate_left 1; (focus (simp only [Act.put, List.setIfInBounds_toArray, List.set_cons_zero, List.set_cons_succ]; rfl))))
                refine plan_tail rfl (fun K hK => ?_)
                refine wpList_put keyS Try.underlying62 rfl _ _ _ (.inl rfl) (HMa.out.psel (L := [_, _, _, _, _, _, _, _, _, _, _, _, _, _, _, _]) [10, 1, 2, 3, 5, 6, 7, 8, 9, 11, 12, 13, 14, 15] 16 rfl (by decide)) rfl t rfl (⟨.slice none 0 0, .slice B1 n5 d5, .slice B2 n6 d6, ⟨[], r.kind, ([] : List ByteArray) ++ r.src, ([] : List ByteArray) ++ r.cmd, 0⟩⟩ : RX) rfl ?_
                intro w10 hm10 hU10
                refine wpList_nil_ (hK _ _ (plan_done ?_))
                clear hK hU10
                have HMf := own_put (X := ({ X with TH := .slice B0 n4 d4, there := S.2 ++ [t], own := own, marks := marks } : BS)) (L := [_]) (y := (⟨.slice none 0 0, .slice B1 n5 d5, .slice B2 n6 d6, ⟨[], r.kind, ([] : List ByteArray) ++ r.src, ([] : List ByteArray) ++ r.cmd, 0⟩⟩ : RX)) (hos _) (hm10.psel (L := [_, _, _, _, _, _, _, _, _, _, _, _, _, _]) [1, 2, 3, 4, 5, 6, 7, 8, 0, 9, 10, 11, 12, 13] 14 rfl (by decide))
                have HMf := Lib.hid HMf
                have hw1 := Lib.hid (show ownP (mput own t (⟨.slice none 0 0, .slice B1 n5 d5, .slice B2 n6 d6, ⟨[], r.kind, ([] : List ByteArray) ++ r.src, ([] : List ByteArray) ++ r.cmd, 0⟩⟩ : RX)) = mput S.1 t (⟨.slice none 0 0, .slice B1 n5 d5, .slice B2 n6 d6, ⟨[], r.kind, ([] : List ByteArray) ++ r.src, ([] : List ByteArray) ++ r.cmd, 0⟩⟩ : RX).r from (mput_map RX.r t _ own).trans (by rw [← HW.out]; rfl))
                have ho1 := HO1.out
                rw [HSx.out] at ho1
                have ho1 := Lib.hid ho1
                have HS3 := Lib.hid (HSx.out.symm.trans HS2)
                clear hm10 HMa HS2 HSx HO1
                go_wp2_with fail
                go_roundw
                case rel => exact ⟨k + 1, .slice B0 n4 d4, mput own t (⟨.slice none 0 0, .slice B1 n5 d5, .slice B2 n6 d6, ⟨[], r.kind, ([] : List ByteArray) ++ r.src, ([] : List ByteArray) ++ r.cmd, 0⟩⟩ : RX), (mput S.1 t (⟨.slice none 0 0, .slice B1 n5 d5, .slice B2 n6 d6, ⟨[], r.kind, ([] : List ByteArray) ++ r.src, ([] : List ByteArray) ++ r.cmd, 0⟩⟩ : RX).r, S.2 ++ [t]), by omega, by go_num, HS3, hw1, ho1, HMf.out⟩
                case measure => simp [intOf]; omega
          · have hcl1 : (classB t != 0) = true := by rw [bne_iff_ne]; exact hcl
            have hcl2 : decide (classB t = 0) = false := decide_eq_false hcl
            have HS3 := Lib.hid (show S = (rules.take (k + 1)).foldl (ownS made) ([], X.there) from by
              rw [← HS2]; unfold ownS; rw [ehd.out, if_pos (.inl hcl)])
            have HO3 : Hid (OwnOk B (k + 1) X.there.length S) := by
              have := HO1.out
              unfold ownS at this
              rw [ehd.out, if_pos (.inl hcl)] at this
              exact this
            clear hcl HS2 HO1
            go_wp2_with (first | (go_at_call 39; refine (hC _ hts).mono ?_; rintro e w1 ⟨rfl, rfl⟩))
            go_roundw
            case rel => exact ⟨k + 1, TH, own, S, by omega, by go_num, HS3, HW, HO3, HM2.out.psel (L := [_, _]) [1] 2 rfl (by decide)⟩
            case measure => simp [intOf]; omega
        · have hlt' : decide ((k : Int) < (rules.length : Int)) = false := decide_eq_false (by omega)
          have hltN : decide (k < rules.length) = false := decide_eq_false hlt
          have e : k = rules.length := by omega
          subst e
          have HS2 := HS.out
          rw [List.take_length, ← hmd.out] at HS2
          have HS3 := Lib.hid (show S = ownB X.suf rules X.there from HS2)
          have HM2 := Lib.hid (HM.tail)
          clear HM HS HS2
          go_wp2_with fail
          go_end0
          rw [← HS3.out]
          exact ⟨rfl, TH, own, marks, HW.out, HK.out, HM2.out⟩
end Go.Proofs.Ytliglejbkpjamaa
