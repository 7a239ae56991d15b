/-
  Layer 16 (graph): the walk of GraphOrder.
-/
import Derived.Test.YtliglejbkpjamaaGrX1
import Derived.Test.YtliglejbkpjamaaGrT0
set_option linter.unusedVariables false
set_option linter.unusedSimpArgs false
set_option maxRecDepth 100000
namespace Go.Proofs.Ytliglejbkpjamaa
open Go.RowKit

set_option maxHeartbeats 16000000 in
theorem order_calls (LV FV GV : Value) (l : List RuleS) (files goals : List ByteArray) (Z C : Nat) (w : World) (hL : Rules w LV l) (hF : Strs w FV files) (hG : Strs w GV goals) (hz : ∀ r, r ∈ l → r.cmd.length ≤ C ∧ (∀ t, t ∈ r.tg → t.size ≤ Z) ∧ ∀ x, x ∈ r.src → x.size ≤ Z) (hgz : ∀ g, g ∈ goals → g.size ≤ Z) (hfl : files.length ≤ 140737488351232) (hgl : goals.length ≤ 140737488351232) (hZ : Z ≤ 1048576) (hC : C ≤ 1048576) :
    Calls Try.prog 4 #[LV, FV, GV] w fun e w' => e = .returned (.bool true) ∧ Mem none_ w [] w' := by
  obtain ⟨Af, cf, rfl, qf, uf, _⟩ := id hF
  obtain ⟨Ag, cg, rfl, qg, ug, _⟩ := id hG
  obtain ⟨Al, nl, cl, rfl⟩ : ∃ A n c, LV = .slice A n c := by
    obtain ⟨cells, ⟨A, c, e, _⟩, _⟩ := hL
    exact ⟨A, _, c, e⟩
  obtain rfl : nl = l.length := hL.get.1
  have hFar := farG_calls _ l Af files.length cf Ag goals.length cg w hL hfl hgl
  unfold maxLen at uf ug
  obtain ⟨b, hb⟩ : ∃ b, farB l files.length goals.length = b := ⟨_, rfl⟩
  rw [hb] at hFar
  cases b with
  | true =>
    go_enter Try.func4, Try.ntmps4
    go_wp2_with (first | (go_at_call 11; refine hFar.mono ?_; clear hFar; rintro e w1 ⟨rfl, hm⟩; have HM1 := Lib.hid hm; have hAl := alive_calls w1; clear hm) | (go_at_call 12; refine hAl.mono ?_; clear hAl; rintro e wa ⟨rfl, hm⟩; have HMa := Lib.hid (HM1.out.got hm); clear hm))
    go_ret
    exact ⟨rfl, HMa.out⟩
  | false =>
    have hs := sized_of hb hz hZ hC
    obtain ⟨_, hfg, _⟩ := not_far hb
    go_enter Try.func4, Try.ntmps4
    go_wp2_with (go_at_call 11; refine hFar.mono ?_; clear hFar; rintro e w1 ⟨rfl, hm⟩; have HM1 := Lib.hid hm; clear hm)
    refine (build_calls _ _ _ l files goals Z 200 C 66 _ (hL.pure HM1.out.mu) (hF.pure HM1.out.mu) (hG.pure HM1.out.mu) hs hgz (by omega) (by omega)).mono ?_
    rintro e w2 (⟨why, nm, pat, hbad, rfl, hm2⟩ | ⟨gs, xs, GO, NV, hg, rfl, hm2⟩)
    case inl =>
      have hp := neqP why pat nm
      have hp := fun w => hp w hbad.ne
      have hne : (why != 0) = true := by simpa using hbad.ne
      have hne2 : (why == 0) = false := by simpa using hbad.ne
      have hne3 : ¬ why = 0 := hbad.ne
      have HM2 := Lib.hid (((HM1.out.got hm2).box #[.slice none 0 0, .slice none 0 0] 29).box #[.int .i64 why, .string nm, .int .i64 pat] 32)
      have hAl := alive_calls
      clear hbad hm2 hb hfg hs
      unfold retB
      go_wp2_with (go_at_call 12; refine (hAl _).mono ?_; clear hAl; rintro e wa ⟨rfl, hm⟩; have HMa := Lib.hid (HM2.out.got hm); clear hm)
      go_ret
      exact ⟨rfl, HMa.out.only (fun d hd => by cases hd) .nil⟩
    have hp := neqP0
    have hW := laid_of hg
    have hln := hW.len
    have hW := Lib.hid hW
    clear hg hs hfg hb hz hgz
    obtain ⟨AN, cN, rfl, qN, uN⟩ := Row.any_ (hm2.at_ 1 rfl)
    obtain ⟨AG, cG, rfl, qG, uG⟩ := Row.any_ (hm2.at_ 0 rfl)
    unfold maxLen at uN uG
    have HM2 := Lib.hid (((HM1.out.got hm2).box #[.slice AG gs.length cG, .slice AN xs.length cN] 29).box #[.int .i64 0, .string ⟨#[]⟩, .int .i64 0] 32)
    clear hm2
    unfold retB
    have h := HM2.out
    rw [List.append_nil] at h
    have HM3 : Hid (Mem none_ w (StrRow (.slice none 0 0) [] :: ([NRow (.slice AN xs.length cN) xs] ++ xs.flatMap NX.own)) _) := (h.psel (L := [_, _, _, _]) [3] 4 rfl (by decide)).nilS
    clear h
    clear HM2
    go_wp2_with fail
    clear hp
    generalize World.alloc _ _ = W5 at *
    go_loopw [9, 44] (fun v9 v44 wr => ∃ k : Nat, k ≤ xs.length ∧ v44 = .int .i64 k ∧ Mem none_ w (StrRow v9 ((xs.take k).map fun x => x.nd.name) :: ([NRow (.slice AN xs.length cN) xs] ++ xs.flatMap NX.own)) wr) (fun _ v _ => xs.length - (intOf v).toNat)
    case atStart => exact ⟨0, Nat.zero_le _, rfl, HM3.out⟩
    case round =>
      clear HM3
      obtain ⟨k, hk, rfl, HM⟩ := hrel
      by_cases hlt : k < xs.length
      · have hlt' : decide ((k : Int) < (xs.length : Int)) = true := decide_eq_true (by omega)
        have hltN : decide (k < xs.length) = true := decide_eq_true hlt
        have hrow : (NRow (.slice AN xs.length cN) xs).ok _ := HM.at_ 1 rfl
        obtain ⟨nb, nc, e1, _, _⟩ := Row.at_ hrow (by omega)
        cases e1
        obtain ⟨⟨S1, z1, e1, _, us1⟩, ⟨S2, z2, e2, _⟩, ⟨S3, z3, e3, _, us3⟩⟩ : (∃ A c, xs[k].SV = .slice A xs[k].nd.src.length c ∧ _) ∧ (∃ A c, xs[k].CV = .slice A xs[k].nd.cmd.length c ∧ _) ∧ (∃ A c, xs[k].AV = .slice A xs[k].nd.aft.length c ∧ _) := by
          obtain ⟨a, b, c⟩ := own_of (L := [_, _]) HM (List.getElem_mem hlt)
          exact ⟨Row.any_ a, Row.any_ b, Row.any_ c⟩
        unfold maxLen at us1 us3
        have xg : ∀ j, j < 10 → wr.cell? ⟨nb, k * 10 + j, none⟩ = (xs[k].cells)[j]? := fun j hj => by
          rw [Row.cell hrow ((flat_get NX.cells 10 NX.len xs k hlt j hj).trans (List.getElem?_eq_getElem (by rw [NX.len]; exact hj)))]
          rw [List.getElem?_eq_getElem (by rw [NX.len]; exact hj)]
        have y0 : wr.cell? ⟨nb, k * 10, none⟩ = some (.string xs[k].nd.name) := xg 0 (by decide)
        have y1 : wr.cell? ⟨nb, k * 10 + 1, none⟩ = some (.int .i64 xs[k].nd.kind) := xg 1 (by decide)
        have y2 : wr.cell? ⟨nb, k * 10 + 2, none⟩ = some (xs[k].SV) := xg 2 (by decide)
        have y3 : wr.cell? ⟨nb, k * 10 + 3, none⟩ = some (xs[k].CV) := xg 3 (by decide)
        have y4 : wr.cell? ⟨nb, k * 10 + 4, none⟩ = some (xs[k].AV) := xg 4 (by decide)
        have y5 : wr.cell? ⟨nb, k * 10 + 5, none⟩ = some (.string xs[k].nd.impl) := xg 5 (by decide)
        have y6 : wr.cell? ⟨nb, k * 10 + 6, none⟩ = some (.bool xs[k].nd.ph) := xg 6 (by decide)
        have y7 : wr.cell? ⟨nb, k * 10 + 7, none⟩ = some (.bool xs[k].nd.pr) := xg 7 (by decide)
        have y8 : wr.cell? ⟨nb, k * 10 + 8, none⟩ = some (.bool xs[k].nd.si) := xg 8 (by decide)
        have y9 : wr.cell? ⟨nb, k * 10 + 9, none⟩ = some (.bool xs[k].nd.ig) := xg 9 (by decide)
        clear xg hrow
        have htk := Lib.hid (show (xs.take (k + 1)).map (fun x => x.nd.name) = (xs.take k).map (fun x => x.nd.name) ++ [xs[k].nd.name] from by
          rw [List.take_succ_eq_append_getElem hlt, List.map_append]; rfl)
        have hml := Lib.hid (show ((xs.take k).map fun x => x.nd.name).length = k from by rw [List.length_map, List.length_take]; omega)
        have f1 := hW.out.fresh k hlt
        have f2 := Lib.hid (hW.out.met k hlt)
        have f3 := Lib.hid (fun j hj => once_src (hW.out.one _ (List.getElem_mem hlt)) j hj)
        have hR1 := Lib.hid (show ∀ L w', Mem none_ w (L ++ xs.flatMap NX.own) w' → (StrRow xs[k].SV xs[k].nd.src).ok w' from fun L w' h => (own_of h (List.getElem_mem hlt)).1)
        generalize ((xs.take k).map fun x => x.nd.name) = met at *
        generalize xs[k] = x at *
        obtain ⟨SVx, CVx, AVx, ⟨nm, kd, src, cmd, aft, im, ph, pr, si, ig⟩⟩ := x
        simp only at e1 e2 e3 y0 y1 y2 y3 y4 y5 y6 y7 y8 y9 f1 f2 f3 hR1 htk
        subst e1 e2 e3
        have HM5 := Lib.hid (HM.box #[.string nm, .int .i64 kd, .slice S1 src.length z1, .slice S2 cmd.length z2, .slice S3 aft.length z3, .string im, .bool ph, .bool pr, .bool si, .bool ig] 38)
        have hr0 : (StrRow u9 met).ok _ := HM5.out.at_ 1 rfl
        have hH0 := rhas_calls u9 met nm _ (Row.sl hr0)
        clear hr0
        rw [f1] at hH0
        clear HM f1
        go_wp2_with (go_at_call 13; refine hH0.mono ?_; clear hH0; rintro e _ ⟨rfl, rfl⟩)
        clear y0 y1 y2 y3 y4 y5 y6 y7 y8 y9
        generalize World.alloc _ _ = W6 at *
        generalize wr.heap.size = nb0 at *
        go_loopw [55] (fun v55 wi => ∃ j : Nat, j ≤ src.length ∧ v55 = .int .i64 j ∧ Mem none_ w ([Blk nb0 38 #[.string nm, .int .i64 kd, .slice S1 src.length z1, .slice S2 cmd.length z2, .slice S3 aft.length z3, .string im, .bool ph, .bool pr, .bool si, .bool ig], StrRow u9 met, NRow (.slice (some ⟨nb, 0, none⟩) xs.length cN) xs] ++ xs.flatMap NX.own) wi) (fun v _ => src.length - (intOf v).toNat)
        case atStart => exact ⟨0, Nat.zero_le _, rfl, HM5.out⟩
        case round =>
          clear HM5
          obtain ⟨j, hj, rfl, HMi⟩ := hrel
          have b0 := Blk.cell_ (HMi.at_ 0 rfl) 0
          have b2 := Blk.cell_ (HMi.at_ 0 rfl) 2
          simp only [List.getElem?_toArray, List.getElem?_cons_succ, List.getElem?_cons_zero] at b0 b2
          by_cases hjt : j < src.length
          · have hjt' : decide ((j : Int) < (src.length : Int)) = true := decide_eq_true (by omega)
            have hjtN : decide (j < src.length) = true := decide_eq_true hjt
            have hrs := hR1.out [_, _, _] _ HMi
            obtain ⟨sb, sc, e1, _, _⟩ := Row.at_ hrs (by omega)
            cases e1
            have ys := Row.cell hrs (strs_get hjt)
            have g1 := f2.out j hjt
            have g2 := f3.out j hjt
            have hr1 : (StrRow u9 met).ok _ := HMi.at_ 1 rfl
            have hA := rhas_calls u9 met src[j] _ (Row.sl hr1)
            clear hr1
            have hB := rhas_calls (.slice (some ⟨sb, 0, none⟩) j z1) (src.take j) src[j] _ (strs_first (Row.sl hrs) (by omega))
            rw [g1] at hA
            rw [g2] at hB
            have HMj := Lib.hid HMi
            have hjc : j ≤ z1 := by omega
            clear HMi hrs g1 g2
            generalize src[j] = s at *
            go_wp2_with (first | (go_at_call 13; refine hA.mono ?_; clear hA; rintro e _ ⟨rfl, rfl⟩) | (go_at_call 13; refine hB.mono ?_; clear hB; rintro e _ ⟨rfl, rfl⟩))
            go_roundw
            case rel => exact ⟨j + 1, by omega, by go_num, HMj.out⟩
            case measure => simp [intOf]; omega
          · have hjt' : decide ((j : Int) < (src.length : Int)) = false := decide_eq_false (by omega)
            have hjtN : decide (j < src.length) = false := decide_eq_false hjt
            have HMk := Lib.hid (HMi.psel (L := [_, _]) [1] 2 rfl (by decide))
            clear HMi
            have hbl := Lib.hid (show (met.length + 1) * 16 ≤ 140737488355328 from by have := hml.out; omega)
            go_wp2_with (at_builtin; refine wpList_appS strE rfl _ _ rfl HMk.out rfl nm _ rfl (by simp) hbl.out ?_; intro v' w9 hm9 hU9; have HM9 := Lib.hid hm9; clear hm9 hU9 HMk)
            go_roundw
            case rel => exact ⟨k + 1, by omega, by go_num, by rw [htk.out]; exact HM9.out⟩
            case measure => simp [intOf]; omega
      · have hlt' : decide ((k : Int) < (xs.length : Int)) = false := decide_eq_false (by omega)
        have hltN : decide (k < xs.length) = false := decide_eq_false hlt
        have hAl := alive_calls wr
        have HMe := Lib.hid HM
        clear HM
        go_wp2_with (go_at_call 12; refine hAl.mono ?_; clear hAl; rintro e wa ⟨rfl, hm⟩; have HMa := Lib.hid (HMe.out.got hm); clear hm)
        go_ret
        exact ⟨rfl, HMa.out.only (fun d hd => by cases hd) .nil⟩
end Go.Proofs.Ytliglejbkpjamaa
