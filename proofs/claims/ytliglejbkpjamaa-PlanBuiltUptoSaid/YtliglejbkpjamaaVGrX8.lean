/-
  Layer 19 (plan): the walk of PlanBuilt.
-/
import Derived.Test.YtliglejbkpjamaaVGrX5
import Derived.Test.YtliglejbkpjamaaVPlanS
import Derived.Test.YtliglejbkpjamaaVPlanT
set_option linter.unusedVariables false
set_option linter.unusedSimpArgs false
set_option maxRecDepth 100000
namespace Go.Proofs.Ytliglejbkpjamaa
open Go.RowKit

theorem eqPz (w : World) : (binOp .eql 32 (.agg #[.int .i64 0, .string ⟨#[]⟩, .int .i64 0]) (.agg #[.int .i64 0, .string ⟨#[]⟩, .int .i64 0])).run Try.prog w = .ok (.bool true) w := by kernel_rfl
theorem eqPf (why pat : Int) (nm : ByteArray) (w : World) (h : why ≠ 0) : (binOp .eql 32 (.agg #[.int .i64 why, .string nm, .int .i64 pat]) (.agg #[.int .i64 0, .string ⟨#[]⟩, .int .i64 0])).run Try.prog w = .ok (.bool false) w := by
  have hS : Try.prog.underlying 32 = some (.struct (Try.prog.fieldsOf 32)) := by kernel_rfl
  rw [run_eql_struct, run_equalIn_struct (d := 9999) w _ _ _ hS (by kernel_rfl)]
  have h1 := run_equalIn_int (P := Try.prog) w 9998 30 .i64 .i64 why 0 (by kernel_rfl)
  have hf : (match (Try.prog.fieldsOf 32).toList with
    | [f0, f1, f2] => decide ((f0.name == "_") = false ∧ (f1.name == "_") = false ∧ (f2.name == "_") = false ∧ f0.type = 30 ∧ f1.type = 9 ∧ f2.type = 3 ∧ f0.offset = 0 ∧ f1.offset = 1 ∧ f2.offset = 2)
    | _ => false) = true := by kernel_rfl
  revert hf
  generalize (Try.prog.fieldsOf 32).toList = fs
  intro hf
  match fs, hf with
  | [f0, f1, f2], hf =>
    obtain ⟨a0, a1, a2, b0, b1, b2, c0, c1, c2⟩ := of_decide_eq_true hf
    have n0 : f0.name ≠ "_" := by simpa using a0
    have n1 : f1.name ≠ "_" := by simpa using a1
    have n2 : f2.name ≠ "_" := by simpa using a2
    have p0 : ∀ x y z : Value, ∀ wx, (part 30 #[x, y, z] 0).run Try.prog wx = .ok x wx := fun x y z wx => by kernel_rfl
    have p1 : ∀ x y z : Value, ∀ wx, (part 9 #[x, y, z] 1).run Try.prog wx = .ok y wx := fun x y z wx => by kernel_rfl
    have p2 : ∀ x y z : Value, ∀ wx, (part 3 #[x, y, z] 2).run Try.prog wx = .ok z wx := fun x y z wx => by kernel_rfl
    simp only [Op.eqFields, if_pos n0, if_pos n1, if_pos n2, Sem.run_bind, b0, b1, b2, c0, c1, c2, p0, p1, p2, Result.andThen_ok]
    rw [show (9999 : Nat) = 9998 + 1 from rfl, h1, show (why == 0) = false from beq_eq_false_iff_ne.2 h]
    simp
theorem Laid.srcn {gs : List ByteArray} {xs : List NX} (h : Laid gs xs) (x : NX) (hx : x ∈ xs) : x.nd.src.length ≤ 512 := by
  have h1 := nodup_len x.nd.src (xs.map fun x => x.nd.name) (h.one x hx) (fun s hs => by
    obtain ⟨i, hi, rfl⟩ := List.getElem_of_mem hx
    obtain ⟨y, hy, e⟩ := List.mem_map.1 (h.src i hi s hs)
    exact List.mem_map.2 ⟨y, List.mem_of_mem_take hy, e⟩)
  rw [List.length_map] at h1
  have := h.len
  omega
theorem nodes_none (w : World) : Nodes w (.slice none 0 0) [] := ⟨[], ⟨none, 0, rfl, Nat.le_refl _, Nat.zero_le _, by simp, .inl rfl⟩, fun i hi => by simp at hi⟩
theorem nodes_of {fp : Nat → Prop} {w0 w : World} {V : Value} {xs : List NX} (h : Mem fp w0 ([NRow V xs] ++ xs.flatMap NX.own) w) : Nodes w V (xs.map ndOf) := by
  have hr : (NRow V xs).ok w := h.at_ 0 rfl
  refine ⟨xs.flatMap NX.cells, by rw [List.length_map]; exact Row.sl hr, fun i hi => ?_⟩
  have hi2 : i < xs.length := by simpa using hi
  have e : ((xs.flatMap NX.cells).drop (i * 10)).take 10 = xs[i].cells := by
    refine List.ext_getElem? fun j => ?_
    rcases Nat.lt_or_ge j 10 with hj | hj
    · rw [List.getElem?_take_of_lt hj, List.getElem?_drop, flat_get NX.cells 10 NX.len xs i hi2 j hj]
    · rw [List.getElem?_eq_none (by rw [List.length_take]; omega), List.getElem?_eq_none (by rw [NX.len]; omega)]
  rw [e, List.getElem_map]
  obtain ⟨o1, o2, o3⟩ := own_of (L := [_]) h (List.getElem_mem hi2)
  obtain ⟨A2, c2, e2, _⟩ := Row.any_ o2
  exact ⟨xs[i].nd.kind, xs[i].SV, A2, _, c2, xs[i].AV, xs[i].nd.impl, xs[i].nd.ph, xs[i].nd.pr, xs[i].nd.si, xs[i].nd.ig, by unfold NX.cells; rw [e2]; rfl, Row.sl o1, Row.sl o3⟩
set_option maxHeartbeats 16000000 in
theorem built_calls (LV FV GV : Value) (l : List RuleS) (files goals : List ByteArray) (Z C : Nat) (w : World) (hL : Rules w LV l) (hF : Strs w FV files) (hG : Strs w GV goals) (hz : ∀ r, r ∈ l → r.cmd.length ≤ C ∧ (∀ t, t ∈ r.tg → t.size ≤ Z) ∧ ∀ x, x ∈ r.src → x.size ≤ Z) (hgz : ∀ g, g ∈ goals → g.size ≤ Z) (hx : files.length ≤ 140737488351232) (hy : goals.length ≤ 140737488351232) (hZ : Z ≤ 1048576) (hC : C ≤ 1048576) :
    Calls Try.prog 3 #[LV, FV, GV] w fun e w' => e = .returned (.bool true) ∧ Mem none_ w [] w' := by
  obtain ⟨Af, cf, rfl, qf, uf, _⟩ := id hF
  obtain ⟨Ag, cg, rfl, qg, ug, _⟩ := id hG
  obtain ⟨Al, nl, cl, rfl⟩ : ∃ A n c, LV = .slice A n c := by
    obtain ⟨cells, ⟨A, c, e, _⟩, _⟩ := hL
    exact ⟨A, _, c, e⟩
  obtain rfl : nl = l.length := hL.get.1
  obtain ⟨_, gl1, gl2, gl3⟩ := hL.get
  unfold maxLen at gl2 uf ug
  obtain ⟨m, hm⟩ : ∃ m, min l.length 100 = m := ⟨_, rfl⟩
  have hmi : min (l.length : Int) 100 = (m : Int) := by omega
  have hm1 : m ≤ 100 := by omega
  have hm2 : m ≤ l.length := by omega
  have hmc : m ≤ cl := by omega
  have hlt1 : (l.take 100).length = m := by rw [List.length_take]; omega
  have hm := Lib.hid hm
  have hmi2 := Lib.hid hmi
  have hlt1 := Lib.hid hlt1
  have hL := Lib.hid hL
  have hF := Lib.hid hF
  have hG := Lib.hid hG
  go_enter Try.func3, Try.ntmps3
  go_wp2_with fail
  have HM0 := Lib.hid (Mem.start (fp := none_) w)
  go_loopw [7, 18] (fun v7 v18 wr => ∃ k : Nat, k ≤ m ∧ v18 = .int .i64 k ∧ v7 = .int .i64 (wgts (l.take k) : Nat) ∧ Mem none_ w [] wr) (fun _ v _ => m - (intOf v).toNat)
  case atStart => exact ⟨0, Nat.zero_le _, rfl, rfl, HM0.out⟩
  case round =>
    clear HM0
    obtain ⟨k, hk, rfl, rfl, HM⟩ := hrel
    have hwk : wgts (l.take k) ≤ 4000 * k := by
      have := wgts_le (l.take k)
      rw [List.length_take] at this
      have e : min k l.length = k := by omega
      rw [e] at this; exact this
    by_cases hlt : k < m
    · have hlt' : decide ((k : Int) < (m : Int)) = true := decide_eq_true (by omega)
      have hltN : decide (k < m) = true := decide_eq_true hlt
      have hkl : k < l.length := by omega
      obtain ⟨br, orr, rfl, hcells⟩ := gl3.resolve_left (by omega)
      obtain ⟨TV, XV, CV, x0, x1, x2, x3, x4, t1, t2, t3⟩ := hcells k hkl
      have hnx := Lib.hid (wgts_snoc l k hkl)
      clear hcells gl3
      have x0 := Pure.cell HM.mu x0
      have x1 := Pure.cell HM.mu x1
      have x2 := Pure.cell HM.mu x2
      have x3 := Pure.cell HM.mu x3
      have x4 := Pure.cell HM.mu x4
      generalize l[k] = r at *
      generalize wgts (l.take k) = n at *
      obtain ⟨A1, c1, rfl, _⟩ := t1
      obtain ⟨A2, c2, rfl, _⟩ := t2
      obtain ⟨A3, c3, rfl, _⟩ := t3
      obtain ⟨q1, hq1⟩ : ∃ q, min r.tg.length 1000 = q := ⟨_, rfl⟩
      obtain ⟨q2, hq2⟩ : ∃ q, min r.src.length 1000 = q := ⟨_, rfl⟩
      have hmi1 : min (r.tg.length : Int) 1000 = (q1 : Int) := by omega
      have hmi3 : min (r.src.length : Int) 1000 = (q2 : Int) := by omega
      have hnx2 : wgts (l.take (k + 1)) = n + (q1 * 3 + q2) := by
        rw [hnx.out]; unfold wgt; rw [hq1, hq2]
      have hnx2 := Lib.hid hnx2
      have hb1 : q1 ≤ 1000 := by omega
      have hb2 : q2 ≤ 1000 := by omega
      have hw1 : IntKind.i64.wrap ((q1 : Int) * 3) = (q1 : Int) * 3 := IntWalk.i64_in _ (by omega)
      have hw2 : IntKind.i64.wrap ((q1 : Int) * 3 + (q2 : Int)) = (q1 : Int) * 3 + (q2 : Int) := IntWalk.i64_in _ (by omega)
      have hw3 : IntKind.i64.wrap ((n : Int) + ((q1 : Int) * 3 + (q2 : Int))) = (n : Int) + ((q1 : Int) * 3 + (q2 : Int)) := IntWalk.i64_in _ (by omega)
      clear hq1 hq2 hnx
      have HM1 := Lib.hid (HM.box #[.slice A1 r.tg.length c1, .int .i64 r.kind, .slice A2 r.src.length c2, .slice A3 r.cmd.length c3, .int .i64 r.at_] 25)
      clear HM
      go_wp2_with fail
      go_roundw
      case rel => exact ⟨k + 1, by omega, by go_num, by rw [hnx2.out]; go_num, HM1.out.tail⟩
      case measure => simp [intOf]; omega
    · have hlt' : decide ((k : Int) < (m : Int)) = false := decide_eq_false (by omega)
      have hltN : decide (k < m) = false := decide_eq_false hlt
      have hkm : k = m := by omega
      subst hkm
      have hwe : wgts (l.take k) = wgts (l.take 100) := by
        congr 1
        rcases Nat.lt_or_ge l.length 100 with h | h
        · rw [List.take_of_length_le (by have := hm.out; omega), List.take_of_length_le (by omega)]
        · rw [show k = 100 from by have := hm.out; omega]
      have hHM := Lib.hid HM
      have hwk2 : wgts (l.take 100) ≤ 400000 := by rw [← hwe]; omega
      rw [hwe]
      clear hwe HM hwk
      obtain ⟨R, hfar⟩ : ∃ R, farB l files.length goals.length = R := ⟨_, rfl⟩
      have hR2 := Lib.hid (show (decide (200 < wgts (l.take 100)) || decide (40 < l.length) || decide (30 < files.length + goals.length)) = R from hfar)
      have hfar := Lib.hid hfar
      generalize wgts (l.take 100) = n at *
      have hw1 : IntKind.i64.wrap ((files.length : Int) + (goals.length : Int)) = (files.length : Int) + (goals.length : Int) := IntWalk.i64_in _ (by omega)
      by_cases hA : 200 < n
      · have a1 : decide ((200 : Int) < (n : Int)) = true := decide_eq_true (by omega)
        clear hA hm
        have hAl := alive_callsP
        go_wp2_with (go_at_call 8; refine (hAl _).mono ?_; clear hAl; rintro e wa ⟨rfl, hm⟩; have HMa := Lib.hid (hHM.out.got hm); clear hm)
        go_ret
        exact ⟨rfl, HMa.out⟩
      · have a1 : decide ((200 : Int) < (n : Int)) = false := decide_eq_false (by omega)
        by_cases hB : 40 < l.length
        · have b1 : decide ((40 : Int) < (l.length : Int)) = true := decide_eq_true (by omega)
          clear hA hB hm
          have hAl := alive_callsP
          go_wp2_with (go_at_call 8; refine (hAl _).mono ?_; clear hAl; rintro e wa ⟨rfl, hm⟩; have HMa := Lib.hid (hHM.out.got hm); clear hm)
          go_ret
          exact ⟨rfl, HMa.out⟩
        · have b1 : decide ((40 : Int) < (l.length : Int)) = false := decide_eq_false (by omega)
          by_cases hC2 : 30 < files.length + goals.length
          · have c1 : decide ((30 : Int) < (files.length : Int) + (goals.length : Int)) = true := decide_eq_true (by omega)
            clear hA hB hC2 hm
            have hAl := alive_callsP
            go_wp2_with (go_at_call 8; refine (hAl _).mono ?_; clear hAl; rintro e wa ⟨rfl, hm⟩; have HMa := Lib.hid (hHM.out.got hm); clear hm)
            go_ret
            exact ⟨rfl, HMa.out⟩
          · have c1 : decide ((30 : Int) < (files.length : Int) + (goals.length : Int)) = false := decide_eq_false (by omega)
            have hRf := hR2.out
            rw [decide_eq_false hA, decide_eq_false hB, decide_eq_false hC2] at hRf
            obtain rfl : R = false := hRf.symm
            clear hRf hR2 hA hB hC2 hm
            have hsz := sized_of hfar.out hz hZ hC
            obtain ⟨_, hfg, _⟩ := not_far hfar.out
            go_wp2_with fail
            refine (build_calls _ _ _ l files goals Z 200 C 66 _ (hL.out.pure hHM.out.mu) (hF.out.pure hHM.out.mu) (hG.out.pure hHM.out.mu) hsz hgz (by omega) (by omega)).mono ?_
            rintro e w2 (⟨why, nm, pat, hbad, rfl, hm2⟩ | ⟨gs, xs, GO, NV, hg, rfl, hm2⟩)
            case inl =>
              have hp := eqPf why pat nm
              have hp := fun w => hp w hbad.ne
              have HM2r := ((hHM.out.got hm2).box #[.slice none 0 0, .slice none 0 0] 29).box #[.int .i64 why, .string nm, .int .i64 pat] 32
              rw [sz_alloc] at HM2r
              have HM2 := Lib.hid HM2r
              clear HM2r
              have hAl := alive_callsP
              have hRi0 := fun W => Right_calls (.slice none 0 0) (.slice none 0 0) [] W (nodes_none W) (fun x hx => by cases hx) (by decide)
              rw [show (buildOf []).isSome = true from by kernel_rfl] at hRi0
              have hRi := hRi0 ((w2.alloc (.cells #[.slice none 0 0, .slice none 0 0] 29)).alloc (.cells #[.int .i64 why, .string nm, .int .i64 pat] 32))
              clear hRi0
              clear hbad hm2 hsz
              have c1 := Blk.cell_ (HM2.out.at_ 1 rfl) 1
              unfold retB
              go_wp2_with (first | (go_at_call 10; refine hRi.mono ?_; clear hRi; rintro e wb ⟨rfl, hm⟩; have HMb := Lib.hid (HM2.out.got hm); have p0 := (Blk.cell_ (HMb.out.at_ 0 rfl) 0).trans (show _ = some (Value.int .i64 why) from rfl); have p1 := (Blk.cell_ (HMb.out.at_ 0 rfl) 1).trans (show _ = some (Value.string nm) from rfl); have p2 := (Blk.cell_ (HMb.out.at_ 0 rfl) 2).trans (show _ = some (Value.int .i64 pat) from rfl); have g1 := (Blk.cell_ (HMb.out.at_ 1 rfl) 1).trans (show _ = some (Value.slice none 0 0) from rfl); clear hm) | (go_at_call 8; refine (hAl _).mono ?_; clear hAl; rintro e wa ⟨rfl, hm⟩; have HMa := Lib.hid (HMb.out.got hm); clear hm))
              go_ret
              exact ⟨rfl, HMa.out.only (fun d hd => by cases hd) .nil⟩
            have hp := eqPz
            have hW := laid_of hg
            clear hg hsz
            obtain ⟨AN, cN, rfl, qN, uN⟩ := Row.any_ (hm2.at_ 1 rfl)
            obtain ⟨AG, cG, rfl, qG, uG⟩ := Row.any_ (hm2.at_ 0 rfl)
            have HM2r := ((hHM.out.got hm2).box #[.slice AG gs.length cG, .slice AN xs.length cN] 29).box #[.int .i64 0, .string ⟨#[]⟩, .int .i64 0] 32
            rw [sz_alloc] at HM2r
            have HM2 := Lib.hid HM2r
            clear HM2r
            have hAl := alive_callsP
            have h4 := HM2.out
            rw [List.append_nil] at h4
            have hRi := Right_calls (.slice AG gs.length cG) (.slice AN xs.length cN) (xs.map ndOf) _ (nodes_of (h4.psel (L := [_, _, _, _]) [3] 4 rfl (by decide))) (fun x hx => by
              obtain ⟨y, hy, rfl⟩ := List.mem_map.1 hx
              have a1 := (hW.afts y hy).1
              have a2 := hW.srcn y hy
              exact ⟨by show y.nd.src.length ≤ _; omega, by show y.nd.aft.length ≤ _; omega⟩) (by rw [List.length_map]; have := hW.len; omega)
            rw [planable hW] at hRi
            have hW := 0
            clear hm2 h4
            unfold retB
            go_wp2_with (first | (go_at_call 10; refine hRi.mono ?_; clear hRi; rintro e wb ⟨rfl, hm⟩; have HMb := Lib.hid (HM2.out.got hm); have p0 := (Blk.cell_ (HMb.out.at_ 0 rfl) 0).trans (show _ = some (Value.int .i64 0) from rfl); have p1 := (Blk.cell_ (HMb.out.at_ 0 rfl) 1).trans (show _ = some (Value.string ⟨#[]⟩) from rfl); have p2 := (Blk.cell_ (HMb.out.at_ 0 rfl) 2).trans (show _ = some (Value.int .i64 0) from rfl); clear hm) | (go_at_call 8; refine (hAl _).mono ?_; clear hAl; rintro e wa ⟨rfl, hm⟩; have HMa := Lib.hid (HMb.out.got hm); clear hm))
            go_ret
            exact ⟨rfl, HMa.out.only (fun d hd => by cases hd) .nil⟩
end Go.Proofs.Ytliglejbkpjamaa
