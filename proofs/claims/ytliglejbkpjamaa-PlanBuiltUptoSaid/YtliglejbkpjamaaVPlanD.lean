/-
  The walk of layer 19 (plan): loops.
-/
import Derived.Test.YtliglejbkpjamaaVPlanA
set_option linter.unusedVariables false
set_option linter.unusedSimpArgs false
namespace Go.Proofs.Ytliglejbkpjamaa
open Go.RowKit

/-- What holds of a plan that is being made or was made. -/
structure PlanOk (s : PS) : Prop where
  n512 : s.names.length ≤ 512
  ne1 : s.needs.length ≤ s.names.length
  ne2 : s.names.length ≤ s.needs.length
  be1 : s.behind.length ≤ s.names.length
  be2 : s.names.length ≤ s.behind.length
  neR : AllR s.names.length s.needs
  beR : AllR s.names.length s.behind
  neL : LenB 50000 s.needs
  beL : LenB 50000 s.behind

theorem nest_cell {g c : Nat} {vs : List Value} {n : Nat} {w : World} (h : (Row 78 1 (.slice (some ⟨g, 0, none⟩) n c) n vs).ok w) {k : Nat} (hk : k < vs.length) : w.cell? ⟨g, k, none⟩ = some vs[k] :=
  Row.cell h (by rw [List.getElem?_eq_getElem hk])

set_option maxHeartbeats 8000000 in
theorem loops_callsP (b : Nat) (V : PV) (s : PS) (w : World) (hP : PlanR b V s w) (hO : PlanOk s) :
    Calls Try.prog 55 #[.pointer (some ⟨b, 0, none⟩)] w fun e w' => e = .returned (.bool (loopsOf s)) ∧ Mem none_ w [] w' := by
  obtain ⟨AN, cN, evN, nn1, nn2⟩ := Row.any_ hP.nm
  have d0 : w.cell? ⟨b, 0, none⟩ = some (.slice AN s.names.length cN) := by rw [← evN]; exact hP.c0
  have hn := hO.n512
  unfold maxLen at nn2
  have hmI := madeI s.names.length (by omega)
  have hmL := madeL s.names.length (by omega)
  have HM0 := ((Mem.start (fp := none_) w).zerosI s.names.length (by omega)).zerosL s.names.length (by omega)
  have HM1 := HM0.nilI
  have hbl : b < w.heap.size := cell_lt d0
  have hbl2 : b < w.heap.size + 1 := by omega
  have hbl3 : b ≠ w.heap.size + 1 := by omega
  clear HM0
  generalize hls : befores s = ls at *
  have hll : ls.length ≤ s.names.length := by have := hO.ne1; rw [← hls]; simp [befores]; omega
  have hll2 : s.names.length ≤ ls.length := by have := hO.ne2; have := hO.be2; rw [← hls]; simp [befores]; omega
  have hesz : (w.alloc (.cells (ints (List.replicate s.names.length 0)).toArray 3)).heap.size = w.heap.size + 1 := by simp
  rw [hesz] at HM1
  go_enter Try.func55, Try.ntmps55
  go_wp2
  clear hmI hmL hbl hbl2 hbl3
  go_loopw [5, 30] (fun v5 v30 wr => ∃ (k : Nat) (vs : List Value) (nx : List (List Int)) (fr : List Int), k ≤ s.names.length ∧ v30 = .int .i64 k ∧ vs.length = nx.length ∧ Hid (nx.length = s.names.length) ∧ LenB (100000 * k) nx ∧
    Hid (usRun k nx (ls.drop k) = usRun 0 (List.replicate s.names.length []) ls) ∧ Hid (freeRun k fr (ls.drop k) = freeRun 0 [] ls) ∧ fr.length ≤ k ∧
    Mem none_ w ([IRow v5 fr, Row 78 1 (.slice (some ⟨w.heap.size + 1, 0, none⟩) s.names.length s.names.length) s.names.length vs, IRow (.slice (some ⟨w.heap.size, 0, none⟩) s.names.length s.names.length) ((ls.take k).map (fun l : List Int => (l.length : Int)) ++ List.replicate (s.names.length - k) 0)] ++ List.zipWith IRow vs nx) wr) (fun _ i _ => s.names.length - (intOf i).toNat)
  case atStart =>
    refine ⟨0, _, _, [], Nat.zero_le _, rfl, by simp, by unfold Hid; simp, ?_, by unfold Hid; rfl, by unfold Hid; rfl, by simp, HM1⟩
    intro l hl
    rw [List.mem_replicate] at hl
    rw [hl.2]; simp
  case round =>
    clear HM1
    obtain ⟨k, vs, nx, fr, hk, rfl, hvl, hnl, hLB, HU, HF, hfr, HM⟩ := hrel
    by_cases hlt : k < s.names.length
    · have hlt' : decide ((k : Int) < (s.names.length : Int)) = true := decide_eq_true (by omega)
      have q1 := hO.ne2
      have q2 := hO.be2
      have hkE : k < s.needs.length := by omega
      have hkB : k < s.behind.length := by omega
      obtain ⟨gE, cE, evE, nE1, nE2⟩ := Row.at_ hP.ne.head (by omega)
      obtain ⟨gB, cB, evB, nB1, nB2⟩ := Row.at_ hP.be.head (by omega)
      have lE : V.es.length = s.needs.length := hP.ne.nest_len
      have lB : V.bs.length = s.behind.length := hP.be.nest_len
      have hPr := hP.pure (HM.drew).mu
      have hneH := hPr.ne.head
      have hbeH := hPr.be.head
      rw [evE] at hneH
      rw [evB] at hbeH
      have e0 : wr.drew.cell? ⟨b, 2, none⟩ = some (.slice (some ⟨gE, 0, none⟩) s.needs.length cE) := by rw [← evE]; exact hPr.c2
      have e1 : wr.drew.cell? ⟨b, 3, none⟩ = some (.slice (some ⟨gB, 0, none⟩) s.behind.length cB) := by rw [← evB]; exact hPr.c3
      have e2 : wr.drew.cell? ⟨gE, k, none⟩ = some (V.es[k]'(by omega)) := nest_cell hneH (by omega)
      have e3 : wr.drew.cell? ⟨gB, k, none⟩ = some (V.bs[k]'(by omega)) := nest_cell hbeH (by omega)
      have iE : Ints wr.drew (V.es[k]'(by omega)) s.needs[k] := Row.sl (hPr.ne.nestAt hkE (by omega))
      have iB : Ints wr.drew (V.bs[k]'(by omega)) s.behind[k] := Row.sl (hPr.be.nestAt hkB (by omega))
      have hle : s.needs[k].length ≤ 50000 := hO.neL _ (List.getElem_mem hkE)
      have hlb : s.behind[k].length ≤ 50000 := hO.beL _ (List.getElem_mem hkB)
      have hlk : k < ls.length := by omega
      have hlsk : Hid (ls[k] = s.needs[k] ++ s.behind[k]) := by unfold Hid; simp only [← hls]; simp [befores]
      clear nE1 nE2 nB1 nB2 hneH hbeH
      generalize V.es[k]'(by omega) = xE at *
      generalize V.bs[k]'(by omega) = xB at *
      obtain ⟨AE, kE, rfl, pE1, pE2⟩ := Sl.any_ iE
      obtain ⟨AB, kB, rfl, pB1, pB2⟩ := Sl.any_ iB
      have HM2 := HM.drew
      go_wp2
      refine wp_plan [14, 15] (S := fun w' => w' = wr.drew) [(.pure, 0), (.pure, 1), (.pure, 2), (.load, 3), (.pure, 4), (.pure, 5), (.load, 6), (.pure, 7), (.pure, 8), (.pure, 9), (.load, 10), (.pure, 11), (.pure, 12), (.load, 13), (.tail, 14), (.tail, 15), (.pure, 16)] (by kernel_rfl) rfl (by kernel_rfl) rfl (fun _ _ _ _ _ h => h) rfl ?_
      clear HM hPr
      generalize wr.drew = W at *
      repeat (first | (refine plan_pure (v := ?_) (a' := ?_) rfl rfl rfl ?_ ?_ ?_; rotate_left 2; (focus (intro w'; go_simp; with_reducible rfl)); (focus (simp only [Act.put, List.setIfInBounds_toArray, List.set_cons_zero, List.set_cons_succ]; rfl))) | (refine plan_load (v := ?_) (a' := ?_) rfl rfl rfl ?_ ?_ ?_; rotate_left 2; (focus (intro w' hw'; rw [hw']; go_simp; with_reducible rfl)); (focus (simp only [Act.put, List.setIfInBounds_toArray, List.set_cons_zero, List.set_cons_succ]; rfl))))
      refine plan_tail rfl (fun K hK => ?_)
      go_wp2
      have HMb := (Mem.start (fp := none_) W).box #[.slice AE s.needs[k].length kE, .slice AB s.behind[k].length kB] 78
      refine plan_tail rfl (fun K hK => ?_)
      go_wp2_with fail
      refine (concat_calls _ _ s.needs[k] s.behind[k] W.heap.size _ (iE.pure HMb.mu) (iB.pure HMb.mu) (Blk.cell_ HMb.head 0) (Blk.cell_ HMb.head 1) (by omega) (by omega)).mono ?_
      rintro e w2 ⟨v7, rfl, HMc⟩
      have HM3 := (HM2.alloc _).got HMc
      rw [← hlsk.out] at HM3
      clear HMb HMc HM2 e0 e1 e2 e3 iE iB
      go_wp2
      repeat (first | (refine plan_pure (v := ?_) (a' := ?_) rfl rfl rfl ?_ ?_ ?_; rotate_left 2; (focus (intro w'; go_simp; with_reducible rfl)); (focus (simp only [Act.put, List.setIfInBounds_toArray, List.set_cons_zero, List.set_cons_succ]; rfl))))
      refine plan_done ?_
      have hlen : ls[k].length ≤ 100000 := by rw [hlsk.out, List.length_append]; omega
      have hdrop := List.drop_eq_getElem_cons hlk
      have HU1 : Hid (usRun (k + 1) (pushAll (k : Int) nx ls[k]) (ls.drop (k + 1)) = usRun 0 (List.replicate s.names.length []) ls) := by
        have := HU.out; rw [hdrop] at this; exact this
      have HF1 : Hid (freeRun (k + 1) (if ls[k] = [] then fr ++ [(k : Int)] else fr) (ls.drop (k + 1)) = freeRun 0 [] ls) := by
        have := HF.out; rw [hdrop] at this; exact this
      have hlin : InR s.names.length ls[k] := by
        rw [hlsk.out]
        intro y hy
        rcases List.mem_append.1 hy with hy | hy
        · exact hO.neR _ (List.getElem_mem hkE) y hy
        · exact hO.beR _ (List.getElem_mem hkB) y hy
      clear HU HF hdrop hlsk
      have hTk : Hid ((ls.take (k + 1)).map (fun l : List Int => (l.length : Int)) ++ List.replicate (s.names.length - (k + 1)) 0 = (ls.take k).map (fun l : List Int => (l.length : Int)) ++ (ls[k].length : Int) :: List.replicate (s.names.length - (k + 1)) 0) := by
        unfold Hid; rw [List.take_succ_eq_append_getElem hlk, List.map_append, List.append_assoc]; rfl
      generalize ls[k] = l at *
      obtain ⟨A7, c7, rfl, r1, r2⟩ := Row.any_ HM3.head
      unfold maxLen at r2
      have hAl : ((ls.take k).map (fun l : List Int => (l.length : Int)) ++ List.replicate (s.names.length - k) 0).length = s.names.length := by simp; omega
      have hAs : ((ls.take k).map (fun l : List Int => (l.length : Int)) ++ List.replicate (s.names.length - k) 0).set k (l.length : Int) = (ls.take k).map (fun l : List Int => (l.length : Int)) ++ (l.length : Int) :: List.replicate (s.names.length - (k + 1)) 0 := by
        rw [List.set_append_right _ _ (by simp; omega)]
        congr 1
        rw [show s.names.length - k = (s.names.length - (k + 1)) + 1 from by omega, List.replicate_succ]
        have : k - ((ls.take k).map (fun l : List Int => (l.length : Int))).length = 0 := by simp; omega
        rw [this]; rfl
      have HM4 := Mem.front [IRow (.slice A7 l.length c7) l, _, _] HM3
      generalize (ls.take k).map (fun l : List Int => (l.length : Int)) ++ List.replicate (s.names.length - k) 0 = A0 at *
      have hs1 := IRow.cell HM4.head hAl (j := k) (by omega)
      have hs2 := IRow.frozen HM4.head hAl k
      have HM5 := HM4.irowSet' hAl (j := k) hlt (l.length : Int)
      rw [hAs] at HM5
      clear HM3 HM4 hAs
      go_wp2
      generalize (w2.setCell ⟨w.heap.size, k, none⟩ (.int .i64 (l.length : Int))) = w3 at *
      clear hs1 hs2 hAl
      generalize hA1 : (ls.take k).map (fun l : List Int => (l.length : Int)) ++ (l.length : Int) :: List.replicate (s.names.length - (k + 1)) 0 = A1 at *
      go_loopw [56] (fun v56 wr => ∃ (j : Nat) (vs' : List Value) (nx' : List (List Int)), j ≤ l.length ∧ v56 = .int .i64 j ∧ vs'.length = nx'.length ∧ Hid (nx'.length = s.names.length) ∧ LenB (100000 * k + j) nx' ∧
        Hid (pushAll (k : Int) nx' (l.drop j) = pushAll (k : Int) nx l) ∧
        Mem none_ w ([IRow (.slice (some ⟨w.heap.size, 0, none⟩) s.names.length s.names.length) A1, IRow (.slice A7 l.length c7) l, IRow u5 fr, Row 78 1 (.slice (some ⟨w.heap.size + 1, 0, none⟩) s.names.length s.names.length) s.names.length vs'] ++ List.zipWith IRow vs' nx') wr) (fun i _ => l.length - (intOf i).toNat)
      case atStart => exact ⟨0, vs, nx, Nat.zero_le _, rfl, hvl, hnl, hLB, by unfold Hid; rfl, HM5⟩
      case round =>
        clear HM5 hLB hvl hnl
        obtain ⟨j, vs', nx', hj, rfl, hvl, hnl, hLB, HPU, HM⟩ := hrel
        by_cases hjl : j < l.length
        · have hn' := hnl.out
          obtain ⟨g7, c7', e7, _, _⟩ := Row.at_ HM.tail.head (by omega)
          cases e7
          have hx0 : wr.cell? ⟨g7, j, none⟩ = some (.int .i64 l[j]) := Row.cell HM.tail.head (ints_get hjl)
          have hxr := hlin _ (List.getElem_mem hjl)
          have HPd := HPU.out
          rw [List.drop_eq_getElem_cons hjl] at HPd
          have HP1 : Hid (pushAll (k : Int) (push (k : Int) nx' l[j]) (l.drop (j + 1)) = pushAll (k : Int) nx l) := HPd
          clear HPd HPU
          have hLp := push_len (k : Int) l[j] hLB
          have hNp := push_length (k : Int) nx' l[j]
          generalize l[j] = x at *
          obtain ⟨x, rfl⟩ : ∃ m : Nat, x = (m : Int) := ⟨x.toNat, by omega⟩
          have hxn : x < nx'.length := by omega
          have hxl : x < s.names.length := by omega
          have hxv : x < vs'.length := by omega
          have HMf := Mem.front [_, _, _] HM
          have ho := nest_cell HMf.head (k := x) hxv
          have hk0 := Mem.nestAt [_, _, _, _] HM (k := x) hxn hxv
          have hkl : nx'[x].length ≤ 100000 * k + j := hLB _ (List.getElem_mem hxn)
          have HMo := Mem.nestOut' [_, _, _, _] HM hvl hxn
          have hpush : push (k : Int) nx' (x : Int) = nx'.set x (nx'[x] ++ [(k : Int)]) := by
            unfold push
            rw [Int.toNat_natCast, List.getD_eq_getElem?_getD, List.getElem?_eq_getElem hxn]; rfl
          rw [hpush] at HP1 hLp hNp
          clear HMf hpush hLB hxr
          obtain ⟨Ak, ck, ek, _, _⟩ := Row.any_ hk0
          rw [ek] at ho
          clear hk0 
          have hx2 : decide ((x : Int) < (s.names.length : Int)) = true := decide_eq_true (by omega)
          rw [ek] at HMo
          go_wp2_with (at_builtin; refine wpList_appI intE rfl _ _ rfl HMo rfl (k : Int) _ rfl ?hnb ?hb ?_; (case hnb => simp); (case hb => omega); intro v' w' HMa HUa; obtain ⟨Av, cv, ev, _, _⟩ := Row.any_ HMa.head; rw [List.length_append, List.length_singleton] at ev; subst ev; have HMb := Mem.front [_, _, _, _] HMa; have ho1 := nest_cell HMb.head (k := x) hxv; have ho2 := Row.frozen HMb.head x; rw [ek] at ho1)
          have HMc := Mem.back [_, _, _, _] (HMb.rowSet (j := x) (by omega) (.slice Av (nx'[x].length + 1) cv))
          have HMd := Mem.nestIn' [_, _, _, _] HMc hvl hxn
          clear HMa HMb HMc
          go_roundw
          case rel => exact ⟨j + 1, vs'.set x (.slice Av (nx'[x].length + 1) cv), _, by omega, by go_num, by rw [List.length_set, List.length_set]; exact hvl, by unfold Hid; rw [List.length_set]; exact hnl.out, hLp, HP1, HMd⟩
          case measure => simp [intOf]; omega
        · have e : j = l.length := by omega
          subst e
          have hPd := HPU.out
          rw [List.drop_length] at hPd
          have hPe : nx' = pushAll (k : Int) nx l := hPd
          rw [← hPe] at HU1
          have HMx := Mem.back [_, _] (Mem.front [_] HM).tail
          have hTe := hTk.out
          rw [← hTe] at HMx
          have hLB' : LenB (100000 * (k + 1)) nx' := fun y hy => Nat.le_trans (hLB y hy) (by omega)
          clear HM HPU hPd hPe hTk hA1 hTe hLB
          have hfb : (fr.length + 1) * 8 ≤ 140737488355328 := by omega
          by_cases hl0 : l = []
          · have hd : decide ((l.length : Int) = 0) = true := by rw [hl0]; rfl
            rw [if_pos hl0] at HF1
            go_wp2_with (at_builtin; refine wpList_appI intE rfl _ _ rfl HMx rfl (k : Int) _ rfl ?hnb ?hb ?_; (case hnb => simp); (case hb => exact hfb); intro v' w' HMa HUa)
            go_roundw
            case rel => exact ⟨k + 1, vs', nx', _, by omega, by go_num, hvl, hnl, hLB', HU1, HF1, by simp; omega, HMa⟩
            case measure => simp [intOf]; omega
          · have hd : decide ((l.length : Int) = 0) = false := decide_eq_false (by have : l.length ≠ 0 := fun h => hl0 (List.length_eq_zero_iff.1 h); omega)
            rw [if_neg hl0] at HF1
            have hd2 : decide (l = []) = false := decide_eq_false hl0
            have hd4 : ¬ l.length = 0 := fun h => hl0 (List.length_eq_zero_iff.1 h)
            have hd5 : decide (l.length = 0) = false := decide_eq_false hd4
            go_wp2
            go_roundw
            case rel => exact ⟨k + 1, vs', nx', fr, by omega, by go_num, hvl, hnl, hLB', HU1, HF1, by omega, HMx⟩
            case measure => simp [intOf]; omega
    · have e : k = s.names.length := by omega
      have hlt' : decide ((k : Int) < (s.names.length : Int)) = false := decide_eq_false (by omega)
      subst e
      have hUd := HU.out
      rw [List.drop_of_length_le (by omega)] at hUd
      have hFd := HF.out
      rw [List.drop_of_length_le (by omega)] at hFd
      have eNX : nx = usRun 0 (List.replicate s.names.length []) ls := hUd
      have eFR : fr = freeRun 0 [] ls := hFd
      rw [List.take_of_length_le (by omega), Nat.sub_self, List.replicate_zero, List.append_nil] at HM
      have hKI := KI.start ls
      rw [← eFR] at hKI
      have hll3 : ls.length = s.names.length := by omega
      rw [hll3] at hKI
      have hres : Hid (loopsOf s = decide ((kahnP nx s.names.length 0 (ls.map (fun l : List Int => (l.length : Int)), fr)).1 < s.names.length)) := by
        unfold Hid loopsOf kahnOf; rw [hls, eNX, eFR]
      have hBd : Bd 0 (ls.map (fun l : List Int => (l.length : Int))) := by
        intro x hx
        obtain ⟨l, hl, rfl⟩ := List.mem_map.1 hx
        rw [← hls] at hl
        obtain ⟨i, hi, rfl⟩ := List.getElem_of_mem hl
        have hi' : i < s.needs.length ∧ i < s.behind.length := by simp [befores] at hi; omega
        have h1 := hO.neL _ (List.getElem_mem hi'.1)
        have h2 := hO.beL _ (List.getElem_mem hi'.2)
        simp only [befores, List.getElem_zipWith, List.length_append]
        omega
      have hAR : AllR s.names.length nx := by
        rw [eNX]; exact usRun_in ls (by omega) (fun l hl => by rw [List.mem_replicate] at hl; rw [hl.2]; intro x hx; cases hx)
      clear hUd hFd eNX eFR hll3 HU HF
      generalize ls.map (fun l : List Int => (l.length : Int)) = A at *
      have hn' := hnl.out
      go_wp2
      go_loopw [5, 10] (fun v5 v10 wr => ∃ (d T : Nat) (B F : List Int), v10 = .int .i64 d ∧ d ≤ F.length ∧ KI s.names.length (B, F) ∧ Hid (T ≤ d * 100000000) ∧ Bd T B ∧ Hid (kahnP nx (s.names.length - d) d (B, F) = kahnP nx s.names.length 0 (A, fr)) ∧
        Mem none_ w ([IRow v5 F, Row 78 1 (.slice (some ⟨w.heap.size + 1, 0, none⟩) s.names.length s.names.length) s.names.length vs, IRow (.slice (some ⟨w.heap.size, 0, none⟩) s.names.length s.names.length) B] ++ List.zipWith IRow vs nx) wr) (fun _ i _ => s.names.length - (intOf i).toNat)
      case atStart => exact ⟨0, 0, A, fr, rfl, Nat.zero_le _, hKI, by unfold Hid; exact Nat.zero_le _, hBd, by unfold Hid; rfl, HM⟩
      case round =>
        clear HM hBd hKI
        obtain ⟨d, T, B, F, rfl, hdF, hKI, hT, hBd, HK, HM⟩ := hrel
        have hFn : F.length ≤ s.names.length := hKI.le
        obtain ⟨A5, c5, rfl, _, _⟩ := Row.any_ HM.head
        by_cases hdl : d < F.length
        · obtain ⟨g5, c5', e5, _, _⟩ := Row.at_ HM.head (by omega)
          cases e5
          have hx0 : wr.cell? ⟨g5, d, none⟩ = some (.int .i64 F[d]) := Row.cell HM.head (ints_get hdl)
          have hxr := hKI.inr _ (List.getElem_mem hdl)
          have HK1 : Hid (kahnP nx (s.names.length - (d + 1)) (d + 1) ((nx.getD F[d].toNat []).foldl relax (B, F)) = kahnP nx s.names.length 0 (A, fr)) := by
            have := HK.out
            rw [show s.names.length - d = (s.names.length - (d + 1)) + 1 from by omega, kahnP, dif_pos hdl] at this
            exact this
          generalize F[d] = x at *
          obtain ⟨x, rfl⟩ : ∃ m : Nat, x = (m : Int) := ⟨x.toNat, by omega⟩
          have hxn : x < nx.length := by omega
          have hxl : x < s.names.length := by omega
          have hxv : x < vs.length := by omega
          rw [Int.toNat_natCast, List.getD_eq_getElem?_getD, List.getElem?_eq_getElem hxn, Option.getD_some] at HK1
          have ho := nest_cell (Mem.front [_] HM).head (k := x) hxv
          have hk0 := Mem.nestAt [_, _, _] HM (k := x) hxn hxv
          obtain ⟨Ak, ck, ek, _, _⟩ := Row.any_ hk0
          rw [ek] at ho
          have hlxL : nx[x].length ≤ 100000000 := by have := hLB _ (List.getElem_mem hxn); omega
          have hlxR := hAR _ (List.getElem_mem hxn)
          clear HK hk0 hxr
          go_wp2
          go_loopw [5, 93] (fun v5 v93 wr => ∃ (j T' : Nat) (B' F' : List Int), v93 = .int .i64 j ∧ j ≤ nx[x].length ∧ KI s.names.length (B', F') ∧ Hid (T' ≤ T + j) ∧ Bd T' B' ∧ F.length ≤ F'.length ∧
            Hid ((nx[x].drop j).foldl relax (B', F') = nx[x].foldl relax (B, F)) ∧
            Mem none_ w ([IRow v5 F', Row 78 1 (.slice (some ⟨w.heap.size + 1, 0, none⟩) s.names.length s.names.length) s.names.length vs, IRow (.slice (some ⟨w.heap.size, 0, none⟩) s.names.length s.names.length) B'] ++ List.zipWith IRow vs nx) wr) (fun _ i _ => nx[x].length - (intOf i).toNat)
          case atStart => exact ⟨0, T, B, F, rfl, Nat.zero_le _, hKI, by unfold Hid; exact Nat.le_refl _, hBd, Nat.le_refl _, by unfold Hid; rfl, HM⟩
          case round =>
            clear HM hKI hBd hx0 ho
            obtain ⟨j, T', B', F', rfl, hj, hKI, hT', hBd, hFF, HR, HM⟩ := hrel
            have hT2 : T' + 1 ≤ T + (j + 1) := by have := hT'.out; omega
            by_cases hjl : j < nx[x].length
            · have hko := Mem.nestAt [_, _, _] HM (k := x) hxn hxv
              rw [ek] at hko
              obtain ⟨gk, ck', e, _, _⟩ := Row.at_ hko (by omega)
              cases e
              have hy0 : wr.cell? ⟨gk, j, none⟩ = some (.int .i64 nx[x][j]) := Row.cell hko (ints_get hjl)
              have hyr := hlxR _ (List.getElem_mem hjl)
              have HR1 := HR.out
              rw [List.drop_eq_getElem_cons hjl, List.foldl_cons] at HR1
              have HR2 := Lib.hid HR1
              have hBd2 := hBd.relax (s := (B', F')) nx[x][j]
              have hKI2 := hKI.relax hyr.1 hyr.2
              have hrl := relax_len (B', F') nx[x][j]
              clear HR HR1
              generalize nx[x][j] = y at *
              obtain ⟨y, rfl⟩ : ∃ m : Nat, y = (m : Int) := ⟨y.toNat, by omega⟩
              have hyl : y < s.names.length := by omega
              have hBl : B'.length = s.names.length := hKI.len
              have hFn' : F'.length ≤ s.names.length := hKI.le
              have hBy0 := hBd.at_ y
              have hBy : -55000000000 ≤ B'.getD y 0 ∧ B'.getD y 0 ≤ 1000000 := by have h1 := hT.out; have h2 := hT'.out; omega
              clear hBy0
              have eGet : B'[y]'(by omega) = B'.getD y 0 := by rw [List.getD_eq_getElem?_getD, List.getElem?_eq_getElem (by omega)]; rfl
              have HMf := Mem.front [_, _] HM
              have hb1 := IRow.cell HMf.head hBl (j := y) (by omega)
              rw [eGet] at hb1
              have hb2 := IRow.frozen HMf.head hBl y
              have HMs := HMf.irowSet' hBl hyl (B'.getD y 0 - 1)
              have hb3 := IRow.cell HMs.head (by rw [List.length_set]; exact hBl) (j := y) (by rw [List.length_set]; omega)
              rw [List.getElem_set_self] at hb3
              have HMt := Mem.back [_, _] HMs
              have hwr : IntKind.i64.wrap (B'.getD y 0 - 1) = B'.getD y 0 - 1 := IntWalk.i64_in _ (by omega)
              unfold relax at HR2 hBd2 hKI2 hrl
              simp only [Int.toNat_natCast] at HR2 hBd2 hKI2 hrl
              clear HMf HMs hBd hKI eGet hyr HM hko
              generalize B'.getD y 0 = z at *
              generalize hBs : B'.set y (z - 1) = B2 at *
              have hT4 : Hid (T' + 1 ≤ T + (j + 1)) := by unfold Hid; exact hT2
              by_cases hz : z - 1 = 0
              · have hd : decide (z - 1 = 0) = true := decide_eq_true hz
                rw [if_pos hz] at HR2 hKI2 hrl
                have hfb : (F'.length + 1) * 8 ≤ 140737488355328 := by omega
                clear hT2 hBy hLB hT hT'
                rw [hz] at HMt hb3
                clear hwr
                go_wp2_with (at_builtin; refine wpList_appI intE rfl _ _ rfl HMt rfl (y : Int) _ rfl ?hnb ?hb ?_; (case hnb => simp); (case hb => exact hfb); intro v' w' HMa HUa)
                go_roundw
                case rel => exact ⟨j + 1, T' + 1, B2, _, by go_num, by omega, hKI2, hT4, hBd2, by simp; omega, HR2, HMa⟩
                case measure => simp [intOf]; omega
              · have hd : decide (z - 1 = 0) = false := decide_eq_false hz
                rw [if_neg hz] at HR2 hKI2 hrl
                go_wp2
                go_roundw
                case rel => exact ⟨j + 1, T' + 1, B2, F', by go_num, by omega, hKI2, by unfold Hid; exact hT2, hBd2, by omega, HR2, HMt⟩
                case measure => simp [intOf]; omega
            · have e : j = nx[x].length := by omega
              subst e
              have hR := HR.out
              rw [List.drop_of_length_le (by omega), List.foldl_nil] at hR
              rw [← hR] at HK1
              clear HR hR
              have hT3 : Hid (T' ≤ (d + 1) * 100000000) := by unfold Hid; have h1 := hT.out; have h2 := hT'.out; omega
              clear hT hT' hT2 hLB hjl hj
              go_wp2
              go_roundw
              case rel => exact ⟨d + 1, T', B', F', by go_num, by omega, hKI, hT3, hBd, HK1, HM⟩
              case measure => simp [intOf]; omega
        · have e : d = F.length := by omega
          subst e
          have hk : (kahnP nx s.names.length 0 (A, fr)).1 = F.length := by
            rw [← HK.out]
            cases hm : s.names.length - F.length with
            | zero => rfl
            | succ m => unfold kahnP; rw [dif_neg (by simp)]
          have hres2 : loopsOf s = decide (F.length < s.names.length) := by rw [hres.out, hk]
          have HR := Lib.hid hres2
          clear hres hres2 hk HK
          have d0' : wr.cell? ⟨b, 0, none⟩ = some (.slice AN s.names.length cN) := HM.mu.cell d0 (fun h => h)
          go_wp2
          go_ret
          exact ⟨by rw [HR.out]; simp, HM.sel [] (by decide)⟩
end Go.Proofs.Ytliglejbkpjamaa
