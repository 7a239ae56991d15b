/-
  Layer 16 (graph): the walk of behind's closure add.
-/
import Derived.Test.YtliglejbkpjamaaGrQ0
set_option linter.unusedVariables false
set_option linter.unusedSimpArgs false
set_option maxRecDepth 100000
namespace Go.Proofs.Ytliglejbkpjamaa
open Go.RowKit

def LB (X : BS) (bb ab atb : Nat) (m : List (ByteArray × Int)) : List Chunk := [Blk bb 56 #[.pointer (some ⟨X.b, 0, none⟩)], Blk ab 65 #[.map (some atb)], MapC atb Value.string (Value.int .i64) m]
theorem waitIs {s : ByteArray} (h : s = waitN) : (s.toList == [46, 87, 65, 73, 84]) = true ∧ s.toList = [46, 87, 65, 73, 84] ∧ (!(s.toList == [46, 87, 65, 73, 84])) = false := by
  obtain ⟨a, b⟩ := isC (l := [46, 87, 65, 73, 84]) h
  exact ⟨a, b, by rw [a]; rfl⟩
theorem waitNe {s : ByteArray} (h : ¬ s = waitN) : (s.toList == [46, 87, 65, 73, 84]) = false ∧ ¬ s.toList = [46, 87, 65, 73, 84] ∧ (!(s.toList == [46, 87, 65, 73, 84])) = true := by
  obtain ⟨a, b⟩ := neC (l := [46, 87, 65, 73, 84]) h
  exact ⟨a, b, by rw [a]; rfl⟩
set_option maxHeartbeats 16000000 in
theorem add_calls (X : BS) (s0 : List NodeS) (K : Nat) (bb ab atb : Nat) (m : List (ByteArray × Int)) (name : ByteArray) (AH : Value) (ahead : List ByteArray) {w0 : World} {F : List Chunk} (w : World) (HX : Mem none_ w0 (LB X bb ab atb m ++ X.mem F) w)
    (hA : AOk s0 K X.nodes) (hm : ∀ y i, mget m y = some i → 0 ≤ i ∧ i.toNat < s0.length ∧ y ∈ s0.map NodeS.name) (hK : K + ahead.length ≤ 100000000)
    (hAh : ∀ wr xs', Mem none_ w0 (LB X bb ab atb m ++ ({ X with nodes := xs' } : BS).mem F) wr → Strs wr AH ahead) :
    Calls Try.prog 48 #[.string name, AH, .pointer (some ⟨ab, 0, none⟩), .pointer (some ⟨bb, 0, none⟩)] w fun e w' => e = .returned (.tuple #[]) ∧ ∃ xs', AOk s0 (K + ahead.length) xs' ∧ Mem none_ w0 (LB X bb ab atb m ++ ({ X with nodes := xs' } : BS).mem F) w' := by
  obtain ⟨A, c, rfl, h1, h2, _⟩ := hAh w X.nodes HX
  unfold maxLen at h2
  have HM0 := Lib.hid HX
  have k0 : w.cell? ⟨ab, 0, none⟩ = some (.map (some atb)) := Blk.cell_ (HX.at_ 1 rfl) 0
  have hmc : (MapC atb Value.string (Value.int .i64) m).ok w := HX.at_ 2 rfl
  clear HX
  go_enter Try.func48, Try.ntmps48
  cases hg : mget m name with
  | none =>
    have hlk : (if true = true then Value.tuple #[((mget m name).map (Value.int .i64)).getD (.int .i64 0), .bool (mhas m name)] else ((mget m name).map (Value.int .i64)).getD (.int .i64 0)) = .tuple #[.int .i64 0, .bool false] := by rw [if_pos rfl, hg, show mhas m name = false from by unfold mhas; rw [hg]; rfl]; rfl
    have hA1 := Lib.hid (hA.mono (Nat.le_add_right K ahead.length))
    clear hg hAh
    go_wp2_with (at_lookup; refine wpList_get keyS Try.underlying65 zeroJ rfl _ _ true rfl hmc rfl name rfl _ hlk ?_)
    refine bodyPost_ret (v := .tuple #[]) ?hr1 rfl ?_
    case hr1 =>
      unfold results
      go_simp
    exact ⟨rfl, X.nodes, hA1.out, HM0.out⟩
  | some i =>
    obtain ⟨j, rfl, hj, _⟩ : ∃ j : Nat, i = (j : Int) ∧ j < s0.length ∧ True := by
      obtain ⟨a, b, _⟩ := hm name i hg
      exact ⟨i.toNat, by omega, b, trivial⟩
    have hlk : (if true = true then Value.tuple #[((mget m name).map (Value.int .i64)).getD (.int .i64 0), .bool (mhas m name)] else ((mget m name).map (Value.int .i64)).getD (.int .i64 0)) = .tuple #[.int .i64 (j : Int), .bool true] := by rw [if_pos rfl, hg, show mhas m name = true from by unfold mhas; rw [hg]; rfl]; rfl
    have hm := Lib.hid hm
    have hAh := Lib.hid hAh
    have hj := Lib.hid hj
    clear hg
    go_wp2_with (at_lookup; refine wpList_get keyS Try.underlying65 zeroJ rfl _ _ true rfl hmc rfl name rfl _ hlk ?_)
    clear k0 hmc hlk
    have hA0 := Lib.hid hA
    go_loopw [22] (fun v22 wr => ∃ (k : Nat) (xs' : List NX), k ≤ ahead.length ∧ v22 = .int .i64 k ∧ Hid (AOk s0 (K + k) xs') ∧ Mem none_ w0 (LB X bb ab atb m ++ ({ X with nodes := xs' } : BS).mem F) wr) (fun v _ => ahead.length - (intOf v).toNat)
    case atStart => exact ⟨0, X.nodes, Nat.zero_le _, rfl, hA0, HM0.out⟩
    case round =>
      clear HM0 hA0 hA
      obtain ⟨k, xs, hk, rfl, hA, HM⟩ := hrel
      by_cases hlt : k < ahead.length
      · have hlt' : decide ((k : Int) < (ahead.length : Int)) = true := decide_eq_true (by omega)
        have hltN : decide (k < ahead.length) = true := decide_eq_true hlt
        obtain ⟨A', c', e', _, _, _, f2⟩ := hAh.out wr xs HM
        cases e'
        obtain ⟨b2, o2, rfl, hc2⟩ := f2.resolve_left (by omega)
        have s0' : wr.cell? ⟨b2, o2 + k, none⟩ = some (.string ahead[k]) := hc2 _ _ (strs_get hlt)
        have k0 : wr.cell? ⟨ab, 0, none⟩ = some (.map (some atb)) := Blk.cell_ (HM.at_ 1 rfl) 0
        have hmc : (MapC atb Value.string (Value.int .i64) m).ok wr := HM.at_ 2 rfl
        clear f2 hc2
        generalize ahead[k] = x at *
        have HM1 := Lib.hid HM
        have hA1 := Lib.hid (hA.out.mono (Nat.le_succ (K + k)))
        cases hg : mget m x with
        | none =>
          have hlk : (if true = true then Value.tuple #[((mget m x).map (Value.int .i64)).getD (.int .i64 0), .bool (mhas m x)] else ((mget m x).map (Value.int .i64)).getD (.int .i64 0)) = .tuple #[.int .i64 0, .bool false] := by rw [if_pos rfl, hg, show mhas m x = false from by unfold mhas; rw [hg]; rfl]; rfl
          clear hg HM
          go_wp2_with (at_lookup; refine wpList_get keyS Try.underlying65 zeroJ rfl _ _ true rfl hmc rfl x rfl _ hlk ?_)
          go_roundw
          case rel => exact ⟨k + 1, xs, by omega, by go_num, hA1, HM1.out⟩
          case measure => simp [intOf]; omega
        | some i =>
          have hlk : (if true = true then Value.tuple #[((mget m x).map (Value.int .i64)).getD (.int .i64 0), .bool (mhas m x)] else ((mget m x).map (Value.int .i64)).getD (.int .i64 0)) = .tuple #[.int .i64 i, .bool true] := by rw [if_pos rfl, hg, show mhas m x = true from by unfold mhas; rw [hg]; rfl]; rfl
          have hxn := Lib.hid (hm.out x i hg).2.2
          by_cases hx : x = waitN
          · obtain ⟨q1, q2, q3⟩ := waitIs hx
            clear hg HM hx hxn
            go_wp2_with (at_lookup; refine wpList_get keyS Try.underlying65 zeroJ rfl _ _ true rfl hmc rfl x rfl _ hlk ?_)
            go_roundw
            case rel => exact ⟨k + 1, xs, by omega, by go_num, hA1, HM1.out⟩
            case measure => simp [intOf]; omega
          · obtain ⟨q1, q2, q3⟩ := waitNe hx
            clear hg HM hx
            go_wp2_with (at_lookup; refine wpList_get keyS Try.underlying65 zeroJ rfl _ _ true rfl hmc rfl x rfl _ hlk ?_)
            have hjx : j < xs.length := by rw [hA.out.size]; exact hj.out
            have hxl : xs.length ≤ 512 ∨ True := .inr trivial
            have HM2 := Lib.hid (aft_out (X := { X with nodes := xs }) (L := LB X bb ab atb m) HM1.out hjx)
            have hrow : (NRow X.NV xs).ok _ := HM2.out.at_ 13 rfl
            obtain ⟨nb, nc, eNV, _, nu⟩ := Row.at_ hrow (by omega)
            have eNV := Lib.hid eNV
            have hin := Lib.hid (show ∀ y, y ∈ xs[j].nd.aft ++ [x] → y ∈ s0.map NodeS.name from fun y hy => by
              rcases List.mem_append.1 hy with hy | hy
              · exact hA.out.in_ _ (List.getElem_mem hjx) y hy
              · rw [List.mem_singleton.1 hy]; exact hxn.out)
            have hln := Lib.hid (show (xs[j].nd.aft ++ [x]).length ≤ K + (k + 1) from by
              have := hA.out.len _ (List.getElem_mem hjx)
              rw [List.length_append]; simp; omega)
            have hln2 := Lib.hid (show (xs[j].nd.aft.length + 1) * 16 ≤ 140737488355328 from by
              have := hA.out.len _ (List.getElem_mem hjx)
              omega)
            have hjI : decide ((j : Int) < (xs.length : Int)) = true := decide_eq_true (by omega)
            have hjN : decide (j < xs.length) = true := decide_eq_true hjx
            have hcell : ∀ (W : World), (NRow X.NV xs).ok W → W.cell? ⟨nb, j * 10 + 4, none⟩ = some xs[j].AV := fun W h => by
              rw [eNV.out] at h
              exact Row.cell h ((flat_get NX.cells 10 NX.len xs j hjx 4 (by decide)).trans rfl)
            have hcell := Lib.hid hcell
            have hS0 : Hid (World.cell? _ ⟨bb, 0, none⟩ = some (.pointer (some ⟨X.b, 0, none⟩)) ∧ World.cell? _ ⟨X.b, 9, none⟩ = some (.slice (some ⟨nb, 0, none⟩) xs.length nc) ∧ World.cell? _ ⟨nb, j * 10 + 4, none⟩ = some xs[j].AV) := Lib.hid ⟨Blk.cell_ (HM2.out.drew.at_ 1 rfl) 0, by rw [← eNV.out]; exact Blk.cell_ (HM2.out.drew.at_ 4 rfl) 9, hcell.out _ (HM2.out.drew.at_ 13 rfl)⟩
            refine wp_plan [18] (S := fun w' => Hid (w'.cell? ⟨bb, 0, none⟩ = some (.pointer (some ⟨X.b, 0, none⟩)) ∧ w'.cell? ⟨X.b, 9, none⟩ = some (.slice (some ⟨nb, 0, none⟩) xs.length nc) ∧ w'.cell? ⟨nb, j * 10 + 4, none⟩ = some xs[j].AV)) [(.load, 0), (.pure, 1), (.pure, 2), (.load, 3), (.pure, 4), (.load, 5), (.pure, 6), (.pure, 7), (.load, 8), (.pure, 9), (.pure, 10), (.pure, 11), (.load, 12), (.pure, 13), (.eff, 14), (.eff, 15), (.pure, 16), (.pure, 17), (.tail, 18)] (by kernel_rfl) rfl (by kernel_rfl) rfl (fun _ _ _ _ _ h => h) hS0 ?_
            have HM3 := Lib.hid HM2.out.drew
            clear hS0 HM2 HM1 hrow
            generalize World.drew _ = W5 at *
            have hAx := Lib.hid hA.out
            clear hA
            generalize hxj : xs[j] = xj at *
            have hxj := Lib.hid hxj
            obtain ⟨SVj, CVj, AVj, ndj⟩ := xj
            simp only at *
            repeat (first | (refine plan_pure (v := ?_) (a' := ?_) rfl rfl rfl ?_ ?_ ?_; rotate_left 2; (focus (intro w'; go_simp; with_reducible rfl)); (focus (simp only [Act.put, List.setIfInBounds_toArray, List.set_cons_zero, List.set_cons_succ]; rfl))) | (refine plan_load (v := ?_) (a' := ?_) rfl rfl rfl ?_ ?_ ?_; rotate_left 2; (focus (intro w' hw'; obtain ⟨q0, q1, q2⟩ := hw'.out; clear hw'; go_simp; with_reducible rfl)); (focus (simp only [Act.put, List.setIfInBounds_toArray, List.set_cons_zero, List.set_cons_succ]; rfl))) | (refine plan_skip rfl rfl (by decide +kernel) (by simp only [Act.put, List.setIfInBounds_toArray, List.set_cons_zero, List.set_cons_succ]; rfl) ?_))
            refine plan_eff rfl (fun K2 hK2 => ?_)
            go_wp2_with fail
            refine hK2 _ _ ?_ ?_
            · have HMa := HM3.out.alloc (.cells #[.string x] 9)
              exact Lib.hid ⟨Blk.cell_ (HMa.at_ 1 rfl) 0, by rw [← eNV.out]; exact Blk.cell_ (HMa.at_ 4 rfl) 9, hcell.out _ (HMa.at_ 13 rfl)⟩
            clear hK2
            refine plan_eff_put rfl rfl (fun K3 hK3 => ?_)
            refine wpList_appS strE rfl _ _ rfl HM3.out rfl x _ rfl rfl hln2.out ?_
            intro v5 w5 hm5 hU5
            refine wpList_nil_ (hK3 _ _ ?_ ?_)
            · exact Lib.hid ⟨Blk.cell_ (hm5.at_ 1 rfl) 0, by rw [← eNV.out]; exact Blk.cell_ (hm5.at_ 4 rfl) 9, hcell.out _ (hm5.at_ 13 rfl)⟩
            clear hK3 hU5 HM3
            obtain ⟨B1, n5, d5, e5⟩ : ∃ A n c, v5 = .slice A n c := by
              obtain ⟨A, c, e, _⟩ := Row.any_ hm5.head
              exact ⟨A, _, c, e⟩
            subst e5
            simp only [Act.put, List.setIfInBounds_toArray, List.set_cons_zero, List.set_cons_succ]
            repeat (first | (refine plan_pure (v := ?_) (a' := ?_) rfl rfl rfl ?_ ?_ ?_; rotate_left 2; (focus (intro w'; go_simp; with_reducible rfl)); (focus (simp only [Act.put, List.setIfInBounds_toArray, List.set_cons_zero, List.set_cons_succ]; rfl))) | (refine plan_load (v := ?_) (a' := ?_) rfl rfl rfl ?_ ?_ ?_; rotate_left 2; (focus (intro w' hw'; obtain ⟨q0, q1, q2⟩ := hw'.out; clear hw'; go_simp; with_reducible rfl)); (focus (simp only [Act.put, List.setIfInBounds_toArray, List.set_cons_zero, List.set_cons_succ]; rfl))) | (refine plan_skip rfl rfl (by decide +kernel) (by simp only [Act.put, List.setIfInBounds_toArray, List.set_cons_zero, List.set_cons_succ]; rfl) ?_))
            have z0 := hcell.out _ (hm5.at_ 13 rfl)
            have z1 : World.frozen? w5 ⟨nb, j * 10 + 4, none⟩ = false := by
              have hr : (NRow X.NV xs).ok w5 := hm5.at_ 13 rfl
              rw [eNV.out] at hr
              exact Row.frozen hr _
            have HM6 := Lib.hid (aft_in (X := { X with nodes := xs }) (L := LB X bb ab atb m) (F := F) hjx eNV.out (.slice B1 n5 d5) (ndj.aft ++ [x]) (by
              have e : ({ X with nodes := xs } : BS).nodes[j] = ⟨SVj, CVj, AVj, ndj⟩ := hxj.out
              rw [e]
              exact hm5))
            have hA6 := Lib.hid (hAx.out.set (K' := K + (k + 1)) (by omega) hjx (.slice B1 n5 d5) hin.out hln.out)
            clear hm5 hcell hAx
            refine plan_tail rfl (fun K4 hK4 => ?_)
            go_wp2_with fail
            refine plan_done ?_
            clear z0 z1
            go_wp2_with fail
            go_roundw
            case rel => exact ⟨k + 1, _, by omega, by go_num, hA6, HM6.out⟩
            case measure => simp [intOf]; omega
      · have hlt' : decide ((k : Int) < (ahead.length : Int)) = false := decide_eq_false (by omega)
        have hltN : decide (k < ahead.length) = false := decide_eq_false hlt
        have e : k = ahead.length := by omega
        subst e
        have HM1 := Lib.hid HM
        clear HM
        go_wp2_with fail
        go_end0
        exact ⟨rfl, xs, hA.out, HM1.out⟩
end Go.Proofs.Ytliglejbkpjamaa
