/-
  Layer 16 (graph): the walk of loops.
-/
import Derived.Test.YtliglejbkpjamaaVGrR0
import Derived.Test.YtliglejbkpjamaaVGrQ
set_option linter.unusedVariables false
set_option linter.unusedSimpArgs false
set_option maxRecDepth 100000
namespace Go.Proofs.Ytliglejbkpjamaa
open Go.RowKit

abbrev NextM := List (ByteArray × (Value × List ByteArray))
def rowC (q : ByteArray × (Value × List ByteArray)) : Chunk := StrRow q.2.1 q.2.2
abbrev nextC (b : Nat) (m : NextM) : Chunk := MapC b Value.string (Prod.fst : Value × List ByteArray → Value) m
def nextQ (m : NextM) : NextP := m.map fun q => (q.1, q.2.2)
theorem nextQ_get (m : NextM) (x : ByteArray) : mget (nextQ m) x = (mget m x).map Prod.snd := mget_map Prod.snd x m
theorem zeroSl : ∀ w, (zeroValue 23).run Try.prog w = .ok (.slice none 0 0) w := fun w => by kernel_rfl
/-- What a name's entry reads as. -/
theorem next_reads {fp : Nat → Prop} {w0 w : World} {m : NextM} {L F : List Chunk} (h : Mem fp w0 (L ++ (m.map rowC ++ F)) w) (x : ByteArray) : Strs w (((mget m x).map (Prod.fst : Value × List ByteArray → Value)).getD (.slice none 0 0)) (nx (nextQ m) x) := by
  unfold nx
  rw [nextQ_get]
  cases hg : mget m x with
  | none => exact strs_nil w
  | some p =>
    obtain ⟨i, hi, e1, _⟩ := mget_at hg
    have hc : (rowC m[i]).ok w := h.star.1 _ (by
      simp only [List.mem_append, List.mem_map]
      exact .inr (.inl ⟨m[i], List.getElem_mem hi, rfl⟩))
    rw [e1] at hc
    exact Row.sl hc
theorem get_new {m : NextM} {ns : List NodeS} {k : Nat} (hq : nextQ m = nextP (ns.take k)) (hn : (ns.map NodeS.name).Nodup) (hk : k < ns.length) : mget m ns[k].name = none := by
  cases hg : mget m ns[k].name with
  | none => rfl
  | some p =>
    exfalso
    obtain ⟨i, hi, e1, _⟩ := mget_at hg
    have hl : i < (nextP (ns.take k)).length := by rw [← hq]; simpa [nextQ] using hi
    have e2 : (nextQ m)[i]'(by simpa [nextQ] using hi) = (ns[k].name, p.2) := by simp only [nextQ, List.getElem_map, e1]
    have e3 : (nextP (ns.take k))[i]'hl = (ns[k].name, p.2) := by simp only [← hq, e2]
    have hik : i < k := by
      have : i < (ns.take k).length := by simpa [nextP] using hl
      rw [List.length_take] at this; omega
    have e4 : ns[i].name = ns[k].name := by
      have := congrArg Prod.fst e3
      simpa [nextP] using this
    have h1 : i < (ns.map NodeS.name).length := by simp; omega
    have h2 : k < (ns.map NodeS.name).length := by simpa using hk
    have := List.pairwise_iff_getElem.1 hn i k h1 h2 hik
    rw [List.getElem_map, List.getElem_map] at this
    exact this e4
theorem rest_le (P : NextP) (K : Nat) (h : ∀ p, p ∈ P → p.2.length ≤ K) : rest P [] ≤ P.length * K := by
  unfold rest
  have : P.filter (fun p => !mhas ([] : List (ByteArray × Unit)) p.1) = P := List.filter_eq_self.2 (fun p _ => by simp [mhas, mget_nil])
  rw [this]
  induction P with
  | nil => simp
  | cons p P ih =>
    simp only [List.map_cons, List.sum_cons, List.length_cons, Nat.add_mul, Nat.one_mul]
    have := h p (by simp)
    have := ih (fun q hq => h q (by simp [hq])) (List.filter_eq_self.2 (fun p _ => by simp [mhas, mget_nil]))
    omega
theorem nx_len_le (P : NextP) (K : Nat) (h : ∀ p, p ∈ P → p.2.length ≤ K) (x : ByteArray) : (nx P x).length ≤ K := by
  unfold nx
  cases hg : mget P x with
  | none => exact Nat.zero_le _
  | some v =>
    obtain ⟨i, hi, e1, _⟩ := mget_at hg
    have := h _ (List.getElem_mem hi)
    rw [e1] at this
    exact this
set_option maxHeartbeats 16000000 in
theorem loops_calls (X : BS) (K : Nat) {w0 : World} {F : List Chunk} (w : World) (HX : Mem none_ w0 (X.mem F) w) (hnd : (X.nodes.map fun x => x.nd.name).Nodup) (hK : ∀ x, x ∈ X.nodes → x.nd.src.length + x.nd.aft.length ≤ K) (hK2 : K ≤ 100000000) (hn : X.nodes.length ≤ 512) :
    Calls Try.prog 28 #[.pointer (some ⟨X.b, 0, none⟩)] w fun e w' => e = .returned (.tuple #[]) ∧
      ((Mem none_ w0 (X.mem F) w' ∧ ∀ x, x ∈ X.nodes → ¬ Reach (nextP (X.nodes.map NX.nd)) x.nd.name x.nd.name) ∨ ∃ x, x ∈ X.nodes ∧ Reach (nextP (X.nodes.map NX.nd)) x.nd.name x.nd.name ∧ Mem none_ w0 ((X.wrong 11 x.nd.name).mem F) w') := by
  obtain ⟨AN, cN, eNV, _, uN⟩ : ∃ A c, X.NV = .slice A X.nodes.length c ∧ X.nodes.length ≤ c ∧ c ≤ maxLen := Row.any_ (HX.at_ 9 rfl)
  have eNV := Lib.hid eNV
  unfold maxLen at uN
  have HM1 : Hid (Mem none_ w0 ([nextC w.heap.size []] ++ ((([] : NextM).map rowC) ++ X.mem F)) (w.alloc (.map #[] 0))) := MapC.made HX Value.string (Prod.fst : Value × List ByteArray → Value)
  have k9 : World.cell? _ ⟨X.b, 9, none⟩ = some X.NV := Blk.cell_ (HM1.out.at_ 1 rfl) 9
  rw [eNV.out] at k9
  have hmm := @run_makeMap Try.prog
  have hK := Lib.hid hK
  have hnd := Lib.hid hnd
  have hn := Lib.hid hn
  obtain ⟨P, hP⟩ : ∃ P, nextP (X.nodes.map NX.nd) = P := ⟨_, rfl⟩
  have hPK := Lib.hid (show ∀ p, p ∈ P → p.2.length ≤ K from fun p hp => by
    rw [← hP] at hp
    obtain ⟨n, hn, rfl⟩ := List.mem_map.1 hp
    obtain ⟨x, hx, rfl⟩ := List.mem_map.1 hn
    have := hK.out x hx
    simp only [List.length_append]
    exact this)
  have hPl := Lib.hid (show P.length ≤ 512 from by rw [← hP]; simpa [nextP] using hn.out)
  rw [hP]
  have hP := Lib.hid hP
  clear HX
  go_enter Try.func28, Try.ntmps28
  go_wp2_with fail
  clear hmm k9
  generalize w.heap.size = nxb at *
  generalize World.alloc _ _ = W1 at *
  go_loopw [16] (fun v16 wr => ∃ (k : Nat) (m : NextM), k ≤ X.nodes.length ∧ v16 = .int .i64 k ∧ Hid (nextQ m = nextP ((X.nodes.map NX.nd).take k)) ∧ Mem none_ w0 ([nextC nxb m] ++ (m.map rowC ++ X.mem F)) wr) (fun v _ => X.nodes.length - (intOf v).toNat)
  case atStart => exact ⟨0, [], Nat.zero_le _, rfl, rfl, HM1.out⟩
  case round =>
    clear HM1
    obtain ⟨k, m, hk, rfl, hm, HM⟩ := hrel
    by_cases hlt : k < X.nodes.length
    · have hlt' : decide ((k : Int) < (X.nodes.length : Int)) = true := decide_eq_true (by omega)
      have hltN : decide (k < X.nodes.length) = true := decide_eq_true hlt
      have hrow : (NRow X.NV X.nodes).ok _ := HM.star.1 _ (by unfold BS.mem BS.heads; simp)
      rw [eNV.out] at hrow
      obtain ⟨nb, nc, e1, _, _⟩ := Row.at_ hrow (by omega)
      cases e1
      obtain ⟨⟨S1, z1, e1, _⟩, ⟨S2, z2, e2, _⟩, ⟨S3, z3, e3, _⟩⟩ : (∃ A c, X.nodes[k].SV = .slice A X.nodes[k].nd.src.length c ∧ _) ∧ (∃ A c, X.nodes[k].CV = .slice A X.nodes[k].nd.cmd.length c ∧ _) ∧ (∃ A c, X.nodes[k].AV = .slice A X.nodes[k].nd.aft.length c ∧ _) := by
        obtain ⟨a, b, c⟩ := nodes_own (L := [_] ++ m.map rowC) (F := F) (by rw [List.append_assoc]; exact HM) (List.getElem_mem hlt)
        exact ⟨Row.any_ a, Row.any_ b, Row.any_ c⟩
      have xg : ∀ j, j < 10 → wr.cell? ⟨nb, k * 10 + j, none⟩ = (X.nodes[k].cells)[j]? := fun j hj => by
        rw [Row.cell hrow ((flat_get NX.cells 10 NX.len X.nodes k hlt j hj).trans (List.getElem?_eq_getElem (by rw [NX.len]; exact hj)))]
        rw [List.getElem?_eq_getElem (by rw [NX.len]; exact hj)]
      have y0 : wr.cell? ⟨nb, k * 10, none⟩ = some (.string X.nodes[k].nd.name) := xg 0 (by decide)
      have y1 : wr.cell? ⟨nb, k * 10 + 1, none⟩ = some (.int .i64 X.nodes[k].nd.kind) := xg 1 (by decide)
      have y2 : wr.cell? ⟨nb, k * 10 + 2, none⟩ = some (X.nodes[k].SV) := xg 2 (by decide)
      have y3 : wr.cell? ⟨nb, k * 10 + 3, none⟩ = some (X.nodes[k].CV) := xg 3 (by decide)
      have y4 : wr.cell? ⟨nb, k * 10 + 4, none⟩ = some (X.nodes[k].AV) := xg 4 (by decide)
      have y5 : wr.cell? ⟨nb, k * 10 + 5, none⟩ = some (.string X.nodes[k].nd.impl) := xg 5 (by decide)
      have y6 : wr.cell? ⟨nb, k * 10 + 6, none⟩ = some (.bool X.nodes[k].nd.ph) := xg 6 (by decide)
      have y7 : wr.cell? ⟨nb, k * 10 + 7, none⟩ = some (.bool X.nodes[k].nd.pr) := xg 7 (by decide)
      have y8 : wr.cell? ⟨nb, k * 10 + 8, none⟩ = some (.bool X.nodes[k].nd.si) := xg 8 (by decide)
      have y9 : wr.cell? ⟨nb, k * 10 + 9, none⟩ = some (.bool X.nodes[k].nd.ig) := xg 9 (by decide)
      have hkl : k < (X.nodes.map NX.nd).length := by simpa using hlt
      have hgn := get_new hm.out (by rw [List.map_map]; exact hnd.out) hkl
      have hpl := Lib.hid (show nextP ((X.nodes.map NX.nd).take (k + 1)) = nextP ((X.nodes.map NX.nd).take k) ++ [(((X.nodes.map NX.nd)[k]'hkl).name, ((X.nodes.map NX.nd)[k]'hkl).src ++ ((X.nodes.map NX.nd)[k]'hkl).aft)] from by
        rw [List.take_succ_eq_append_getElem hkl]
        unfold nextP
        rw [List.map_append]; rfl)
      rw [List.getElem_map] at hgn hpl
      have hKk := Lib.hid (hK.out _ (List.getElem_mem hlt))
      have hR1 : ∀ L w', Mem none_ w0 (L ++ (m.map rowC ++ X.mem F)) w' → Strs w' X.nodes[k].SV X.nodes[k].nd.src ∧ Strs w' X.nodes[k].AV X.nodes[k].nd.aft := fun L w' h => by
        have := nodes_own (L := L ++ m.map rowC) (F := F) (by rw [List.append_assoc]; exact h) (List.getElem_mem hlt)
        exact ⟨Row.sl this.1, Row.sl this.2.2⟩
      clear xg hrow
      generalize X.nodes[k] = x at *
      obtain ⟨SVx, CVx, AVx, ⟨nm, kd, src, cmd, aft, im, ph, pr, si, ig⟩⟩ := x
      simp only at e1 e2 e3 y0 y1 y2 y3 y4 y5 y6 y7 y8 y9 hgn hpl hKk hR1
      subst e1 e2 e3
      have HM5 := Lib.hid (HM.box #[.string nm, .int .i64 kd, .slice S1 src.length z1, .slice S2 cmd.length z2, .slice S3 aft.length z3, .string im, .bool ph, .bool pr, .bool si, .bool ig] 38)
      have hR1 := Lib.hid hR1
      clear HM
      go_wp2_with fail
      clear y0 y1 y2 y3 y4 y5 y6 y7 y8 y9
      have HM6 := Lib.hid HM5.out.drew
      have hbx := HM6.out.at_ 0 rfl
      have hS0 := Lib.hid (show _ ∧ _ ∧ _ from ⟨Blk.cell_ hbx 0, Blk.cell_ hbx 2, Blk.cell_ hbx 4⟩)
      refine wp_plan [9] (S := fun w' => Hid (w'.cell? ⟨wr.heap.size, 0, none⟩ = some (.string nm) ∧ w'.cell? ⟨wr.heap.size, 2, none⟩ = some (.slice S1 src.length z1) ∧ w'.cell? ⟨wr.heap.size, 4, none⟩ = some (.slice S3 aft.length z3))) [(.pure, 0), (.pure, 1), (.load, 2), (.pure, 3), (.load, 4), (.pure, 5), (.load, 6), (.eff, 7), (.eff, 8), (.tail, 9)] (by kernel_rfl) rfl (by kernel_rfl) rfl (fun _ _ _ _ _ h => h) hS0 ?_
      clear hS0 HM5 hbx
      generalize World.drew _ = W5 at *
      repeat (first | (refine plan_pure (v := ?_) (a' := ?_) rfl rfl rfl ?_ ?_ ?_; rotate_left 2; (focus (intro w'; go_simp; with_reducible rfl)); (focus (simp only [Act.put, List.setIfInBounds_toArray, List.set_cons_zero, List.set_cons_succ]; rfl))) | (refine plan_load (v := ?_) (a' := ?_) rfl rfl rfl ?_ ?_ ?_; rotate_left 2; (focus (intro w' hw'; obtain ⟨q0, q1, q2⟩ := hw'.out; clear hw'; go_simp; with_reducible rfl)); (focus (simp only [Act.put, List.setIfInBounds_toArray, List.set_cons_zero, List.set_cons_succ]; rfl))) | (refine plan_skip rfl rfl (by decide +kernel) (by simp only [Act.put, List.setIfInBounds_toArray, List.set_cons_zero, List.set_cons_succ]; rfl) ?_))
      have HM7 := Lib.hid (HM6.out.box #[.slice S1 src.length z1, .slice S3 aft.length z3] 23)
      refine plan_eff rfl (fun K1 hK1 => ?_)
      go_wp2_with fail
      have hbx := HM7.out.at_ 1 rfl
      refine hK1 _ _ (Lib.hid ⟨Blk.cell_ hbx 0, Blk.cell_ hbx 2, Blk.cell_ hbx 4⟩) ?_
      clear hK1 hbx HM6
      have hrr := hR1.out [_, _, _] _ HM7.out
      have hCc := concatS_calls _ _ src aft W5.heap.size _ hrr.1 hrr.2 (Blk.cell_ (HM7.out.at_ 0 rfl) 0) (Blk.cell_ (HM7.out.at_ 0 rfl) 1) (by have := hKk.out; omega)
      clear hrr
      refine plan_eff rfl (fun K2 hK2 => ?_)
      go_wp2_with (go_at_call 53; refine hCc.mono ?_; clear hCc; rintro e w6 ⟨v6, rfl, hm6⟩)
      have HM8 := HM7.out.got hm6
      have hbx := HM8.at_ 2 rfl
      refine hK2 _ _ (Lib.hid ⟨Blk.cell_ hbx 0, Blk.cell_ hbx 2, Blk.cell_ hbx 4⟩) ?_
      clear hK2 hbx HM7 hm6
      repeat (first | (refine plan_pure (v := ?_) (a' := ?_) rfl rfl rfl ?_ ?_ ?_; rotate_left 2; (focus (intro w'; go_simp; with_reducible rfl)); (focus (simp only [Act.put, List.setIfInBounds_toArray, List.set_cons_zero, List.set_cons_succ]; rfl))) | (refine plan_load (v := ?_) (a' := ?_) rfl rfl rfl ?_ ?_ ?_; rotate_left 2; (focus (intro w' hw'; obtain ⟨q0, q1, q2⟩ := hw'.out; clear hw'; go_simp; with_reducible rfl)); (focus (simp only [Act.put, List.setIfInBounds_toArray, List.set_cons_zero, List.set_cons_succ]; rfl))) | (refine plan_skip rfl rfl (by decide +kernel) (by simp only [Act.put, List.setIfInBounds_toArray, List.set_cons_zero, List.set_cons_succ]; rfl) ?_))
      refine plan_tail rfl (fun K3 hK3 => ?_)
      refine wpList_put keyS Try.underlying103 rfl _ _ _ (.inl rfl) (HM8.psel (L := [_, _, _, _]) [3, 0] 4 rfl (by decide)) rfl nm rfl (v6, src ++ aft) rfl ?_
      intro w7 hm7 hU7
      refine wpList_nil_ (hK3 _ _ (plan_done ?_))
      have hm9 := Lib.hid (show nextQ (mput m nm (v6, src ++ aft)) = nextP ((X.nodes.map NX.nd).take (k + 1)) from by
        rw [hpl.out, ← hm.out, mput_new hgn]
        unfold nextQ
        rw [List.map_append]; rfl)
      have HM9 : Hid (Mem none_ w0 ([nextC nxb (mput m nm (v6, src ++ aft))] ++ ((mput m nm (v6, src ++ aft)).map rowC ++ X.mem F)) w7) := by
        have e : (mput m nm (v6, src ++ aft)).map rowC = m.map rowC ++ [StrRow v6 (src ++ aft)] := by rw [mput_new hgn, List.map_append]; rfl
        unfold Hid
        rw [e]
        refine hm7.perm (List.Perm.cons _ ?_)
        rw [List.append_assoc]
        exact List.perm_append_comm_assoc [StrRow v6 (src ++ aft)] (m.map rowC) (X.mem F)
      clear hm7 hU7 hK3 HM8 hgn
      go_wp2_with fail
      go_roundw
      case rel => exact ⟨k + 1, _, by omega, by go_num, hm9, HM9.out⟩
      case measure => simp [intOf]; omega
    · have hlt' : decide ((k : Int) < (X.nodes.length : Int)) = false := decide_eq_false (by omega)
      have hltN : decide (k < X.nodes.length) = false := decide_eq_false hlt
      have e : k = X.nodes.length := by omega
      subst e
      have hm1 := hm.out
      rw [List.take_of_length_le (by simp)] at hm1
      have HM2 := Lib.hid HM
      have k9 : World.cell? _ ⟨X.b, 9, none⟩ = some X.NV := Blk.cell_ (HM.star.1 _ (by unfold BS.mem BS.heads; simp) : (Blk X.b 67 X.cells).ok wr) 9
      rw [eNV.out] at k9
      clear HM hm hlt
      rw [hP.out] at hm1
      have hm1 := Lib.hid hm1
      go_wp2_with fail
      clear k9
      go_loopw [35] (fun v35 wr => ∃ k : Nat, k ≤ X.nodes.length ∧ v35 = .int .i64 k ∧ Hid (∀ j (hj : j < X.nodes.length), j < k → ¬ Reach P X.nodes[j].nd.name X.nodes[j].nd.name) ∧ Mem none_ w0 ([nextC nxb m] ++ (m.map rowC ++ X.mem F)) wr) (fun v _ => X.nodes.length - (intOf v).toNat)
      case atStart => exact ⟨0, Nat.zero_le _, rfl, Lib.hid (fun j hj h => by omega), HM2.out⟩
      case round =>
        clear HM2
        obtain ⟨k, hk, rfl, hno, HM⟩ := hrel
        by_cases hlt : k < X.nodes.length
        · have hlt' : decide ((k : Int) < (X.nodes.length : Int)) = true := decide_eq_true (by omega)
          have hltN : decide (k < X.nodes.length) = true := decide_eq_true hlt
          have hrow : (NRow X.NV X.nodes).ok _ := HM.star.1 _ (by unfold BS.mem BS.heads; simp)
          rw [eNV.out] at hrow
          obtain ⟨nb, nc, e1, _, _⟩ := Row.at_ hrow (by omega)
          cases e1
          obtain ⟨⟨S1, z1, e1, _⟩, ⟨S2, z2, e2, _⟩, ⟨S3, z3, e3, _⟩⟩ : (∃ A c, X.nodes[k].SV = .slice A X.nodes[k].nd.src.length c ∧ _) ∧ (∃ A c, X.nodes[k].CV = .slice A X.nodes[k].nd.cmd.length c ∧ _) ∧ (∃ A c, X.nodes[k].AV = .slice A X.nodes[k].nd.aft.length c ∧ _) := by
            obtain ⟨a, b, c⟩ := nodes_own (L := [_] ++ m.map rowC) (F := F) (by rw [List.append_assoc]; exact HM) (List.getElem_mem hlt)
            exact ⟨Row.any_ a, Row.any_ b, Row.any_ c⟩
          have xg : ∀ j, j < 10 → wr.cell? ⟨nb, k * 10 + j, none⟩ = (X.nodes[k].cells)[j]? := fun j hj => by
            rw [Row.cell hrow ((flat_get NX.cells 10 NX.len X.nodes k hlt j hj).trans (List.getElem?_eq_getElem (by rw [NX.len]; exact hj)))]
            rw [List.getElem?_eq_getElem (by rw [NX.len]; exact hj)]
          have y0 : wr.cell? ⟨nb, k * 10, none⟩ = some (.string X.nodes[k].nd.name) := xg 0 (by decide)
          have y1 : wr.cell? ⟨nb, k * 10 + 1, none⟩ = some (.int .i64 X.nodes[k].nd.kind) := xg 1 (by decide)
          have y2 : wr.cell? ⟨nb, k * 10 + 2, none⟩ = some (X.nodes[k].SV) := xg 2 (by decide)
          have y3 : wr.cell? ⟨nb, k * 10 + 3, none⟩ = some (X.nodes[k].CV) := xg 3 (by decide)
          have y4 : wr.cell? ⟨nb, k * 10 + 4, none⟩ = some (X.nodes[k].AV) := xg 4 (by decide)
          have y5 : wr.cell? ⟨nb, k * 10 + 5, none⟩ = some (.string X.nodes[k].nd.impl) := xg 5 (by decide)
          have y6 : wr.cell? ⟨nb, k * 10 + 6, none⟩ = some (.bool X.nodes[k].nd.ph) := xg 6 (by decide)
          have y7 : wr.cell? ⟨nb, k * 10 + 7, none⟩ = some (.bool X.nodes[k].nd.pr) := xg 7 (by decide)
          have y8 : wr.cell? ⟨nb, k * 10 + 8, none⟩ = some (.bool X.nodes[k].nd.si) := xg 8 (by decide)
          have y9 : wr.cell? ⟨nb, k * 10 + 9, none⟩ = some (.bool X.nodes[k].nd.ig) := xg 9 (by decide)
          have hmem := Lib.hid (List.getElem_mem hlt)
          have hnk := Lib.hid (show ∀ h : ¬ Reach P X.nodes[k].nd.name X.nodes[k].nd.name, ∀ j (hj : j < X.nodes.length), j < k + 1 → ¬ Reach P X.nodes[j].nd.name X.nodes[j].nd.name from fun h j hj hjk => by
            by_cases e : j = k
            · subst e; exact h
            · exact hno.out j hj (by omega))
          clear xg hrow hno
          generalize X.nodes[k] = x at *
          obtain ⟨SVx, CVx, AVx, ⟨nm, kd, src, cmd, aft, im, ph, pr, si, ig⟩⟩ := x
          simp only at e1 e2 e3 y0 y1 y2 y3 y4 y5 y6 y7 y8 y9 hnk hmem
          subst e1 e2 e3
          have HM3 := HM.box #[.string nm, .int .i64 kd, .slice S1 src.length z1, .slice S2 cmd.length z2, .slice S3 aft.length z3, .string im, .bool ph, .bool pr, .bool si, .bool ig] 38
          have eb1 : (wr.alloc (.cells #[.string nm, .int .i64 kd, .slice S1 src.length z1, .slice S2 cmd.length z2, .slice S3 aft.length z3, .string im, .bool ph, .bool pr, .bool si, .bool ig] 38)).heap.size = wr.heap.size + 1 := by simp
          have HM4 := MapC.made HM3 Value.string setV
          rw [eb1] at HM4
          have HM5 := Lib.hid HM4
          have hvs := next_reads (L := [_, _, _]) HM4 nm
          obtain ⟨v, hv⟩ : ∃ v, ((mget m nm).map (Prod.fst : Value × List ByteArray → Value)).getD (.slice none 0 0) = v := ⟨_, rfl⟩
          rw [hm1.out, hv] at hvs
          have hlk : (if false = true then Value.tuple #[((mget m nm).map (Prod.fst : Value × List ByteArray → Value)).getD (.slice none 0 0), .bool (mhas m nm)] else ((mget m nm).map (Prod.fst : Value × List ByteArray → Value)).getD (.slice none 0 0)) = v := by rw [if_neg (by decide)]; exact hv
          have hmc : (nextC nxb m).ok _ := HM4.at_ 2 rfl
          have hCl := clone_calls v (nx P nm) _ hvs (by have := nx_len_le P K hPK.out nm; omega)
          obtain ⟨Av, cv, ev, _⟩ := hvs
          rw [ev] at hlk hCl
          have hmm := @run_makeMap Try.prog
          clear HM HM3 HM4 eb1 hv ev
          go_wp2_with (first | (at_lookup; refine wpList_get keyS Try.underlying103 zeroSl rfl _ _ false rfl hmc rfl nm rfl _ hlk ?_) | (go_at_call 29; refine hCl.mono ?_; clear hCl; rintro e w6 ⟨v6, rfl, hm6⟩; have HM6 := Lib.hid (HM5.out.got hm6); clear hm6 HM5 hmc hlk hmm))
          generalize wr.heap.size = xb at *
          obtain ⟨G0, hG0⟩ : ∃ G, (nx P nm).length + rest P [] = G := ⟨_, rfl⟩
          have hG0b : Hid (G0 ≤ 60000000000) := by
            have h1 := nx_len_le P K hPK.out nm
            have h2 := rest_le P K hPK.out
            have h3 : P.length * K ≤ 512 * K := Nat.mul_le_mul_right _ hPl.out
            exact Lib.hid (show G0 ≤ 60000000000 from by omega)
          have hs0 := Lib.hid (Srch.start P nm)
          have hG0 := Lib.hid hG0
          clear y0 y1 y2 y3 y4 y5 y6 y7 y8 y9
          go_loopg [8] G0 (fun g v8 wr => ∃ (met : List (ByteArray × Unit)) (todo : List ByteArray), todo.length + rest P met ≤ g ∧ Hid (todo.length + rest P met ≤ 60000000000) ∧ Hid (Srch P nm met todo) ∧ Mem none_ w0 ([StrRow v8 todo, MapC (xb + 1) Value.string setV met, Blk xb 38 #[.string nm, .int .i64 kd, .slice S1 src.length z1, .slice S2 cmd.length z2, .slice S3 aft.length z3, .string im, .bool ph, .bool pr, .bool si, .bool ig], nextC nxb m] ++ (m.map rowC ++ X.mem F)) wr)
          case atStart => exact ⟨[], nx P nm, Nat.le_of_eq hG0.out, Lib.hid (by rw [hG0.out]; exact hG0b.out), hs0, HM6.out⟩
          case round =>
            clear HM6 hs0 hG0 hG0b
            obtain ⟨met, todo, hg, hgb, hS, HM⟩ := hrel
            rcases List.eq_nil_or_concat todo with e | ⟨td, x, e⟩
            · subst e
              obtain ⟨A8, c8, e8, _⟩ := Row.any_ (HM.at_ 0 rfl)
              simp only [List.length_nil] at e8
              subst e8
              have hd := Lib.hid (hS.out.done nm)
              have b0 := (Blk.cell_ (HM.at_ 2 rfl) 0).trans (show _ = some (Value.string nm) from rfl)
              have hmet : (MapC (xb + 1) Value.string setV met).ok wr := HM.at_ 1 rfl
              have hlk : (if false = true then Value.tuple #[((mget met nm).map setV).getD (.bool false), .bool (mhas met nm)] else ((mget met nm).map setV).getD (.bool false)) = .bool (mhas met nm) := by rw [if_neg (by decide), set_get]
              cases hb : mhas met nm with
              | true =>
                rw [hb] at hlk
                have hr := Lib.hid (hd.out.1 hb)
                have hW := wrong_calls X 11 nm wr (HM.drop (cs := [_, _, _, _] ++ m.map rowC) (F := X.mem F))
                clear HM hb hS hd hg
                go_wp2_with (first | (at_lookup; refine wpList_get keyS Try.underlying61 zeroB rfl _ _ false rfl hmet rfl nm rfl _ hlk ?_) | (go_at_call 46; refine hW.mono ?_; clear hW; rintro e w7 ⟨rfl, hm7⟩))
                refine bodyPost_ret (v := .tuple #[]) ?hr1 rfl ?_
                case hr1 =>
                  unfold results
                  go_simp
                exact ⟨rfl, .inr ⟨_, hmem.out, hr.out, hm7⟩⟩
              | false =>
                rw [hb] at hlk
                have hnr := Lib.hid (hnk.out (fun h => by rw [hd.out.2 h] at hb; cases hb))
                have HM7 := Lib.hid (HM.drop (cs := [_, _, _]))
                clear HM hb hS hd hg
                go_wp2_with (at_lookup; refine wpList_get keyS Try.underlying61 zeroB rfl _ _ false rfl hmet rfl nm rfl _ hlk ?_)
                go_roundw
                case rel => exact ⟨k + 1, by omega, by go_num, hnr, HM7.out⟩
                case measure => simp [intOf]; omega
            · rw [List.concat_eq_append] at e
              subst e
              obtain ⟨g1, c1, e1, h1, hc1⟩ := Row.at_ (HM.at_ 0 rfl) (by simp)
              have z0 : wr.cell? ⟨g1, td.length, none⟩ = some (.string x) := by
                have h := HM.at_ 0 rfl
                rw [e1] at h
                exact Row.cell h ((strs_get (l := td ++ [x]) (k := td.length) (by simp)).trans (by simp))
              obtain ⟨ln, hln⟩ : ∃ ln, td.length = ln := ⟨_, rfl⟩
              have el : (td ++ [x]).length = ln + 1 := by simp [hln]
              rw [el] at e1 h1
              rw [hln] at z0
              subst e1
              have htk : (td ++ [x]).take ln = td := by rw [← hln]; simp
              have HM1 := HM.strTake (k := ln) (by rw [el]; omega)
              rw [htk] at HM1
              have HM1 := Lib.hid HM1
              rw [el] at hg hgb
              have hgb := Lib.hid (show ln + 1 + rest P met ≤ 60000000000 from hgb.out)
              have hln := Lib.hid hln
              have hmet : (MapC (xb + 1) Value.string setV met).ok wr := HM.at_ 1 rfl
              have hlk : (if false = true then Value.tuple #[((mget met x).map setV).getD (.bool false), .bool (mhas met x)] else ((mget met x).map setV).getD (.bool false)) = .bool (mhas met x) := by rw [if_neg (by decide), set_get]
              unfold maxLen at hc1
              have hp1 : decide ((0 : Int) < ((ln + 1 : Nat) : Int)) = true := decide_eq_true (by omega)
              have hp2 : decide ((ln : Int) < ((ln + 1 : Nat) : Int)) = true := decide_eq_true (by omega)
              have hp3 : decide ((ln : Int) ≤ (c1 : Int)) = true := decide_eq_true (by omega)
              clear el htk HM
              cases hb : mhas met x with
              | true =>
                rw [hb] at hlk
                have hS2 := Lib.hid (hS.out.skip hb)
                clear hb hS
                go_wp2_with (at_lookup; refine wpList_get keyS Try.underlying61 zeroB rfl _ _ false rfl hmet rfl x rfl _ hlk ?_)
                go_roundg (ln + rest P met)
                case measure => omega
                case rel => exact ⟨met, td, by rw [hln.out]; exact Nat.le_refl _, Lib.hid (by rw [hln.out]; have := hgb.out; omega), hS2, HM1.out⟩
              | false =>
                rw [hb] at hlk
                have hS2 := Lib.hid hS.out.take
                have hrp := rest_put met x hb P
                have hg2 := Lib.hid (Nat.le_trans (show ln + (nx P x).length + rest P (mput met x ()) + 1 ≤ ln + 1 + rest P met from by omega) hg)
                have hgb2 := Lib.hid (show ln + (nx P x).length + rest P (mput met x ()) + 1 ≤ 60000000000 from by have := hgb.out; omega)
                have hvs := next_reads (L := [_, _, _, _]) HM1.out x
                obtain ⟨v, hv⟩ : ∃ v, ((mget m x).map (Prod.fst : Value × List ByteArray → Value)).getD (.slice none 0 0) = v := ⟨_, rfl⟩
                rw [hm1.out, hv] at hvs
                obtain ⟨Av, cv, ev, _⟩ := hvs
                rw [ev] at hv
                have hlk2 : (if false = true then Value.tuple #[((mget m x).map (Prod.fst : Value × List ByteArray → Value)).getD (.slice none 0 0), .bool (mhas m x)] else ((mget m x).map (Prod.fst : Value × List ByteArray → Value)).getD (.slice none 0 0)) = .slice Av (nx P x).length cv := by rw [if_neg (by decide)]; exact hv
                have hrd : Hid (∀ wx L, Mem none_ w0 (L ++ (m.map rowC ++ X.mem F)) wx → Strs wx (.slice Av (nx P x).length cv) (nx P x)) := fun wx L h => by
                  have := next_reads h x
                  rw [hm1.out, hv] at this
                  exact this
                clear hb hS hv hrp hg
                go_wp2_with (first
                  | (at_lookup; refine wpList_get keyS Try.underlying61 zeroB rfl _ _ false rfl hmet rfl x rfl _ hlk ?_)
                  | (at_mapUpdate; refine wpList_put keyS Try.underlying61 rfl _ _ _ (.inl rfl) (HM1.out.psel (L := [_, _, _, _]) [1, 0, 2, 3] 4 rfl (by decide)) rfl x rfl () rfl ?_; intro w4 hm4 hU4; have HM2 := Lib.hid (hm4.psel (L := [_, _, _, _]) [1, 0, 2, 3] 4 rfl (by decide)); have hmn : (nextC nxb m).ok w4 := HM2.out.at_ 3 rfl; have hs4 := Lib.hid (hrd.out w4 [_, _, _, _] HM2.out); clear hm4 hU4 HM1)
                  | (at_lookup; refine wpList_get keyS Try.underlying103 zeroSl rfl _ _ false rfl hmn rfl x rfl _ hlk2 ?_)
                  | (at_builtin; refine wpList_appL (xv := .slice Av (nx P x).length cv) (m := nx P x) strE rfl _ _ rfl HM2.out rfl rfl hs4.out (by have := hgb2.out; rw [hln.out]; omega) ?_; intro v5 w5 hm5 hU5; have HM3 := Lib.hid hm5; clear hm5 hU5 HM2 hmn hs4))
                go_roundg (ln + (nx P x).length + rest P (mput met x ()))
                case measure => have := hg2.out; omega
                case rel => exact ⟨mput met x (), td ++ nx P x, by rw [List.length_append, hln.out]; exact Nat.le_refl _, Lib.hid (by rw [List.length_append, hln.out]; have := hgb2.out; omega), hS2, HM3.out⟩
        · have hlt' : decide ((k : Int) < (X.nodes.length : Int)) = false := decide_eq_false (by omega)
          have hltN : decide (k < X.nodes.length) = false := decide_eq_false hlt
          have HM5 := Lib.hid (HM.drop (cs := [_] ++ m.map rowC) (F := X.mem F) |> fun h => h)
          have hno2 := Lib.hid (show ∀ x, x ∈ X.nodes → ¬ Reach P x.nd.name x.nd.name from fun x hx => by
            obtain ⟨j, hj, rfl⟩ := List.getElem_of_mem hx
            exact hno.out j hj (by omega))
          clear HM hno
          go_wp2_with fail
          go_end0
          exact ⟨rfl, .inl ⟨HM5.out, hno2.out⟩⟩
end Go.Proofs.Ytliglejbkpjamaa
