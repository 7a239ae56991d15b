/-
  The walks of the reference of layer 19: Stop, Finish.
-/
import Derived.Test.YtcbhdjpigadhmaaRefC
set_option linter.unusedVariables false
set_option linter.unusedSimpArgs false
namespace Go.Proofs.Ytcbhdjpigadhmaa
open Go.RowKit

def stopV (v : Int) : Int := if v = 0 then 4 else v
def stopUpR (l : List Int) (k : Nat) : List Int := (l.take k).map stopV ++ l.drop k
theorem stopUpR_len (l : List Int) (k : Nat) : (stopUpR l k).length = l.length := by
  unfold stopUpR; rw [List.length_append, List.length_map, List.length_take, List.length_drop]; omega
theorem stopUpR_get {l : List Int} {k : Nat} (h : k < l.length) : (stopUpR l k)[k]? = some l[k] := by
  unfold stopUpR
  rw [List.getElem?_append_right (by rw [List.length_map, List.length_take]; omega), List.length_map, List.length_take, Nat.min_eq_left (by omega), Nat.sub_self, List.getElem?_drop, Nat.add_zero, List.getElem?_eq_getElem h]
theorem stopUpR_succ {l : List Int} {k : Nat} (h : k < l.length) : stopUpR l (k + 1) = if l[k] = 0 then (stopUpR l k).set k 4 else stopUpR l k := by
  have e1 : l.drop k = l[k] :: l.drop (k + 1) := List.drop_eq_getElem_cons h
  have e2 : ((l.take k).map stopV).length = k := by rw [List.length_map, List.length_take]; omega
  unfold stopUpR
  rw [List.take_succ_eq_append_getElem h, List.map_append, e1]
  by_cases hz : l[k] = 0
  · rw [if_pos hz, List.set_append_right _ _ (by omega), e2, Nat.sub_self, List.set_cons_zero, List.append_assoc]
    simp [stopV, hz]
  · rw [if_neg hz, List.append_assoc]
    simp [stopV, hz]

set_option maxHeartbeats 4000000 in
theorem Rstop_calls (w0 : World) (F : List Chunk) (b : Nat) (GV NV LV SV : Value) (l : List Int) (w : World) (hM : Mem none_ w0 (IRow SV l :: RefB b GV NV LV SV :: F) w) (hl : l.length ≤ 512) :
    Calls Try.prog 27 #[.pointer (some ⟨b, 0, none⟩)] w fun e w' => e = .returned (.int .i64 (countR l 0)) ∧ Mem none_ w0 (IRow SV (stopUpR l l.length) :: RefB b GV NV LV SV :: F) w' := by
  have e0 : stopUpR l 0 = l := by simp [stopUpR]
  have HM0 : Mem none_ w0 (IRow SV (stopUpR l 0) :: RefB b GV NV LV SV :: F) w := by rw [e0]; exact hM
  obtain ⟨SA, sc, rfl, n1, n2⟩ := Row.any_ hM.head
  clear e0 hM
  unfold maxLen at n2
  go_enter Try.func27, Try.ntmps27
  go_wp2_with fail
  go_loopw [3, 4] (fun v3 v4 wr => ∃ k : Nat, k ≤ l.length ∧ v4 = .int .i64 k ∧ ∃ q : Nat, q ≤ k ∧ v3 = .int .i64 q ∧ Hid ((l.take k).count 0 = q) ∧ Mem none_ w0 (IRow (.slice SA l.length sc) (stopUpR l k) :: RefB b GV NV LV (.slice SA l.length sc) :: F) wr) (fun _ i _ => l.length - (intOf i).toNat)
  case atStart => exact ⟨0, Nat.zero_le _, rfl, 0, Nat.le_refl _, rfl, by unfold Hid; simp, HM0⟩
  case round =>
    clear HM0
    obtain ⟨k, hk, rfl, q, hq, rfl, hc, HM⟩ := hrel
    have hB : (RefB b GV NV LV (.slice SA l.length sc)).ok wr := HM.at_ 1 rfl
    have c2 : wr.cell? ⟨b, 3, none⟩ = some (.slice SA l.length sc) := by rw [Blk.cell_ hB]; rfl
    clear hB
    by_cases hlt : k < l.length
    · have hlt' : decide ((k : Int) < (l.length : Int)) = true := decide_eq_true (by omega)
      have hsl := stopUpR_len l k
      obtain ⟨sb, sc', e, _, _⟩ := Row.at_ HM.head (by omega)
      have eA : SA = some ⟨sb, 0, none⟩ := by injection e
      subst eA
      clear e
      have hks : k < (stopUpR l k).length := by omega
      have y1 := IRow.cell HM.head hsl hks
      have ex : (stopUpR l k)[k] = l[k] := by
        have h := stopUpR_get hlt
        rw [List.getElem?_eq_getElem hks] at h
        exact Option.some.inj h
      rw [ex] at y1
      have y2 := IRow.frozen HM.head hsl k
      have hcs : (l.take (k + 1)).count 0 = (l.take k).count 0 + if l[k] = 0 then 1 else 0 := by
        rw [List.take_succ_eq_append_getElem hlt, List.count_append, List.count_singleton]
        by_cases h : l[k] = 0 <;> simp [h]
      rw [hc.out] at hcs
      have hss := stopUpR_succ hlt
      by_cases h : l[k] = 0
      · rw [if_pos h] at hcs hss
        have HM3 := HM.irowSet' hsl hlt (4 : Int)
        rw [← hss] at HM3
        have Hcs := Lib.hid hcs
        rw [h] at y1
        clear hcs h hss ex hks hsl
        go_wp2_with fail
        go_roundw
        case rel => exact ⟨k + 1, by omega, by go_num, q + 1, by omega, by go_num, Hcs, HM3⟩
        case measure => simp [intOf]; omega
      · rw [if_neg h] at hss
        rw [if_neg h, Nat.add_zero] at hcs
        have Hcs := Lib.hid hcs
        have d1 : (l[k] == 0) = false := beq_eq_false_iff_ne.2 h
        have d2 : decide (l[k] = 0) = false := decide_eq_false h
        have HM3 := HM
        rw [← hss] at HM3
        clear hcs h hss ex hks hsl
        generalize l[k] = y at *
        go_wp2_with fail
        go_roundw
        case rel => exact ⟨k + 1, by omega, by go_num, q, by omega, by go_num, Hcs, HM3⟩
        case measure => simp [intOf]; omega
    · have e : k = l.length := by omega
      subst e
      have HR : Hid (countR l 0 = (q : Int)) := by
        have := hc.out
        rw [List.take_length] at this
        unfold Hid countR; rw [this]
      go_wp2_with fail
      go_ret
      exact ⟨by rw [HR.out]; rfl, HM⟩
end Go.Proofs.Ytcbhdjpigadhmaa
