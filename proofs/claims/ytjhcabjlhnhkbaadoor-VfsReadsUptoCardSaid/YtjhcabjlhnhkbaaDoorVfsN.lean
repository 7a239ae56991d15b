/-
  Layer 03 (vfs): New that fails, alive, long.
-/
import Derived.Test.YtjhcabjlhnhkbaaDoorVfsL
import Derived.Test.YtjhcabjlhnhkbaaDoorVfsM
import Derived.Test.YtjhcabjlhnhkbaaDoorRfsA
import Derived.Test.YtjhcabjlhnhkbaaDoorPthJ
set_option linter.unusedVariables false
set_option linter.unusedSimpArgs false
set_option maxRecDepth 20000
namespace Go.Proofs.YtjhcabjlhnhkbaaDoor
open Go.RowKit

theorem newbad_calls (room : Int) (w : World) (hb : room < 0 ∨ 1048576 < room) :
    Calls Tryd.prog 7 #[.int .i64 room] w fun e w' => e = .returned (.tuple #[.pointer none, .int .i64 1]) ∧ w = w' := by
  by_cases h0 : room < 0
  · have d0 : decide (room < 0) = true := decide_eq_true h0
    go_enter Tryd.func7, Tryd.ntmps7
    go_wp2_with fail
    exact bodyPost_ret (v := .tuple #[.pointer none, .int .i64 1]) (by simp [results, Tryd.results7, go_sem]) rfl ⟨rfl, rfl⟩
  · have d0 : decide (room < 0) = false := decide_eq_false h0
    have d1 : decide (1048576 < room) = true := decide_eq_true (by omega)
    go_enter Tryd.func7, Tryd.ntmps7
    go_wp2_with fail
    exact bodyPost_ret (v := .tuple #[.pointer none, .int .i64 1]) (by simp [results, Tryd.results7, go_sem]) rfl ⟨rfl, rfl⟩
def v0 : St := newS 100
def v1 : St := (writeS v0 [97] [120]).1
def v2 : St := (writeS v1 [98] [121]).1
def v3 : St := (touchS v2 [97]).1
theorem v0_ok : OkS v0 0 := newS_ok (by decide) (by decide)
theorem v1_ok : OkS v1 1 := (writeS_goes v0_ok [97] [120] (by decide)).ok
theorem v2_ok : OkS v2 2 := (writeS_goes v1_ok [98] [121] (by decide)).ok
theorem v3_ok : OkS v3 3 := (touchS_goes v2_ok [97] (by decide)).ok
theorem v_w1 : (writeS v0 [97] [120]).2 = 0 := by decide +kernel
theorem v_w2 : (writeS v1 [98] [121]).2 = 0 := by decide +kernel
theorem v_t3 : (touchS v2 [97]).2 = 0 := by decide +kernel
theorem v_f1 : (findS v3 [47, 97]).2.1.time = 3 ∧ (findS v3 [47, 97]).2.2 = 0 := by decide +kernel
theorem v_f2 : (findS v3 [98]).2.1.time = 2 ∧ (findS v3 [98]).2.2 = 0 := by decide +kernel
theorem v_r : (readS v3 [97]).2 = ([120], 0) := by decide +kernel
theorem OkS.ck62 {s : St} {k : Int} (h : OkS s k) (hk : k ≤ 1000000) : s.clock ≤ 4611686018427387904 := by have := h.ck; omega
set_option maxHeartbeats 8000000 in
theorem valive_calls (w : World) : Calls Tryd.prog 9 #[] w fun e w' => e = .returned (.bool true) ∧ Mem none_ w [] w' := by
  have hN := new_calls 100 w (by decide) (by decide)
  go_enter Tryd.func9, Tryd.ntmps9
  go_wp2_with fail
  refine hN.mono ?_
  rintro e w1 ⟨sb, mb, rfl, HM1⟩
  clear hN
  have h1 := write_calls (s := v0) (HM1.at_ 0 rfl) v0_ok.good (v0_ok.ck62 (by decide)) [97] [120] (by decide) (by decide)
  rw [v_w1] at h1
  go_wp2_with fail
  refine h1.mono ?_
  rintro e w2 ⟨rfl, n1, HM2⟩
  have HM3 : Mem none_ w [StoreC sb mb n1 v1] w2 := Mem.call1 HM1 HM2
  clear h1 HM1 HM2
  have h2 := write_calls (HM3.at_ 0 rfl) v1_ok.good (v1_ok.ck62 (by decide)) [98] [121] (by decide) (by decide)
  rw [v_w2] at h2
  go_wp2_with fail
  refine h2.mono ?_
  rintro e w3 ⟨rfl, n2, HM4⟩
  have HM5 : Mem none_ w [StoreC sb mb n2 v2] w3 := Mem.call1 HM3 HM4
  clear h2 HM3 HM4
  have h3 := touch_calls (HM5.at_ 0 rfl) v2_ok.good (v2_ok.ck62 (by decide)) [97] (by decide)
  rw [v_t3] at h3
  go_wp2_with fail
  refine h3.mono ?_
  rintro e w4 ⟨rfl, n3, HM6⟩
  have HM7 : Mem none_ w [StoreC sb mb n3 v3] w4 := Mem.call1 HM5 HM6
  clear h3 HM5 HM6
  have h4 := stat_calls (HM7.at_ 0 rfl) [47, 97] (by decide)
  rw [v_f1.1, v_f1.2] at h4
  go_wp2_with fail
  refine h4.mono ?_
  rintro e w5 ⟨rfl, HM8⟩
  have HM9 := HM7.got HM8
  simp only [List.nil_append] at HM9
  clear h4 HM7 HM8
  have h5 := stat_calls (HM9.at_ 0 rfl) [98] (by decide)
  rw [v_f2.1, v_f2.2] at h5
  go_wp2_with fail
  refine h5.mono ?_
  rintro e w6 ⟨rfl, HMa⟩
  have HMb := HM9.got HMa
  simp only [List.nil_append] at HMb
  clear h5 HM9 HMa
  have h6 := read_calls (HMb.at_ 0 rfl) v3_ok.good [97] (by decide)
  rw [v_r] at h6
  go_wp2_with fail
  refine h6.mono ?_
  rintro e w7 ⟨rfl, n4, HMc⟩
  have HMd := (Mem.call1 HMb HMc).sel [] (by decide)
  clear h6 HMb HMc
  generalize (findS v3 [47, 97]).2.1.dir = bd at *
  generalize (findS v3 [98]).2.1.dir = be at *
  have qx := tl_of [120]
  go_wp2_with fail
  go_ret
  exact ⟨rfl, HMd⟩
def acs (l : List ActS) : List Value := l.flatMap fun a => (actC a).toList
theorem acs_get : ∀ {l : List ActS} {k : Nat} (h : k < l.length), (acs l)[k * 5]? = some (.int .u8 l[k].kind) ∧ (acs l)[k * 5 + 1]? = some (.string (ofL l[k].p)) ∧ (acs l)[k * 5 + 2]? = some (.string (ofL l[k].q)) ∧ (acs l)[k * 5 + 3]? = some (.string (ofL l[k].t)) ∧ (acs l)[k * 5 + 4]? = some (.int .i64 l[k].n)
  | [], k, h => by simp at h
  | x :: l, 0, h => ⟨rfl, rfl, rfl, rfl, rfl⟩
  | x :: l, k + 1, h => by
    have ih := acs_get (l := l) (k := k) (by simpa using h)
    have e : ∀ j, (acs (x :: l))[(k + 1) * 5 + j]? = (acs l)[k * 5 + j]? := fun j => by
      show ([.int .u8 x.kind, .string (ofL x.p), .string (ofL x.q), .string (ofL x.t), .int .i64 x.n] ++ acs l)[(k + 1) * 5 + j]? = _
      rw [List.getElem?_append_right (by simp; omega)]
      congr 1
      simp; omega
    have e0 := e 0
    rw [Nat.add_zero, Nat.add_zero] at e0
    rw [e0, e 1, e 2, e 3, e 4]
    exact ih
abbrev ActsR (w : World) (v : Value) (l : List ActS) : Prop := Sl w v 5 l.length (acs l)
/-- A script that may be. -/
structure ScrO (w : World) (v : Value) (l : List ActS) : Prop where
  r : ActsR w v l
  o : ∀ a, a ∈ l → ActO a
  p : ∀ a, a ∈ l → a.p.length ≤ 140737488351232 ∧ a.q.length ≤ 140737488351232
/-- A script that is not too long. -/
structure ScrN (l : List ActS) : Prop where
  len : l.length ≤ 600
  n : ∀ a, a ∈ l → ActN a
theorem small_take {l : List ActS} {k : Nat} (h : k < l.length) (h0 : ∀ a, a ∈ l.take k → a.p.length ≤ 3000 ∧ a.q.length ≤ 3000) (h1 : l[k].p.length ≤ 3000 ∧ l[k].q.length ≤ 3000) : ∀ a, a ∈ l.take (k + 1) → a.p.length ≤ 3000 ∧ a.q.length ≤ 3000 := by
  intro a ha
  rw [List.take_succ_eq_append_getElem h] at ha
  rcases List.mem_append.1 ha with ha | ha
  · exact h0 a ha
  · rw [List.mem_singleton.1 ha]; exact h1
set_option maxHeartbeats 8000000 in
theorem long_calls (V : Value) (l : List ActS) (w : World) (hV : ScrO w V l) :
    Calls Tryd.prog 8 #[V] w fun e w' => ∃ b, e = .returned (.bool b) ∧ (b = false → ScrN l) ∧ Mem none_ w [] w' := by
  obtain ⟨⟨A, c, rfl, g1, g2, g3, g4⟩, hV2, hV3⟩ := hV
  unfold maxLen at g2
  have HM0 := Mem.start (fp := none_) w
  have HO := Lib.hid hV2
  have HP := Lib.hid hV3
  clear hV2 hV3
  go_enter Tryd.func8, Tryd.ntmps8
  go_wp2_with fail
  go_loopw [4, 7] (fun v4 v7 wr => ∃ k : Nat, k ≤ l.length ∧ v7 = .int .i64 k ∧ Hid (∀ a, a ∈ l.take k → a.p.length ≤ 3000 ∧ a.q.length ≤ 3000) ∧ Mem none_ w [] wr) (fun _ v _ => l.length - (intOf v).toNat)
  case atStart => exact ⟨0, Nat.zero_le _, rfl, fun a ha => by simp at ha, HM0⟩
  case round =>
    clear HM0
    obtain ⟨k, hk, rfl, HA, HM⟩ := hrel
    by_cases hlt : k < l.length
    · have hlt' : decide ((k : Int) < (l.length : Int)) = true := decide_eq_true (by omega)
      have hltN : decide (k < l.length) = true := decide_eq_true hlt
      obtain ⟨b, o, rfl, hcells⟩ := g4.resolve_left (by omega)
      obtain ⟨p0, p1, p2, p3, p4⟩ := acs_get hlt
      have x0 : wr.cell? ⟨b, o + k * 5, none⟩ = some (.int .u8 l[k].kind) := Pure.cell HM.mu (hcells _ _ p0)
      have x1 : wr.cell? ⟨b, o + k * 5 + 1, none⟩ = some (.string (ofL l[k].p)) := Pure.cell HM.mu (hcells _ _ p1)
      have x2 : wr.cell? ⟨b, o + k * 5 + 2, none⟩ = some (.string (ofL l[k].q)) := Pure.cell HM.mu (hcells _ _ p2)
      have x3 : wr.cell? ⟨b, o + k * 5 + 3, none⟩ = some (.string (ofL l[k].t)) := Pure.cell HM.mu (hcells _ _ p3)
      have x4 : wr.cell? ⟨b, o + k * 5 + 4, none⟩ = some (.int .i64 l[k].n) := Pure.cell HM.mu (hcells _ _ p4)
      have HT : Hid (l[k].p.length ≤ 3000 ∧ l[k].q.length ≤ 3000 → ∀ a, a ∈ l.take (k + 1) → a.p.length ≤ 3000 ∧ a.q.length ≤ 3000) := small_take hlt HA.out
      obtain ⟨hpl, hql⟩ := HP.out _ (List.getElem_mem hlt)
      clear hcells p0 p1 p2 p3 p4 g4 HA
      generalize l[k] = a at *
      obtain ⟨kd, p, q, t, n⟩ := a
      simp only at x0 x1 x2 x3 x4 HT hpl hql
      have zp := ofL_size p
      have zq := ofL_size q
      have HMx := HM.box #[.int .u8 kd, .string (ofL p), .string (ofL q), .string (ofL t), .int .i64 n] 30
      have y1 := Blk.cell_ (HMx.at_ 0 rfl) 1
      have y2 := Blk.cell_ (HMx.at_ 0 rfl) 2
      simp only [List.getElem?_toArray, List.getElem?_cons_succ, List.getElem?_cons_zero] at y1 y2
      have HMy := Lib.hid (HMx.sel [] (by decide))
      clear HMx HM
      by_cases h1 : 3000 < p.length
      · have d1 : decide ((3000 : Int) < (p.length : Int)) = true := decide_eq_true (by omega)
        have d1' : decide (3000 < p.length) = true := decide_eq_true h1
        go_wp2_with fail
        go_ret
        exact ⟨true, rfl, (fun h => by cases h), HMy.out⟩
      · have d1 : decide ((3000 : Int) < (p.length : Int)) = false := decide_eq_false (by omega)
        have d1' : decide (3000 < p.length) = false := decide_eq_false h1
        by_cases h2 : 3000 < q.length
        · have d2 : decide ((3000 : Int) < (q.length : Int)) = true := decide_eq_true (by omega)
          have d2' : decide (3000 < q.length) = true := decide_eq_true h2
          go_wp2_with fail
          go_ret
          exact ⟨true, rfl, (fun h => by cases h), HMy.out⟩
        · have d2 : decide ((3000 : Int) < (q.length : Int)) = false := decide_eq_false (by omega)
          have d2' : decide (3000 < q.length) = false := decide_eq_false h2
          have HT2 := Lib.hid (HT.out ⟨by omega, by omega⟩)
          clear HT
          go_wp2_with fail
          go_roundw
          case rel => exact ⟨k + 1, by omega, by go_num, HT2.out, HMy.out⟩
          case measure => simp [intOf]; omega
    · have hlt' : decide ((k : Int) < (l.length : Int)) = false := decide_eq_false (by omega)
      have hltN : decide (k < l.length) = false := decide_eq_false hlt
      have e : k = l.length := by omega
      subst e
      have HA2 := HA.out
      rw [List.take_length] at HA2
      have HA3 := Lib.hid HA2
      clear HA HA2
      by_cases h6 : 600 < l.length
      · have d6 : decide ((600 : Int) < (l.length : Int)) = true := decide_eq_true (by omega)
        have d6' : decide (600 < l.length) = true := decide_eq_true h6
        go_wp2_with fail
        go_ret
        exact ⟨true, rfl, (fun h => by cases h), HM⟩
      · have d6 : decide ((600 : Int) < (l.length : Int)) = false := decide_eq_false (by omega)
        have d6' : decide (600 < l.length) = false := decide_eq_false h6
        go_wp2_with fail
        go_ret
        refine ⟨false, rfl, fun _ => ⟨by omega, fun a ha => ⟨HO.out a ha, ?_, ?_⟩⟩, HM⟩
        · have := (HA3.out a ha).1; omega
        · have := (HA3.out a ha).2; omega
end Go.Proofs.YtjhcabjlhnhkbaaDoor
