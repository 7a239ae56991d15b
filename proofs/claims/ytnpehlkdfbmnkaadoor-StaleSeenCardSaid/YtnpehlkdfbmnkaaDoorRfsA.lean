/-
  The document's store: its memory; Where, At, Used, home, Stat.
  The document's store: Used, home, Stat.
  The document's store: set, note.
-/
import Derived.Test.YtnpehlkdfbmnkaaDoorVfsE
set_option linter.unusedVariables false
set_option linter.unusedSimpArgs false
namespace Go.Proofs.YtnpehlkdfbmnkaaDoor
section
set_option maxRecDepth 20000
open Go.RowKit

/-- A row of files. -/
def fls (l : List (List UInt8 × VF)) : List Value := l.flatMap fun x => [.string (ofL x.1), .string (ofL x.2.text), .int .i64 x.2.time, .bool x.2.dir]
abbrev FRow (v : Value) (l : List (List UInt8 × VF)) : Chunk := Row 129 4 v l.length (fls l)
theorem fls_get : ∀ {l : List (List UInt8 × VF)} {k : Nat} (h : k < l.length),
    (fls l)[k * 4]? = some (.string (ofL l[k].1)) ∧ (fls l)[k * 4 + 1]? = some (.string (ofL l[k].2.text)) ∧ (fls l)[k * 4 + 2]? = some (.int .i64 l[k].2.time) ∧ (fls l)[k * 4 + 3]? = some (.bool l[k].2.dir)
  | [], k, h => by simp at h
  | x :: l, 0, h => ⟨rfl, rfl, rfl, rfl⟩
  | x :: l, k + 1, h => by
    have h' : k < l.length := by simpa using h
    obtain ⟨a, b, c, d⟩ := fls_get h'
    have e : fls (x :: l) = [.string (ofL x.1), .string (ofL x.2.text), .int .i64 x.2.time, .bool x.2.dir] ++ fls l := rfl
    have e0 : (k + 1) * 4 = 4 + k * 4 := by omega
    rw [e, e0]
    simp only [List.getElem_cons_succ]
    refine ⟨?_, ?_, ?_, ?_⟩
    · rw [List.getElem?_append_right (by simp)]; simpa using a
    · rw [List.getElem?_append_right (by simp; omega)]; simpa [Nat.add_assoc] using b
    · rw [List.getElem?_append_right (by simp; omega)]; simpa [Nat.add_assoc] using c
    · rw [List.getElem?_append_right (by simp; omega)]; simpa [Nat.add_assoc] using d
/-- The document's store. -/
def RefF (rb : Nat) (lv nv : Value) (s : St) : List Chunk :=
  [Blk rb 81 #[.int .i64 s.room, .int .i64 s.clock, lv, .bool s.noting, nv], FRow lv s.files, NRow nv s.notes]
abbrev RefC (rb : Nat) (lv nv : Value) (s : St) : Chunk := Many (RefF rb lv nv s)

section
variable {rb : Nat} {lv nv : Value} {s : St} {w : World}
theorem RefC.mem (h : (RefC rb lv nv s).ok w) : Mem (RefC rb lv nv s).fp w (RefF rb lv nv s) w := by
  have := (Mem.from h).open_
  simpa using this
theorem RefC.blk (h : (RefC rb lv nv s).ok w) : (Blk rb 81 #[.int .i64 s.room, .int .i64 s.clock, lv, .bool s.noting, nv]).ok w := (RefC.mem h).at_ 0 rfl
theorem RefC.row (h : (RefC rb lv nv s).ok w) : (FRow lv s.files).ok w := (RefC.mem h).at_ 1 rfl
theorem RefC.nrow (h : (RefC rb lv nv s).ok w) : (NRow nv s.notes).ok w := (RefC.mem h).at_ 2 rfl
theorem RefC.c0 (h : (RefC rb lv nv s).ok w) : w.cell? ⟨rb, 0, none⟩ = some (.int .i64 s.room) := by rw [Blk.cell_ (RefC.blk h)]; rfl
theorem RefC.c1 (h : (RefC rb lv nv s).ok w) : w.cell? ⟨rb, 1, none⟩ = some (.int .i64 s.clock) := by rw [Blk.cell_ (RefC.blk h)]; rfl
theorem RefC.c2 (h : (RefC rb lv nv s).ok w) : w.cell? ⟨rb, 2, none⟩ = some lv := by rw [Blk.cell_ (RefC.blk h)]; rfl
theorem RefC.c3 (h : (RefC rb lv nv s).ok w) : w.cell? ⟨rb, 3, none⟩ = some (.bool s.noting) := by rw [Blk.cell_ (RefC.blk h)]; rfl
theorem RefC.c4 (h : (RefC rb lv nv s).ok w) : w.cell? ⟨rb, 4, none⟩ = some nv := by rw [Blk.cell_ (RefC.blk h)]; rfl
theorem RefC.keep {w' : World} (h : (RefC rb lv nv s).ok w) (hm : Pure w w') : Mem (RefC rb lv nv s).fp w [RefC rb lv nv s] w' := (Mem.from h).keep hm

set_option maxHeartbeats 2000000 in
theorem rwhere_calls (p : List UInt8) (w : World) (hp : p.length ≤ 150000) :
    Calls Tryd.prog 22 #[.string (ofL p)] w fun e w' =>
      e = .returned (.tuple #[.string (ofL (whereQ p)), .bool (whereL p).isSome]) ∧ Mem none_ w [] w' := by
  have hcl := clean_len (47 :: p)
  rw [List.length_cons] at hcl
  have hC := rclean_calls (47 :: p) w (by rw [List.length_cons]; omega)
  have hap : ∀ wx, (Op.stringOp .add ⟨#[47]⟩ (ofL p)).run Tryd.prog wx = .ok (.string (ofL (47 :: p))) wx := add_run [47] p (by simp; omega)
  have hPa := fun wx => rparts_calls (cleanL (47 :: p)) wx (by omega)
  have hlw := Nat.le_trans (len_wt (partsL (cleanL (47 :: p)))) (wt_parts (cleanL (47 :: p)))
  have hlm : ∀ x, x ∈ partsL (cleanL (47 :: p)) → x.length ≤ 1000000 := fun x hx => by
    have := wt_mem hx
    have := wt_parts (cleanL (47 :: p))
    omega
  have HN : Hid (∀ x, x ∈ partsL (cleanL (47 :: p)) → 255 < x.length → whereQ p = [] ∧ (whereL p).isSome = false) := fun x hx hl => by
    have : whereL p = none := by
      unfold whereL
      rw [if_neg]
      intro hc
      have := of_decide_eq_true (List.all_eq_true.1 hc x hx)
      omega
    unfold whereQ
    rw [this]
    exact ⟨rfl, rfl⟩
  have HY : Hid ((∀ x, x ∈ partsL (cleanL (47 :: p)) → x.length ≤ 255) → whereQ p = cleanL (47 :: p) ∧ (whereL p).isSome = true) := fun hl => by
    have : whereL p = some (cleanL (47 :: p)) := by
      unfold whereL
      rw [if_pos]
      exact List.all_eq_true.2 (fun x hx => decide_eq_true (hl x hx))
    unfold whereQ
    rw [this]
    exact ⟨rfl, rfl⟩
  generalize whereQ p = Q at *
  generalize (whereL p).isSome = E at *
  generalize partsL (cleanL (47 :: p)) = L at *
  generalize cleanL (47 :: p) = C at *
  go_enter Tryd.func22, Tryd.ntmps22
  go_wp2_with fail
  refine hC.mono ?_
  rintro e w1 ⟨rfl, HM1⟩
  clear hC hap
  have hPb := hPa w1
  clear hPa
  go_wp2_with fail
  refine hPb.mono ?_
  rintro e w2 ⟨v, rfl, HM2⟩
  clear hPb
  have HM3 := (HM1.got HM2).sel [] (by decide)
  obtain ⟨A, c, rfl, h1, h2, h3, h4⟩ := Row.sl (HM2.at_ 0 rfl)
  clear HM1 HM2
  unfold maxLen at h2
  go_wp2_with fail
  go_loop [5] (fun v5 => ∃ k : Nat, k ≤ L.length ∧ v5 = .int .i64 k ∧ ∀ x, x ∈ L.take k → x.length ≤ 255) (fun v => L.length - (intOf v).toNat)
  case atStart => exact ⟨0, Nat.zero_le _, rfl, fun x hx => by cases hx⟩
  case round =>
    obtain ⟨k, hk, rfl, hall⟩ := hrel
    by_cases hlt : k < L.length
    · have hlt' : decide ((k : Int) < (L.length : Int)) = true := decide_eq_true (by omega)
      obtain ⟨b, o, rfl, hcells⟩ := h4.resolve_left (by omega)
      have hx0 : w2.cell? ⟨b, o + k, none⟩ = some (.string (ofL L[k])) := hcells k _ (tx_get hlt)
      have hxs := ofL_size L[k]
      have hxm := hlm L[k] (List.getElem_mem hlt)
      have HS : Hid (L.take (k + 1) = L.take k ++ [L[k]]) := List.take_succ_eq_append_getElem hlt
      have Hm : Hid (L[k] ∈ L) := List.getElem_mem hlt
      clear hcells h4 h3 hlm
      generalize L[k] = x at *
      by_cases hx : 255 < x.length
      · have dx : decide ((255 : Int) < (x.length : Int)) = true := decide_eq_true (by omega)
        go_wp2_with fail
        refine bodyPost_ret (v := .tuple #[.string ⟨#[]⟩, .bool false]) (by simp [results, Tryd.results22, go_sem]) rfl ⟨?_, HM3⟩
        rw [(HN.out x Hm.out hx).1, (HN.out x Hm.out hx).2]; rfl
      · have dx : decide ((255 : Int) < (x.length : Int)) = false := decide_eq_false (by omega)
        go_wp2_with fail
        go_round
        case rel =>
          refine ⟨k + 1, by omega, by go_num, fun y hy => ?_⟩
          rw [HS.out] at hy
          rcases List.mem_append.1 hy with hy | hy
          · exact hall y hy
          · rw [List.mem_singleton.1 hy]; omega
        case measure => simp [intOf]; omega
    · have e : k = L.length := by omega
      subst e
      rw [List.take_length] at hall
      have HT := HY.out hall
      obtain ⟨q1, q2⟩ := HT
      have Q1 := Lib.hid q1
      have Q2 := Lib.hid q2
      clear hall q1 q2
      go_wp2_with fail
      refine bodyPost_ret (v := .tuple #[.string (ofL C), .bool true]) (by simp [results, Tryd.results22, go_sem]) rfl ⟨?_, HM3⟩
      rw [Q1.out, Q2.out]

def idxS (s : St) (q : List UInt8) : Option Nat := s.files.findIdx? (fun p => decide (q = p.1))
def atS (s : St) (q : List UInt8) : Int := match idxS s q with | none => -1 | some i => (i : Int)
theorem idx_some {s : St} {q : List UInt8} {i : Nat} (h : idxS s q = some i) : ∃ hi : i < s.files.length, mget s.files q = some s.files[i].2 ∧ s.files[i].1 = q := by
  obtain ⟨hi, h1, h2⟩ := List.findIdx?_eq_some_iff_getElem.1 h
  refine ⟨hi, ?_, (of_decide_eq_true h1).symm⟩
  rw [mget_find]
  unfold idxS at h
  rw [h]
  simp [hi]
theorem idx_none {s : St} {q : List UInt8} (h : idxS s q = none) : mget s.files q = none := by
  rw [mget_find]
  unfold idxS at h
  rw [h]; rfl
theorem str_eq (a b : List UInt8) : ((ofL a).toList == (ofL b).toList) = decide (a = b) := by
  rw [ByteArray.toList_eq, ByteArray.toList_eq]
  show (a == b) = _
  rw [Bool.eq_iff_iff]; simp
set_option maxHeartbeats 2000000 in
theorem at_calls (h : (RefC rb lv nv s).ok w) (hG : s.files.length ≤ 512) (q : List UInt8) :
    Calls Tryd.prog 66 #[ptr rb, .string (ofL q)] w fun e w' => e = .returned (.int .i64 (atS s q)) ∧ w = w' := by
  have c2 := RefC.c2 h
  obtain ⟨A, c, rfl, h1, h2, h3, h4⟩ := Row.sl (RefC.row h)
  unfold maxLen at h2
  clear h
  go_enter Tryd.func66, Tryd.ntmps66
  go_wp2_with fail
  go_loop [5] (fun v5 => ∃ k : Nat, k ≤ s.files.length ∧ v5 = .int .i64 k ∧ ∀ j (hj : j < s.files.length), j < k → ¬ q = (s.files[j]).1) (fun v => s.files.length - (intOf v).toNat)
  case atStart => exact ⟨0, Nat.zero_le _, rfl, fun j hj h => by omega⟩
  case round =>
    obtain ⟨k, hk, rfl, hall⟩ := hrel
    have hAll := Lib.hid hall
    clear hall
    by_cases hlt : k < s.files.length
    · have hlt' : decide ((k : Int) < (s.files.length : Int)) = true := decide_eq_true (by omega)
      obtain ⟨b, o, rfl, hcells⟩ := h4.resolve_left (by omega)
      have hx0 : w.cell? ⟨b, o + k * 4, none⟩ = some (.string (ofL s.files[k].1)) := hcells _ _ (fls_get hlt).1
      have hse := str_eq s.files[k].1 q
      clear hcells h4 h3
      by_cases hx : s.files[k].1 = q
      · have HE : Hid (atS s q = (k : Int)) := by
          unfold Hid atS
          have : idxS s q = some k := List.findIdx?_eq_some_iff_getElem.2 ⟨hlt, decide_eq_true hx.symm, fun j hj => by rw [decide_eq_true_eq]; exact hAll.out j (Nat.lt_trans hj hlt) hj⟩
          rw [this]
        rw [decide_eq_true hx] at hse
        clear hAll hx
        go_wp2_with fail
        go_ret
        exact ⟨by rw [HE.out]; rfl, rfl⟩
      · have Hx := Lib.hid hx
        rw [decide_eq_false hx] at hse
        clear hx
        go_wp2_with fail
        go_round
        case rel =>
          refine ⟨k + 1, by omega, by go_num, fun j hj hjk => ?_⟩
          rcases Nat.lt_or_eq_of_le (Nat.le_of_lt_succ hjk) with h | h
          · exact hAll.out j hj h
          · subst h; exact fun e => Hx.out e.symm
        case measure => simp [intOf]; omega
    · have e : k = s.files.length := by omega
      have hlt' : decide ((k : Int) < (s.files.length : Int)) = false := decide_eq_false (by omega)
      have HE : Hid (atS s q = -1) := by
        unfold Hid atS
        have : idxS s q = none := by
          unfold idxS
          rw [List.findIdx?_eq_none_iff]
          intro x hx
          obtain ⟨j, hj, rfl⟩ := List.getElem_of_mem hx
          exact decide_eq_false (hAll.out j hj (by omega))
        rw [this]
      clear hAll
      go_wp2_with fail
      go_ret
      exact ⟨by rw [HE.out]; rfl, rfl⟩
end
end
section
set_option maxRecDepth 20000
open Go.RowKit

section
variable {rb : Nat} {lv nv : Value} {s : St} {w : World}
theorem sum_take (l : List (List UInt8 × VF)) (k : Nat) (h : k < l.length) : sumT (l.take (k + 1)) = sumT (l.take k) + l[k].2.text.length := by
  rw [List.take_succ_eq_append_getElem h]
  unfold sumT
  rw [List.map_append, List.sum_append]; rfl
theorem sum_take_le (l : List (List UInt8 × VF)) (k : Nat) : sumT (l.take k) ≤ sumT l := by
  have : sumT (l.take k) + sumT (l.drop k) = sumT l := by
    unfold sumT
    rw [← List.sum_append, ← List.map_append, List.take_append_drop]
  omega
set_option maxHeartbeats 2000000 in
theorem used_calls (h : (RefC rb lv nv s).ok w) (hl : s.files.length ≤ 512) (hs : sumT s.files ≤ 1048576) :
    Calls Tryd.prog 67 #[ptr rb] w fun e w' => e = .returned (.int .i64 (sumT s.files)) ∧ w = w' := by
  have c2 := RefC.c2 h
  obtain ⟨A, c, rfl, h1, h2, h3, h4⟩ := Row.sl (RefC.row h)
  unfold maxLen at h2
  clear h
  go_enter Tryd.func67, Tryd.ntmps67
  go_wp2_with fail
  go_loop [3, 4] (fun v3 v4 => ∃ k : Nat, k ≤ s.files.length ∧ v4 = .int .i64 k ∧ v3 = .int .i64 (sumT (s.files.take k))) (fun _ v => s.files.length - (intOf v).toNat)
  case atStart => exact ⟨0, Nat.zero_le _, rfl, rfl⟩
  case round =>
    obtain ⟨k, hk, rfl, rfl⟩ := hrel
    by_cases hlt : k < s.files.length
    · have hlt' : decide ((k : Int) < (s.files.length : Int)) = true := decide_eq_true (by omega)
      obtain ⟨b, o, rfl, hcells⟩ := h4.resolve_left (by omega)
      have hx0 : w.cell? ⟨b, o + k * 4 + 1, none⟩ = some (.string (ofL s.files[k].2.text)) := hcells _ _ (fls_get hlt).2.1
      have hz := ofL_size s.files[k].2.text
      have e1 := sum_take s.files k hlt
      have e2 := sum_take_le s.files (k + 1)
      have E1 := Lib.hid e1
      have hb1 : (sumT (s.files.take k)) ≤ 1048576 := by omega
      have hb2 : s.files[k].2.text.length ≤ 1048576 := by omega
      clear hcells h4 h3 e1 e2
      generalize sumT (s.files.take k) = a at *
      generalize s.files[k].2.text = x at *
      have hw : IntKind.i64.wrap ((a : Int) + (x.length : Int)) = ((a + x.length : Nat) : Int) := (IntWalk.i64_in _ (by omega)).trans (by omega)
      go_wp2_with fail
      go_round
      case rel => exact ⟨k + 1, by omega, by go_num, by rw [E1.out, Int.natCast_add]⟩
      case measure => simp [intOf]; omega
    · have e : k = s.files.length := by omega
      subst e
      rw [List.take_length]
      go_wp2_with fail
      go_ret
      exact ⟨rfl, rfl⟩

theorem at_mget (s : St) (q : List UInt8) : (atS s q = -1 ∧ mget s.files q = none) ∨ ∃ i : Nat, ∃ h : i < s.files.length, atS s q = i ∧ mget s.files q = some s.files[i].2 ∧ s.files[i].1 = q := by
  unfold atS
  cases hi : idxS s q with
  | none => exact .inl ⟨rfl, idx_none hi⟩
  | some i => obtain ⟨h1, h2, h3⟩ := idx_some hi; exact .inr ⟨i, h1, rfl, h2, h3⟩

set_option maxHeartbeats 2000000 in
theorem rhome_calls (h : (RefC rb lv nv s).ok w) (hl : s.files.length ≤ 512) (q : List UInt8) (hq : q.length ≤ 140737488351232) :
    Calls Tryd.prog 65 #[ptr rb, .string (ofL q)] w fun e w' => e = .returned (.int .i64 (homeS s q)) ∧ w = w' := by
  have hD := rdir_calls q w hq
  have hA := at_calls h hl (dirL q)
  have c2 := RefC.c2 h
  obtain ⟨A, c, rfl, h1, h2, h3, h4⟩ := Row.sl (RefC.row h)
  unfold maxLen at h2
  have hM := at_mget s (dirL q)
  obtain ⟨R, hR⟩ : ∃ R, homeS s q = R := ⟨_, rfl⟩
  rw [hR]
  unfold homeS at hR
  have HR := Lib.hid hR
  clear hR h
  generalize atS s (dirL q) = i0 at *
  go_enter Tryd.func65, Tryd.ntmps65
  go_wp2_with fail
  refine hD.mono ?_
  rintro e w1 ⟨rfl, rfl⟩
  clear hD
  go_wp2_with fail
  refine hA.mono ?_
  rintro e w1 ⟨rfl, rfl⟩
  clear hA
  rcases hM with ⟨rfl, hm⟩ | ⟨i, hi, rfl, hm, _⟩
  · have HE : Hid (R = 6) := by unfold Hid; rw [← HR.out, hm]
    clear hm HR
    go_wp2_with fail
    go_ret
    exact ⟨by rw [HE.out]; rfl, rfl⟩
  · obtain ⟨b, o, rfl, hcells⟩ := h4.resolve_left (by omega)
    have hx0 : w.cell? ⟨b, o + i * 4 + 3, none⟩ = some (.bool s.files[i].2.dir) := hcells _ _ (fls_get hi).2.2.2
    have hi0 : decide ((i : Int) < 0) = false := decide_eq_false (by omega)
    have hi1 : decide ((i : Int) < (s.files.length : Int)) = true := decide_eq_true (by omega)
    have HE : Hid (R = if s.files[i].2.dir then 0 else 8) := by unfold Hid; rw [← HR.out, hm]
    clear hcells h4 h3 hm HR
    generalize s.files[i].2.dir = d at *
    cases d with
    | true =>
      have HE2 : Hid (R = 0) := HE.out
      clear HE
      go_wp2_with fail
      go_ret
      exact ⟨by rw [HE2.out]; rfl, rfl⟩
    | false =>
      have HE2 : Hid (R = 8) := HE.out
      clear HE
      go_wp2_with fail
      go_ret
      exact ⟨by rw [HE2.out]; rfl, rfl⟩

theorem findS_at {s : St} {p q : List UInt8} (h : whereL p = some q) : (atS s q = -1 ∧ findS s p = (q, VF.zero, 6)) ∨ ∃ i : Nat, ∃ h : i < s.files.length, atS s q = i ∧ findS s p = (q, s.files[i].2, 0) := by
  unfold findS
  rw [h]
  rcases at_mget s q with ⟨e1, e2⟩ | ⟨i, hi, e1, e2, _⟩
  · exact .inl ⟨e1, by simp [e2]⟩
  · exact .inr ⟨i, hi, e1, by simp [e2]⟩
set_option maxHeartbeats 4000000 in
theorem rstat_calls (h : (RefC rb lv nv s).ok w) (hl : s.files.length ≤ 512) (p : List UInt8) (hp : p.length ≤ 150000) :
    Calls Tryd.prog 44 #[ptr rb, .string (ofL p)] w fun e w' =>
      e = .returned (.tuple #[.int .i64 (findS s p).2.1.time, .bool (findS s p).2.1.dir, .int .i64 (findS s p).2.2]) ∧ Mem none_ w [] w' := by
  have hW := rwhere_calls p w hp
  obtain ⟨R, hR⟩ : ∃ R, findS s p = R := ⟨_, rfl⟩
  rw [hR]
  have HR := Lib.hid hR
  clear hR
  go_enter Tryd.func44, Tryd.ntmps44
  go_wp2_with fail
  refine hW.mono ?_
  rintro e w1 ⟨rfl, HM1⟩
  clear hW
  have h1 := Pure.chunk HM1.mu h
  cases hq : whereL p with
  | none =>
    have HE : Hid (R = ([], VF.zero, 1)) := by unfold Hid; rw [← HR.out]; unfold findS; rw [hq]
    have e1 : (none : Option (List UInt8)).isSome = false := rfl
    rw [e1]
    clear h HR h1
    go_wp2_with fail
    refine bodyPost_ret (v := .tuple #[.int .i64 0, .bool false, .int .i64 1]) (by simp [results, Tryd.results44, go_sem]) rfl ⟨?_, HM1⟩
    rw [HE.out]; rfl
  | some q =>
    have e1 : (some q).isSome = true := rfl
    have e2 : whereQ p = q := by unfold whereQ; rw [hq]; rfl
    rw [e1, e2]
    have hA := at_calls h1 hl q
    have hF := findS_at (s := s) hq
    have c2 := RefC.c2 h1
    obtain ⟨A, c, rfl, g1, g2, g3, g4⟩ := Row.sl (RefC.row h1)
    unfold maxLen at g2
    rw [HR.out] at hF
    clear h h1 e1 e2 HR
    generalize atS s q = i0 at *
    go_wp2_with fail
    refine hA.mono ?_
    rintro e w2 ⟨rfl, rfl⟩
    clear hA
    rcases hF with ⟨rfl, hf⟩ | ⟨i, hi, rfl, hf⟩
    · have HE := Lib.hid hf
      clear hf
      go_wp2_with fail
      refine bodyPost_ret (v := .tuple #[.int .i64 0, .bool false, .int .i64 6]) (by simp [results, Tryd.results44, go_sem]) rfl ⟨?_, HM1⟩
      rw [HE.out]; rfl
    · obtain ⟨b, o, rfl, hcells⟩ := g4.resolve_left (by omega)
      have hx0 : w1.drew.cell? ⟨b, o + i * 4 + 2, none⟩ = some (.int .i64 s.files[i].2.time) := hcells _ _ (fls_get hi).2.2.1
      have hx1 : w1.drew.cell? ⟨b, o + i * 4 + 3, none⟩ = some (.bool s.files[i].2.dir) := hcells _ _ (fls_get hi).2.2.2
      have hx2 : w1.drew.cell? ⟨rb, 2, none⟩ = some (.slice (some ⟨b, o, none⟩) s.files.length c) := c2
      have hi0 : decide ((i : Int) < 0) = false := decide_eq_false (by omega)
      have hi1 : decide ((i : Int) < (s.files.length : Int)) = true := decide_eq_true (by omega)
      have HE := Lib.hid hf
      have HM2 := HM1.drew
      clear hcells g4 g3 hf
      generalize s.files[i].2 = f at *
      go_wp2_with fail
      clear HM1 c2
      refine wp_plan [] (S := fun w' => w' = World.drew _) [(.pure, 0), (.pure, 1), (.pure, 2), (.load, 3), (.pure, 4), (.pure, 5), (.pure, 6), (.load, 7), (.pure, 8), (.pure, 9), (.pure, 10), (.load, 11), (.pure, 12), (.pure, 13), (.pure, 14), (.load, 15), (.pure, 16), (.pure, 17), (.pure, 18)] (by kernel_rfl) rfl (by kernel_rfl) rfl (fun _ _ _ _ _ h => h) rfl ?_
      generalize World.drew _ = W at *
      repeat (first | (refine plan_pure (v := ?_) (a' := ?_) rfl rfl rfl ?_ ?_ ?_; rotate_left 2; (focus (intro w'; go_simp; with_reducible rfl)); (focus (simp only [Act.put, List.setIfInBounds_toArray, List.set_cons_zero, List.set_cons_succ]; rfl))) | (refine plan_load (v := ?_) (a' := ?_) rfl rfl rfl ?_ ?_ ?_; rotate_left 2; (focus (intro w' hw'; rw [hw']; go_simp; with_reducible rfl)); (focus (simp only [Act.put, List.setIfInBounds_toArray, List.set_cons_zero, List.set_cons_succ]; rfl))) | (refine plan_skip rfl rfl (by decide +kernel) (by simp only [Act.put, List.setIfInBounds_toArray, List.set_cons_zero, List.set_cons_succ]; rfl) ?_))
      refine plan_done ?_
      go_wp2_with fail
      refine bodyPost_ret (v := .tuple #[.int .i64 f.time, .bool f.dir, .int .i64 0]) (by simp [results, Tryd.results44, go_sem]) rfl ⟨?_, HM2⟩
      rw [HE.out]; rfl
end
end
section
set_option maxRecDepth 20000
open Go.RowKit

theorem addr_add (b j : Nat) : (⟨b, 0, none⟩ : Addr).add j = ⟨b, j, none⟩ := by unfold Addr.add; split <;> simp_all
theorem filE : Elem Tryd.prog 79 129 4 48 := Elem.of (z := .agg #[.string ⟨#[]⟩, .string ⟨#[]⟩, .int .i64 0, .bool false]) Tryd.underlying79 (by kernel_rfl) rfl (by decide) (by decide)
theorem fls_len (l : List (List UInt8 × VF)) : (fls l).length = l.length * 4 := by
  induction l with
  | nil => rfl
  | cons x l ih =>
    have e : fls (x :: l) = [.string (ofL x.1), .string (ofL x.2.text), .int .i64 x.2.time, .bool x.2.dir] ++ fls l := rfl
    rw [e, List.length_append, ih]; simp; omega
theorem fls_app (l : List (List UInt8 × VF)) (x : List UInt8 × VF) : fls (l ++ [x]) = fls l ++ [.string (ofL x.1), .string (ofL x.2.text), .int .i64 x.2.time, .bool x.2.dir] := by simp [fls]
theorem fls_one (l : List (List UInt8 × VF)) : ∀ u ∈ fls l, u.oneCell' = true := by
  intro u hu
  obtain ⟨x, _, hx⟩ := List.mem_flatMap.1 hu
  simp at hx
  rcases hx with rfl | rfl | rfl | rfl <;> rfl
theorem fls_set (x : List UInt8 × VF) : ∀ (l : List (List UInt8 × VF)) (i : Nat), i < l.length →
    fls (l.set i x) = ((((fls l).set (i * 4) (.string (ofL x.1))).set (i * 4 + 1) (.string (ofL x.2.text))).set (i * 4 + 2) (.int .i64 x.2.time)).set (i * 4 + 3) (.bool x.2.dir)
  | [], i, h => by simp at h
  | y :: l, 0, h => rfl
  | y :: l, i + 1, h => by
    have ih := fls_set x l i (by simpa using h)
    have e : ∀ z (m : List (List UInt8 × VF)), fls (z :: m) = [.string (ofL z.1), .string (ofL z.2.text), .int .i64 z.2.time, .bool z.2.dir] ++ fls m := fun _ _ => rfl
    rw [List.set_cons_succ, e, e, ih]
    have e4 : (i + 1) * 4 = i * 4 + 1 + 1 + 1 + 1 := by omega
    rw [e4]
    rfl
theorem mput_idx {s : St} {q : List UInt8} (v : VF) : (atS s q = -1 → mput s.files q v = s.files ++ [(q, v)]) ∧ (∀ i : Nat, atS s q = i → mput s.files q v = s.files.set i (q, v)) := by
  unfold atS mput idxS
  cases h : s.files.findIdx? (fun p => decide (q = p.1)) with
  | none => exact ⟨fun _ => rfl, fun i hi => by have : (-1 : Int) = i := hi; omega⟩
  | some i => exact ⟨fun hi => by have : (i : Int) = -1 := hi; omega, fun j hj => by have hj' : (i : Int) = j := hj; have : i = j := by omega
                                                                                     subst this; rfl⟩
section
variable {rb : Nat} {lv nv : Value} {s : St} {w : World}
set_option maxHeartbeats 8000000 in
theorem rset_calls (h : (RefC rb lv nv s).ok w) (hl : s.files.length ≤ 512) (hpos : 0 < s.files.length) (hc0 : 0 ≤ s.clock) (hck : s.clock ≤ 4611686018427387904) (q : List UInt8) (f : VF) :
    Calls Tryd.prog 68 #[ptr rb, .agg #[.string (ofL q), .string (ofL f.text), .int .i64 f.time, .bool f.dir]] w fun e w' => e = .returned (.tuple #[]) ∧ ∃ lv', Mem (RefC rb lv nv s).fp w [RefC rb lv' nv (putS s q f)] w' := by
  obtain ⟨ft, fm, fd⟩ := f
  have hM := at_mget s q
  have hP := mput_idx (s := s) (q := q) ⟨ft, s.clock + 1, fd⟩
  obtain ⟨M, hMe⟩ : ∃ M, mput s.files q ⟨ft, s.clock + 1, fd⟩ = M := ⟨_, rfl⟩
  rw [hMe] at hP
  have hS : Hid (putS s q ⟨ft, fm, fd⟩ = { s with clock := s.clock + 1, used := s.used + ((ft.length : Int) - ((txtS s q).length : Int)), files := M }) := by unfold Hid; rw [← hMe]; rfl
  obtain ⟨s', hs'⟩ : ∃ s', putS s q ⟨ft, fm, fd⟩ = s' := ⟨_, rfl⟩
  rw [hs'] at hS ⊢
  clear hs' hMe
  simp only
  obtain ⟨b, c, rfl, g1, g2⟩ := Row.at_ (RefC.row h) hpos
  unfold maxLen at g2
  have HM0 := (RefC.mem h).box #[.string (ofL q), .string (ofL ft), .int .i64 fm, .bool fd] 129
  clear h
  have x1 := Blk.cell_ (HM0.at_ 1 rfl) 1
  have y1 := Blk.frozen (HM0.at_ 1 rfl) 1
  simp only [List.getElem?_toArray, List.getElem?_cons_succ, List.getElem?_cons_zero] at x1
  have hw1 : IntKind.i64.wrap (s.clock + 1) = s.clock + 1 := IntWalk.i64_in _ (by omega)
  have HM1 : Mem (RefC rb (.slice (some ⟨b, 0, none⟩) s.files.length c) nv s).fp w (Blk rb 81 #[.int .i64 s.room, .int .i64 s.clock, .slice (some ⟨b, 0, none⟩) s.files.length c, .bool s.noting, nv] :: [Blk w.heap.size 129 #[.string (ofL q), .string (ofL ft), .int .i64 fm, .bool fd], FRow (.slice (some ⟨b, 0, none⟩) s.files.length c) s.files, NRow nv s.notes]) (w.alloc (.cells #[.string (ofL q), .string (ofL ft), .int .i64 fm, .bool fd] 129)) := HM0.sel [1, 0, 2, 3] (by decide)
  have HM2 := HM1.blkSet 1 (.int .i64 (s.clock + 1))
  have HM3 : Mem (RefC rb (.slice (some ⟨b, 0, none⟩) s.files.length c) nv s).fp w (Blk w.heap.size 129 #[.string (ofL q), .string (ofL ft), .int .i64 fm, .bool fd] :: [Blk rb 81 #[.int .i64 s.room, .int .i64 (s.clock + 1), .slice (some ⟨b, 0, none⟩) s.files.length c, .bool s.noting, nv], FRow (.slice (some ⟨b, 0, none⟩) s.files.length c) s.files, NRow nv s.notes]) ((w.alloc (.cells #[.string (ofL q), .string (ofL ft), .int .i64 fm, .bool fd] 129)).setCell ⟨rb, 1, none⟩ (.int .i64 (s.clock + 1))) := HM2.sel [1, 0, 2, 3] (by decide)
  have HM4 := HM3.blkSet 2 (.int .i64 (s.clock + 1))
  simp only [List.setIfInBounds_toArray, List.set_cons_zero, List.set_cons_succ] at HM4
  have x2 := Blk.cell_ (HM4.at_ 1 rfl) 2
  simp only [List.getElem?_toArray, List.getElem?_cons_succ, List.getElem?_cons_zero] at x2
  have HM5 : Mem _ w (FRow (.slice none 0 0) [] :: _) _ := Mem.new HM4 (Mut.refl _ _) (by exact World.ownsRow_nil _ _ _ _) (by intro b hb; cases hb)
  have HM5' := Lib.hid HM5
  have hrow := fun (j : Nat) (u : Value) (hu : (fls s.files)[j]? = some u) => (congrArg _ (addr_add b j)).trans (Row.cell (HM5.at_ 3 rfl) (j := j) (u := u) hu)
  have Hrow := Lib.hid hrow
  clear HM0 HM1 HM2 HM3 HM4 HM5 hrow
  go_enter Tryd.func68, Tryd.ntmps68
  go_wp2_with (at_builtin; refine wpList_app filE rfl _ _ rfl HM5'.out rfl ⟨b, 0, none⟩ s.files.length c (fls s.files) rfl (fls_len _) Hrow.out (fls_one _) (by show (0 + s.files.length) * 48 ≤ _; omega) ?_; intro v' w' HM6 HU6 hv6; have HM7 := Lib.hid HM6; clear HM6 HU6 hv6; obtain ⟨A', c', rfl, q1, q2⟩ := Row.any_ (HM7.out.at_ 0 rfl); have fb0 := Blk.cell_ (HM7.out.at_ 1 rfl) 0; simp only [List.getElem?_toArray, List.getElem?_cons_succ, List.getElem?_cons_zero] at fb0)
  have HM8 : Mem (RefC rb (.slice (some ⟨b, 0, none⟩) s.files.length c) nv s).fp w (FRow (.slice A' s.files.length c') s.files :: [Blk w.heap.size 129 #[.string (ofL q), .string (ofL ft), .int .i64 (s.clock + 1), .bool fd], Blk rb 81 #[.int .i64 s.room, .int .i64 (s.clock + 1), .slice (some ⟨b, 0, none⟩) s.files.length c, .bool s.noting, nv], FRow (.slice (some ⟨b, 0, none⟩) s.files.length c) s.files, NRow nv s.notes]) w' := by
    have := HM7.out
    have e : ([] : List (List UInt8 × VF)).length + s.files.length = s.files.length := Nat.zero_add _
    rw [e] at this
    exact this
  clear HM7 x1 y1 x2 HM5' Hrow fb0
  have hR1 : (RefC rb (.slice (some ⟨b, 0, none⟩) s.files.length c) nv { s with clock := s.clock + 1 }).ok w' := (Mem.shut_ (cs := RefF rb (.slice (some ⟨b, 0, none⟩) s.files.length c) nv { s with clock := s.clock + 1 }) (F := []) (HM8.sel [2, 3, 4] (by decide))).head
  have hA := at_calls hR1 hl q
  have ea : atS { s with clock := s.clock + 1 } q = atS s q := rfl
  rw [ea] at hA
  clear hR1 ea
  have HM9 : Mem (RefC rb (.slice (some ⟨b, 0, none⟩) s.files.length c) nv s).fp w [FRow (.slice A' s.files.length c') s.files, Blk w.heap.size 129 #[.string (ofL q), .string (ofL ft), .int .i64 (s.clock + 1), .bool fd], Blk rb 81 #[.int .i64 s.room, .int .i64 (s.clock + 1), .slice (some ⟨b, 0, none⟩) s.files.length c, .bool s.noting, nv], NRow nv s.notes] w' := HM8.sel [0, 1, 2, 4] (by decide)
  clear HM8
  have hP' := Lib.hid hP
  clear hP
  generalize atS s q = ix at *
  refine hA.mono ?_
  rintro e w2 ⟨rfl, rfl⟩
  clear hA
  have d0 := Blk.cell_ (HM9.at_ 1 rfl) 0
  have d1 := Blk.cell_ (HM9.at_ 1 rfl) 1
  have d2 := Blk.cell_ (HM9.at_ 1 rfl) 2
  have d3 := Blk.cell_ (HM9.at_ 1 rfl) 3
  simp only [List.getElem?_toArray, List.getElem?_cons_succ, List.getElem?_cons_zero] at d0 d1 d2 d3
  rcases hM with ⟨rfl, _⟩ | ⟨i, hi, rfl, _, _⟩
  · have HP : Hid (M = s.files ++ [(q, ⟨ft, s.clock + 1, fd⟩)]) := hP'.out.1 rfl
    clear hP'
    go_wp2_with (at_builtin; refine wpList_app1 filE rfl _ _ rfl HM9 rfl #[.string (ofL q), .string (ofL ft), .int .i64 (s.clock + 1), .bool fd] _ rfl ?hnb rfl ?h1 ?hb ?_; (case hnb => simp); (case h1 => simp [Value.oneCell']); (case hb => omega); intro v2 w3 HM10 HU; obtain ⟨A2, c2, rfl, r1, r2⟩ := Row.any_ (HM10.at_ 0 rfl); have z2 := Blk.frozen (HM10.at_ 2 rfl) 2; have c2' := Blk.cell_ (HM10.at_ 2 rfl) 2; simp only [List.getElem?_toArray, List.getElem?_cons_succ, List.getElem?_cons_zero] at c2'; clear d0 d1 d2 d3)
    have HM11 : Mem (RefC rb (.slice (some ⟨b, 0, none⟩) s.files.length c) nv s).fp w (Blk rb 81 #[.int .i64 s.room, .int .i64 (s.clock + 1), .slice (some ⟨b, 0, none⟩) s.files.length c, .bool s.noting, nv] :: [FRow (.slice A2 (s.files.length + 1) c2) M, NRow nv s.notes]) w3 := by
      have := HM10.sel [2, 0, 3] (by decide)
      rw [HP.out]
      unfold FRow
      rw [fls_app, List.length_append]
      exact this
    have HM12 := HM11.blkSet 2 (.slice A2 (s.files.length + 1) c2)
    simp only [List.setIfInBounds_toArray, List.set_cons_zero, List.set_cons_succ] at HM12
    go_end0
    refine ⟨rfl, .slice A2 (s.files.length + 1) c2, ?_⟩
    rw [hS.out]
    exact Mem.shut_ (F := []) (cs := RefF rb (.slice A2 (s.files.length + 1) c2) nv _) (by rw [List.append_nil]; exact HM12)
  · have HP : Hid (M = s.files.set i (q, ⟨ft, s.clock + 1, fd⟩)) := hP'.out.2 i rfl
    clear hP'
    obtain ⟨g, cg, eg, _, _⟩ := Row.at_ (HM9.at_ 0 rfl) hpos
    cases eg
    have hi0 : decide ((i : Int) < 0) = false := decide_eq_false (by omega)
    have hi1 : decide ((i : Int) < (s.files.length : Int)) = true := decide_eq_true (by omega)
    have fg := fls_get hi
    have k0 := Row.cell (HM9.at_ 0 rfl) fg.1
    have k1 := Row.cell (HM9.at_ 0 rfl) fg.2.1
    have k2 := Row.cell (HM9.at_ 0 rfl) fg.2.2.1
    have k3 := Row.cell (HM9.at_ 0 rfl) fg.2.2.2
    have j0 := Row.frozen (HM9.at_ 0 rfl) (i * 4)
    have j1 := Row.frozen (HM9.at_ 0 rfl) (i * 4 + 1)
    have j2 := Row.frozen (HM9.at_ 0 rfl) (i * 4 + 2)
    have j3 := Row.frozen (HM9.at_ 0 rfl) (i * 4 + 3)
    have HM10 := (((HM9.rowSet (j := i * 4) (by omega) (.string (ofL q))).rowSet (j := i * 4 + 1) (by omega) (.string (ofL ft))).rowSet (j := i * 4 + 2) (by omega) (.int .i64 (s.clock + 1))).rowSet (j := i * 4 + 3) (by omega) (.bool fd)
    have z2 := Blk.frozen (HM10.at_ 2 rfl) 2
    have c2' := Blk.cell_ (HM10.at_ 2 rfl) 2
    simp only [List.getElem?_toArray, List.getElem?_cons_succ, List.getElem?_cons_zero] at c2'
    have HM10' := Lib.hid HM10
    clear HM10 fg HM9
    go_wp2_with fail
    have HM11 : Mem (RefC rb (.slice (some ⟨b, 0, none⟩) s.files.length c) nv s).fp w (Blk rb 81 #[.int .i64 s.room, .int .i64 (s.clock + 1), .slice (some ⟨b, 0, none⟩) s.files.length c, .bool s.noting, nv] :: [FRow (.slice (some ⟨g, 0, none⟩) s.files.length c') M, NRow nv s.notes]) ((((w'.setCell ⟨g, i * 4, none⟩ (.string (ofL q))).setCell ⟨g, i * 4 + 1, none⟩ (.string (ofL ft))).setCell ⟨g, i * 4 + 2, none⟩ (.int .i64 (s.clock + 1))).setCell ⟨g, i * 4 + 3, none⟩ (.bool fd)) := by
      have := HM10'.out.sel [2, 0, 3] (by decide)
      rw [HP.out]
      unfold FRow
      rw [fls_set _ _ _ hi, List.length_set]
      exact this
    have HM12 := HM11.blkSet 2 (.slice (some ⟨g, 0, none⟩) s.files.length c')
    simp only [List.setIfInBounds_toArray, List.set_cons_zero, List.set_cons_succ] at HM12
    go_end0
    refine ⟨rfl, .slice (some ⟨g, 0, none⟩) s.files.length c', ?_⟩
    rw [hS.out]
    exact Mem.shut_ (F := []) (cs := RefF rb (.slice (some ⟨g, 0, none⟩) s.files.length c') nv _) (by rw [List.append_nil]; exact HM12)
end
end
end Go.Proofs.YtnpehlkdfbmnkaaDoor
