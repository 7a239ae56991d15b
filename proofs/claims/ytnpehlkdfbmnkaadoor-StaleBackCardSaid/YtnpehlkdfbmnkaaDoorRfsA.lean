/-
  The document's store: its memory; Where, At, Used, home, Stat.
-/
import Derived.Test.YtnpehlkdfbmnkaaDoorVfsF
set_option linter.unusedVariables false
set_option linter.unusedSimpArgs false
set_option maxRecDepth 20000
namespace Go.Proofs.YtnpehlkdfbmnkaaDoor
open Go.RowKit

/-- A row of files. -/
def fls (l : List (List UInt8 × VF)) : List Value := l.flatMap fun x => [.string (ofL x.1), .string (ofL x.2.text), .int .i64 x.2.time, .bool x.2.dir]
abbrev FRow (v : Value) (l : List (List UInt8 × VF)) : Chunk := Row 129 4 v l.length (fls l)
theorem fls_get : ∀ {l : List (List UInt8 × VF)} {k : Nat} (h : k < l.length),
    (fls l)[k * 4]? = some (.string (ofL l[k].1)) ∧ (fls l)[k * 4 + 1]? = some (.string (ofL l[k].2.text)) ∧ (fls l)[k * 4 + 2]? = some (.int .i64 l[k].2.time) ∧ (fls l)[k * 4 + 3]? = some (.bool l[k].2.dir)
  | [], k, h => by simp at h
  | x :: l, 0, h => ⟨rfl, rfl, rfl, rfl⟩
  | x :: l, k + 1, h => by
    have h' : k < l.length := by simpa using h
    obtain ⟨a, b, c, d⟩ := fls_get h'
    have e : fls (x :: l) = [.string (ofL x.1), .string (ofL x.2.text), .int .i64 x.2.time, .bool x.2.dir] ++ fls l := rfl
    have e0 : (k + 1) * 4 = 4 + k * 4 := by omega
    rw [e, e0]
    simp only [List.getElem_cons_succ]
    refine ⟨?_, ?_, ?_, ?_⟩
    · rw [List.getElem?_append_right (by simp)]; simpa using a
    · rw [List.getElem?_append_right (by simp; omega)]; simpa [Nat.add_assoc] using b
    · rw [List.getElem?_append_right (by simp; omega)]; simpa [Nat.add_assoc] using c
    · rw [List.getElem?_append_right (by simp; omega)]; simpa [Nat.add_assoc] using d
/-- The document's store. -/
def RefF (rb : Nat) (lv nv : Value) (s : St) : List Chunk :=
  [Blk rb 81 #[.int .i64 s.room, .int .i64 s.clock, lv, .bool s.noting, nv], FRow lv s.files, NRow nv s.notes]
abbrev RefC (rb : Nat) (lv nv : Value) (s : St) : Chunk := Many (RefF rb lv nv s)

section
variable {rb : Nat} {lv nv : Value} {s : St} {w : World}
theorem RefC.mem (h : (RefC rb lv nv s).ok w) : Mem (RefC rb lv nv s).fp w (RefF rb lv nv s) w := by
  have := (Mem.from h).open_
  simpa using this
theorem RefC.blk (h : (RefC rb lv nv s).ok w) : (Blk rb 81 #[.int .i64 s.room, .int .i64 s.clock, lv, .bool s.noting, nv]).ok w := (RefC.mem h).at_ 0 rfl
theorem RefC.row (h : (RefC rb lv nv s).ok w) : (FRow lv s.files).ok w := (RefC.mem h).at_ 1 rfl
theorem RefC.nrow (h : (RefC rb lv nv s).ok w) : (NRow nv s.notes).ok w := (RefC.mem h).at_ 2 rfl
theorem RefC.c0 (h : (RefC rb lv nv s).ok w) : w.cell? ⟨rb, 0, none⟩ = some (.int .i64 s.room) := by rw [Blk.cell_ (RefC.blk h)]; rfl
theorem RefC.c1 (h : (RefC rb lv nv s).ok w) : w.cell? ⟨rb, 1, none⟩ = some (.int .i64 s.clock) := by rw [Blk.cell_ (RefC.blk h)]; rfl
theorem RefC.c2 (h : (RefC rb lv nv s).ok w) : w.cell? ⟨rb, 2, none⟩ = some lv := by rw [Blk.cell_ (RefC.blk h)]; rfl
theorem RefC.c3 (h : (RefC rb lv nv s).ok w) : w.cell? ⟨rb, 3, none⟩ = some (.bool s.noting) := by rw [Blk.cell_ (RefC.blk h)]; rfl
theorem RefC.c4 (h : (RefC rb lv nv s).ok w) : w.cell? ⟨rb, 4, none⟩ = some nv := by rw [Blk.cell_ (RefC.blk h)]; rfl
theorem RefC.keep {w' : World} (h : (RefC rb lv nv s).ok w) (hm : Pure w w') : Mem (RefC rb lv nv s).fp w [RefC rb lv nv s] w' := (Mem.from h).keep hm

set_option maxHeartbeats 2000000 in
theorem rwhere_calls (p : List UInt8) (w : World) (hp : p.length ≤ 150000) :
    Calls Tryd.prog 22 #[.string (ofL p)] w fun e w' =>
      e = .returned (.tuple #[.string (ofL (whereQ p)), .bool (whereL p).isSome]) ∧ Mem none_ w [] w' := by
  have hcl := clean_len (47 :: p)
  rw [List.length_cons] at hcl
  have hC := rclean_calls (47 :: p) w (by rw [List.length_cons]; omega)
  have hap : ∀ wx, (Op.stringOp .add ⟨#[47]⟩ (ofL p)).run Tryd.prog wx = .ok (.string (ofL (47 :: p))) wx := add_run [47] p (by simp; omega)
  have hPa := fun wx => rparts_calls (cleanL (47 :: p)) wx (by omega)
  have hlw := Nat.le_trans (len_wt (partsL (cleanL (47 :: p)))) (wt_parts (cleanL (47 :: p)))
  have hlm : ∀ x, x ∈ partsL (cleanL (47 :: p)) → x.length ≤ 1000000 := fun x hx => by
    have := wt_mem hx
    have := wt_parts (cleanL (47 :: p))
    omega
  have HN : Hid (∀ x, x ∈ partsL (cleanL (47 :: p)) → 255 < x.length → whereQ p = [] ∧ (whereL p).isSome = false) := fun x hx hl => by
    have : whereL p = none := by
      unfold whereL
      rw [if_neg]
      intro hc
      have := of_decide_eq_true (List.all_eq_true.1 hc x hx)
      omega
    unfold whereQ
    rw [this]
    exact ⟨rfl, rfl⟩
  have HY : Hid ((∀ x, x ∈ partsL (cleanL (47 :: p)) → x.length ≤ 255) → whereQ p = cleanL (47 :: p) ∧ (whereL p).isSome = true) := fun hl => by
    have : whereL p = some (cleanL (47 :: p)) := by
      unfold whereL
      rw [if_pos]
      exact List.all_eq_true.2 (fun x hx => decide_eq_true (hl x hx))
    unfold whereQ
    rw [this]
    exact ⟨rfl, rfl⟩
  generalize whereQ p = Q at *
  generalize (whereL p).isSome = E at *
  generalize partsL (cleanL (47 :: p)) = L at *
  generalize cleanL (47 :: p) = C at *
  go_enter Tryd.func22, Tryd.ntmps22
  go_wp2_with fail
  refine hC.mono ?_
  rintro e w1 ⟨rfl, HM1⟩
  clear hC hap
  have hPb := hPa w1
  clear hPa
  go_wp2_with fail
  refine hPb.mono ?_
  rintro e w2 ⟨v, rfl, HM2⟩
  clear hPb
  have HM3 := (HM1.got HM2).sel [] (by decide)
  obtain ⟨A, c, rfl, h1, h2, h3, h4⟩ := Row.sl (HM2.at_ 0 rfl)
  clear HM1 HM2
  unfold maxLen at h2
  go_wp2_with fail
  go_loop [5] (fun v5 => ∃ k : Nat, k ≤ L.length ∧ v5 = .int .i64 k ∧ ∀ x, x ∈ L.take k → x.length ≤ 255) (fun v => L.length - (intOf v).toNat)
  case atStart => exact ⟨0, Nat.zero_le _, rfl, fun x hx => by cases hx⟩
  case round =>
    obtain ⟨k, hk, rfl, hall⟩ := hrel
    by_cases hlt : k < L.length
    · have hlt' : decide ((k : Int) < (L.length : Int)) = true := decide_eq_true (by omega)
      obtain ⟨b, o, rfl, hcells⟩ := h4.resolve_left (by omega)
      have hx0 : w2.cell? ⟨b, o + k, none⟩ = some (.string (ofL L[k])) := hcells k _ (tx_get hlt)
      have hxs := ofL_size L[k]
      have hxm := hlm L[k] (List.getElem_mem hlt)
      have HS : Hid (L.take (k + 1) = L.take k ++ [L[k]]) := List.take_succ_eq_append_getElem hlt
      have Hm : Hid (L[k] ∈ L) := List.getElem_mem hlt
      clear hcells h4 h3 hlm
      generalize L[k] = x at *
      by_cases hx : 255 < x.length
      · have dx : decide ((255 : Int) < (x.length : Int)) = true := decide_eq_true (by omega)
        go_wp2_with fail
        refine bodyPost_ret (v := .tuple #[.string ⟨#[]⟩, .bool false]) (by simp [results, Tryd.results22, go_sem]) rfl ⟨?_, HM3⟩
        rw [(HN.out x Hm.out hx).1, (HN.out x Hm.out hx).2]; rfl
      · have dx : decide ((255 : Int) < (x.length : Int)) = false := decide_eq_false (by omega)
        go_wp2_with fail
        go_round
        case rel =>
          refine ⟨k + 1, by omega, by go_num, fun y hy => ?_⟩
          rw [HS.out] at hy
          rcases List.mem_append.1 hy with hy | hy
          · exact hall y hy
          · rw [List.mem_singleton.1 hy]; omega
        case measure => simp [intOf]; omega
    · have e : k = L.length := by omega
      subst e
      rw [List.take_length] at hall
      have HT := HY.out hall
      obtain ⟨q1, q2⟩ := HT
      have Q1 := Lib.hid q1
      have Q2 := Lib.hid q2
      clear hall q1 q2
      go_wp2_with fail
      refine bodyPost_ret (v := .tuple #[.string (ofL C), .bool true]) (by simp [results, Tryd.results22, go_sem]) rfl ⟨?_, HM3⟩
      rw [Q1.out, Q2.out]

def idxS (s : St) (q : List UInt8) : Option Nat := s.files.findIdx? (fun p => decide (q = p.1))
def atS (s : St) (q : List UInt8) : Int := match idxS s q with | none => -1 | some i => (i : Int)
theorem idx_some {s : St} {q : List UInt8} {i : Nat} (h : idxS s q = some i) : ∃ hi : i < s.files.length, mget s.files q = some s.files[i].2 ∧ s.files[i].1 = q := by
  obtain ⟨hi, h1, h2⟩ := List.findIdx?_eq_some_iff_getElem.1 h
  refine ⟨hi, ?_, (of_decide_eq_true h1).symm⟩
  rw [mget_find]
  unfold idxS at h
  rw [h]
  simp [hi]
theorem idx_none {s : St} {q : List UInt8} (h : idxS s q = none) : mget s.files q = none := by
  rw [mget_find]
  unfold idxS at h
  rw [h]; rfl
theorem str_eq (a b : List UInt8) : ((ofL a).toList == (ofL b).toList) = decide (a = b) := by
  rw [ByteArray.toList_eq, ByteArray.toList_eq]
  show (a == b) = _
  rw [Bool.eq_iff_iff]; simp
set_option maxHeartbeats 2000000 in
theorem at_calls (h : (RefC rb lv nv s).ok w) (hG : s.files.length ≤ 512) (q : List UInt8) :
    Calls Tryd.prog 66 #[ptr rb, .string (ofL q)] w fun e w' => e = .returned (.int .i64 (atS s q)) ∧ w = w' := by
  have c2 := RefC.c2 h
  obtain ⟨A, c, rfl, h1, h2, h3, h4⟩ := Row.sl (RefC.row h)
  unfold maxLen at h2
  clear h
  go_enter Tryd.func66, Tryd.ntmps66
  go_wp2_with fail
  go_loop [5] (fun v5 => ∃ k : Nat, k ≤ s.files.length ∧ v5 = .int .i64 k ∧ ∀ j (hj : j < s.files.length), j < k → ¬ q = (s.files[j]).1) (fun v => s.files.length - (intOf v).toNat)
  case atStart => exact ⟨0, Nat.zero_le _, rfl, fun j hj h => by omega⟩
  case round =>
    obtain ⟨k, hk, rfl, hall⟩ := hrel
    have hAll := Lib.hid hall
    clear hall
    by_cases hlt : k < s.files.length
    · have hlt' : decide ((k : Int) < (s.files.length : Int)) = true := decide_eq_true (by omega)
      obtain ⟨b, o, rfl, hcells⟩ := h4.resolve_left (by omega)
      have hx0 : w.cell? ⟨b, o + k * 4, none⟩ = some (.string (ofL s.files[k].1)) := hcells _ _ (fls_get hlt).1
      have hse := str_eq s.files[k].1 q
      clear hcells h4 h3
      by_cases hx : s.files[k].1 = q
      · have HE : Hid (atS s q = (k : Int)) := by
          unfold Hid atS
          have : idxS s q = some k := List.findIdx?_eq_some_iff_getElem.2 ⟨hlt, decide_eq_true hx.symm, fun j hj => by rw [decide_eq_true_eq]; exact hAll.out j (Nat.lt_trans hj hlt) hj⟩
          rw [this]
        rw [decide_eq_true hx] at hse
        clear hAll hx
        go_wp2_with fail
        go_ret
        exact ⟨by rw [HE.out]; rfl, rfl⟩
      · have Hx := Lib.hid hx
        rw [decide_eq_false hx] at hse
        clear hx
        go_wp2_with fail
        go_round
        case rel =>
          refine ⟨k + 1, by omega, by go_num, fun j hj hjk => ?_⟩
          rcases Nat.lt_or_eq_of_le (Nat.le_of_lt_succ hjk) with h | h
          · exact hAll.out j hj h
          · subst h; exact fun e => Hx.out e.symm
        case measure => simp [intOf]; omega
    · have e : k = s.files.length := by omega
      have hlt' : decide ((k : Int) < (s.files.length : Int)) = false := decide_eq_false (by omega)
      have HE : Hid (atS s q = -1) := by
        unfold Hid atS
        have : idxS s q = none := by
          unfold idxS
          rw [List.findIdx?_eq_none_iff]
          intro x hx
          obtain ⟨j, hj, rfl⟩ := List.getElem_of_mem hx
          exact decide_eq_false (hAll.out j hj (by omega))
        rw [this]
      clear hAll
      go_wp2_with fail
      go_ret
      exact ⟨by rw [HE.out]; rfl, rfl⟩
end
end Go.Proofs.YtnpehlkdfbmnkaaDoor
