/-
  The document's store: its memory; Where, At, Used, home, Stat.
  The document's store: Used, home, Stat.
  The document's store: set, note.
-/
import Derived.Test.YtjhcabjlhnhkbaaDoorVfsE
set_option linter.unusedVariables false
set_option linter.unusedSimpArgs false
namespace Go.Proofs.YtjhcabjlhnhkbaaDoor
section
set_option maxRecDepth 20000
open Go.RowKit

/-- A row of files. -/
def fls (l : List (List UInt8 × VF)) : List Value := l.flatMap fun x => [.string (ofL x.1), .string (ofL x.2.text), .int .i64 x.2.time, .bool x.2.dir]
theorem fls_get : ∀ {l : List (List UInt8 × VF)} {k : Nat} (h : k < l.length),
    (fls l)[k * 4]? = some (.string (ofL l[k].1)) ∧ (fls l)[k * 4 + 1]? = some (.string (ofL l[k].2.text)) ∧ (fls l)[k * 4 + 2]? = some (.int .i64 l[k].2.time) ∧ (fls l)[k * 4 + 3]? = some (.bool l[k].2.dir)
  | [], k, h => by simp at h
  | x :: l, 0, h => ⟨rfl, rfl, rfl, rfl⟩
  | x :: l, k + 1, h => by
    have h' : k < l.length := by simpa using h
    obtain ⟨a, b, c, d⟩ := fls_get h'
    have e : fls (x :: l) = [.string (ofL x.1), .string (ofL x.2.text), .int .i64 x.2.time, .bool x.2.dir] ++ fls l := rfl
    have e0 : (k + 1) * 4 = 4 + k * 4 := by omega
    rw [e, e0]
    simp only [List.getElem_cons_succ]
    refine ⟨?_, ?_, ?_, ?_⟩
    · rw [List.getElem?_append_right (by simp)]; simpa using a
    · rw [List.getElem?_append_right (by simp; omega)]; simpa [Nat.add_assoc] using b
    · rw [List.getElem?_append_right (by simp; omega)]; simpa [Nat.add_assoc] using c
    · rw [List.getElem?_append_right (by simp; omega)]; simpa [Nat.add_assoc] using d
section
variable {rb : Nat} {lv nv : Value} {s : St} {w : World}
set_option maxHeartbeats 2000000 in
theorem rwhere_calls (p : List UInt8) (w : World) (hp : p.length ≤ 1100000) :
    Calls Tryd.prog 13 #[.string (ofL p)] w fun e w' =>
      e = .returned (.tuple #[.string (ofL (whereQ p)), .bool (whereL p).isSome]) ∧ Mem none_ w [] w' := by
  have hcl := clean_len (47 :: p)
  rw [List.length_cons] at hcl
  have hC := rclean_calls (47 :: p) w (by rw [List.length_cons]; omega)
  have hap : ∀ wx, (Op.stringOp .add ⟨#[47]⟩ (ofL p)).run Tryd.prog wx = .ok (.string (ofL (47 :: p))) wx := add_run [47] p (by simp; omega)
  have hPa := fun wx => rparts_calls (cleanL (47 :: p)) wx (by omega)
  have hlw := Nat.le_trans (len_wt (partsL (cleanL (47 :: p)))) (wt_parts (cleanL (47 :: p)))
  have hlm : ∀ x, x ∈ partsL (cleanL (47 :: p)) → x.length ≤ 9000000 := fun x hx => by
    have := wt_mem hx
    have := wt_parts (cleanL (47 :: p))
    omega
  have HN : Hid (∀ x, x ∈ partsL (cleanL (47 :: p)) → 255 < x.length → whereQ p = [] ∧ (whereL p).isSome = false) := fun x hx hl => by
    have : whereL p = none := by
      unfold whereL
      rw [if_neg]
      intro hc
      have := of_decide_eq_true (List.all_eq_true.1 hc x hx)
      omega
    unfold whereQ
    rw [this]
    exact ⟨rfl, rfl⟩
  have HY : Hid ((∀ x, x ∈ partsL (cleanL (47 :: p)) → x.length ≤ 255) → whereQ p = cleanL (47 :: p) ∧ (whereL p).isSome = true) := fun hl => by
    have : whereL p = some (cleanL (47 :: p)) := by
      unfold whereL
      rw [if_pos]
      exact List.all_eq_true.2 (fun x hx => decide_eq_true (hl x hx))
    unfold whereQ
    rw [this]
    exact ⟨rfl, rfl⟩
  generalize whereQ p = Q at *
  generalize (whereL p).isSome = E at *
  generalize partsL (cleanL (47 :: p)) = L at *
  generalize cleanL (47 :: p) = C at *
  go_enter Tryd.func13, Tryd.ntmps13
  go_wp2_with fail
  refine hC.mono ?_
  rintro e w1 ⟨rfl, HM1⟩
  clear hC hap
  have hPb := hPa w1
  clear hPa
  go_wp2_with fail
  refine hPb.mono ?_
  rintro e w2 ⟨v, rfl, HM2⟩
  clear hPb
  have HM3 := (HM1.got HM2).sel [] (by decide)
  obtain ⟨A, c, rfl, h1, h2, h3, h4⟩ := Row.sl (HM2.at_ 0 rfl)
  clear HM1 HM2
  unfold maxLen at h2
  go_wp2_with fail
  go_loop [5] (fun v5 => ∃ k : Nat, k ≤ L.length ∧ v5 = .int .i64 k ∧ ∀ x, x ∈ L.take k → x.length ≤ 255) (fun v => L.length - (intOf v).toNat)
  case atStart => exact ⟨0, Nat.zero_le _, rfl, fun x hx => by cases hx⟩
  case round =>
    obtain ⟨k, hk, rfl, hall⟩ := hrel
    by_cases hlt : k < L.length
    · have hlt' : decide ((k : Int) < (L.length : Int)) = true := decide_eq_true (by omega)
      obtain ⟨b, o, rfl, hcells⟩ := h4.resolve_left (by omega)
      have hx0 : w2.cell? ⟨b, o + k, none⟩ = some (.string (ofL L[k])) := hcells k _ (tx_get hlt)
      have hxs := ofL_size L[k]
      have hxm := hlm L[k] (List.getElem_mem hlt)
      have HS : Hid (L.take (k + 1) = L.take k ++ [L[k]]) := List.take_succ_eq_append_getElem hlt
      have Hm : Hid (L[k] ∈ L) := List.getElem_mem hlt
      clear hcells h4 h3 hlm
      generalize L[k] = x at *
      by_cases hx : 255 < x.length
      · have dx : decide ((255 : Int) < (x.length : Int)) = true := decide_eq_true (by omega)
        go_wp2_with fail
        refine bodyPost_ret (v := .tuple #[.string ⟨#[]⟩, .bool false]) (by simp [results, Tryd.results13, go_sem]) rfl ⟨?_, HM3⟩
        rw [(HN.out x Hm.out hx).1, (HN.out x Hm.out hx).2]; rfl
      · have dx : decide ((255 : Int) < (x.length : Int)) = false := decide_eq_false (by omega)
        go_wp2_with fail
        go_round
        case rel =>
          refine ⟨k + 1, by omega, by go_num, fun y hy => ?_⟩
          rw [HS.out] at hy
          rcases List.mem_append.1 hy with hy | hy
          · exact hall y hy
          · rw [List.mem_singleton.1 hy]; omega
        case measure => simp [intOf]; omega
    · have e : k = L.length := by omega
      subst e
      rw [List.take_length] at hall
      have HT := HY.out hall
      obtain ⟨q1, q2⟩ := HT
      have Q1 := Lib.hid q1
      have Q2 := Lib.hid q2
      clear hall q1 q2
      go_wp2_with fail
      refine bodyPost_ret (v := .tuple #[.string (ofL C), .bool true]) (by simp [results, Tryd.results13, go_sem]) rfl ⟨?_, HM3⟩
      rw [Q1.out, Q2.out]

def idxS (s : St) (q : List UInt8) : Option Nat := s.files.findIdx? (fun p => decide (q = p.1))
def atS (s : St) (q : List UInt8) : Int := match idxS s q with | none => -1 | some i => (i : Int)
theorem idx_some {s : St} {q : List UInt8} {i : Nat} (h : idxS s q = some i) : ∃ hi : i < s.files.length, mget s.files q = some s.files[i].2 ∧ s.files[i].1 = q := by
  obtain ⟨hi, h1, h2⟩ := List.findIdx?_eq_some_iff_getElem.1 h
  refine ⟨hi, ?_, (of_decide_eq_true h1).symm⟩
  rw [mget_find]
  unfold idxS at h
  rw [h]
  simp [hi]
theorem idx_none {s : St} {q : List UInt8} (h : idxS s q = none) : mget s.files q = none := by
  rw [mget_find]
  unfold idxS at h
  rw [h]; rfl
theorem str_eq (a b : List UInt8) : ((ofL a).toList == (ofL b).toList) = decide (a = b) := by
  rw [ByteArray.toList_eq, ByteArray.toList_eq]
  show (a == b) = _
  rw [Bool.eq_iff_iff]; simp
end
end
section
set_option maxRecDepth 20000
open Go.RowKit

section
variable {rb : Nat} {lv nv : Value} {s : St} {w : World}
theorem sum_take (l : List (List UInt8 × VF)) (k : Nat) (h : k < l.length) : sumT (l.take (k + 1)) = sumT (l.take k) + l[k].2.text.length := by
  rw [List.take_succ_eq_append_getElem h]
  unfold sumT
  rw [List.map_append, List.sum_append]; rfl
theorem sum_take_le (l : List (List UInt8 × VF)) (k : Nat) : sumT (l.take k) ≤ sumT l := by
  have : sumT (l.take k) + sumT (l.drop k) = sumT l := by
    unfold sumT
    rw [← List.sum_append, ← List.map_append, List.take_append_drop]
  omega
theorem at_mget (s : St) (q : List UInt8) : (atS s q = -1 ∧ mget s.files q = none) ∨ ∃ i : Nat, ∃ h : i < s.files.length, atS s q = i ∧ mget s.files q = some s.files[i].2 ∧ s.files[i].1 = q := by
  unfold atS
  cases hi : idxS s q with
  | none => exact .inl ⟨rfl, idx_none hi⟩
  | some i => obtain ⟨h1, h2, h3⟩ := idx_some hi; exact .inr ⟨i, h1, rfl, h2, h3⟩

theorem findS_at {s : St} {p q : List UInt8} (h : whereL p = some q) : (atS s q = -1 ∧ findS s p = (q, VF.zero, 6)) ∨ ∃ i : Nat, ∃ h : i < s.files.length, atS s q = i ∧ findS s p = (q, s.files[i].2, 0) := by
  unfold findS
  rw [h]
  rcases at_mget s q with ⟨e1, e2⟩ | ⟨i, hi, e1, e2, _⟩
  · exact .inl ⟨e1, by simp [e2]⟩
  · exact .inr ⟨i, hi, e1, by simp [e2]⟩
end
end
section
set_option maxRecDepth 20000
open Go.RowKit

theorem addr_add (b j : Nat) : (⟨b, 0, none⟩ : Addr).add j = ⟨b, j, none⟩ := by unfold Addr.add; split <;> simp_all
theorem fls_len (l : List (List UInt8 × VF)) : (fls l).length = l.length * 4 := by
  induction l with
  | nil => rfl
  | cons x l ih =>
    have e : fls (x :: l) = [.string (ofL x.1), .string (ofL x.2.text), .int .i64 x.2.time, .bool x.2.dir] ++ fls l := rfl
    rw [e, List.length_append, ih]; simp; omega
theorem fls_app (l : List (List UInt8 × VF)) (x : List UInt8 × VF) : fls (l ++ [x]) = fls l ++ [.string (ofL x.1), .string (ofL x.2.text), .int .i64 x.2.time, .bool x.2.dir] := by simp [fls]
theorem fls_one (l : List (List UInt8 × VF)) : ∀ u ∈ fls l, u.oneCell' = true := by
  intro u hu
  obtain ⟨x, _, hx⟩ := List.mem_flatMap.1 hu
  simp at hx
  rcases hx with rfl | rfl | rfl | rfl <;> rfl
theorem fls_set (x : List UInt8 × VF) : ∀ (l : List (List UInt8 × VF)) (i : Nat), i < l.length →
    fls (l.set i x) = ((((fls l).set (i * 4) (.string (ofL x.1))).set (i * 4 + 1) (.string (ofL x.2.text))).set (i * 4 + 2) (.int .i64 x.2.time)).set (i * 4 + 3) (.bool x.2.dir)
  | [], i, h => by simp at h
  | y :: l, 0, h => rfl
  | y :: l, i + 1, h => by
    have ih := fls_set x l i (by simpa using h)
    have e : ∀ z (m : List (List UInt8 × VF)), fls (z :: m) = [.string (ofL z.1), .string (ofL z.2.text), .int .i64 z.2.time, .bool z.2.dir] ++ fls m := fun _ _ => rfl
    rw [List.set_cons_succ, e, e, ih]
    have e4 : (i + 1) * 4 = i * 4 + 1 + 1 + 1 + 1 := by omega
    rw [e4]
    rfl
theorem mput_idx {s : St} {q : List UInt8} (v : VF) : (atS s q = -1 → mput s.files q v = s.files ++ [(q, v)]) ∧ (∀ i : Nat, atS s q = i → mput s.files q v = s.files.set i (q, v)) := by
  unfold atS mput idxS
  cases h : s.files.findIdx? (fun p => decide (q = p.1)) with
  | none => exact ⟨fun _ => rfl, fun i hi => by have : (-1 : Int) = i := hi; omega⟩
  | some i => exact ⟨fun hi => by have : (i : Int) = -1 := hi; omega, fun j hj => by have hj' : (i : Int) = j := hj; have : i = j := by omega
                                                                                     subst this; rfl⟩
section
variable {rb : Nat} {lv nv : Value} {s : St} {w : World}
end
end
end Go.Proofs.YtjhcabjlhnhkbaaDoor
