/-
  Layer 03 (vfs): one call of a script.
-/
import Derived.Test.YtjhcabjlhnhkbaaDoorVfsK
set_option linter.unusedVariables false
set_option linter.unusedSimpArgs false
set_option maxRecDepth 20000
namespace Go.Proofs.YtjhcabjlhnhkbaaDoor
open Go.RowKit

def actC (a : ActS) : Array Value := #[.int .u8 a.kind, .string (ofL a.p), .string (ofL a.q), .string (ofL a.t), .int .i64 a.n]
/-- A call that may be. -/
structure ActO (a : ActS) : Prop where
  k : a.kind < 256
  t : a.t.length ≤ 140737488351232
structure ActN (a : ActS) : Prop where
  o : ActO a
  p : a.p.length ≤ 130000
  q : a.q.length ≤ 130000
theorem and_one (n : Int) : bits .and .i64 n 1 = n % 2 := by
  have h1 : ((BitVec.ofInt 64 n &&& BitVec.ofInt 64 1).toNat : Int) = n % 2 := by
    rw [BitVec.toNat_and]
    have e1 : (BitVec.ofInt 64 1).toNat = 1 := by decide
    rw [e1, Nat.and_one_is_mod, BitVec.toNat_ofInt]
    have h2 : 0 ≤ n % ((2 ^ 64 : Nat) : Int) := Int.emod_nonneg _ (by decide)
    omega
  have h3 : IntKind.i64.wrap (n % 2) = n % 2 := IntWalk.i64_in _ (by omega)
  show IntKind.i64.wrap ((BitVec.ofInt 64 n &&& BitVec.ofInt 64 1).toNat : Int) = _
  rw [h1, h3]
section
variable {sb mb : Nat} {nv : Value} {s : St} {w : World}
set_option maxHeartbeats 16000000 in
theorem does_calls (h : (StoreC sb mb nv s).ok w) {k : Int} (hO : OkS s k) (hk : k ≤ 1000000) (a : ActS) (ha : ActN a) :
    Calls Tryd.prog 11 #[ptr sb, .agg (actC a)] w fun e w' => e = .returned (.int .i64 (doesS s a).2) ∧ ∃ nv', Mem (StoreC sb mb nv s).fp w [StoreC sb mb nv' (doesS s a).1] w' := by
  obtain ⟨⟨hkd, ht⟩, hp, hq⟩ := ha
  have hck : s.clock ≤ 4611686018427387904 := by have := hO.ck; omega
  have hG := hO.good
  obtain ⟨⟨s', e'⟩, hW⟩ : ∃ R, doesS s a = R := ⟨_, rfl⟩
  rw [hW]
  unfold doesS at hW
  obtain ⟨kd, p, q, t, n⟩ := a
  unfold actC
  simp only at hkd ht hp hq hW ⊢
  have HW := Lib.hid hW
  clear hW
  have HM0 := (Mem.start (fp := none_) w).box #[.int .u8 kd, .string (ofL p), .string (ofL q), .string (ofL t), .int .i64 n] 30
  have x0 := Blk.cell_ (HM0.at_ 0 rfl) 0
  have x1 := Blk.cell_ (HM0.at_ 0 rfl) 1
  have x2 := Blk.cell_ (HM0.at_ 0 rfl) 2
  have x3 := Blk.cell_ (HM0.at_ 0 rfl) 3
  have x4 := Blk.cell_ (HM0.at_ 0 rfl) 4
  simp only [List.getElem?_toArray, List.getElem?_cons_succ, List.getElem?_cons_zero] at x0 x1 x2 x3 x4
  have HA : Hid (Mem (StoreC sb mb nv s).fp w [StoreC sb mb nv s] _) := ((Mem.from h).got HM0).sel [1] (by decide)
  have h1 := Pure.chunk HM0.mu h
  clear h HM0
  go_enter Tryd.func11, Tryd.ntmps11
  rcases (by omega : kd % 10 = 0 ∨ kd % 10 = 1 ∨ kd % 10 = 2 ∨ kd % 10 = 3 ∨ kd % 10 = 4 ∨ kd % 10 = 5 ∨ kd % 10 = 6 ∨ kd % 10 = 7 ∨ kd % 10 = 8 ∨ kd % 10 = 9) with hm | hm | hm | hm | hm | hm | hm | hm | hm | hm
  · have hW : Hid ((writeS s p t) = (s', e')) := by
      have h2 := HW.out
      rw [if_pos hm] at h2
      exact h2
    have q0 : (((kd : Int) % 10) == 0) = true := by rw [beq_iff_eq]; omega
    have hc := write_calls h1 hG hck p t (by omega) (by omega)
    clear HW hm hkd
    go_wp2_with fail
    refine hc.mono ?_
    rintro e w2 ⟨rfl, nv2, HM1⟩
    have HM2 := Mem.call1 HA.out HM1
    simp only [List.append_nil] at HM2
    clear hc HM1 HA
    go_wp2_with fail
    go_ret
    have e1 := congrArg Prod.fst hW.out
    have e2 := congrArg Prod.snd hW.out
    simp only at e1 e2
    rw [← e1, ← e2]
    exact ⟨rfl, nv2, HM2⟩
  · have hW : Hid ((appendS s p t) = (s', e')) := by
      have h2 := HW.out
      rw [if_neg (by omega), if_pos hm] at h2
      exact h2
    have q0 : (((kd : Int) % 10) == 0) = false := by rw [beq_eq_false_iff_ne]; omega
    have q1 : (((kd : Int) % 10) == 1) = true := by rw [beq_iff_eq]; omega
    have hc := append_calls h1 hO hck p t (by omega) ht
    clear HW hm hkd
    go_wp2_with fail
    refine hc.mono ?_
    rintro e w2 ⟨rfl, nv2, HM1⟩
    have HM2 := Mem.call1 HA.out HM1
    simp only [List.append_nil] at HM2
    clear hc HM1 HA
    go_wp2_with fail
    go_ret
    have e1 := congrArg Prod.fst hW.out
    have e2 := congrArg Prod.snd hW.out
    simp only at e1 e2
    rw [← e1, ← e2]
    exact ⟨rfl, nv2, HM2⟩
  · have hW : Hid ((((readS s p).1, (readS s p).2.2)) = (s', e')) := by
      have h2 := HW.out
      rw [if_neg (by omega), if_neg (by omega), if_pos hm] at h2
      exact h2
    have q0 : (((kd : Int) % 10) == 0) = false := by rw [beq_eq_false_iff_ne]; omega
    have q1 : (((kd : Int) % 10) == 1) = false := by rw [beq_eq_false_iff_ne]; omega
    have q2 : (((kd : Int) % 10) == 2) = true := by rw [beq_iff_eq]; omega
    have hc := read_calls h1 hG p (by omega)
    clear HW hm hkd
    go_wp2_with fail
    refine hc.mono ?_
    rintro e w2 ⟨rfl, nv2, HM1⟩
    have HM2 := Mem.call1 HA.out HM1
    simp only [List.append_nil] at HM2
    clear hc HM1 HA
    go_wp2_with fail
    go_ret
    have e1 := congrArg Prod.fst hW.out
    have e2 := congrArg Prod.snd hW.out
    simp only at e1 e2
    rw [← e1, ← e2]
    exact ⟨rfl, nv2, HM2⟩
  · have hW : Hid ((removeS s p) = (s', e')) := by
      have h2 := HW.out
      rw [if_neg (by omega), if_neg (by omega), if_neg (by omega), if_pos hm] at h2
      exact h2
    have q0 : (((kd : Int) % 10) == 0) = false := by rw [beq_eq_false_iff_ne]; omega
    have q1 : (((kd : Int) % 10) == 1) = false := by rw [beq_eq_false_iff_ne]; omega
    have q2 : (((kd : Int) % 10) == 2) = false := by rw [beq_eq_false_iff_ne]; omega
    have q3 : (((kd : Int) % 10) == 3) = true := by rw [beq_iff_eq]; omega
    have hc := remove_calls h1 hO hck p (by omega)
    clear HW hm hkd
    go_wp2_with fail
    refine hc.mono ?_
    rintro e w2 ⟨rfl, nv2, HM1⟩
    have HM2 := Mem.call1 HA.out HM1
    simp only [List.append_nil] at HM2
    clear hc HM1 HA
    go_wp2_with fail
    go_ret
    have e1 := congrArg Prod.fst hW.out
    have e2 := congrArg Prod.snd hW.out
    simp only at e1 e2
    rw [← e1, ← e2]
    exact ⟨rfl, nv2, HM2⟩
  · have hW : Hid ((moveS s p q) = (s', e')) := by
      have h2 := HW.out
      rw [if_neg (by omega), if_neg (by omega), if_neg (by omega), if_neg (by omega), if_pos hm] at h2
      exact h2
    have q0 : (((kd : Int) % 10) == 0) = false := by rw [beq_eq_false_iff_ne]; omega
    have q1 : (((kd : Int) % 10) == 1) = false := by rw [beq_eq_false_iff_ne]; omega
    have q2 : (((kd : Int) % 10) == 2) = false := by rw [beq_eq_false_iff_ne]; omega
    have q3 : (((kd : Int) % 10) == 3) = false := by rw [beq_eq_false_iff_ne]; omega
    have q4 : (((kd : Int) % 10) == 4) = true := by rw [beq_iff_eq]; omega
    have hc := move_calls h1 hO hck p q hp hq
    clear HW hm hkd
    go_wp2_with fail
    refine hc.mono ?_
    rintro e w2 ⟨rfl, nv2, HM1⟩
    have HM2 := Mem.call1 HA.out HM1
    simp only [List.append_nil] at HM2
    clear hc HM1 HA
    go_wp2_with fail
    go_ret
    have e1 := congrArg Prod.fst hW.out
    have e2 := congrArg Prod.snd hW.out
    simp only at e1 e2
    rw [← e1, ← e2]
    exact ⟨rfl, nv2, HM2⟩
  · have hW : Hid ((mkdirS s p) = (s', e')) := by
      have h2 := HW.out
      rw [if_neg (by omega), if_neg (by omega), if_neg (by omega), if_neg (by omega), if_neg (by omega), if_pos hm] at h2
      exact h2
    have q0 : (((kd : Int) % 10) == 0) = false := by rw [beq_eq_false_iff_ne]; omega
    have q1 : (((kd : Int) % 10) == 1) = false := by rw [beq_eq_false_iff_ne]; omega
    have q2 : (((kd : Int) % 10) == 2) = false := by rw [beq_eq_false_iff_ne]; omega
    have q3 : (((kd : Int) % 10) == 3) = false := by rw [beq_eq_false_iff_ne]; omega
    have q4 : (((kd : Int) % 10) == 4) = false := by rw [beq_eq_false_iff_ne]; omega
    have q5 : (((kd : Int) % 10) == 5) = true := by rw [beq_iff_eq]; omega
    have hc := mkdir_calls h1 hG hck p (by omega)
    clear HW hm hkd
    go_wp2_with fail
    refine hc.mono ?_
    rintro e w2 ⟨rfl, nv2, HM1⟩
    have HM2 := Mem.call1 HA.out HM1
    simp only [List.append_nil] at HM2
    clear hc HM1 HA
    go_wp2_with fail
    go_ret
    have e1 := congrArg Prod.fst hW.out
    have e2 := congrArg Prod.snd hW.out
    simp only at e1 e2
    rw [← e1, ← e2]
    exact ⟨rfl, nv2, HM2⟩
  · have hW : Hid ((touchS s p) = (s', e')) := by
      have h2 := HW.out
      rw [if_neg (by omega), if_neg (by omega), if_neg (by omega), if_neg (by omega), if_neg (by omega), if_neg (by omega), if_pos hm] at h2
      exact h2
    have q0 : (((kd : Int) % 10) == 0) = false := by rw [beq_eq_false_iff_ne]; omega
    have q1 : (((kd : Int) % 10) == 1) = false := by rw [beq_eq_false_iff_ne]; omega
    have q2 : (((kd : Int) % 10) == 2) = false := by rw [beq_eq_false_iff_ne]; omega
    have q3 : (((kd : Int) % 10) == 3) = false := by rw [beq_eq_false_iff_ne]; omega
    have q4 : (((kd : Int) % 10) == 4) = false := by rw [beq_eq_false_iff_ne]; omega
    have q5 : (((kd : Int) % 10) == 5) = false := by rw [beq_eq_false_iff_ne]; omega
    have q6 : (((kd : Int) % 10) == 6) = true := by rw [beq_iff_eq]; omega
    have hc := touch_calls h1 hG hck p (by omega)
    clear HW hm hkd
    go_wp2_with fail
    refine hc.mono ?_
    rintro e w2 ⟨rfl, nv2, HM1⟩
    have HM2 := Mem.call1 HA.out HM1
    simp only [List.append_nil] at HM2
    clear hc HM1 HA
    go_wp2_with fail
    go_ret
    have e1 := congrArg Prod.fst hW.out
    have e2 := congrArg Prod.snd hW.out
    simp only at e1 e2
    rw [← e1, ← e2]
    exact ⟨rfl, nv2, HM2⟩
  · have hW : Hid (((laterS s n, 0)) = (s', e')) := by
      have h2 := HW.out
      rw [if_neg (by omega), if_neg (by omega), if_neg (by omega), if_neg (by omega), if_neg (by omega), if_neg (by omega), if_neg (by omega), if_pos hm] at h2
      exact h2
    have q0 : (((kd : Int) % 10) == 0) = false := by rw [beq_eq_false_iff_ne]; omega
    have q1 : (((kd : Int) % 10) == 1) = false := by rw [beq_eq_false_iff_ne]; omega
    have q2 : (((kd : Int) % 10) == 2) = false := by rw [beq_eq_false_iff_ne]; omega
    have q3 : (((kd : Int) % 10) == 3) = false := by rw [beq_eq_false_iff_ne]; omega
    have q4 : (((kd : Int) % 10) == 4) = false := by rw [beq_eq_false_iff_ne]; omega
    have q5 : (((kd : Int) % 10) == 5) = false := by rw [beq_eq_false_iff_ne]; omega
    have q6 : (((kd : Int) % 10) == 6) = false := by rw [beq_eq_false_iff_ne]; omega
    have q7 : (((kd : Int) % 10) == 7) = true := by rw [beq_iff_eq]; omega
    have hc := later_calls h1 hG n hck
    clear HW hm hkd
    go_wp2_with fail
    refine hc.mono ?_
    rintro e w2 ⟨rfl, HM1⟩
    have HM2 := Mem.call1 HA.out HM1
    simp only [List.append_nil] at HM2
    clear hc HM1 HA
    go_wp2_with fail
    go_ret
    have e1 := congrArg Prod.fst hW.out
    have e2 := congrArg Prod.snd hW.out
    simp only at e1 e2
    rw [← e1, ← e2]
    exact ⟨rfl, nv, HM2⟩
  · have hW : Hid ((((notesS s (decide (n % 2 = 1))).1, 0)) = (s', e')) := by
      have h2 := HW.out
      rw [if_neg (by omega), if_neg (by omega), if_neg (by omega), if_neg (by omega), if_neg (by omega), if_neg (by omega), if_neg (by omega), if_neg (by omega), if_pos hm] at h2
      exact h2
    have q0 : (((kd : Int) % 10) == 0) = false := by rw [beq_eq_false_iff_ne]; omega
    have q1 : (((kd : Int) % 10) == 1) = false := by rw [beq_eq_false_iff_ne]; omega
    have q2 : (((kd : Int) % 10) == 2) = false := by rw [beq_eq_false_iff_ne]; omega
    have q3 : (((kd : Int) % 10) == 3) = false := by rw [beq_eq_false_iff_ne]; omega
    have q4 : (((kd : Int) % 10) == 4) = false := by rw [beq_eq_false_iff_ne]; omega
    have q5 : (((kd : Int) % 10) == 5) = false := by rw [beq_eq_false_iff_ne]; omega
    have q6 : (((kd : Int) % 10) == 6) = false := by rw [beq_eq_false_iff_ne]; omega
    have q7 : (((kd : Int) % 10) == 7) = false := by rw [beq_eq_false_iff_ne]; omega
    have q8 : (((kd : Int) % 10) == 8) = true := by rw [beq_iff_eq]; omega
    have hc := notes_calls h1 (decide (n % 2 = 1))
    obtain ⟨bb, hbb⟩ : ∃ bb, decide (n % 2 = 1) = bb := ⟨_, rfl⟩
    rw [hbb] at hc hW
    have hand : (bits .and .i64 n 1 == 1) = bb := by rw [and_one]; exact hbb
    clear hbb
    clear HW hm hkd
    go_wp2_with fail
    refine hc.mono ?_
    rintro e w2 ⟨rfl, HM1⟩
    have HM2 := (Mem.call1 HA.out HM1).sel [0] (by decide)
    clear hc HM1 HA
    go_wp2_with fail
    go_ret
    have e1 := congrArg Prod.fst hW.out
    have e2 := congrArg Prod.snd hW.out
    simp only at e1 e2
    rw [← e1, ← e2]
    exact ⟨rfl, _, HM2⟩
  · have hW : Hid (((s, (listS s p).2)) = (s', e')) := by
      have h2 := HW.out
      rw [if_neg (by omega), if_neg (by omega), if_neg (by omega), if_neg (by omega), if_neg (by omega), if_neg (by omega), if_neg (by omega), if_neg (by omega), if_neg (by omega)] at h2
      exact h2
    have q0 : (((kd : Int) % 10) == 0) = false := by rw [beq_eq_false_iff_ne]; omega
    have q1 : (((kd : Int) % 10) == 1) = false := by rw [beq_eq_false_iff_ne]; omega
    have q2 : (((kd : Int) % 10) == 2) = false := by rw [beq_eq_false_iff_ne]; omega
    have q3 : (((kd : Int) % 10) == 3) = false := by rw [beq_eq_false_iff_ne]; omega
    have q4 : (((kd : Int) % 10) == 4) = false := by rw [beq_eq_false_iff_ne]; omega
    have q5 : (((kd : Int) % 10) == 5) = false := by rw [beq_eq_false_iff_ne]; omega
    have q6 : (((kd : Int) % 10) == 6) = false := by rw [beq_eq_false_iff_ne]; omega
    have q7 : (((kd : Int) % 10) == 7) = false := by rw [beq_eq_false_iff_ne]; omega
    have q8 : (((kd : Int) % 10) == 8) = false := by rw [beq_eq_false_iff_ne]; omega
    have hc := list_calls h1 hG p (by omega)
    clear HW hm hkd
    go_wp2_with fail
    refine hc.mono ?_
    rintro e w2 ⟨v, rfl, HM1⟩
    have HM2 := (HA.out.got HM1).sel [1] (by decide)
    clear hc HM1 HA
    go_wp2_with fail
    go_ret
    have e1 := congrArg Prod.fst hW.out
    have e2 := congrArg Prod.snd hW.out
    simp only at e1 e2
    rw [← e1, ← e2]
    exact ⟨rfl, nv, HM2⟩
end
end Go.Proofs.YtjhcabjlhnhkbaaDoor
