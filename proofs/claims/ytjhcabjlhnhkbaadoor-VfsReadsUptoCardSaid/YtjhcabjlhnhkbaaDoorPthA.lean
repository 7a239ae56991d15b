/-
  Layer 02 (path): the walks of the small functions: of the program and of the reference.
-/
import Derived.Test.YtjhcabjlhnhkbaaDoorPthP
import Derived.Test.YtjhcabjlhnhkbaaDoorPthSh
import Derived.Test.YtjhcabjlhnhkbaaDoorHeapP
import Derived.Test.YtjhcabjlhnhkbaaDoorApp
import Derived.Test.YtjhcabjlhnhkbaaDoorDraw
set_option linter.unusedVariables false
set_option linter.unusedSimpArgs false
namespace Go.Proofs.YtjhcabjlhnhkbaaDoor
open Go.RowKit

theorem strE : Elem Tryd.prog 37 9 1 16 := Elem.of (z := .string ⟨#[]⟩) Tryd.underlying37 (by kernel_rfl) rfl (by decide) (by decide)
theorem strEq (a b : ByteArray) : (a.toList == b.toList) = decide (a = b) := by
  have h : (a == b) = decide (a = b) := by
    cases a with | mk a => cases b with | mk b =>
    show (a == b) = _
    rw [Bool.eq_iff_iff]; simp
  rw [← beq_toListBytes, h]

theorem ofL_get (s : (List UInt8)) (k : Nat) (h : k < (ofL s).size) : (ofL s)[k] = s[k]'(by rw [ofL_size] at h; exact h) := rfl
theorem byte_eq (a c : UInt8) : (((a.toNat : Nat) : Int) == ((c.toNat : Nat) : Int)) = decide (a = c) := by
  rw [Bool.eq_iff_iff, beq_iff_eq, decide_eq_true_eq]
  constructor
  · intro h; exact UInt8.toNat_inj.1 (by omega)
  · intro h; rw [h]
/-- The place of the last of a byte among the first k. -/
def lastFrom (c : UInt8) (s : (List UInt8)) : Nat → Int
  | 0 => -1
  | k + 1 => if s[k]? = some c then (k : Int) else lastFrom c s k
def lastL (c : UInt8) (s : (List UInt8)) : Int := lastFrom c s s.length
theorem lastFrom_range (c : UInt8) (s : (List UInt8)) : ∀ k, -1 ≤ lastFrom c s k ∧ lastFrom c s k < (k : Int)
  | 0 => by simp [lastFrom]
  | k + 1 => by
    have ih := lastFrom_range c s k
    unfold lastFrom
    split
    · omega
    · omega
theorem lastL_range (c : UInt8) (s : (List UInt8)) : -1 ≤ lastL c s ∧ lastL c s < (s.length : Int) := lastFrom_range c s _
theorem lastFrom_lib (c : UInt8) (s : (List UInt8)) : ∀ k, k ≤ s.length → Lib.lastIdx (ofL s) (c.toNat : Int) k = lastFrom c s k
  | 0, _ => rfl
  | k + 1, hk => by
    have ih := lastFrom_lib c s k (by omega)
    have hk' : k < s.length := by omega
    unfold Lib.lastIdx lastFrom
    rw [ih]
    have e : (ofL s).data[k]! = s[k] := by
      show s.toArray[k]! = _
      simp [hk']
    rw [e, List.getElem?_eq_getElem hk']
    by_cases h : s[k] = c
    · rw [if_pos (by rw [h]), if_pos (by rw [h])]
    · rw [if_neg, if_neg (fun e => h (Option.some.inj e))]
      intro e2
      exact h (UInt8.toNat_inj.1 (by omega))
theorem lastL_lib (c : UInt8) (s : (List UInt8)) : Lib.lastIndexByte (ofL s) (c.toNat : Int) = lastL c s := by
  unfold Lib.lastIndexByte lastL
  rw [ofL_size]; exact lastFrom_lib c s _ (Nat.le_refl _)
set_option maxHeartbeats 1000000 in
theorem plast_calls (s : (List UInt8)) (c : UInt8) (w : World) (hs : s.length ≤ 140737488351232) :
    Calls Tryd.prog 53 #[.string (ofL s), .int .u8 c.toNat] w fun e w' => e = .returned (.int .i64 (lastL c s)) ∧ w = w' := by
  refine (Tryd.strings_LastIndexByte (ofL s) (c.toNat : Int) (by rw [ofL_size]; omega) w).mono ?_
  rintro e w' ⟨rfl, rfl⟩
  exact ⟨by rw [lastL_lib], rfl⟩
theorem extract_ofL (s : (List UInt8)) (a b : Nat) : (ofL s).extract a b = ofL ((s.take b).drop a) := by
  have h := Lib.extract_data (ofL s) a b
  have e : (ofL s).data.toList = s := toL_of s
  rw [e] at h
  rw [← of_toL ((ofL s).extract a b)]
  unfold toL
  rw [h]
  congr 1
  rw [List.drop_take]
def dirL (s : (List UInt8)) : (List UInt8) := if lastL 47 s < 0 then dotL else if lastL 47 s = 0 then [47] else s.take (lastL 47 s).toNat
def nameL (s : (List UInt8)) : (List UInt8) := s.drop (lastL 47 s + 1).toNat
def suffixL (s : (List UInt8)) : (List UInt8) := if lastL 46 (nameL s) < 1 then [] else (nameL s).drop (lastL 46 (nameL s)).toNat
def rootL (s : (List UInt8)) : (List UInt8) := s.take (s.length - (suffixL s).length)
theorem name_len (s : (List UInt8)) : (nameL s).length ≤ s.length := by unfold nameL; rw [List.length_drop]; omega
theorem suffix_len (s : (List UInt8)) : (suffixL s).length ≤ s.length := by
  unfold suffixL
  split
  · simp
  · rw [List.length_drop]; have := name_len s; omega
theorem suffix_suf (s : (List UInt8)) : suffixL s <:+ s := by
  unfold suffixL
  split
  · exact List.nil_suffix
  · exact (List.drop_suffix _ _).trans (List.drop_suffix _ _)
section
variable (s : (List UInt8)) (w : World) (hs : s.length ≤ 140737488351232)
include hs
set_option maxHeartbeats 1000000 in
theorem pname_calls : Calls Tryd.prog 43 #[.string (ofL s)] w fun e w' => e = .returned (.string (ofL (nameL s))) ∧ w = w' := by
  have hz := ofL_size s
  have hL := plast_calls s 47 w hs
  obtain ⟨r1, r2⟩ := lastL_range 47 s
  unfold nameL
  generalize lastL 47 s = i at *
  obtain ⟨k, rfl⟩ : ∃ k : Nat, i = (k : Int) - 1 := ⟨(i + 1).toNat, by omega⟩
  have hk : k ≤ s.length := by omega
  have HR : Hid (ofL (s.drop ((k : Int) - 1 + 1).toNat) = (ofL s).extract k s.length) := by
    unfold Hid
    rw [extract_ofL, List.take_length]
    congr 2; omega
  go_enter Tryd.func43, Tryd.ntmps43
  go_wp2_with fail
  refine hL.mono ?_
  rintro e w' ⟨rfl, rfl⟩
  go_wp2_with fail
  go_ret
  exact ⟨by rw [HR.out]; rfl, rfl⟩
set_option maxHeartbeats 1000000 in
theorem pdir_calls : Calls Tryd.prog 42 #[.string (ofL s)] w fun e w' => e = .returned (.string (ofL (dirL s))) ∧ w = w' := by
  have hz := ofL_size s
  have hL := plast_calls s 47 w hs
  obtain ⟨r1, r2⟩ := lastL_range 47 s
  unfold dirL
  generalize lastL 47 s = i at *
  by_cases h1 : i < 0
  · obtain rfl : i = -1 := by omega
    rw [if_pos h1]
    clear h1
    go_enter Tryd.func42, Tryd.ntmps42
    go_wp2_with fail
    refine hL.mono ?_
    rintro e w' ⟨rfl, rfl⟩
    go_wp2_with fail
    go_ret
    exact ⟨rfl, rfl⟩
  · rw [if_neg h1]
    by_cases h2 : i = 0
    · subst h2
      rw [if_pos rfl]
      clear h1
      go_enter Tryd.func42, Tryd.ntmps42
      go_wp2_with fail
      refine hL.mono ?_
      rintro e w' ⟨rfl, rfl⟩
      go_wp2_with fail
      go_ret
      exact ⟨rfl, rfl⟩
    · rw [if_neg h2]
      obtain ⟨k, rfl⟩ : ∃ k : Nat, i = (k : Int) := ⟨i.toNat, by omega⟩
      have hk : k ≤ s.length := by omega
      have d1 : decide ((k : Int) < 0) = false := decide_eq_false (by omega)
      have d2 : ((k : Int) == -1) = false := beq_eq_false_iff_ne.2 (by omega)
      have d3 : ((k : Int) == 0) = false := beq_eq_false_iff_ne.2 h2
      have d4 : decide (k = 0) = false := decide_eq_false (by omega)
      have d5 : decide ((k : Int) = -1) = false := decide_eq_false (by omega)
      have d6 : ¬ k = 0 := by omega
      have HR : Hid (ofL (s.take ((k : Int)).toNat) = (ofL s).extract 0 k) := by
        unfold Hid
        rw [extract_ofL, List.drop_zero, Int.toNat_natCast]
      clear h1 h2
      go_enter Tryd.func42, Tryd.ntmps42
      go_wp2_with fail
      refine hL.mono ?_
      rintro e w' ⟨rfl, rfl⟩
      go_wp2_with fail
      go_ret
      exact ⟨by rw [HR.out]; rfl, rfl⟩
end
set_option maxHeartbeats 1000000 in
theorem prooted_calls (s : (List UInt8)) (w : World) : Calls Tryd.prog 69 #[.string (ofL s)] w fun e w' => e = .returned (.bool (rootedL s)) ∧ w = w' := by
  have hP : Calls Tryd.prog 80 #[.string (ofL s), .string ⟨#[47]⟩] w fun e w' => e = .returned (.bool (rootedL s)) ∧ w = w' := by
    refine (Tryd.strings_HasPrefix (ofL s) ⟨#[47]⟩ w).mono ?_
    rintro e w' ⟨rfl, rfl⟩
    refine ⟨?_, rfl⟩
    have e1 : (ofL s).data.toList = s := toL_of s
    rw [e1]
    unfold Lib.hasPrefix rootedL
    cases s with
    | nil => rfl
    | cons a s =>
      show Ending.returned (.bool (([47] : (List UInt8)).isPrefixOf (a :: s))) = .returned (.bool (some a == some 47))
      have : ([47] : (List UInt8)).isPrefixOf (a :: s) = (some a == some 47) := by
        rw [Bool.eq_iff_iff]
        simp [List.isPrefixOf]
        exact eq_comm
      rw [this]
  go_enter Tryd.func69, Tryd.ntmps69
  go_wp2_with fail
  refine hP.mono ?_
  rintro e w' ⟨rfl, rfl⟩
  go_wp2_with fail
  go_ret
  exact ⟨rfl, rfl⟩
set_option maxHeartbeats 1000000 in
theorem rrooted_calls (s : (List UInt8)) (w : World) (hs : s.length ≤ 140737488351232) : Calls Tryd.prog 46 #[.string (ofL s)] w fun e w' => e = .returned (.bool (rootedL s)) ∧ w = w' := by
  have hz := ofL_size s
  unfold rootedL
  cases s with
  | nil =>
    go_enter Tryd.func46, Tryd.ntmps46
    go_wp2_with fail
    go_ret
    exact ⟨rfl, rfl⟩
  | cons a s =>
    have h0 : 0 < (ofL (a :: s)).size := by rw [ofL_size]; simp
    have d1 : (((((ofL (a :: s))[0]'h0).toNat : Nat) : Int) == 47) = decide (a = 47) := byte_eq a 47
    have e1 : ((a :: s).head? == some 47) = decide (a = 47) := by
      rw [Bool.eq_iff_iff]; simp
    rw [e1]
    have d2 : decide (0 < ((ofL (a :: s)).size : Int)) = true := decide_eq_true (by omega)
    generalize decide (a = 47) = q at *
    generalize ofL (a :: s) = S at *
    clear e1 hz
    go_enter Tryd.func46, Tryd.ntmps46
    go_wp2_with fail
    go_ret
    exact ⟨rfl, rfl⟩
end Go.Proofs.YtjhcabjlhnhkbaaDoor
