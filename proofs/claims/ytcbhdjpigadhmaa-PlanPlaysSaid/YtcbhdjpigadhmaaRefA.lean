/-
  The walks of the reference of layer 19: At, some, names.
-/
import Derived.Test.YtcbhdjpigadhmaaPlanU
import Derived.Test.YtcbhdjpigadhmaaPlanO
set_option linter.unusedVariables false
set_option linter.unusedSimpArgs false
namespace Go.Proofs.Ytcbhdjpigadhmaa
open Go.RowKit

def atFrom : List ByteArray → ByteArray → Nat → Int
  | [], _, _ => -1
  | y :: l, x, k => if y = x then (k : Int) else atFrom l x (k + 1)
/-- A name's place among some; -1: it is not there. -/
def atR (l : List ByteArray) (x : ByteArray) : Int := atFrom l x 0
theorem atFrom_hit : ∀ (l : List ByteArray) (x : ByteArray) (b k : Nat), l[k]? = some x → (∀ j, j < k → l[j]? ≠ some x) → atFrom l x b = ((b + k : Nat) : Int)
  | [], x, b, k, h, _ => by simp at h
  | y :: l, x, b, 0, h, _ => by
    have e : y = x := by simpa using h
    unfold atFrom; rw [if_pos e, Nat.add_zero]
  | y :: l, x, b, k + 1, h, hn => by
    have e : ¬ y = x := fun e => hn 0 (by omega) (by simp [e])
    unfold atFrom; rw [if_neg e, atFrom_hit l x (b + 1) k (by simpa using h) (fun j hj => by have := hn (j + 1) (by omega); simpa using this)]
    congr 1; omega
theorem atFrom_no : ∀ (l : List ByteArray) (x : ByteArray) (b : Nat), (∀ j, j < l.length → l[j]? ≠ some x) → atFrom l x b = -1
  | [], _, _, _ => rfl
  | y :: l, x, b, hn => by
    have e : ¬ y = x := fun e => hn 0 (by simp) (by simp [e])
    unfold atFrom; rw [if_neg e, atFrom_no l x (b + 1) (fun j hj => by have := hn (j + 1) (by simpa using hj); simpa using this)]
theorem atR_hit {l : List ByteArray} {x : ByteArray} {k : Nat} (h : l[k]? = some x) (hn : ∀ j, j < k → l[j]? ≠ some x) : atR l x = (k : Int) := by
  have := atFrom_hit l x 0 k h hn
  rwa [Nat.zero_add] at this
theorem atR_no {l : List ByteArray} {x : ByteArray} (hn : ∀ j, j < l.length → l[j]? ≠ some x) : atR l x = -1 := atFrom_no l x 0 hn
theorem atR_cases (l : List ByteArray) (x : ByteArray) : (∃ k : Nat, l[k]? = some x ∧ (∀ j : Nat, j < k → l[j]? ≠ some x) ∧ atR l x = (k : Int)) ∨ ((∀ j : Nat, l[j]? ≠ some x) ∧ atR l x = -1) := by
  by_cases h : ∃ k : Nat, l[k]? = some x
  · left
    have hk : ∃ k : Nat, l[k]? = some x ∧ ∀ j, j < k → l[j]? ≠ some x := by
      obtain ⟨k, hk⟩ := h
      induction k using Nat.strongRecOn with
      | _ k ih =>
        by_cases hj : ∃ j, j < k ∧ l[j]? = some x
        · obtain ⟨j, hj, e⟩ := hj; exact ih j hj e
        · exact ⟨k, hk, fun j hjk e => hj ⟨j, hjk, e⟩⟩
    obtain ⟨k, h1, h2⟩ := hk
    exact ⟨k, h1, h2, atR_hit h1 h2⟩
  · right
    have hn : ∀ j : Nat, l[j]? ≠ some x := fun j e => h ⟨j, e⟩
    exact ⟨hn, atR_no fun j _ => hn j⟩
theorem atR_ge {l : List ByteArray} {x : ByteArray} : 0 ≤ atR l x ↔ x ∈ l := by
  rcases atR_cases l x with ⟨k, h1, _, h3⟩ | ⟨h1, h2⟩
  · rw [h3]; exact ⟨fun _ => List.mem_of_getElem? h1, fun _ => by omega⟩
  · rw [h2]
    exact ⟨fun h => by omega, fun h => by obtain ⟨j, hj⟩ := List.getElem?_of_mem h; exact absurd hj (h1 j)⟩
def someR (l ins : List ByteArray) : Bool := l.any (fun x => decide (0 ≤ atR ins x))

set_option maxHeartbeats 1000000 in
theorem at_calls (V : Value) (l : List ByteArray) (x : ByteArray) (w : World) (hV : Strs w V l) (hb : l.length ≤ 1000000) :
    Calls Try.prog 39 #[V, .string x] w fun e w' => e = .returned (.int .i64 (atR l x)) ∧ w = w' := by
  obtain ⟨A, c, rfl, h1, h2, h3, h4⟩ := hV
  unfold maxLen at h2
  go_enter Try.func39, Try.ntmps39
  go_wp2
  go_loop [5] (fun i => ∃ k : Nat, k ≤ l.length ∧ i = .int .i64 k ∧ Hid (∀ j, j < k → l[j]? ≠ some x)) (fun i => l.length - (intOf i).toNat)
  case atStart => exact ⟨0, Nat.zero_le _, rfl, fun j hj => by omega⟩
  case round =>
    obtain ⟨k, hk, rfl, hno⟩ := hrel
    by_cases hlt : k < l.length
    · have hlt' : decide ((k : Int) < (l.length : Int)) = true := decide_eq_true (by omega)
      obtain ⟨b, o, rfl, hcells⟩ := h4.resolve_left (by omega)
      clear h4
      have hx0 : w.cell? ⟨b, o + k, none⟩ = some (.string l[k]) := hcells k _ (strs_get hlt)
      clear hcells
      by_cases he : l[k] = x
      · have HR : Hid (atR l x = (k : Int)) := atR_hit (by rw [List.getElem?_eq_getElem hlt, he]) hno.out
        have he' : (l[k].toList == x.toList) = true := by rw [strEq]; simp [he]
        clear he
        generalize l[k] = y at *
        go_wp2
        go_ret
        exact ⟨by rw [HR.out]; rfl, rfl⟩
      · have hno2 : Hid (∀ j, j < k + 1 → l[j]? ≠ some x) := by
          intro j hj
          by_cases hjk : j = k
          · subst hjk; rw [List.getElem?_eq_getElem hlt]; intro e; exact he (Option.some.inj e)
          · exact hno.out j (by omega)
        have he' : (l[k].toList == x.toList) = false := by rw [strEq]; simp [he]
        clear he
        generalize l[k] = y at *
        go_wp2
        go_round
        case rel => exact ⟨k + 1, by omega, by go_num, hno2⟩
        case measure => simp [intOf]; omega
    · have HR : Hid (atR l x = -1) := atR_no (fun j hj => hno.out j (by omega))
      have e : k = l.length := by omega
      subst e
      go_wp2
      go_ret
      exact ⟨by rw [HR.out]; rfl, rfl⟩

set_option maxHeartbeats 1000000 in
theorem some_calls (V U : Value) (l ins : List ByteArray) (w : World) (hV : Strs w V l) (hU : Strs w U ins) (hb : l.length ≤ 1000000) (hb2 : ins.length ≤ 1000000) :
    Calls Try.prog 40 #[V, U] w fun e w' => e = .returned (.bool (someR l ins)) ∧ w = w' := by
  have hAt : Hid (∀ x, Calls Try.prog 39 #[U, .string x] w fun e w' => e = .returned (.int .i64 (atR ins x)) ∧ w = w') := fun x => at_calls U ins x w hU hb2
  obtain ⟨A, c, rfl, h1, h2, h3, h4⟩ := hV
  obtain ⟨UA, uc, rfl, u1, u2⟩ := Sl.any_ hU
  unfold maxLen at h2
  go_enter Try.func40, Try.ntmps40
  go_wp2
  go_loop [5] (fun i => ∃ k : Nat, k ≤ l.length ∧ i = .int .i64 k ∧ Hid (someR (l.take k) ins = false)) (fun i => l.length - (intOf i).toNat)
  case atStart => exact ⟨0, Nat.zero_le _, rfl, rfl⟩
  case round =>
    obtain ⟨k, hk, rfl, hno⟩ := hrel
    by_cases hlt : k < l.length
    · have hlt' : decide ((k : Int) < (l.length : Int)) = true := decide_eq_true (by omega)
      obtain ⟨b, o, rfl, hcells⟩ := h4.resolve_left (by omega)
      clear h4
      have hx0 : w.cell? ⟨b, o + k, none⟩ = some (.string l[k]) := hcells k _ (strs_get hlt)
      clear hcells
      have hs : someR (l.take (k + 1)) ins = (someR (l.take k) ins || decide (0 ≤ atR ins l[k])) := by
        unfold someR
        rw [List.take_succ_eq_append_getElem hlt, List.any_append]; simp
      rw [hno.out, Bool.false_or] at hs
      by_cases he : 0 ≤ atR ins l[k]
      · have HR : Hid (someR l ins = true) := by
          unfold Hid someR
          rw [List.any_eq_true]
          exact ⟨l[k], List.getElem_mem hlt, decide_eq_true he⟩
        have hA := hAt.out l[k]
        clear hs hAt
        generalize atR ins l[k] = q at *
        generalize l[k] = y at *
        go_wp2_with fail
        refine hA.mono ?_
        rintro e w' ⟨rfl, rfl⟩
        go_wp2_with fail
        go_ret
        exact ⟨by rw [HR.out]; rfl, rfl⟩
      · rw [decide_eq_false he] at hs
        have Hs := Lib.hid hs
        have hA := hAt.out l[k]
        clear hs hAt
        have hq : ¬ 0 ≤ atR ins l[k] := he
        clear he
        generalize atR ins l[k] = q at *
        generalize l[k] = y at *
        go_wp2_with fail
        refine hA.mono ?_
        rintro e w' ⟨rfl, rfl⟩
        go_wp2_with fail
        go_round
        case rel => exact ⟨k + 1, by omega, by go_num, Hs⟩
        case measure => simp [intOf]; omega
    · have e : k = l.length := by omega
      subst e
      have HR : Hid (someR l ins = false) := by have := hno.out; rw [List.take_length] at this; exact Lib.hid this
      go_wp2_with fail
      go_ret
      exact ⟨by rw [HR.out]; rfl, rfl⟩
end Go.Proofs.Ytcbhdjpigadhmaa
