/-
  The walks of layer 15 (suff): the references, and the small functions of the statements.
-/
import Derived.Test.YtliglejbkpjamaaSuffD
set_option linter.unusedVariables false
set_option linter.unusedSimpArgs false
namespace Go.Proofs.Ytliglejbkpjamaa
open Go.RowKit

theorem quietW {P : Program} {f : FuncId} {args : Array Value} {w : World} {n : Nat} {v : Value}
    (h : Calls P f args (w.drewN n) fun e w' => e = .returned v ∧ w.drewN n = w') : Calls P f args (w.drewN n) fun e w'' => e = .returned v ∧ ∃ m, w'' = w.drewN m :=
  h.mono fun _ _ ⟨he, hm⟩ => ⟨he, n, hm.symm⟩

theorem mem_step {l : List ByteArray} {x : ByteArray} {k : Nat} (hlt : k < l.length) (hno : ∀ j, j < k → l[j]? ≠ some x) (he : ¬ l[k] = x) : ∀ j, j < k + 1 → l[j]? ≠ some x := by
  intro j hj
  by_cases hjk : j = k
  · subst hjk; rw [List.getElem?_eq_getElem hlt]; intro e; exact he (Option.some.inj e)
  · exact hno j (by omega)
theorem mem_end {l : List ByteArray} {x : ByteArray} (hno : ∀ j, j < l.length → l[j]? ≠ some x) : mem l x = false := by
  rw [mem_false]
  intro h
  obtain ⟨j, hj, e⟩ := List.getElem_of_mem h
  exact hno j hj (by rw [List.getElem?_eq_getElem hj, e])

def memP (l : List (ByteArray × ByteArray)) (x : ByteArray × ByteArray) : Bool := l.any (fun y => decide (x = y))
theorem memP_iff (l : List (ByteArray × ByteArray)) (x : ByteArray × ByteArray) : memP l x = true ↔ x ∈ l := by simp [memP]
theorem memP_end {l : List (ByteArray × ByteArray)} {x : ByteArray × ByteArray} (hno : ∀ j, j < l.length → l[j]? ≠ some x) : memP l x = false := by
  cases h : memP l x
  · rfl
  · rw [memP_iff] at h
    obtain ⟨j, hj, e⟩ := List.getElem_of_mem h
    exact absurd (by rw [List.getElem?_eq_getElem hj, e]) (hno j hj)

theorem eql_pair (a b : ByteArray × ByteArray) (w : World) : (binOp .eql 93 (.agg #[.string a.1, .string a.2]) (.agg #[.string b.1, .string b.2])).run Try.prog w = .ok (.bool (decide (a = b))) w := by
  have h := equal_pair (P := Try.prog) (st := 9) Try.underlying93 Try.underlying9 (by kernel_rfl) a b w
  simp only [binOp]
  unfold pairV at h
  simp [h]

def same (a b : List ByteArray) : Bool := decide (a = b)
theorem same_end {a b : List ByteArray} (hl : a.length = b.length) (h : ∀ j, j < a.length → a[j]? = b[j]?) : same a b = true := by
  refine decide_eq_true (List.ext_getElem? fun j => ?_)
  by_cases hj : j < a.length
  · exact h j hj
  · rw [List.getElem?_eq_none (by omega), List.getElem?_eq_none (by omega)]

set_option maxHeartbeats 1000000 in
theorem same_calls (V U : Value) (l m : List ByteArray) (w : World) (hV : Strs w V l) (hU : Strs w U m) :
    Calls Try.prog 17 #[V, U] w fun e w' => e = .returned (.bool (same l m)) ∧ Mem none_ w [] w' := by
  obtain ⟨A, c, rfl, h1, h2, h3, h4⟩ := hV
  obtain ⟨A', c', rfl, h1', h2', h3', h4'⟩ := hU
  unfold maxLen at h2 h2'
  by_cases hl : l.length = m.length
  · have hl0 : ((l.length : Int) != m.length) = false := by rw [bne_eq_false_iff_eq]; omega
    have hl1 := Lib.hid hl
    clear hl
    go_enter Try.func17, Try.ntmps17
    go_wp2
    go_loopw [5] (fun i wr => ∃ k : Nat, k ≤ l.length ∧ i = .int .i64 k ∧ Hid (∀ j, j < k → l[j]? = m[j]?) ∧ Mem none_ w [] wr) (fun i _ => l.length - (intOf i).toNat)
    case atStart => exact ⟨0, Nat.zero_le _, rfl, fun j hj => by omega, Mem.start _⟩
    case round =>
      obtain ⟨k, hk, rfl, hyes, HM⟩ := hrel
      by_cases hlt : k < l.length
      · have hlt' : k < m.length := by have := hl1.out; omega
        obtain ⟨b, o, rfl, hcells⟩ := h4.resolve_left (by omega)
        obtain ⟨b', o', rfl, hcells'⟩ := h4'.resolve_left (by omega)
        clear h4 h4'
        have hx0 : wr.cell? ⟨b, o + k, none⟩ = some (.string l[k]) := HM.mu.cell (hcells k _ (strs_get hlt)) (fun h => h)
        have hx1 : wr.cell? ⟨b', o' + k, none⟩ = some (.string m[k]) := HM.mu.cell (hcells' k _ (strs_get hlt')) (fun h => h)
        clear hcells hcells'
        by_cases he : l[k] = m[k]
        · have he' : (l[k].toList == m[k].toList) = true := by rw [strEq]; simp [he]
          have hy2 : Hid (∀ j, j < k + 1 → l[j]? = m[j]?) := by
            intro j hj
            by_cases hjk : j = k
            · subst hjk; rw [List.getElem?_eq_getElem hlt, List.getElem?_eq_getElem hlt', he]
            · exact hyes.out j (by omega)
          clear he
          go_wp2
          go_quiet (fail)
          go_wp2
          go_roundw
          case rel => exact ⟨k + 1, by omega, by go_num, hy2, HM.drewN _⟩
          case measure => simp [intOf]; omega
        · have he' : (l[k].toList == m[k].toList) = false := by rw [strEq]; simp [he]
          have HR : Hid (same l m = false) := by
            unfold Hid same
            refine decide_eq_false (fun e => he ?_)
            have := congrArg (fun l => l[k]?) e
            simpa [hlt, hlt'] using this
          clear he
          go_wp2
          go_quiet (fail)
          go_wp2
          go_ret
          exact ⟨ret_bool HR.out.symm, HM.drewN _⟩
      · have HR : Hid (same l m = true) := same_end hl1.out (fun j hj => hyes.out j (by omega))
        go_wp2
        go_ret
        exact ⟨ret_bool HR.out.symm, HM⟩
  · have hl0 : ((l.length : Int) != m.length) = true := by rw [bne_iff_ne]; omega
    have HR : Hid (same l m = false) := decide_eq_false (fun e => hl (by rw [e]))
    clear hl
    go_enter Try.func17, Try.ntmps17
    go_wp2
    go_ret
    exact ⟨ret_bool HR.out.symm, Mem.start _⟩

def farT (s : List ByteArray) (ways : List (ByteArray × ByteArray)) : Bool := decide (70 < s.length) || decide (30 < ways.length) || s.any (fun x => decide (50 < x.size))

end Go.Proofs.Ytliglejbkpjamaa
