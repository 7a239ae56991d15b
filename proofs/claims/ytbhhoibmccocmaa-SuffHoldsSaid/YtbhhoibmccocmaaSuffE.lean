/-
  The walks of layer 15 (suff): the references, and the small functions of the statements.
-/
import Derived.Test.YtbhhoibmccocmaaSuffD
set_option linter.unusedVariables false
set_option linter.unusedSimpArgs false
namespace Go.Proofs.Ytbhhoibmccocmaa
open Go.RowKit

theorem quietW {P : Program} {f : FuncId} {args : Array Value} {w : World} {n : Nat} {v : Value}
    (h : Calls P f args (w.drewN n) fun e w' => e = .returned v ∧ w.drewN n = w') : Calls P f args (w.drewN n) fun e w'' => e = .returned v ∧ ∃ m, w'' = w.drewN m :=
  h.mono fun _ _ ⟨he, hm⟩ => ⟨he, n, hm.symm⟩

theorem mem_step {l : List ByteArray} {x : ByteArray} {k : Nat} (hlt : k < l.length) (hno : ∀ j, j < k → l[j]? ≠ some x) (he : ¬ l[k] = x) : ∀ j, j < k + 1 → l[j]? ≠ some x := by
  intro j hj
  by_cases hjk : j = k
  · subst hjk; rw [List.getElem?_eq_getElem hlt]; intro e; exact he (Option.some.inj e)
  · exact hno j (by omega)
theorem mem_end {l : List ByteArray} {x : ByteArray} (hno : ∀ j, j < l.length → l[j]? ≠ some x) : mem l x = false := by
  rw [mem_false]
  intro h
  obtain ⟨j, hj, e⟩ := List.getElem_of_mem h
  exact hno j hj (by rw [List.getElem?_eq_getElem hj, e])

set_option maxHeartbeats 400000 in
theorem in_calls (V : Value) (l : List ByteArray) (x : ByteArray) (w : World) (hV : Strs w V l) :
    Calls Try.prog 10 #[V, .string x] w fun e w' => e = .returned (.bool (mem l x)) ∧ w = w' := by
  obtain ⟨A, c, rfl, h1, h2, h3, h4⟩ := hV
  unfold maxLen at h2
  go_enter Try.func10, Try.ntmps10
  go_wp2
  go_loop [9] (fun i => ∃ k : Nat, k ≤ l.length ∧ i = .int .i64 k ∧ Hid (∀ j, j < k → l[j]? ≠ some x)) (fun i => l.length - (intOf i).toNat)
  case atStart => exact ⟨0, Nat.zero_le _, rfl, fun j hj => by omega⟩
  case round =>
    obtain ⟨k, hk, rfl, hno⟩ := hrel
    by_cases hlt : k < l.length
    · obtain ⟨b, o, rfl, hcells⟩ := h4.resolve_left (by omega)
      clear h4
      have hx0 : w.cell? ⟨b, o + k, none⟩ = some (.string l[k]) := hcells k _ (strs_get hlt)
      clear hcells
      by_cases he : l[k] = x
      · have HR : Hid (mem l x = true) := (mem_iff l x).2 (he ▸ List.getElem_mem hlt)
        have he' : (l[k].toList == x.toList) = true := by rw [strEq]; simp [he]
        clear he
        go_wp2
        go_ret
        exact ⟨ret_bool HR.out.symm, rfl⟩
      · have he' : (l[k].toList == x.toList) = false := by rw [strEq]; simp [he]
        have hno' := mem_step hlt hno.out he
        clear he
        have hno2 := Lib.hid hno'
        clear hno'
        go_wp2
        go_round
        case rel => exact ⟨k + 1, by omega, by go_num, hno2⟩
        case measure => simp [intOf]; omega
    · have HR : Hid (mem l x = false) := mem_end (fun j hj => hno.out j (by omega))
      go_wp2
      go_ret
      exact ⟨ret_bool HR.out.symm, rfl⟩

set_option maxHeartbeats 400000 in
theorem has_calls (V : Value) (l : List ByteArray) (x : ByteArray) (w : World) (hV : Strs w V l) :
    Calls Try.prog 21 #[V, .string x] w fun e w' => e = .returned (.bool (mem l x)) ∧ w = w' := by
  obtain ⟨A, c, rfl, h1, h2, h3, h4⟩ := hV
  unfold maxLen at h2
  go_enter Try.func21, Try.ntmps21
  go_wp2
  go_loop [5] (fun i => ∃ k : Nat, k ≤ l.length ∧ i = .int .i64 k ∧ Hid (∀ j, j < k → l[j]? ≠ some x)) (fun i => l.length - (intOf i).toNat)
  case atStart => exact ⟨0, Nat.zero_le _, rfl, fun j hj => by omega⟩
  case round =>
    obtain ⟨k, hk, rfl, hno⟩ := hrel
    by_cases hlt : k < l.length
    · obtain ⟨b, o, rfl, hcells⟩ := h4.resolve_left (by omega)
      clear h4
      have hx0 : w.cell? ⟨b, o + k, none⟩ = some (.string l[k]) := hcells k _ (strs_get hlt)
      clear hcells
      by_cases he : l[k] = x
      · have HR : Hid (mem l x = true) := (mem_iff l x).2 (he ▸ List.getElem_mem hlt)
        have he' : (l[k].toList == x.toList) = true := by rw [strEq]; simp [he]
        clear he
        go_wp2
        go_ret
        exact ⟨ret_bool HR.out.symm, rfl⟩
      · have he' : (l[k].toList == x.toList) = false := by rw [strEq]; simp [he]
        have hno' := mem_step hlt hno.out he
        clear he
        have hno2 := Lib.hid hno'
        clear hno'
        go_wp2
        go_round
        case rel => exact ⟨k + 1, by omega, by go_num, hno2⟩
        case measure => simp [intOf]; omega
    · have HR : Hid (mem l x = false) := mem_end (fun j hj => hno.out j (by omega))
      go_wp2
      go_ret
      exact ⟨ret_bool HR.out.symm, rfl⟩

def memP (l : List (ByteArray × ByteArray)) (x : ByteArray × ByteArray) : Bool := l.any (fun y => decide (x = y))
theorem memP_iff (l : List (ByteArray × ByteArray)) (x : ByteArray × ByteArray) : memP l x = true ↔ x ∈ l := by simp [memP]
theorem memP_end {l : List (ByteArray × ByteArray)} {x : ByteArray × ByteArray} (hno : ∀ j, j < l.length → l[j]? ≠ some x) : memP l x = false := by
  cases h : memP l x
  · rfl
  · rw [memP_iff] at h
    obtain ⟨j, hj, e⟩ := List.getElem_of_mem h
    exact absurd (by rw [List.getElem?_eq_getElem hj, e]) (hno j hj)

theorem eql_pair (a b : ByteArray × ByteArray) (w : World) : (binOp .eql 44 (.agg #[.string a.1, .string a.2]) (.agg #[.string b.1, .string b.2])).run Try.prog w = .ok (.bool (decide (a = b))) w := by
  have h := equal_pair (P := Try.prog) (st := 9) Try.underlying44 Try.underlying9 (by kernel_rfl) a b w
  simp only [binOp]
  unfold pairV at h
  simp [h]

set_option maxHeartbeats 1000000 in
theorem way_calls (V : Value) (l : List (ByteArray × ByteArray)) (x : ByteArray × ByteArray) (w : World) (hV : Prs w V l) :
    Calls Try.prog 22 #[V, .agg #[.string x.1, .string x.2]] w fun e w' => e = .returned (.bool (memP l x)) ∧ Mem none_ w [] w' := by
  obtain ⟨A, c, rfl, h1, h2, h3, h4⟩ := hV
  unfold maxLen at h2
  have HM0 := (Mem.start (fp := none_) w).box #[.string x.1, .string x.2] 44
  go_enter Try.func22, Try.ntmps22
  go_wp2
  go_loopw [5] (fun i wr => ∃ k : Nat, k ≤ l.length ∧ i = .int .i64 k ∧ Hid (∀ j, j < k → l[j]? ≠ some x) ∧ Mem none_ w [Blk w.heap.size 44 #[.string x.1, .string x.2]] wr) (fun i _ => l.length - (intOf i).toNat)
  case atStart => exact ⟨0, Nat.zero_le _, rfl, fun j hj => by omega, HM0⟩
  case round =>
    clear HM0
    obtain ⟨k, hk, rfl, hno, HM⟩ := hrel
    by_cases hlt : k < l.length
    · obtain ⟨b, o, rfl, hcells⟩ := h4.resolve_left (by omega)
      clear h4
      have hx0 : wr.cell? ⟨b, o + k * 2, none⟩ = some (.string l[k].1) := HM.mu.cell (hcells _ _ (prs_get0 hlt)) (fun h => h)
      have hx1 : wr.cell? ⟨b, o + k * 2 + 1, none⟩ = some (.string l[k].2) := HM.mu.cell (hcells _ _ (prs_get1 hlt)) (fun h => h)
      clear hcells
      have hb0 : wr.cell? ⟨w.heap.size, 0, none⟩ = some (.string x.1) := Blk.cell HM.head 0
      have hb1 : wr.cell? ⟨w.heap.size, 1, none⟩ = some (.string x.2) := Blk.cell HM.head 1
      by_cases he : l[k] = x
      · have HR : Hid (memP l x = true) := (memP_iff l x).2 (he ▸ List.getElem_mem hlt)
        have hq : ∀ W, (binOp .eql 44 (.agg #[.string l[k].1, .string l[k].2]) (.agg #[.string x.1, .string x.2])).run Try.prog W = .ok (.bool true) W := fun W => by rw [eql_pair, decide_eq_true he]
        clear he
        go_wp2
        go_quiet (fail)
        go_wp2
        go_ret
        exact ⟨ret_bool HR.out.symm, (HM.drewN _).sel [] (by decide)⟩
      · have hq : ∀ W, (binOp .eql 44 (.agg #[.string l[k].1, .string l[k].2]) (.agg #[.string x.1, .string x.2])).run Try.prog W = .ok (.bool false) W := fun W => by rw [eql_pair, decide_eq_false he]
        have hno2 : Hid (∀ j, j < k + 1 → l[j]? ≠ some x) := by
          intro j hj
          by_cases hjk : j = k
          · subst hjk; rw [List.getElem?_eq_getElem hlt]; intro e; exact he (Option.some.inj e)
          · exact hno.out j (by omega)
        clear he
        go_wp2
        go_quiet (fail)
        go_wp2
        go_roundw
        case rel => exact ⟨k + 1, by omega, by go_num, hno2, HM.drewN _⟩
        case measure => simp [intOf]; omega
    · have HR : Hid (memP l x = false) := memP_end (fun j hj => hno.out j (by omega))
      go_wp2
      go_ret
      exact ⟨ret_bool HR.out.symm, HM.sel [] (by decide)⟩

def same (a b : List ByteArray) : Bool := decide (a = b)
theorem same_end {a b : List ByteArray} (hl : a.length = b.length) (h : ∀ j, j < a.length → a[j]? = b[j]?) : same a b = true := by
  refine decide_eq_true (List.ext_getElem? fun j => ?_)
  by_cases hj : j < a.length
  · exact h j hj
  · rw [List.getElem?_eq_none (by omega), List.getElem?_eq_none (by omega)]

set_option maxHeartbeats 1000000 in
theorem same_calls (V U : Value) (l m : List ByteArray) (w : World) (hV : Strs w V l) (hU : Strs w U m) :
    Calls Try.prog 14 #[V, U] w fun e w' => e = .returned (.bool (same l m)) ∧ Mem none_ w [] w' := by
  obtain ⟨A, c, rfl, h1, h2, h3, h4⟩ := hV
  obtain ⟨A', c', rfl, h1', h2', h3', h4'⟩ := hU
  unfold maxLen at h2 h2'
  by_cases hl : l.length = m.length
  · have hl0 : ((l.length : Int) != m.length) = false := by rw [bne_eq_false_iff_eq]; omega
    have hl1 := Lib.hid hl
    clear hl
    go_enter Try.func14, Try.ntmps14
    go_wp2
    go_loopw [5] (fun i wr => ∃ k : Nat, k ≤ l.length ∧ i = .int .i64 k ∧ Hid (∀ j, j < k → l[j]? = m[j]?) ∧ Mem none_ w [] wr) (fun i _ => l.length - (intOf i).toNat)
    case atStart => exact ⟨0, Nat.zero_le _, rfl, fun j hj => by omega, Mem.start _⟩
    case round =>
      obtain ⟨k, hk, rfl, hyes, HM⟩ := hrel
      by_cases hlt : k < l.length
      · have hlt' : k < m.length := by have := hl1.out; omega
        obtain ⟨b, o, rfl, hcells⟩ := h4.resolve_left (by omega)
        obtain ⟨b', o', rfl, hcells'⟩ := h4'.resolve_left (by omega)
        clear h4 h4'
        have hx0 : wr.cell? ⟨b, o + k, none⟩ = some (.string l[k]) := HM.mu.cell (hcells k _ (strs_get hlt)) (fun h => h)
        have hx1 : wr.cell? ⟨b', o' + k, none⟩ = some (.string m[k]) := HM.mu.cell (hcells' k _ (strs_get hlt')) (fun h => h)
        clear hcells hcells'
        by_cases he : l[k] = m[k]
        · have he' : (l[k].toList == m[k].toList) = true := by rw [strEq]; simp [he]
          have hy2 : Hid (∀ j, j < k + 1 → l[j]? = m[j]?) := by
            intro j hj
            by_cases hjk : j = k
            · subst hjk; rw [List.getElem?_eq_getElem hlt, List.getElem?_eq_getElem hlt', he]
            · exact hyes.out j (by omega)
          clear he
          go_wp2
          go_quiet (fail)
          go_wp2
          go_roundw
          case rel => exact ⟨k + 1, by omega, by go_num, hy2, HM.drewN _⟩
          case measure => simp [intOf]; omega
        · have he' : (l[k].toList == m[k].toList) = false := by rw [strEq]; simp [he]
          have HR : Hid (same l m = false) := by
            unfold Hid same
            refine decide_eq_false (fun e => he ?_)
            have := congrArg (fun l => l[k]?) e
            simpa [hlt, hlt'] using this
          clear he
          go_wp2
          go_quiet (fail)
          go_wp2
          go_ret
          exact ⟨ret_bool HR.out.symm, HM.drewN _⟩
      · have HR : Hid (same l m = true) := same_end hl1.out (fun j hj => hyes.out j (by omega))
        go_wp2
        go_ret
        exact ⟨ret_bool HR.out.symm, HM⟩
  · have hl0 : ((l.length : Int) != m.length) = true := by rw [bne_iff_ne]; omega
    have HR : Hid (same l m = false) := decide_eq_false (fun e => hl (by rw [e]))
    clear hl
    go_enter Try.func14, Try.ntmps14
    go_wp2
    go_ret
    exact ⟨ret_bool HR.out.symm, Mem.start _⟩

def farT (s : List ByteArray) (ways : List (ByteArray × ByteArray)) : Bool := decide (70 < s.length) || decide (30 < ways.length) || s.any (fun x => decide (50 < x.size))

set_option maxHeartbeats 1000000 in
theorem far_calls (SV WV : Value) (s : List ByteArray) (ways : List (ByteArray × ByteArray)) (w : World) (hS : Strs w SV s) (hW : Prs w WV ways) :
    Calls Try.prog 6 #[.agg #[SV, WV]] w fun e w' => e = .returned (.bool (farT s ways)) ∧ Mem none_ w [] w' := by
  obtain ⟨A, c, rfl, h1, h2, h3, h4⟩ := hS
  obtain ⟨A', c', rfl, h1', h2', h3', h4'⟩ := hW
  unfold maxLen at h2 h2'
  have HM0 := ((Mem.start (fp := none_) w).alloc (.cells #[.slice A s.length c, .slice A' ways.length c'] 25))
  by_cases hb1 : 70 < s.length
  · go_enter Try.func6, Try.ntmps6
    go_wp2
    go_ret
    exact ⟨ret_bool (by simp [farT, hb1]), HM0⟩
  by_cases hb2 : 30 < ways.length
  · go_enter Try.func6, Try.ntmps6
    go_wp2
    go_ret
    exact ⟨ret_bool (by simp [farT, hb2]), HM0⟩
  have hb1' : decide (70 < (s.length : Int)) = false := decide_eq_false (by omega)
  have hb2' : decide (30 < (ways.length : Int)) = false := decide_eq_false (by omega)
  have HR : Hid (farT s ways = s.any (fun x => decide (50 < x.size))) := by unfold Hid farT; simp [hb1, hb2]
  clear hb1 hb2
  go_enter Try.func6, Try.ntmps6
  go_wp2
  go_loop [18] (fun i => ∃ k : Nat, k ≤ s.length ∧ i = .int .i64 k ∧ Hid (s.any (fun x => decide (50 < x.size)) = (s.drop k).any (fun x => decide (50 < x.size)))) (fun i => s.length - (intOf i).toNat)
  case atStart => exact ⟨0, Nat.zero_le _, rfl, by unfold Hid; rfl⟩
  case round =>
    obtain ⟨k, hk, rfl, HK⟩ := hrel
    by_cases hlt : k < s.length
    · obtain ⟨b, o, rfl, hcells⟩ := h4.resolve_left (by omega)
      clear h4
      have hx0 : (w.alloc (.cells #[.slice (some ⟨b, o, none⟩) s.length c, .slice A' ways.length c'] 25)).cell? ⟨b, o + k, none⟩ = some (.string s[k]) := HM0.mu.cell (hcells k _ (strs_get hlt)) (fun h => h)
      clear hcells
      have HN : Hid ((s.drop k).any (fun x => decide (50 < x.size)) = (decide (50 < s[k].size) || (s.drop (k + 1)).any (fun x => decide (50 < x.size)))) := by
        unfold Hid; rw [List.drop_eq_getElem_cons hlt]; rfl
      by_cases hbig : 50 < s[k].size
      · have HF : Hid (farT s ways = true) := by unfold Hid; rw [HR.out, HK.out, HN.out, decide_eq_true hbig]; rfl
        go_wp2
        go_ret
        exact ⟨ret_bool HF.out.symm, HM0⟩
      · have hb' : decide (50 < (s[k].size : Int)) = false := decide_eq_false (by omega)
        have HN2 : Hid (s.any (fun x => decide (50 < x.size)) = (s.drop (k + 1)).any (fun x => decide (50 < x.size))) := by unfold Hid; rw [HK.out, HN.out, decide_eq_false hbig]; rfl
        clear hbig
        go_wp2
        go_round
        case rel => exact ⟨k + 1, by omega, by go_num, HN2⟩
        case measure => simp [intOf]; omega
    · have e : k = s.length := by omega
      have HF : Hid (farT s ways = false) := by unfold Hid; rw [HR.out, HK.out, e, List.drop_length]; rfl
      go_wp2
      go_ret
      exact ⟨ret_bool HF.out.symm, HM0⟩

set_option maxHeartbeats 400000 in
theorem theirs_calls (SV WV : Value) (s : List ByteArray) (ways : List (ByteArray × ByteArray)) (w : World) (hS : Strs w SV s) (hW : Prs w WV ways) :
    Calls Try.prog 9 #[.agg #[SV, WV]] w fun e w' => e = .returned (.agg #[SV, WV]) ∧ Mem none_ w [] w' := by
  obtain ⟨A, c, rfl, h1, h2, h3, h4⟩ := hS
  obtain ⟨A', c', rfl, h1', h2', h3', h4'⟩ := hW
  go_enter Try.func9, Try.ntmps9
  go_wp2
  exact bodyPost_ret (v := .agg #[.slice A s.length c, .slice A' ways.length c']) (by simp [results, Try.results9, go_sem]) rfl ⟨rfl, ((Mem.start _).alloc _).alloc _⟩

set_option maxHeartbeats 400000 in
theorem yacc_calls (w : World) :
    Calls Try.prog 13 #[] w fun e w' => ∃ SV WV, e = .returned (.agg #[SV, WV]) ∧ Strs w' SV [⟨#[46, 121]⟩, ⟨#[46, 99]⟩, ⟨#[46, 111]⟩] ∧ Prs w' WV [(⟨#[46, 121]⟩, ⟨#[46, 99]⟩), (⟨#[46, 99]⟩, ⟨#[46, 111]⟩)] ∧ Mem none_ w [] w' := by
  go_enter Try.func13, Try.ntmps13
  go_wp2
  have HA := (((Mem.start (fp := none_) w).alloc (.cells #[.slice (some ⟨w.heap.size + 1, 0, none⟩) 3 3, .slice (some ⟨w.heap.size + 2, 0, none⟩) 2 2] 25)).lit 9 1 3 (strs [⟨#[46, 121]⟩, ⟨#[46, 99]⟩, ⟨#[46, 111]⟩]) rfl (by unfold maxLen; omega)).lit 44 2 2 (prs [(⟨#[46, 121]⟩, ⟨#[46, 99]⟩), (⟨#[46, 99]⟩, ⟨#[46, 111]⟩)]) rfl (by unfold maxLen; omega)
  rw [World.size_alloc, World.size_alloc] at HA
  exact bodyPost_ret (v := .agg #[.slice (some ⟨w.heap.size + 1, 0, none⟩) 3 3, .slice (some ⟨w.heap.size + 2, 0, none⟩) 2 2]) (by simp [results, Try.results13, go_sem]) rfl ⟨_, _, rfl, Row.sl HA.tail.head, Row.sl HA.head, HA.sel [] (by decide)⟩
end Go.Proofs.Ytbhhoibmccocmaa
