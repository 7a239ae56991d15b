/-
  The walks of layer 15 (suff): the small functions.
-/
import Derived.Test.YtliglejbkpjamaaMaps
import Derived.Test.YtliglejbkpjamaaProg
set_option linter.unusedVariables false
set_option linter.unusedSimpArgs false
namespace Go.Proofs.Ytliglejbkpjamaa
open Go.RowKit

theorem strE : Elem Try.prog 23 9 1 16 := Elem.of (z := .string ⟨#[]⟩) Try.underlying23 (by kernel_rfl) rfl (by decide) (by decide)

def hasSuf (s p : ByteArray) : Bool := decide (p.size ≤ s.size) && ((s.extract (s.size - p.size) s.size).toList == p.toList)
def cutSuf (s p : ByteArray) : ByteArray := s.extract 0 (s.size - p.size)
def cutRes (s p : ByteArray) : ByteArray := if hasSuf s p then cutSuf s p else s

set_option maxHeartbeats 400000 in
theorem hasSuffix_calls (s p : ByteArray) (w : World) (hs : s.size ≤ 9223372036854775807) :
    Calls Try.prog 110 #[.string s, .string p] w fun e w' => e = .returned (.bool (hasSuf s p)) ∧ w = w' := by
  by_cases h : p.size ≤ s.size
  · go_enter Try.func110, Try.ntmps110
    go_wp2
    go_ret
    exact ⟨by simp [hasSuf, h], rfl⟩
  · go_enter Try.func110, Try.ntmps110
    go_wp2
    go_ret
    exact ⟨by simp [hasSuf, h], rfl⟩

set_option maxHeartbeats 400000 in
theorem cutSuffix0_calls (s p : ByteArray) (w : World) (hs : s.size ≤ 9223372036854775807) :
    Calls Try.prog 98 #[.string s, .string p] w fun e w' => e = .returned (.tuple #[.string (cutRes s p), .bool (hasSuf s p)]) ∧ w = w' := by
  cases h : hasSuf s p
  · go_enter Try.func98, Try.ntmps98
    go_wp2_with (go_at_call 110; refine (hasSuffix_calls _ _ _ hs).mono ?_; rintro e w' ⟨rfl, rfl⟩)
    go_ret2
    exact ⟨by simp [cutRes, h], rfl⟩
  · have hle : p.size ≤ s.size := by
      have h' := h
      unfold hasSuf at h'
      exact of_decide_eq_true (Bool.and_eq_true_iff.1 h').1
    go_enter Try.func98, Try.ntmps98
    go_wp2_with (go_at_call 110; refine (hasSuffix_calls _ _ _ hs).mono ?_; rintro e w' ⟨rfl, rfl⟩)
    go_ret2
    exact ⟨by simp [cutRes, cutSuf, h], rfl⟩

set_option maxHeartbeats 400000 in
theorem cutSuffix_calls (s p : ByteArray) (w : World) (hs : s.size ≤ 9223372036854775807) :
    Calls Try.prog 79 #[.string s, .string p] w fun e w' => e = .returned (.tuple #[.string (cutRes s p), .bool (hasSuf s p)]) ∧ w = w' := by
  go_enter Try.func79, Try.ntmps79
  go_wp2_with (go_at_call 98; refine (cutSuffix0_calls _ _ _ hs).mono ?_; rintro e w' ⟨rfl, rfl⟩)
  go_ret2
  exact ⟨rfl, rfl⟩

theorem cutRes_size (s p : ByteArray) : (cutRes s p).size ≤ s.size := by
  unfold cutRes cutSuf
  split
  · simp
  · exact Nat.le_refl _

/-- What a name can be made of at once. -/
def nextOf (name : ByteArray) (ways : List (ByteArray × ByteArray)) : List ByteArray := ways.filterMap fun w => if hasSuf name w.2 then some (cutSuf name w.2 ++ w.1) else none

theorem nextOf_length (name : ByteArray) (ways : List (ByteArray × ByteArray)) : (nextOf name ways).length ≤ ways.length := List.length_filterMap_le _ _
theorem nextOf_snoc (name : ByteArray) (ways : List (ByteArray × ByteArray)) (k : Nat) (h : k < ways.length) :
    nextOf name (ways.take (k + 1)) = nextOf name (ways.take k) ++ (if hasSuf name ways[k].2 then [cutSuf name ways[k].2 ++ ways[k].1] else []) := by
  rw [List.take_succ_eq_append_getElem h, nextOf, List.filterMap_append]
  cases hh : hasSuf name ways[k].2 <;> simp [nextOf, hh]

theorem prs_get0 {l : List (ByteArray × ByteArray)} : ∀ {k : Nat} (h : k < l.length), (prs l)[k * 2]? = some (.string l[k].1) := by
  induction l with
  | nil => intro k h; simp at h
  | cons x l ih =>
    intro k h
    cases k with
    | zero => simp [prs]
    | succ k =>
      have := ih (k := k) (by simpa using h)
      rw [show (k + 1) * 2 = k * 2 + 1 + 1 from by omega]
      simpa [prs] using this
theorem prs_get1 {l : List (ByteArray × ByteArray)} : ∀ {k : Nat} (h : k < l.length), (prs l)[k * 2 + 1]? = some (.string l[k].2) := by
  induction l with
  | nil => intro k h; simp at h
  | cons x l ih =>
    intro k h
    cases k with
    | zero => simp [prs]
    | succ k =>
      have := ih (k := k) (by simpa using h)
      rw [show (k + 1) * 2 + 1 = k * 2 + 1 + 1 + 1 from by omega]
      simpa [prs] using this

set_option maxHeartbeats 1000000 in
theorem next_calls (tb : Nat) (V : Value) (ways : List (ByteArray × ByteArray)) (name : ByteArray) (w : World) (hV : Prs w V ways) (hc : w.cell? ⟨tb, 1, none⟩ = some V)
    (hn : ways.length ≤ 1000000) (hs : name.size ≤ 1125899906842624) (hw : ∀ p, p ∈ ways → p.1.size ≤ 1125899906842624) :
    Calls Try.prog 108 #[.pointer (some ⟨tb, 0, none⟩), .string name] w fun e w' => ∃ v, e = .returned v ∧ Mem none_ w [StrRow v (nextOf name ways)] w' := by
  obtain ⟨A, c, rfl, h1, h2, h3, h4⟩ := hV
  unfold maxLen at h2
  go_enter Try.func108, Try.ntmps108
  go_wp2
  go_loopw [5, 15] (fun v i wr => ∃ k : Nat, k ≤ ways.length ∧ i = .int .i64 k ∧ Mem none_ w [StrRow v (nextOf name (ways.take k))] wr) (fun _ i _ => ways.length - (intOf i).toNat)
  case atStart => exact ⟨0, Nat.zero_le _, rfl, Mem.new (Mem.start _) (Mut.refl _ _) (by exact World.ownsRow_nil _ _ _ _) (by intro b hb; cases hb)⟩
  case round =>
    obtain ⟨k, hk, rfl, HM⟩ := hrel
    by_cases hlt : k < ways.length
    · obtain ⟨b, o, rfl, hcells⟩ := h4.resolve_left (by omega)
      clear h4
      have hx0 := HM.mu.cell (hcells (k * 2) (.string ways[k].1) (prs_get0 hlt)) (fun h => h)
      have hx1 : wr.cell? ⟨b, o + k * 2 + 1, none⟩ = some (.string ways[k].2) := HM.mu.cell (hcells (k * 2 + 1) (.string ways[k].2) (prs_get1 hlt)) (fun h => h)
      have hsz : (cutRes name ways[k].2).size + ways[k].1.size ≤ 2251799813685248 := by
        have := cutRes_size name ways[k].2
        have := hw ways[k] (List.getElem_mem hlt)
        omega
      have HS := nextOf_snoc name ways k hlt
      cases hh : hasSuf name ways[k].2
      · go_wp2_with (go_at_call 79; refine (cutSuffix_calls _ _ _ (by omega)).mono ?_; rintro e w' ⟨rfl, rfl⟩)
        go_roundw
        case rel => exact ⟨k + 1, by omega, by go_num, by rw [HS, hh]; simpa using HM.alloc _⟩
        case measure => simp [intOf]; omega
      · go_wp2_with (first | (go_at_call 79; refine (cutSuffix_calls _ _ _ (by omega)).mono ?_; rintro e w' ⟨rfl, rfl⟩) | (at_builtin; refine wpList_appS strE rfl _ _ rfl (HM.alloc _) rfl _ _ rfl ?hnb ?hb ?_; (case hnb => simp); (case hb => have := nextOf_length name (ways.take k); simp at this; omega); intro v' w' HM1 HU1))
        go_roundw
        case rel => exact ⟨k + 1, by omega, by go_num, by rw [HS, hh]; simpa [cutRes, hh] using HM1⟩
        case measure => simp [intOf]; omega
    · have e : k = ways.length := by omega
      go_wp2
      go_ret
      exact ⟨_, rfl, by simpa [e] using HM⟩

theorem ret_int {k : IntKind} {a b : Int} (h : a = b) : Ending.returned (.int k a) = .returned (.int k b) := by rw [h]
theorem ret_bool {a b : Bool} (h : a = b) : Ending.returned (.bool a) = .returned (.bool b) := by rw [h]
/-- Is a text among some? -/
def mem (l : List ByteArray) (x : ByteArray) : Bool := l.any (fun y => decide (x = y))
theorem mem_iff (l : List ByteArray) (x : ByteArray) : mem l x = true ↔ x ∈ l := by simp [mem]
theorem mem_false (l : List ByteArray) (x : ByteArray) : mem l x = false ↔ x ∉ l := by rw [← mem_iff]; simp
/-- The place of a text among some. -/
def idx (l : List ByteArray) (x : ByteArray) : Int := match l.findIdx? (fun y => decide (x = y)) with | some i => i | none => -1
theorem strEq (a b : ByteArray) : (a.toList == b.toList) = decide (a = b) := by rw [← beq_toListBytes, beq_bytes]

set_option maxHeartbeats 400000 in
theorem index_calls (V : Value) (l : List ByteArray) (x : ByteArray) (w : World) (hV : Strs w V l) :
    Calls Try.prog 59 #[V, .string x] w fun e w' => e = .returned (.int .i64 (idx l x)) ∧ w = w' := by
  obtain ⟨A, c, rfl, h1, h2, h3, h4⟩ := hV
  unfold maxLen at h2
  go_enter Try.func59, Try.ntmps59
  go_wp2
  go_loop [8] (fun i => ∃ k : Nat, k ≤ l.length ∧ i = .int .i64 k ∧ ∀ j, j < k → l[j]? ≠ some x) (fun i => l.length - (intOf i).toNat)
  case atStart => exact ⟨0, Nat.zero_le _, rfl, fun j hj => by omega⟩
  case round =>
    obtain ⟨k, hk, rfl, hno⟩ := hrel
    by_cases hlt : k < l.length
    · obtain ⟨b, o, rfl, hcells⟩ := h4.resolve_left (by omega)
      clear h4
      have hx0 : w.cell? ⟨b, o + k, none⟩ = some (.string l[k]) := hcells k _ (strs_get hlt)
      clear hcells
      by_cases he : x = l[k]
      · have HR : Hid (idx l x = k) := by
          unfold Hid idx
          have : l.findIdx? (fun y => decide (x = y)) = some k := by
            rw [List.findIdx?_eq_some_iff_getElem]
            refine ⟨hlt, by simp [he], fun j hj => ?_⟩
            have := hno j hj
            rw [List.getElem?_eq_getElem (by omega)] at this
            simp only [decide_eq_true_eq]
            exact fun e => this (by rw [e])
          rw [this]
        have he' : (x.toList == l[k].toList) = true := by rw [strEq]; simp [he]
        clear hno he
        go_wp2
        go_ret
        exact ⟨ret_int HR.out.symm, rfl⟩
      · have hno' : ∀ j, j < k + 1 → l[j]? ≠ some x := by
          intro j hj
          by_cases hjk : j = k
          · subst hjk; rw [List.getElem?_eq_getElem hlt]; intro e; exact he (Option.some.inj e).symm
          · exact hno j (by omega)
        have he' : (x.toList == l[k].toList) = false := by rw [strEq]; simp [he]
        clear hno he
        go_wp2
        go_round
        case rel => exact ⟨k + 1, by omega, by go_num, hno'⟩
        case measure => simp [intOf]; omega
    · have HR : Hid (idx l x = -1) := by
        unfold Hid idx
        have : l.findIdx? (fun y => decide (x = y)) = none := by
          rw [List.findIdx?_eq_none_iff]
          intro y hy
          obtain ⟨j, hj, rfl⟩ := List.getElem_of_mem hy
          have := hno j (by omega)
          rw [List.getElem?_eq_getElem hj] at this
          simp only [decide_eq_false_iff_not]
          exact fun e => this (by rw [e])
        rw [this]
      clear hno
      go_wp2
      go_ret
      exact ⟨ret_int HR.out.symm, rfl⟩

theorem idx_mem (l : List ByteArray) (x : ByteArray) : decide (0 ≤ idx l x) = mem l x := by
  unfold idx
  by_cases h : x ∈ l
  · rw [(mem_iff l x).2 h]
    cases hh : l.findIdx? (fun y => decide (x = y)) with
    | none => rw [List.findIdx?_eq_none_iff] at hh; have := hh x h; simp at this
    | some i => simp
  · rw [(mem_false l x).2 h]
    cases hh : l.findIdx? (fun y => decide (x = y)) with
    | none => simp
    | some i =>
      have := List.findIdx?_eq_some_iff_getElem.1 hh
      obtain ⟨h1, h2, _⟩ := this
      have : x = l[i] := of_decide_eq_true h2
      exact absurd (this ▸ List.getElem_mem h1) h

set_option maxHeartbeats 400000 in
theorem contains_calls (V : Value) (l : List ByteArray) (x : ByteArray) (w : World) (hV : Strs w V l) :
    Calls Try.prog 41 #[V, .string x] w fun e w' => e = .returned (.bool (mem l x)) ∧ w = w' := by
  go_enter Try.func41, Try.ntmps41
  go_wp2_with (go_at_call 59; refine (index_calls _ _ _ _ hV).mono ?_; rintro e w' ⟨rfl, rfl⟩)
  go_ret
  exact ⟨ret_bool (idx_mem l x), rfl⟩
end Go.Proofs.Ytliglejbkpjamaa
