/-
  The walks of layer 15 (suff): the small functions.
-/
/-
  The walks of layer 15 (suff): which tables may be.
-/
import Derived.Test.YtliglejbkpjamaaVMaps
import Derived.Test.YtliglejbkpjamaaProg
set_option linter.unusedVariables false
set_option linter.unusedSimpArgs false
section
namespace Go.Proofs.Ytliglejbkpjamaa
open Go.RowKit

theorem strE : Elem Try.prog 23 9 1 16 := Elem.of (z := .string ⟨#[]⟩) Try.underlying23 (by kernel_rfl) rfl (by decide) (by decide)

def hasSuf (s p : ByteArray) : Bool := decide (p.size ≤ s.size) && ((s.extract (s.size - p.size) s.size).toList == p.toList)
def cutSuf (s p : ByteArray) : ByteArray := s.extract 0 (s.size - p.size)
def cutRes (s p : ByteArray) : ByteArray := if hasSuf s p then cutSuf s p else s

set_option maxHeartbeats 400000 in
theorem hasSuffix_calls (s p : ByteArray) (w : World) (hs : s.size ≤ 9223372036854775807) :
    Calls Try.prog 110 #[.string s, .string p] w fun e w' => e = .returned (.bool (hasSuf s p)) ∧ w = w' := by
  by_cases h : p.size ≤ s.size
  · go_enter Try.func110, Try.ntmps110
    go_wp2
    go_ret
    exact ⟨by simp [hasSuf, h], rfl⟩
  · go_enter Try.func110, Try.ntmps110
    go_wp2
    go_ret
    exact ⟨by simp [hasSuf, h], rfl⟩

set_option maxHeartbeats 400000 in
theorem cutSuffix0_calls (s p : ByteArray) (w : World) (hs : s.size ≤ 9223372036854775807) :
    Calls Try.prog 98 #[.string s, .string p] w fun e w' => e = .returned (.tuple #[.string (cutRes s p), .bool (hasSuf s p)]) ∧ w = w' := by
  cases h : hasSuf s p
  · go_enter Try.func98, Try.ntmps98
    go_wp2_with (go_at_call 110; refine (hasSuffix_calls _ _ _ hs).mono ?_; rintro e w' ⟨rfl, rfl⟩)
    go_ret2
    exact ⟨by simp [cutRes, h], rfl⟩
  · have hle : p.size ≤ s.size := by
      have h' := h
      unfold hasSuf at h'
      exact of_decide_eq_true (Bool.and_eq_true_iff.1 h').1
    go_enter Try.func98, Try.ntmps98
    go_wp2_with (go_at_call 110; refine (hasSuffix_calls _ _ _ hs).mono ?_; rintro e w' ⟨rfl, rfl⟩)
    go_ret2
    exact ⟨by simp [cutRes, cutSuf, h], rfl⟩

set_option maxHeartbeats 400000 in
theorem cutSuffix_calls (s p : ByteArray) (w : World) (hs : s.size ≤ 9223372036854775807) :
    Calls Try.prog 79 #[.string s, .string p] w fun e w' => e = .returned (.tuple #[.string (cutRes s p), .bool (hasSuf s p)]) ∧ w = w' := by
  go_enter Try.func79, Try.ntmps79
  go_wp2_with (go_at_call 98; refine (cutSuffix0_calls _ _ _ hs).mono ?_; rintro e w' ⟨rfl, rfl⟩)
  go_ret2
  exact ⟨rfl, rfl⟩

theorem cutRes_size (s p : ByteArray) : (cutRes s p).size ≤ s.size := by
  unfold cutRes cutSuf
  split
  · simp
  · exact Nat.le_refl _

/-- What a name can be made of at once. -/
def nextOf (name : ByteArray) (ways : List (ByteArray × ByteArray)) : List ByteArray := ways.filterMap fun w => if hasSuf name w.2 then some (cutSuf name w.2 ++ w.1) else none

theorem nextOf_length (name : ByteArray) (ways : List (ByteArray × ByteArray)) : (nextOf name ways).length ≤ ways.length := List.length_filterMap_le _ _
theorem nextOf_snoc (name : ByteArray) (ways : List (ByteArray × ByteArray)) (k : Nat) (h : k < ways.length) :
    nextOf name (ways.take (k + 1)) = nextOf name (ways.take k) ++ (if hasSuf name ways[k].2 then [cutSuf name ways[k].2 ++ ways[k].1] else []) := by
  rw [List.take_succ_eq_append_getElem h, nextOf, List.filterMap_append]
  cases hh : hasSuf name ways[k].2 <;> simp [nextOf, hh]

theorem prs_get0 {l : List (ByteArray × ByteArray)} : ∀ {k : Nat} (h : k < l.length), (prs l)[k * 2]? = some (.string l[k].1) := by
  induction l with
  | nil => intro k h; simp at h
  | cons x l ih =>
    intro k h
    cases k with
    | zero => simp [prs]
    | succ k =>
      have := ih (k := k) (by simpa using h)
      rw [show (k + 1) * 2 = k * 2 + 1 + 1 from by omega]
      simpa [prs] using this
theorem prs_get1 {l : List (ByteArray × ByteArray)} : ∀ {k : Nat} (h : k < l.length), (prs l)[k * 2 + 1]? = some (.string l[k].2) := by
  induction l with
  | nil => intro k h; simp at h
  | cons x l ih =>
    intro k h
    cases k with
    | zero => simp [prs]
    | succ k =>
      have := ih (k := k) (by simpa using h)
      rw [show (k + 1) * 2 + 1 = k * 2 + 1 + 1 + 1 from by omega]
      simpa [prs] using this

set_option maxHeartbeats 1000000 in
theorem next_calls (tb : Nat) (V : Value) (ways : List (ByteArray × ByteArray)) (name : ByteArray) (w : World) (hV : Prs w V ways) (hc : w.cell? ⟨tb, 1, none⟩ = some V)
    (hn : ways.length ≤ 1000000) (hs : name.size ≤ 1125899906842624) (hw : ∀ p, p ∈ ways → p.1.size ≤ 1125899906842624) :
    Calls Try.prog 108 #[.pointer (some ⟨tb, 0, none⟩), .string name] w fun e w' => ∃ v, e = .returned v ∧ Mem none_ w [StrRow v (nextOf name ways)] w' := by
  obtain ⟨A, c, rfl, h1, h2, h3, h4⟩ := hV
  unfold maxLen at h2
  go_enter Try.func108, Try.ntmps108
  go_wp2
  go_loopw [5, 15] (fun v i wr => ∃ k : Nat, k ≤ ways.length ∧ i = .int .i64 k ∧ Mem none_ w [StrRow v (nextOf name (ways.take k))] wr) (fun _ i _ => ways.length - (intOf i).toNat)
  case atStart => exact ⟨0, Nat.zero_le _, rfl, Mem.new (Mem.start _) (Mut.refl _ _) (by exact World.ownsRow_nil _ _ _ _) (by intro b hb; cases hb)⟩
  case round =>
    obtain ⟨k, hk, rfl, HM⟩ := hrel
    by_cases hlt : k < ways.length
    · obtain ⟨b, o, rfl, hcells⟩ := h4.resolve_left (by omega)
      clear h4
      have hx0 := HM.mu.cell (hcells (k * 2) (.string ways[k].1) (prs_get0 hlt)) (fun h => h)
      have hx1 : wr.cell? ⟨b, o + k * 2 + 1, none⟩ = some (.string ways[k].2) := HM.mu.cell (hcells (k * 2 + 1) (.string ways[k].2) (prs_get1 hlt)) (fun h => h)
      have hsz : (cutRes name ways[k].2).size + ways[k].1.size ≤ 2251799813685248 := by
        have := cutRes_size name ways[k].2
        have := hw ways[k] (List.getElem_mem hlt)
        omega
      have HS := nextOf_snoc name ways k hlt
      cases hh : hasSuf name ways[k].2
      · go_wp2_with (go_at_call 79; refine (cutSuffix_calls _ _ _ (by omega)).mono ?_; rintro e w' ⟨rfl, rfl⟩)
        go_roundw
        case rel => exact ⟨k + 1, by omega, by go_num, by rw [HS, hh]; simpa using HM.alloc _⟩
        case measure => simp [intOf]; omega
      · go_wp2_with (first | (go_at_call 79; refine (cutSuffix_calls _ _ _ (by omega)).mono ?_; rintro e w' ⟨rfl, rfl⟩) | (at_builtin; refine wpList_appS strE rfl _ _ rfl (HM.alloc _) rfl _ _ rfl ?hnb ?hb ?_; (case hnb => simp); (case hb => have := nextOf_length name (ways.take k); simp at this; omega); intro v' w' HM1 HU1))
        go_roundw
        case rel => exact ⟨k + 1, by omega, by go_num, by rw [HS, hh]; simpa [cutRes, hh] using HM1⟩
        case measure => simp [intOf]; omega
    · have e : k = ways.length := by omega
      go_wp2
      go_ret
      exact ⟨_, rfl, by simpa [e] using HM⟩

theorem ret_int {k : IntKind} {a b : Int} (h : a = b) : Ending.returned (.int k a) = .returned (.int k b) := by rw [h]
theorem ret_bool {a b : Bool} (h : a = b) : Ending.returned (.bool a) = .returned (.bool b) := by rw [h]
/-- Is a text among some? -/
def mem (l : List ByteArray) (x : ByteArray) : Bool := l.any (fun y => decide (x = y))
theorem mem_iff (l : List ByteArray) (x : ByteArray) : mem l x = true ↔ x ∈ l := by simp [mem]
theorem mem_false (l : List ByteArray) (x : ByteArray) : mem l x = false ↔ x ∉ l := by rw [← mem_iff]; simp
/-- The place of a text among some. -/
def idx (l : List ByteArray) (x : ByteArray) : Int := match l.findIdx? (fun y => decide (x = y)) with | some i => i | none => -1
theorem strEq (a b : ByteArray) : (a.toList == b.toList) = decide (a = b) := by rw [← beq_toListBytes, beq_bytes]

set_option maxHeartbeats 400000 in
theorem index_calls (V : Value) (l : List ByteArray) (x : ByteArray) (w : World) (hV : Strs w V l) :
    Calls Try.prog 59 #[V, .string x] w fun e w' => e = .returned (.int .i64 (idx l x)) ∧ w = w' := by
  obtain ⟨A, c, rfl, h1, h2, h3, h4⟩ := hV
  unfold maxLen at h2
  go_enter Try.func59, Try.ntmps59
  go_wp2
  go_loop [8] (fun i => ∃ k : Nat, k ≤ l.length ∧ i = .int .i64 k ∧ ∀ j, j < k → l[j]? ≠ some x) (fun i => l.length - (intOf i).toNat)
  case atStart => exact ⟨0, Nat.zero_le _, rfl, fun j hj => by omega⟩
  case round =>
    obtain ⟨k, hk, rfl, hno⟩ := hrel
    by_cases hlt : k < l.length
    · obtain ⟨b, o, rfl, hcells⟩ := h4.resolve_left (by omega)
      clear h4
      have hx0 : w.cell? ⟨b, o + k, none⟩ = some (.string l[k]) := hcells k _ (strs_get hlt)
      clear hcells
      by_cases he : x = l[k]
      · have HR : Hid (idx l x = k) := by
          unfold Hid idx
          have : l.findIdx? (fun y => decide (x = y)) = some k := by
            rw [List.findIdx?_eq_some_iff_getElem]
            refine ⟨hlt, by simp [he], fun j hj => ?_⟩
            have := hno j hj
            rw [List.getElem?_eq_getElem (by omega)] at this
            simp only [decide_eq_true_eq]
            exact fun e => this (by rw [e])
          rw [this]
        have he' : (x.toList == l[k].toList) = true := by rw [strEq]; simp [he]
        clear hno he
        go_wp2
        go_ret
        exact ⟨ret_int HR.out.symm, rfl⟩
      · have hno' : ∀ j, j < k + 1 → l[j]? ≠ some x := by
          intro j hj
          by_cases hjk : j = k
          · subst hjk; rw [List.getElem?_eq_getElem hlt]; intro e; exact he (Option.some.inj e).symm
          · exact hno j (by omega)
        have he' : (x.toList == l[k].toList) = false := by rw [strEq]; simp [he]
        clear hno he
        go_wp2
        go_round
        case rel => exact ⟨k + 1, by omega, by go_num, hno'⟩
        case measure => simp [intOf]; omega
    · have HR : Hid (idx l x = -1) := by
        unfold Hid idx
        have : l.findIdx? (fun y => decide (x = y)) = none := by
          rw [List.findIdx?_eq_none_iff]
          intro y hy
          obtain ⟨j, hj, rfl⟩ := List.getElem_of_mem hy
          have := hno j (by omega)
          rw [List.getElem?_eq_getElem hj] at this
          simp only [decide_eq_false_iff_not]
          exact fun e => this (by rw [e])
        rw [this]
      clear hno
      go_wp2
      go_ret
      exact ⟨ret_int HR.out.symm, rfl⟩

theorem idx_mem (l : List ByteArray) (x : ByteArray) : decide (0 ≤ idx l x) = mem l x := by
  unfold idx
  by_cases h : x ∈ l
  · rw [(mem_iff l x).2 h]
    cases hh : l.findIdx? (fun y => decide (x = y)) with
    | none => rw [List.findIdx?_eq_none_iff] at hh; have := hh x h; simp at this
    | some i => simp
  · rw [(mem_false l x).2 h]
    cases hh : l.findIdx? (fun y => decide (x = y)) with
    | none => simp
    | some i =>
      have := List.findIdx?_eq_some_iff_getElem.1 hh
      obtain ⟨h1, h2, _⟩ := this
      have : x = l[i] := of_decide_eq_true h2
      exact absurd (this ▸ List.getElem_mem h1) h

set_option maxHeartbeats 400000 in
theorem contains_calls (V : Value) (l : List ByteArray) (x : ByteArray) (w : World) (hV : Strs w V l) :
    Calls Try.prog 41 #[V, .string x] w fun e w' => e = .returned (.bool (mem l x)) ∧ w = w' := by
  go_enter Try.func41, Try.ntmps41
  go_wp2_with (go_at_call 59; refine (index_calls _ _ _ _ hV).mono ?_; rintro e w' ⟨rfl, rfl⟩)
  go_ret
  exact ⟨ret_bool (idx_mem l x), rfl⟩
end Go.Proofs.Ytliglejbkpjamaa
end
section
namespace Go.Proofs.Ytliglejbkpjamaa
open Go.RowKit

theorem keyS : KeyOk Try.prog 9 Value.string := keyStr Try.underlying9
theorem keyP : KeyOk Try.prog 93 pairV := keyPair (st := 9) Try.underlying93 Try.underlying9 (by kernel_rfl)
theorem zeroB : ∀ w, (zeroValue 4).run Try.prog w = .ok (.bool false) w := fun w => by kernel_rfl
theorem zeroS : ∀ w, (zeroValue 9).run Try.prog w = .ok (.string ⟨#[]⟩) w := fun w => by kernel_rfl

def sufRun : List (ByteArray × Unit) → List ByteArray → Option (List (ByteArray × Unit))
  | m, [] => some m
  | m, s :: r => if s.toList.isEmpty || mhas m s then none else sufRun (mput m s ()) r
def wayRun (met : List (ByteArray × Unit)) : List ((ByteArray × ByteArray) × Unit) → List (ByteArray × ByteArray) → Bool
  | _, [] => true
  | m, p :: r => if (p.1.toList == p.2.toList) || !mhas met p.1 || !mhas met p.2 || mhas m p then false else wayRun met (mput m p ()) r
def rightOf (s : List ByteArray) (w : List (ByteArray × ByteArray)) : Bool :=
  if 64 < s.length then false else if 256 < w.length then false else match sufRun [] s with | none => false | some met => wayRun met [] w

theorem Mem.box {fp : Nat → Prop} {w0 w : World} {F : List Chunk} (h : Mem fp w0 F w) (cs : Array Value) (t : Nat) : Mem fp w0 (Blk w.heap.size t cs :: F) (w.alloc (.cells cs t)) :=
  h.new ((Mut.refl _ _).alloc _) (heap_alloc_new w _) (fun b hb => Nat.le_of_eq hb.symm)
theorem Blk.cell {b t : Nat} {cs : Array Value} {w : World} (h : (Blk b t cs).ok w) (j : Nat) : w.cell? ⟨b, j, none⟩ = cs[j]? := by
  have h' : w.heap[b]? = some (.cells cs t (0, 0)) := h
  unfold World.cell?
  rw [h']
  rfl

set_option maxHeartbeats 1000000 in
theorem right_calls (SV WV : Value) (s : List ByteArray) (ways : List (ByteArray × ByteArray)) (w : World) (hS : Strs w SV s) (hW : Prs w WV ways) :
    Calls Try.prog 107 #[.agg #[SV, WV]] w fun e w' => e = .returned (.bool (rightOf s ways)) ∧ Mem none_ w [] w' := by
  obtain ⟨A, c, rfl, h1, h2, h3, h4⟩ := hS
  obtain ⟨A', c', rfl, h1', h2', h3', h4'⟩ := hW
  unfold maxLen at h2 h2'
  have hmm := @run_makeMap Try.prog
  by_cases hb1 : 64 < s.length
  · go_enter Try.func107, Try.ntmps107
    go_wp2
    go_ret
    exact ⟨ret_bool (by simp [rightOf, hb1]), (Mem.start _).alloc _⟩
  by_cases hb2 : 256 < ways.length
  · go_enter Try.func107, Try.ntmps107
    go_wp2
    go_ret
    exact ⟨ret_bool (by simp [rightOf, hb1, hb2]), (Mem.start _).alloc _⟩
  have HR : Hid (rightOf s ways = match sufRun [] s with | none => false | some met => wayRun met [] ways) := by
    unfold Hid rightOf
    rw [if_neg hb1, if_neg hb2]
  have HM0 := ((Mem.start (fp := none_) w).box #[.slice A s.length c, .slice A' ways.length c'] 59)
  have HM1 := MapC.made HM0 Value.string setV
  rw [World.size_alloc] at HM1
  go_enter Try.func107, Try.ntmps107
  go_wp2
  clear HM0
  go_loopw [23] (fun i wr => ∃ (k : Nat) (mk : List (ByteArray × Unit)), k ≤ s.length ∧ i = .int .i64 k ∧ Hid (sufRun [] s = sufRun mk (s.drop k)) ∧ Mem none_ w [MapC (w.heap.size + 1) Value.string setV mk, Blk w.heap.size 59 #[.slice A s.length c, .slice A' ways.length c']] wr) (fun i _ => s.length - (intOf i).toNat)
  case atStart => exact ⟨0, [], Nat.zero_le _, rfl, by unfold Hid; rfl, HM1⟩
  case round =>
    obtain ⟨k, mk, hk, rfl, HK, HM⟩ := hrel
    clear HM1
    by_cases hlt : k < s.length
    · obtain ⟨b, o, rfl, hcells⟩ := h4.resolve_left (by omega)
      clear h4
      have hx0 : wr.cell? ⟨b, o + k, none⟩ = some (.string s[k]) := HM.mu.cell (hcells k _ (strs_get hlt)) (fun h => h)
      clear hcells
      have hdrop : s.drop k = s[k] :: s.drop (k + 1) := List.drop_eq_getElem_cons hlt
      have HN : Hid (sufRun mk (s.drop k) = if s[k].toList.isEmpty || mhas mk s[k] then none else sufRun (mput mk s[k] ()) (s.drop (k + 1))) := by
        unfold Hid; rw [hdrop]; rfl
      clear hdrop
      cases he : s[k].toList.isEmpty
      · cases hh : mhas mk s[k]
        · go_wp2_with (first | (at_lookup; refine wpList_get keyS Try.underlying61 zeroB rfl _ _ _ rfl HM.head rfl _ rfl _ ((set_get _ _).trans (by rw [hh])) ?_) | (at_mapUpdate; refine wpList_put keyS Try.underlying61 rfl _ _ _ (.inl rfl) HM rfl _ rfl () rfl ?_; intro w1 HM2 HU2))
          go_roundw
          case rel => exact ⟨k + 1, _, by omega, by go_num, by unfold Hid; rw [HK.out, HN.out, he, hh]; rfl, HM2⟩
          case measure => simp [intOf]; omega
        · have HF : Hid (rightOf s ways = false) := by unfold Hid; rw [HR.out, HK.out, HN.out, he, hh]; rfl
          go_wp2_with (first | (at_lookup; refine wpList_get keyS Try.underlying61 zeroB rfl _ _ _ rfl HM.head rfl _ rfl _ ((set_get _ _).trans (by rw [hh])) ?_))
          go_ret
          exact ⟨ret_bool HF.out.symm, HM.drop (cs := [_, _])⟩
      · have HF : Hid (rightOf s ways = false) := by unfold Hid; rw [HR.out, HK.out, HN.out, he]; rfl
        go_wp2
        go_ret
        exact ⟨ret_bool HF.out.symm, HM.drop (cs := [_, _])⟩
    · have e : k = s.length := by omega
      have HR2 : Hid (rightOf s ways = wayRun mk [] ways) := by unfold Hid; rw [HR.out, HK.out, e, List.drop_length]; rfl
      clear HK e
      have HM3 := MapC.made (κ := ByteArray × ByteArray) HM pairV setV
      have hf1 : (wr.alloc (.map #[] 0)).cell? ⟨w.heap.size, 1, none⟩ = some (.slice A' ways.length c') := Blk.cell HM3.tail.tail.head 1
      go_wp2
      clear hf1
      obtain ⟨wo, rfl⟩ : ∃ wo : World, wo = wr := ⟨_, rfl⟩
      go_loopw [41] (fun i wr' => ∃ (j : Nat) (mj : List ((ByteArray × ByteArray) × Unit)), j ≤ ways.length ∧ i = .int .i64 j ∧ Hid (wayRun mk [] ways = wayRun mk mj (ways.drop j)) ∧ Mem none_ w [MapC wo.heap.size pairV setV mj, MapC (w.heap.size + 1) Value.string setV mk] wr') (fun i _ => ways.length - (intOf i).toNat)
      case atStart => exact ⟨0, [], Nat.zero_le _, rfl, by unfold Hid; rfl, HM3.sel [0, 1] (by decide)⟩
      case round =>
        clear HM3 HM
        obtain ⟨j, mj, hj, rfl, HK, HM⟩ := hrel
        by_cases hlt' : j < ways.length
        · obtain ⟨b, o, rfl, hcells⟩ := h4'.resolve_left (by omega)
          clear h4'
          have hx0 : wr.cell? ⟨b, o + j * 2, none⟩ = some (.string ways[j].1) := HM.mu.cell (hcells _ _ (prs_get0 hlt')) (fun h => h)
          have hx1 : wr.cell? ⟨b, o + j * 2 + 1, none⟩ = some (.string ways[j].2) := HM.mu.cell (hcells _ _ (prs_get1 hlt')) (fun h => h)
          clear hcells
          have hdrop : ways.drop j = ways[j] :: ways.drop (j + 1) := List.drop_eq_getElem_cons hlt'
          have HN : Hid (wayRun mk mj (ways.drop j) = if (ways[j].1.toList == ways[j].2.toList) || !mhas mk ways[j].1 || !mhas mk ways[j].2 || mhas mj ways[j] then false else wayRun mk (mput mj ways[j] ()) (ways.drop (j + 1))) := by
            unfold Hid; rw [hdrop]; rfl
          clear hdrop
          cases he : (ways[j].1.toList == ways[j].2.toList)
          · cases hh1 : mhas mk ways[j].1
            · have HF : Hid (rightOf s ways = false) := by unfold Hid; rw [HR2.out, HK.out, HN.out, he, hh1]; rfl
              go_wp2_with (first | (at_lookup; refine wpList_get keyS Try.underlying61 zeroB rfl _ _ _ rfl (HM.alloc _).tail.head rfl _ rfl _ (set_get _ _) ?_) | (at_lookup; refine wpList_get keyP Try.underlying158 zeroB rfl _ _ _ rfl (HM.alloc _).head rfl ways[j] rfl _ (set_get _ _) ?_))
              go_ret
              exact ⟨ret_bool HF.out.symm, (HM.alloc _).drop (cs := [_, _])⟩
            · cases hh2 : mhas mk ways[j].2
              · have HF : Hid (rightOf s ways = false) := by unfold Hid; rw [HR2.out, HK.out, HN.out, he, hh1, hh2]; rfl
                go_wp2_with (first | (at_lookup; refine wpList_get keyS Try.underlying61 zeroB rfl _ _ _ rfl (HM.alloc _).tail.head rfl _ rfl _ (set_get _ _) ?_) | (at_lookup; refine wpList_get keyP Try.underlying158 zeroB rfl _ _ _ rfl (HM.alloc _).head rfl ways[j] rfl _ (set_get _ _) ?_))
                go_ret
                exact ⟨ret_bool HF.out.symm, (HM.alloc _).drop (cs := [_, _])⟩
              · cases hh3 : mhas mj ways[j]
                · go_wp2_with (first | (at_lookup; refine wpList_get keyS Try.underlying61 zeroB rfl _ _ _ rfl (HM.alloc _).tail.head rfl _ rfl _ (set_get _ _) ?_) | (at_lookup; refine wpList_get keyP Try.underlying158 zeroB rfl _ _ _ rfl (HM.alloc _).head rfl ways[j] rfl _ (set_get _ _) ?_) | (at_mapUpdate; refine wpList_put keyP Try.underlying158 rfl _ _ _ (.inl rfl) (HM.alloc _) rfl ways[j] rfl () rfl ?_; intro w1 HM2 HU2))
                  go_roundw
                  case rel => exact ⟨j + 1, _, by omega, by go_num, by unfold Hid; rw [HK.out, HN.out, he, hh1, hh2, hh3]; rfl, HM2⟩
                  case measure => simp [intOf]; omega
                · have HF : Hid (rightOf s ways = false) := by unfold Hid; rw [HR2.out, HK.out, HN.out, he, hh1, hh2, hh3]; rfl
                  go_wp2_with (first | (at_lookup; refine wpList_get keyS Try.underlying61 zeroB rfl _ _ _ rfl (HM.alloc _).tail.head rfl _ rfl _ (set_get _ _) ?_) | (at_lookup; refine wpList_get keyP Try.underlying158 zeroB rfl _ _ _ rfl (HM.alloc _).head rfl ways[j] rfl _ (set_get _ _) ?_))
                  go_ret
                  exact ⟨ret_bool HF.out.symm, (HM.alloc _).drop (cs := [_, _])⟩
          · have HF : Hid (rightOf s ways = false) := by unfold Hid; rw [HR2.out, HK.out, HN.out, he]; rfl
            go_wp2
            go_ret
            exact ⟨ret_bool HF.out.symm, (HM.alloc _).drop (cs := [_, _])⟩
        · have e : j = ways.length := by omega
          have HF : Hid (rightOf s ways = true) := by unfold Hid; rw [HR2.out, HK.out, e, List.drop_length]; rfl
          go_wp2
          go_ret
          exact ⟨ret_bool HF.out.symm, HM.drop (cs := [_, _])⟩
end Go.Proofs.Ytliglejbkpjamaa
end
