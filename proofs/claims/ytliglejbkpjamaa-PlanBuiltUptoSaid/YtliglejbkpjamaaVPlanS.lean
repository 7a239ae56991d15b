/-
  The walks of layer 19 (plan): New, Right, and what the statements ask besides.
-/
import Derived.Test.YtliglejbkpjamaaVPlanH
import Derived.Test.YtliglejbkpjamaaVPlanN
import Derived.Test.YtliglejbkpjamaaVPlanF
set_option linter.unusedVariables false
set_option linter.unusedSimpArgs false
namespace Go.Proofs.Ytliglejbkpjamaa
open Go.RowKit

theorem ret_boolP {a b : Bool} (h : a = b) : Ending.returned (.bool a) = .returned (.bool b) := by rw [h]
theorem New_calls (GV NV : Value) (g : List Nd) (w : World) (hG : Nodes w NV g) (hL : ∀ x, x ∈ g → x.src.length ≤ 50000 ∧ x.aft.length ≤ 50000) (hgl : g.length ≤ 1000000) :
    Calls Try.prog 16 #[.agg #[GV, NV]] w fun e w' => (buildOf g = none → e = .returned (.tuple #[.pointer none, .int .i64 3]) ∧ Mem none_ w [] w') ∧
      (∀ s, buildOf g = some s → ∃ b V, e = .returned (.tuple #[.pointer (some ⟨b, 0, none⟩), .int .i64 0]) ∧ PlanOk s ∧ Mem none_ w [PlanC b V s] w') := by
  have HM0 := (Mem.start (fp := none_) w).box #[GV, NV] 29
  have c0 : (w.alloc (.cells #[GV, NV] 29)).cell? ⟨w.heap.size, 0, none⟩ = some GV := by rw [Blk.cell_ HM0.head]; rfl
  have c1 : (w.alloc (.cells #[GV, NV] 29)).cell? ⟨w.heap.size, 1, none⟩ = some NV := by rw [Blk.cell_ HM0.head]; rfl
  obtain ⟨cells, h0, _⟩ := id hG
  obtain ⟨A, c, rfl, _, _⟩ := Sl.any_ h0
  clear h0
  have hb := build_callsP GV _ g _ (hG.pure HM0.mu) hL hgl
  cases hB : buildOf g with
  | none =>
    have HB := Lib.hid hB
    clear hB
    go_enter Try.func16, Try.ntmps16
    go_wp2_with fail
    refine hb.mono ?_
    rintro e w1 ⟨h1, _⟩
    obtain ⟨rfl, HM1⟩ := h1 HB.out
    have HM2 := HM0.got HM1
    clear h1 hb HM0 HM1 c0 c1
    go_wp2
    go_ret2
    exact ⟨fun _ => ⟨rfl, HM2.sel [] (by decide)⟩, fun s h => by cases h⟩
  | some s =>
    have HB := Lib.hid hB
    clear hB
    go_enter Try.func16, Try.ntmps16
    go_wp2_with fail
    refine hb.mono ?_
    rintro e w1 ⟨_, h1⟩
    obtain ⟨b, V, rfl, hO, HM1⟩ := h1 s HB.out
    have HM2 := HM0.got HM1
    have HO := Lib.hid hO
    clear h1 hb HM0 HM1 c0 c1 hO
    go_wp2
    go_ret2
    exact ⟨fun h => by (cases h), fun s' h => by (cases h; exact ⟨b, V, rfl, HO.out, HM2.sel [0] (by decide)⟩)⟩
theorem Right_calls (GV NV : Value) (g : List Nd) (w : World) (hG : Nodes w NV g) (hL : ∀ x, x ∈ g → x.src.length ≤ 50000 ∧ x.aft.length ≤ 50000) (hgl : g.length ≤ 1000000) :
    Calls Try.prog 10 #[.agg #[GV, NV]] w fun e w' => e = .returned (.bool (buildOf g).isSome) ∧ Mem none_ w [] w' := by
  have HM0 := (Mem.start (fp := none_) w).box #[GV, NV] 29
  have c0 : (w.alloc (.cells #[GV, NV] 29)).cell? ⟨w.heap.size, 0, none⟩ = some GV := by rw [Blk.cell_ HM0.head]; rfl
  have c1 : (w.alloc (.cells #[GV, NV] 29)).cell? ⟨w.heap.size, 1, none⟩ = some NV := by rw [Blk.cell_ HM0.head]; rfl
  obtain ⟨cells, h0, _⟩ := id hG
  obtain ⟨A, c, rfl, _, _⟩ := Sl.any_ h0
  clear h0
  have hb := build_callsP GV _ g _ (hG.pure HM0.mu) hL hgl
  cases hB : buildOf g with
  | none =>
    have HB := Lib.hid hB
    clear hB
    go_enter Try.func10, Try.ntmps10
    go_wp2_with fail
    refine hb.mono ?_
    rintro e w1 ⟨h1, _⟩
    obtain ⟨rfl, HM1⟩ := h1 HB.out
    have HM2 := HM0.got HM1
    clear h1 hb HM0 HM1 c0 c1
    go_wp2
    go_ret
    exact ⟨rfl, HM2.sel [] (by decide)⟩
  | some s =>
    have HB := Lib.hid hB
    clear hB
    go_enter Try.func10, Try.ntmps10
    go_wp2_with fail
    refine hb.mono ?_
    rintro e w1 ⟨_, h1⟩
    obtain ⟨b, V, rfl, hO, HM1⟩ := h1 s HB.out
    have HM2 := HM0.got HM1
    clear h1 hb HM0 HM1 c0 c1 hO
    go_wp2
    go_ret
    exact ⟨rfl, HM2.sel [] (by decide)⟩

def sameP (a b : List ByteArray) : Bool := decide (a = b)
theorem same_endP {a b : List ByteArray} (hl : a.length = b.length) (h : ∀ j, j < a.length → a[j]? = b[j]?) : sameP a b = true := by
  refine decide_eq_true (List.ext_getElem? fun j => ?_)
  by_cases hj : j < a.length
  · exact h j hj
  · rw [List.getElem?_eq_none (by omega), List.getElem?_eq_none (by omega)]

set_option maxHeartbeats 1000000 in
theorem same_callsP (V U : Value) (l m : List ByteArray) (w : World) (hV : Strs w V l) (hU : Strs w U m) :
    Calls Try.prog 17 #[V, U] w fun e w' => e = .returned (.bool (sameP l m)) ∧ Mem none_ w [] w' := by
  obtain ⟨A, c, rfl, h1, h2, h3, h4⟩ := hV
  obtain ⟨A', c', rfl, h1', h2', h3', h4'⟩ := hU
  unfold maxLen at h2 h2'
  by_cases hl : l.length = m.length
  · have hl0 : ((l.length : Int) != m.length) = false := by rw [bne_eq_false_iff_eq]; omega
    have hl1 := Lib.hid hl
    clear hl
    go_enter Try.func17, Try.ntmps17
    go_wp2
    go_loopw [5] (fun i wr => ∃ k : Nat, k ≤ l.length ∧ i = .int .i64 k ∧ Hid (∀ j, j < k → l[j]? = m[j]?) ∧ Mem none_ w [] wr) (fun i _ => l.length - (intOf i).toNat)
    case atStart => exact ⟨0, Nat.zero_le _, rfl, fun j hj => by omega, Mem.start _⟩
    case round =>
      obtain ⟨k, hk, rfl, hyes, HM⟩ := hrel
      by_cases hlt : k < l.length
      · have hlt' : k < m.length := by have := hl1.out; omega
        obtain ⟨b, o, rfl, hcells⟩ := h4.resolve_left (by omega)
        obtain ⟨b', o', rfl, hcells'⟩ := h4'.resolve_left (by omega)
        clear h4 h4'
        have hx0 : wr.cell? ⟨b, o + k, none⟩ = some (.string l[k]) := HM.mu.cell (hcells k _ (strs_get hlt)) (fun h => h)
        have hx1 : wr.cell? ⟨b', o' + k, none⟩ = some (.string m[k]) := HM.mu.cell (hcells' k _ (strs_get hlt')) (fun h => h)
        clear hcells hcells'
        by_cases he : l[k] = m[k]
        · have he' : (l[k].toList == m[k].toList) = true := by rw [strEqP]; simp [he]
          have hy2 : Hid (∀ j, j < k + 1 → l[j]? = m[j]?) := by
            intro j hj
            by_cases hjk : j = k
            · subst hjk; rw [List.getElem?_eq_getElem hlt, List.getElem?_eq_getElem hlt', he]
            · exact hyes.out j (by omega)
          clear he
          go_wp2
          go_quiet (fail)
          go_wp2
          go_roundw
          case rel => exact ⟨k + 1, by omega, by go_num, hy2, HM.drewN _⟩
          case measure => simp [intOf]; omega
        · have he' : (l[k].toList == m[k].toList) = false := by rw [strEqP]; simp [he]
          have HR : Hid (sameP l m = false) := by
            unfold Hid sameP
            refine decide_eq_false (fun e => he ?_)
            have := congrArg (fun l => l[k]?) e
            simpa [hlt, hlt'] using this
          clear he
          go_wp2
          go_quiet (fail)
          go_wp2
          go_ret
          exact ⟨ret_boolP HR.out.symm, HM.drewN _⟩
      · have HR : Hid (sameP l m = true) := same_endP hl1.out (fun j hj => hyes.out j (by omega))
        go_wp2
        go_ret
        exact ⟨ret_boolP HR.out.symm, HM⟩
  · have hl0 : ((l.length : Int) != m.length) = true := by rw [bne_iff_ne]; omega
    have HR : Hid (sameP l m = false) := decide_eq_false (fun e => hl (by rw [e]))
    clear hl
    go_enter Try.func17, Try.ntmps17
    go_wp2
    go_ret
    exact ⟨ret_boolP HR.out.symm, Mem.start _⟩


/-- How many edges the first k nodes have, each counted up to 50000. -/
def farN (g : List Nd) : Nat → Nat
  | 0 => 0
  | k + 1 => farN g k + min ((g.getD k ⟨⟨#[]⟩, [], []⟩).src.length + (g.getD k ⟨⟨#[]⟩, [], []⟩).aft.length) 50000
def farG (g : List Nd) : Bool := (decide (40 < g.length) && decide (g.length < 510)) || decide (400 < farN g (min g.length 600)) || decide (515 < g.length)
theorem farN_le (g : List Nd) : ∀ k, farN g k ≤ 50000 * k
  | 0 => Nat.le_refl _
  | k + 1 => by have := farN_le g k; unfold farN; omega
theorem farN_mono (g : List Nd) : ∀ (d k : Nat), farN g k ≤ farN g (k + d)
  | 0, k => Nat.le_refl _
  | d + 1, k => by have := farN_mono g d k; rw [show k + (d + 1) = (k + d) + 1 from rfl, farN]; omega
theorem farG_bounds {g : List Nd} (h : farG g = false) : g.length ≤ 515 ∧ ∀ x, x ∈ g → x.src.length ≤ 50000 ∧ x.aft.length ≤ 50000 := by
  simp only [farG, Bool.or_eq_false_iff, decide_eq_false_iff_not] at h
  obtain ⟨⟨_, h2⟩, h3⟩ := h
  refine ⟨by omega, fun x hx => ?_⟩
  obtain ⟨i, hi, rfl⟩ := List.getElem_of_mem hx
  have h4 := farN_mono g (min g.length 600 - (i + 1)) (i + 1)
  rw [show i + 1 + (min g.length 600 - (i + 1)) = min g.length 600 from by omega] at h4
  have e : g.getD i ⟨⟨#[]⟩, [], []⟩ = g[i] := by rw [List.getD_eq_getElem?_getD, List.getElem?_eq_getElem hi]; rfl
  rw [farN, e] at h4
  omega

end Go.Proofs.Ytliglejbkpjamaa
