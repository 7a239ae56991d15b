/-
  The walks of layer 19 (plan): ok, find, ready, Ready.
-/
import Derived.Test.YtcbhdjpigadhmaaPlanH
set_option linter.unusedVariables false
set_option linter.unusedSimpArgs false
namespace Go.Proofs.Ytcbhdjpigadhmaa
open Go.RowKit

theorem ok_calls (b : Nat) (V : PV) (s : PS) (w : World) (hC : (PlanC b V s).ok w) :
    Calls Try.prog 33 #[.pointer (some ⟨b, 0, none⟩)] w fun e w' => e = .returned (.bool true) ∧ w = w' := by
  have y0 := (PlanC.reads hC).c1
  have qT : ∀ (w : World) (r : Option Nat), (binOp .neq 57 (.map r) (.map none)).run Try.prog w = .ok (.bool (!r.isNone)) w := fun w r => run_neq_map_nil w _ _ _ r Try.underlying57
  go_enter Try.func33, Try.ntmps33
  go_wp2
  go_ret
  exact ⟨rfl, rfl⟩

theorem find_calls (b : Nat) (V : PV) (s : PS) (x : ByteArray) (w : World) (hC : (PlanC b V s).ok w) :
    Calls Try.prog 35 #[.pointer (some ⟨b, 0, none⟩), .string x] w fun e w' => e = .returned (match mget s.at_ x with | none => .tuple #[.int .i64 0, .int .i64 6] | some i => .tuple #[.int .i64 i, .int .i64 0]) ∧ w = w' := by
  have y0 := (PlanC.reads hC).c1
  have hM := (PlanC.reads hC).mp
  have hlk := MapC.lookup (c := true) keyS Try.underlying57 (zeroI w) hM x
  cases hg : mget s.at_ x with
  | none =>
    have hlk2 : (Instr.lookup 57 (.map (some V.mb)) (.string x) true).run Try.prog w = .ok (.tuple #[.int .i64 0, .bool false]) w := by
      rw [if_pos rfl] at hlk
      simpa [hg, mhas] using hlk
    clear hlk hg
    go_enter Try.func35, Try.ntmps35
    go_wp2_with (go_at_call 33; refine (ok_calls b V s _ hC).mono ?_; rintro e w' ⟨rfl, rfl⟩)
    go_ret2
    exact ⟨rfl, rfl⟩
  | some i =>
    have hlk2 : (Instr.lookup 57 (.map (some V.mb)) (.string x) true).run Try.prog w = .ok (.tuple #[.int .i64 i, .bool true]) w := by
      rw [if_pos rfl] at hlk
      simpa [hg, mhas] using hlk
    clear hlk hg
    go_enter Try.func35, Try.ntmps35
    go_wp2_with (go_at_call 33; refine (ok_calls b V s _ hC).mono ?_; rintro e w' ⟨rfl, rfl⟩)
    go_ret2
    exact ⟨rfl, rfl⟩

/-- slices.IndexFunc at a predicate that turns nothing. -/
theorem idxF_calls (g : Nat) (cap : Value) (p : Int → Bool) (v : Value) (l : List Int) (w : World) (hg : g = 46 ∨ g = 47) (hv : Ints w v l) (hl : l.length ≤ 100000)
    (hf : ∀ k, k ∈ l → Calls Try.prog g #[.int .i64 k, cap] w fun e w' => e = .returned (.bool (p k)) ∧ w = w') :
    Calls Try.prog 49 #[v, .func (.func g) #[] #[cap]] w fun e w' => (∃ i : Int, e = .returned (.int .i64 i) ∧ decide (0 ≤ i) = l.any p) ∧ w = w' := by
  obtain ⟨A, c, rfl, h1, h2, h3, h4⟩ := hv
  unfold maxLen at h2
  rcases hg with rfl | rfl
  all_goals
    go_enter Try.func49, Try.ntmps49
    go_wp2
    go_loop [8] (fun i => ∃ k : Nat, k ≤ l.length ∧ i = .int .i64 k ∧ Hid ((l.take k).any p = false)) (fun i => l.length - (intOf i).toNat)
    case atStart => exact ⟨0, Nat.zero_le _, rfl, by unfold Hid; rfl⟩
    case round =>
      obtain ⟨k, hk, rfl, HP⟩ := hrel
      by_cases hlt : k < l.length
      · obtain ⟨b, o, rfl, hcells⟩ := h4.resolve_left (by omega)
        have hx0 : w.cell? ⟨b, o + k, none⟩ = some (.int .i64 l[k]) := hcells k _ (ints_get hlt)
        have hx := hf l[k] (List.getElem_mem hlt)
        have hT := Lib.hid (List.take_succ_eq_append_getElem hlt)
        have hM : p l[k] = true → Hid (l.any p = true) := fun h => Lib.hid (List.any_eq_true.2 ⟨_, List.getElem_mem hlt, h⟩)
        clear hcells h4 h3 hf
        generalize l[k] = x at *
        go_wp2_with fail
        refine hx.mono ?_
        rintro e w' ⟨rfl, rfl⟩
        clear hx
        cases hp : p x with
        | true =>
          have HM := hM hp
          clear hM hp
          go_wp2
          go_ret
          exact ⟨⟨k, rfl, by rw [HM.out]; simp⟩, rfl⟩
        | false =>
          clear hM
          have HP2 : Hid ((l.take (k + 1)).any p = false) := by
            have h1 := HP.out
            have h2 := hT.out
            unfold Hid
            rw [h2, List.any_append, h1]; simp [hp]
          clear hp
          go_wp2
          go_round
          case rel => exact ⟨k + 1, by omega, by go_num, HP2⟩
          case measure => simp [intOf]; omega
      · have e : k = l.length := by omega
        subst e
        have h1 := HP.out
        rw [List.take_length] at h1
        have HP2 := Lib.hid h1
        clear h1 HP
        go_wp2
        go_ret
        exact ⟨⟨-1, rfl, by rw [HP2.out]; rfl⟩, rfl⟩

theorem hasF_calls (g : Nat) (cap : Value) (p : Int → Bool) (v : Value) (l : List Int) (w : World) (hg : g = 46 ∨ g = 47) (hv : Ints w v l) (hl : l.length ≤ 100000)
    (hf : ∀ k, k ∈ l → Calls Try.prog g #[.int .i64 k, cap] w fun e w' => e = .returned (.bool (p k)) ∧ w = w') :
    Calls Try.prog 45 #[v, .func (.func g) #[] #[cap]] w fun e w' => e = .returned (.bool (l.any p)) ∧ w = w' := by
  have hc := idxF_calls g cap p v l w hg hv hl hf
  clear hf hv
  generalize l.any p = r at *
  go_enter Try.func45, Try.ntmps45
  go_wp2_with fail
  refine hc.mono ?_
  rintro e w' ⟨⟨i, rfl, hi⟩, rfl⟩
  clear hc
  go_wp2
  go_ret
  exact ⟨rfl, rfl⟩

theorem notDone_calls (b bx : Nat) (V : PV) (s : PS) (k : Nat) (w : World) (hP : PlanR b V s w) (hG : PG s) (hk : k < s.names.length) (hbx : w.cell? ⟨bx, 0, none⟩ = some (.pointer (some ⟨b, 0, none⟩))) :
    Calls Try.prog 46 #[.int .i64 k, .pointer (some ⟨bx, 0, none⟩)] w fun e w' => e = .returned (.bool (decide (¬ stD s k = 2))) ∧ w = w' := by
  have hl1 := hG.st1
  have hl2 := hG.st2
  have hn := hG.ok.n512
  obtain ⟨sb, sc, evS, nS1, nS2⟩ := Row.at_ hP.st (by omega)
  have hil : k < s.states.length := by omega
  have hb1 := hP.st
  rw [evS] at hb1
  have y0 := hP.c5
  rw [evS] at y0
  have y1 := IRow.cell hb1 rfl hil
  have hxs : s.states[k] = stD s k := by unfold stD; rw [Int.toNat_natCast, List.getD_eq_getElem?_getD, List.getElem?_eq_getElem hil]; rfl
  rw [hxs] at y1
  clear hb1 hxs evS hP
  generalize stD s k = x at *
  go_enter Try.func46, Try.ntmps46
  go_wp2
  go_ret
  exact ⟨by by_cases h : x = 2 <;> simp [h], rfl⟩
theorem notGone_calls (b bx : Nat) (V : PV) (s : PS) (k : Nat) (w : World) (hP : PlanR b V s w) (hG : PG s) (hk : k < s.names.length) (hbx : w.cell? ⟨bx, 0, none⟩ = some (.pointer (some ⟨b, 0, none⟩))) :
    Calls Try.prog 47 #[.int .i64 k, .pointer (some ⟨bx, 0, none⟩)] w fun e w' => e = .returned (.bool (decide (stD s k < 2))) ∧ w = w' := by
  have hl1 := hG.st1
  have hl2 := hG.st2
  have hn := hG.ok.n512
  obtain ⟨sb, sc, evS, nS1, nS2⟩ := Row.at_ hP.st (by omega)
  have hil : k < s.states.length := by omega
  have hb1 := hP.st
  rw [evS] at hb1
  have y0 := hP.c5
  rw [evS] at y0
  have y1 := IRow.cell hb1 rfl hil
  have hxs : s.states[k] = stD s k := by unfold stD; rw [Int.toNat_natCast, List.getD_eq_getElem?_getD, List.getElem?_eq_getElem hil]; rfl
  rw [hxs] at y1
  clear hb1 hxs evS hP
  generalize stD s k = x at *
  go_enter Try.func47, Try.ntmps47
  go_wp2
  go_ret
  exact ⟨rfl, rfl⟩

set_option maxHeartbeats 4000000 in
theorem ready_calls (b : Nat) (V : PV) (s : PS) (i : Nat) (w : World) (hC : (PlanC b V s).ok w) (hG : PG s) (hi : i < s.names.length) :
    Calls Try.prog 34 #[.pointer (some ⟨b, 0, none⟩), .int .i64 i] w fun e w' => e = .returned (.bool (readyB s i)) ∧ Pure w w' := by
  have hl1 := hG.st1
  have hl2 := hG.st2
  have hn := hG.ok.n512
  have q1 := hG.ok.ne2
  have q2 := hG.ok.be2
  have hPu : Pure w (w.alloc (.cells #[.pointer (some ⟨b, 0, none⟩)] 29)) := (Mut.refl _ _).alloc _
  have hP := (PlanC.reads hC).pure hPu
  have hbx : (w.alloc (.cells #[.pointer (some ⟨b, 0, none⟩)] 29)).cell? ⟨w.heap.size, 0, none⟩ = some (.pointer (some ⟨b, 0, none⟩)) := by
    have h1 : (Blk w.heap.size 29 #[.pointer (some ⟨b, 0, none⟩)]).ok (w.alloc (.cells #[.pointer (some ⟨b, 0, none⟩)] 29)) := heap_alloc_new w _
    rw [Blk.cell_ h1]; rfl
  obtain ⟨sb, sc, evS, nS1, nS2⟩ := Row.at_ hP.st (by omega)
  have hil : i < s.states.length := by omega
  have hb1 := hP.st
  rw [evS] at hb1
  have y0 := hP.c5
  rw [evS] at y0
  have y1 := IRow.cell hb1 rfl hil
  have hxs : s.states[i] = stD s i := by unfold stD; rw [Int.toNat_natCast, List.getD_eq_getElem?_getD, List.getElem?_eq_getElem hil]; rfl
  rw [hxs] at y1
  clear hb1 hxs evS
  have hkE : i < s.needs.length := by omega
  have hkB : i < s.behind.length := by omega
  obtain ⟨gE, cE, evE, nE1, nE2⟩ := Row.at_ hP.ne.head (by omega)
  obtain ⟨gB, cB, evB, nB1, nB2⟩ := Row.at_ hP.be.head (by omega)
  have lE : V.es.length = s.needs.length := hP.ne.nest_len
  have lB : V.bs.length = s.behind.length := hP.be.nest_len
  have hneH := hP.ne.head
  have hbeH := hP.be.head
  rw [evE] at hneH
  rw [evB] at hbeH
  have e0 := hP.c2
  rw [evE] at e0
  have e1 := hP.c3
  rw [evB] at e1
  have e2 := nest_cell hneH (k := i) (by omega)
  have e3 := nest_cell hbeH (k := i) (by omega)
  have iE : Ints _ (V.es[i]'(by omega)) s.needs[i] := Row.sl (hP.ne.nestAt hkE (by omega))
  have iB : Ints _ (V.bs[i]'(by omega)) s.behind[i] := Row.sl (hP.be.nestAt hkB (by omega))
  have hle : s.needs[i].length ≤ 1000 := hG.ok.neL _ (List.getElem_mem hkE)
  have hlb : s.behind[i].length ≤ 1000 := hG.ok.beL _ (List.getElem_mem hkB)
  have hrE : InR s.names.length s.needs[i] := hG.ok.neR _ (List.getElem_mem hkE)
  have hrB : InR s.names.length s.behind[i] := hG.ok.beR _ (List.getElem_mem hkB)
  have hRB : readyB s i = (decide (stD s i = 0) && (!(s.needs[i].any (fun k => decide (¬ stD s k = 2))) && !(s.behind[i].any (fun k => decide (stD s k < 2))))) := by
    unfold readyB notDone notGone
    rw [Int.toNat_natCast, List.getD_eq_getElem?_getD, List.getElem?_eq_getElem hkE, List.getD_eq_getElem?_getD, List.getElem?_eq_getElem hkB]; rfl
  have HRB := Lib.hid hRB
  clear hRB hneH hbeH evE evB nE1 nE2 nB1 nB2 nS1 nS2 q1 q2
  generalize V.es[i]'(by omega) = xE at *
  generalize V.bs[i]'(by omega) = xB at *
  obtain ⟨AE, kE, rfl, pE1, pE2⟩ := Sl.any_ iE
  obtain ⟨AB, kB, rfl, pB1, pB2⟩ := Sl.any_ iB
  have hcE := hasF_calls 46 (.pointer (some ⟨w.heap.size, 0, none⟩)) (fun k => decide (¬ stD s k = 2)) _ s.needs[i] _ (.inl rfl) iE (by omega) (fun k hk => by
    obtain ⟨m, rfl⟩ : ∃ m : Nat, k = (m : Int) := ⟨k.toNat, by have := (hrE k hk).1; omega⟩
    exact notDone_calls b w.heap.size V s m _ hP hG (by have := (hrE _ hk).2; omega) hbx)
  have hcB := hasF_calls 47 (.pointer (some ⟨w.heap.size, 0, none⟩)) (fun k => decide (stD s k < 2)) _ s.behind[i] _ (.inr rfl) iB (by omega) (fun k hk => by
    obtain ⟨m, rfl⟩ : ∃ m : Nat, k = (m : Int) := ⟨k.toNat, by have := (hrB k hk).1; omega⟩
    exact notGone_calls b w.heap.size V s m _ hP hG (by have := (hrB _ hk).2; omega) hbx)
  clear iE iB hrE hrB hP
  generalize s.needs[i].any (fun k => decide (¬ stD s k = 2)) = r1 at *
  generalize s.behind[i].any (fun k => decide (stD s k < 2)) = r2 at *
  have hx0 := hG.range i
  have HG := hG
  clear hG
  have hmf : ∀ (fn : Fn) (first cap : Array Value) (w : World), (Instr.makeFunc fn first cap).run Try.prog w = .ok (.func fn first cap) w := fun _ _ _ _ => rfl
  generalize hxx : stD s i = x at *
  clear hxx
  by_cases hz : x = 0
  · subst hz
    cases r1 with
    | true =>
      go_enter Try.func34, Try.ntmps34
      go_wp2_with (go_at_call 45; refine hcE.mono ?_; rintro e w' ⟨rfl, rfl⟩)
      go_ret
      exact ⟨by rw [HRB.out]; simp, hPu⟩
    | false =>
      go_enter Try.func34, Try.ntmps34
      go_wp2_with fail
      refine hcE.mono ?_
      rintro e w' ⟨rfl, rfl⟩
      go_wp2_with fail
      refine hcB.mono ?_
      rintro e w' ⟨rfl, rfl⟩
      cases r2 with
      | true =>
        go_wp2
        go_ret
        exact ⟨by rw [HRB.out]; simp, hPu⟩
      | false =>
        go_wp2
        go_ret
        exact ⟨by rw [HRB.out]; simp, hPu⟩
  · have hd : decide (x = 0) = false := decide_eq_false hz
    have hd2 : (x == 0) = false := by simpa using hz
    go_enter Try.func34, Try.ntmps34
    go_wp2
    go_ret
    exact ⟨by rw [HRB.out]; simp [hz], hPu⟩
end Go.Proofs.Ytcbhdjpigadhmaa
