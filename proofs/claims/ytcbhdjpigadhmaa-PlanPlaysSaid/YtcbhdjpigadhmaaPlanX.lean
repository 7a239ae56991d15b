/-
  The walk of PlanEnds.
-/
import Derived.Test.YtcbhdjpigadhmaaPlanW
import Derived.Deep.DeepCutAuto
import Derived.Deep.CutBlock
set_option linter.unusedVariables false
set_option linter.unusedSimpArgs false
namespace Go.Proofs.Ytcbhdjpigadhmaa
open Go.RowKit

theorem Strs.drop {w : World} {b c : Nat} {l : List ByteArray} (h : Strs w (.slice (some ⟨b, 0, none⟩) l.length c) l) {k : Nat} (hk : k ≤ l.length) : Strs w (.slice (if c = k then some ⟨b, 0, none⟩ else some ⟨b, k, none⟩) (l.length - k) (c - k)) (l.drop k) := by
  obtain ⟨A, c', e, h1, h2, h3, h4⟩ := h
  cases e
  refine ⟨_, _, by rw [List.length_drop], by rw [List.length_drop]; omega, by omega, by rw [strs_length, List.length_drop]; omega, ?_⟩
  rw [List.length_drop]
  by_cases h0 : l.length - k = 0
  · exact .inl h0
  · obtain ⟨b', o, e, hc⟩ := h4.resolve_left (by omega)
    cases e
    refine .inr ⟨b, k, by rw [if_neg (by omega)], fun j u hu => ?_⟩
    have e2 : (strs l)[k + j]? = some u := by
      rw [← hu]; simp [strs, List.getElem?_drop]
    have := hc _ u e2
    rwa [Nat.zero_add] at this

/-- What holds behind k turns: runs are those that run. -/
structure EndK (n k : Nat) (s : PS) (runs : List ByteArray) : Prop where
  pg : PG s
  inv : Inv s
  len : s.names.length = n
  run : ∀ x, x ∈ runs ↔ ∃ i : Nat, s.names[i]? = some x ∧ stD s i = 1
  nod : runs.Nodup
  mea : k + (2 * cN s 0 + cN s 1) ≤ 2 * n
  rl : runs.length ≤ k
theorem EndK.start {g : List Nd} {s : PS} (hb : buildOf g = some s) (ok : PlanOk s) : EndK g.length 0 s [] := by
  obtain ⟨hG, _, hz, hl⟩ := build_good hb ok
  have h1 : cN s 1 = 0 := by
    refine Nat.eq_zero_of_not_pos fun hp => ?_
    obtain ⟨i, _, e⟩ := cN_pos hp
    rw [hz] at e; omega
  have ha := cN_all hG
  refine ⟨hG, Inv.init hz, hl, fun x => ⟨fun h => (by cases h), fun ⟨i, _, e⟩ => (by rw [hz] at e; omega)⟩, by simp, by omega, Nat.le_refl _⟩
theorem name_place {s : PS} (hG : PG s) {i j : Nat} {x : ByteArray} (h1 : s.names[i]? = some x) (h2 : s.names[j]? = some x) : i = j := by
  have a := hG.at2 i x h1
  have b := hG.at2 j x h2
  rw [a] at b
  cases b; rfl
/-- One that runs is finished. -/
theorem EndK.fin {n k : Nat} {s : PS} {runs : List ByteArray} (h : EndK n k s runs) {m : Nat} (hm : m < runs.length) (ok : Bool) : ∃ s', finishS s runs[m] ok = (s', 0) ∧ EndK n (k + 1) s' (runs.take m ++ runs.drop (m + 1)) := by
  have hG := h.pg
  obtain ⟨i, hin, hi1⟩ := (h.run _).1 (List.getElem_mem hm)
  have hi : i < s.names.length := (List.getElem?_eq_some_iff.1 hin).1
  have hat := hG.at2 i _ hin
  have hl1 : 0 < cN s 1 := cN_of hG hi hi1
  have hrem : ∀ x, x ∈ runs.take m ++ runs.drop (m + 1) ↔ x ∈ runs ∧ x ≠ runs[m] := by
    intro x
    have e : runs = runs.take m ++ runs[m] :: runs.drop (m + 1) := by rw [← List.drop_eq_getElem_cons hm, List.take_append_drop]
    have hn := h.nod
    rw [e] at hn
    have hn' := List.nodup_append.1 hn
    have hn2 := List.nodup_cons.1 hn'.2.1
    constructor
    · intro hx
      rcases List.mem_append.1 hx with hx | hx
      · exact ⟨List.mem_of_mem_take hx, fun e => hn'.2.2 x hx runs[m] (List.mem_cons_self ..) e⟩
      · exact ⟨List.mem_of_mem_drop hx, fun e => hn2.1 (e ▸ hx)⟩
    · rintro ⟨hx, hne⟩
      rw [e] at hx
      rcases List.mem_append.1 hx with hx | hx
      · exact List.mem_append_left _ hx
      · rcases List.mem_cons.1 hx with hx | hx
        · exact absurd hx hne
        · exact List.mem_append_right _ hx
  have hnod : (runs.take m ++ runs.drop (m + 1)).Nodup := by
    refine h.nod.sublist ?_
    have : (runs.take m ++ runs.drop (m + 1)).Sublist (runs.take m ++ runs.drop m) := List.Sublist.append (List.Sublist.refl _) (by
      rw [List.drop_eq_getElem_cons hm]; exact List.sublist_cons_self _ _)
    rwa [List.take_append_drop] at this
  have hlen : (runs.take m ++ runs.drop (m + 1)).length ≤ k + 1 := by
    have := h.rl
    simp; omega
  have hmea := h.mea
  have hfin : finishS s runs[m] ok = (if ok then (turnS s i 2, 0) else (skipF s.names.length (turnS s i 3) i, 0)) := by
    unfold finishS
    rw [hat]
    simp only [hi1, if_true]
  have hrun2 : ∀ (t : PS), t.names = s.names → (∀ j : Nat, j < s.names.length → (stD t j = 1 ↔ stD s j = 1 ∧ j ≠ i)) → ∀ x, x ∈ runs.take m ++ runs.drop (m + 1) ↔ ∃ j : Nat, t.names[j]? = some x ∧ stD t j = 1 := by
    intro t ht hst x
    rw [hrem, h.run, ht]
    constructor
    · rintro ⟨⟨j, hj, h1⟩, hne⟩
      refine ⟨j, hj, (hst j (List.getElem?_eq_some_iff.1 hj).1).2 ⟨h1, fun e => hne ?_⟩⟩
      subst e
      rw [hin] at hj
      exact (Option.some.inj hj).symm
    · rintro ⟨j, hj, h1⟩
      obtain ⟨h1, hne⟩ := (hst j (List.getElem?_eq_some_iff.1 hj).1).1 h1
      exact ⟨⟨j, hj, h1⟩, fun e => hne (name_place hG (by rw [hj, e]) hin)⟩
  cases ok with
  | true =>
    have hG2 : PG (turnS s i 2) := hG.turn (by omega) (by omega) (by omega) (by omega)
    have a0 := cN_turn hG hi 2 0
    have a1 := cN_turn hG hi 2 1
    rw [hi1] at a0 a1
    simp at a0 a1
    refine ⟨turnS s i 2, by rw [hfin, if_pos rfl], hG2, h.inv.done_ hG hi hi1, h.len, hrun2 _ rfl (fun j hj => ?_), hnod, by omega, hlen⟩
    rw [st_turn hG hi _ (by omega)]
    by_cases e : (j : Int) = i
    · rw [if_pos e]; constructor
      · intro h; omega
      · rintro ⟨_, h⟩; omega
    · rw [if_neg e]; constructor
      · intro h; exact ⟨h, by omega⟩
      · exact fun h => h.1
  | false =>
    have R := fail_skip hG hi
    have hG3 : PG (turnS s i 3) := hG.turn (by omega) (by omega) (by omega) (by omega)
    obtain ⟨b0, b1⟩ := R.sk.counts hG3 R.pg
    have a0 := cN_turn hG hi 3 0
    have a1 := cN_turn hG hi 3 1
    rw [hi1] at a0 a1
    simp at a0 a1
    have b1' := b1 1 (by omega) (by omega)
    refine ⟨skipF s.names.length (turnS s i 3) i, by rw [hfin, if_neg (by decide)], R.pg, h.inv.fail_ hG hi hi1, by rw [R.sk.same.1]; exact h.len, hrun2 _ R.sk.same.1 (fun j hj => ?_), hnod, by omega, hlen⟩
    have hs := st_turn hG hi 3 (k := (j : Int)) (by omega)
    rcases R.sk.st j (by omega) with e | e
    · rw [e, hs]
      by_cases e : (j : Int) = i
      · rw [if_pos e]; constructor
        · intro h; omega
        · rintro ⟨_, h⟩; omega
      · rw [if_neg e]; constructor
        · intro h; exact ⟨h, by omega⟩
        · exact fun h => h.1
    · rw [hs] at e
      constructor
      · intro h; omega
      · rintro ⟨h1, h2⟩
        rw [if_neg (by omega)] at e
        omega
/-- One that is ready is started. -/
theorem EndK.go {n k : Nat} {s : PS} {runs : List ByteArray} (h : EndK n k s runs) {x : ByteArray} (hx : x ∈ readyS s) : ∃ s', startS s x = (s', 0) ∧ EndK n (k + 1) s' (runs ++ [x]) := by
  have hG := h.pg
  obtain ⟨i, hi, hm, hr, hs⟩ := start_ready hG hx
  have r0 := (ready_iff.1 hr).1
  have hin : s.names[i]? = some x := by have := (hG.at1 x i hm).2; rwa [Int.toNat_natCast] at this
  have hG1 : PG (turnS s i 1) := hG.turn (by omega) (by omega) (by omega) (by omega)
  have a0 := cN_turn hG hi 1 0
  have a1 := cN_turn hG hi 1 1
  rw [r0] at a0 a1
  simp at a0 a1
  have hp := cN_of hG hi r0
  have hmea := h.mea
  have hnot : x ∉ runs := fun hx => by
    obtain ⟨j, hj, h1⟩ := (h.run x).1 hx
    have := name_place hG hj hin
    subst this
    omega
  refine ⟨turnS s i 1, hs, hG1, h.inv.start_ hG hi hr, h.len, fun y => ?_, ?_, by omega, by have := h.rl; simp; omega⟩
  · rw [List.mem_append, List.mem_singleton, h.run]
    constructor
    · rintro (⟨j, hj, h1⟩ | rfl)
      · refine ⟨j, hj, ?_⟩
        rw [st_turn hG hi _ (by omega)]
        split
        · rfl
        · exact h1
      · exact ⟨i, hin, by rw [st_turn hG hi _ (by omega), if_pos rfl]⟩
    · rintro ⟨j, hj, h1⟩
      rw [st_turn hG hi _ (by omega)] at h1
      split at h1
      · rename_i e
        have : j = i := by omega
        subst this
        have hj' : s.names[j]? = some y := hj
        rw [hin] at hj'
        exact .inr (Option.some.inj hj').symm
      · exact .inl ⟨j, hj, h1⟩
  · exact List.nodup_append.2 ⟨h.nod, by simp, fun a ha b hb => by rw [List.mem_singleton.1 hb]; rintro rfl; exact hnot ha⟩
theorem EndK.some {n k : Nat} {s : PS} {runs : List ByteArray} (h : EndK n k s runs) (ho : overS s = false) : (runs ≠ [] ∨ readyS s ≠ []) ∧ k < 2 * n := by
  have hno : ¬ (cN s 0 = 0 ∧ cN s 1 = 0) := fun hh => by rw [(over_iff h.pg).2 hh] at ho; cases ho
  have hm := h.mea
  refine ⟨?_, by omega⟩
  by_cases h1 : cN s 1 = 0
  · obtain ⟨j, hj, hr⟩ := some_ready h.pg h.inv h1 (by omega)
    exact .inr (ready_ne hj hr)
  · obtain ⟨i, hi, e⟩ := cN_pos (s := s) (y := 1) (by omega)
    have hi' : i < s.names.length := by have := h.pg.st1; omega
    refine .inl fun e2 => ?_
    have : s.names[i] ∈ runs := (h.run _).2 ⟨i, List.getElem?_eq_getElem hi', e⟩
    rw [e2] at this; cases this
theorem EndK.end_ {n k : Nat} {s : PS} {runs : List ByteArray} (h : EndK n k s runs) (ho : overS s = true) : runs = [] ∧ countS s 2 + countS s 3 + countS s 4 = (n : Int) ∧ 0 ≤ countS s 2 ∧ 0 ≤ countS s 3 ∧ 0 ≤ countS s 4 := by
  obtain ⟨h0, h1⟩ := (over_iff h.pg).1 ho
  have ha := cN_all h.pg
  have hl := h.len
  have c2 : countS s 2 = (cN s 2 : Int) := by unfold countS; rw [if_neg (by omega)]; exact cnt_cN h.pg (k := 2) (by omega)
  have c3 : countS s 3 = (cN s 3 : Int) := by unfold countS; rw [if_neg (by omega)]; exact cnt_cN h.pg (k := 3) (by omega)
  have c4 : countS s 4 = (cN s 4 : Int) := by unfold countS; rw [if_neg (by omega)]; exact cnt_cN h.pg (k := 4) (by omega)
  refine ⟨?_, by omega, by omega, by omega, by omega⟩
  cases runs with
  | nil => rfl
  | cons x r =>
    obtain ⟨i, hi, e⟩ := (h.run x).1 (List.mem_cons_self ..)
    have := cN_of h.pg (List.getElem?_eq_some_iff.1 hi).1 e
    omega












set_option maxRecDepth 100000 in
set_option maxHeartbeats 16000000 in
theorem ends_calls (GA : Option Addr) (gn gc : Nat) (NV PV_ : Value) (g : List Nd) (turns : List Tn) (w : World) (hG : Nodes w NV g) (hbnd : ∀ x, x ∈ g → x.src.length ≤ 10000000000000 ∧ x.aft.length ≤ 10000000000000) (hP : Tns w PV_ turns) (hpb : turns.length ≤ 140737488351232) (hpr : ∀ x : Tn, x ∈ turns → 0 ≤ x.pick ∧ x.pick < 256) :
    Calls Try.prog 3 #[.agg #[.slice GA gn gc, NV], PV_] w fun e w' => e = .returned (.bool true) ∧ Mem none_ w [] w' := by
  obtain ⟨A, c, rfl, nn1, nn2⟩ : ∃ A c, NV = .slice A g.length c ∧ g.length ≤ c ∧ c ≤ maxLen := by
    obtain ⟨cells, h, _⟩ := hG
    exact Sl.any_ h
  obtain ⟨PA, pc, rfl, pn1, pn2⟩ := Sl.any_ hP
  unfold maxLen at nn2 pn2
  have HM0 := (Mem.start (fp := none_) w).box #[.slice GA gn gc, .slice A g.length c] 25
  have c0 : (w.alloc (.cells #[.slice GA gn gc, .slice A g.length c] 25)).cell? ⟨w.heap.size, 0, none⟩ = some (.slice GA gn gc) := by rw [Blk.cell_ HM0.head]; rfl
  have c1 : (w.alloc (.cells #[.slice GA gn gc, .slice A g.length c] 25)).cell? ⟨w.heap.size, 1, none⟩ = some (.slice A g.length c) := by rw [Blk.cell_ HM0.head]; rfl
  have hfar := far_calls (.slice GA gn gc) _ g _ (hG.pure HM0.mu) hbnd
  cases hf : farG g with
  | true =>
    rw [hf] at hfar
    clear hf
    go_enter Try.func3, Try.ntmps3
    go_wp2_with fail
    refine hfar.mono ?_
    rintro e w1 ⟨rfl, HM1⟩
    have HM2 := HM0.got HM1
    clear hfar c0 c1
    go_wp2_with fail
    refine (alive_calls w1).mono ?_
    rintro e w2 ⟨rfl, HM3⟩
    have HM4 := (HM2.got HM3).sel [] (by decide)
    clear HM0 HM1 HM2 HM3
    go_wp2
    go_ret
    exact ⟨rfl, HM4⟩
  | false =>
    rw [hf] at hfar
    obtain ⟨hl515, hbd⟩ := farG_bounds hf
    clear hf
    go_enter Try.func3, Try.ntmps3
    go_wp2_with fail
    refine hfar.mono ?_
    rintro e w1 ⟨rfl, HM1⟩
    have HM2 := HM0.got HM1
    clear hfar c0 c1 HM0 HM1
    have c0 : w1.cell? ⟨w.heap.size, 0, none⟩ = some (.slice GA gn gc) := by have h1 : (Blk w.heap.size 25 _).ok w1 := HM2.at_ 0 rfl; rw [Blk.cell_ h1]; rfl
    have c1 : w1.cell? ⟨w.heap.size, 1, none⟩ = some (.slice A g.length c) := by have h1 : (Blk w.heap.size 25 _).ok w1 := HM2.at_ 0 rfl; rw [Blk.cell_ h1]; rfl
    go_wp2_with fail
    refine (theirs_calls GA gn gc _ g w1 (hG.pure HM2.mu) (by omega)).mono ?_
    rintro e w2 ⟨v2, rfl, hG2, HM3⟩
    have HM4 := HM2.got HM3
    clear HM2 HM3 c0 c1
    go_wp2_with fail
    refine (New_calls _ _ g w2 hG2 hbd (by omega)).mono ?_
    rintro e w3 ⟨h1, h2⟩
    cases hB : buildOf g with
    | none =>
      obtain ⟨rfl, HM5⟩ := h1 hB
      have HM6 := HM4.got HM5
      clear h1 h2 hG2 HM4 HM5 hB
      go_wp2_with fail
      refine (alive_calls _).mono ?_
      rintro e w4 ⟨rfl, HM7⟩
      have HM8 := (HM6.got HM7).sel [] (by decide)
      clear HM6 HM7
      go_wp2
      go_ret
      exact ⟨rfl, HM8⟩
    | some s0 =>
      obtain ⟨b, V, rfl, hO, HM5⟩ := h2 s0 hB
      have HM6 : Mem none_ w [PlanC b V s0, Blk w.heap.size 25 #[.slice GA gn gc, .slice A g.length c]] w3 := HM4.got HM5
      have hE0 := EndK.start hB hO
      clear h1 h2 hG2 HM4 HM5 hB hO
      have HM7 := HM6.nilS
      go_wp2
      go_loopw [7, 8] (fun v7 v8 wr => ∃ (k : Nat) (s : PS) (runs : List ByteArray), k ≤ 2 * g.length ∧ v8 = .int .i64 k ∧ EndK g.length k s runs ∧ Mem none_ w [StrRow v7 runs, PlanC b V s, Blk w.heap.size 25 #[.slice GA gn gc, .slice A g.length c]] wr) (fun _ v _ => 2 * g.length - (intOf v).toNat)
      case atStart => exact ⟨0, s0, [], Nat.zero_le _, rfl, hE0, HM7⟩
      case round =>
        clear HM6 HM7 hE0
        obtain ⟨k, s, runs, hk, rfl, hE, HM⟩ := hrel
        have hOv := Over_calls b V s wr (HM.at_ 1 rfl) hE.pg
        cases ho : overS s with
        | false =>
          have hsome := hE.some ho
          rw [ho] at hOv
          clear ho
          go_wp2_with fail
          refine hOv.mono ?_
          rintro e w4 ⟨rfl, hp⟩
          have HM2 := HM.keep hp
          clear hOv hp HM
          go_upto_if 37 with fail
          have HMt := HM2.box #[.bool false, .bool true, .int .u8 0] 38
          generalize hW5 : w4.alloc (.cells #[.bool false, .bool true, .int .u8 0] 38) = W5 at *
          generalize htb : w4.heap.size = tb at *
          clear hW5 htb HM2
          go_cut [9] (fun s9 wx => s9 = .pointer (some ⟨tb, 0, none⟩) ∧ ∃ tn : Tn, 0 ≤ tn.pick ∧ tn.pick < 256 ∧ Mem none_ w [Blk tb 38 (encT tn).toArray, StrRow u7 runs, PlanC b V s, Blk w.heap.size 25 #[.slice GA gn gc, .slice A g.length c]] wx)
          case first =>
            by_cases hp0 : turns.length = 0
            · have hp1 : decide (0 < (turns.length : Int)) = false := decide_eq_false (by omega)
              have hp2 : decide (0 < turns.length) = false := decide_eq_false (by omega)
              have hp3 : ¬ 0 < turns.length := by omega
              have hp4 := Lib.hid hp0
              clear hp0
              go_wp2_with fail
              go_meet
              exact ⟨rfl, ⟨false, true, 0⟩, by decide, by decide, HMt⟩
            · have hp1 : decide (0 < (turns.length : Int)) = true := decide_eq_true (by omega)
              have hp2 : decide (0 < turns.length) = true := decide_eq_true (by omega)
              have hp3 : 0 < turns.length := by omega
              have hkp : k % turns.length < turns.length := Nat.mod_lt _ hp3
              obtain ⟨pb, po, rfl, hpc⟩ := flat_cells (enc := encT) (sz := 3) (fun _ => rfl) (hP.pure HMt.mu) hkp
              have hpc0 := hpc 0 _ rfl
              have hpc1 := hpc 1 _ rfl
              have hpc2 := hpc 2 _ rfl
              have hpq := hpr _ (List.getElem_mem hkp)
              have htb : (Blk tb 38 #[.bool false, .bool true, .int .u8 0]).ok W5 := HMt.head
              have y0 : W5.cell? ⟨tb, 0, none⟩ = some (.bool false) := by rw [Blk.cell_ htb]; rfl
              have y1 : W5.cell? ⟨tb, 1, none⟩ = some (.bool true) := by rw [Blk.cell_ htb]; rfl
              have y2 : W5.cell? ⟨tb, 2, none⟩ = some (.int .u8 0) := by rw [Blk.cell_ htb]; rfl
              have z0 := Blk.frozen htb 0
              have z1 := Blk.frozen htb 1
              have z2 := Blk.frozen htb 2
              clear hpc htb
              generalize turns[k % turns.length] = tn at *
              have m1 : (k : Int) % (turns.length : Int) = ((k % turns.length : Nat) : Int) := by simp
              clear hp0
              rw [Nat.add_zero] at hpc0
              generalize k % turns.length = km at *
              have HMu := ((HMt.blkSet 0 (.bool tn.fin)).blkSet 1 (.bool tn.ok)).blkSet 2 (.int .u8 tn.pick)
              go_wp2_with fail
              go_meet
              exact ⟨rfl, tn, hpq.1, hpq.2, HMu⟩
          case rest =>
            have HMt0 := HMt
            clear HMt
            obtain ⟨rfl, tn, htn0, htn1, HM3⟩ := hcut
            have hnk := hsome.2
            have hGs := hE.pg
            have hln := hE.len
            have hrl := hE.rl
            have hfin := fun m hm ok => hE.fin (m := m) hm ok
            have hgo := fun x hx => hE.go (x := x) hx
            have hsm := hsome.1
            have hrdl := Nat.le_trans (readyUp_len s s.names.length) hGs.ok.n512
            have hRd := Ready_calls b V s wc (HM3.at_ 2 rfl) hGs
            clear hE hsome HMt0
            go_wp2_with fail
            refine hRd.mono ?_
            rintro e w5 ⟨v5, rfl, HM4⟩
            have HM5 : Mem none_ w [StrRow v5 (readyS s), Blk tb 38 (encT tn).toArray, StrRow u7 runs, PlanC b V s, Blk w.heap.size 25 #[.slice GA gn gc, .slice A g.length c]] w5 := HM3.got HM4
            clear HM3 HM4 hRd
            have hrd2 : (readyS s).length ≤ 512 := hrdl
            clear hrdl
            generalize readyS s = L at *
            obtain ⟨Ar, cr, rfl, ra1, ra2⟩ := Row.any_ (HM5.at_ 2 rfl)
            obtain ⟨AL, cL, rfl, la1, la2⟩ := Row.any_ (HM5.at_ 0 rfl)
            unfold maxLen at ra2 la2
            have Hln := Lib.hid hln
            clear hln
            obtain ⟨p, hp⟩ : ∃ m : Nat, tn.pick = (m : Int) := ⟨tn.pick.toNat, by omega⟩
            have htb : (Blk tb 38 (encT tn).toArray).ok w5 := HM5.at_ 1 rfl
            have y0 : w5.cell? ⟨tb, 0, none⟩ = some (.bool tn.fin) := by rw [Blk.cell_ htb]; rfl
            have y2 : w5.cell? ⟨tb, 2, none⟩ = some (.int .u8 p) := by rw [Blk.cell_ htb, ← hp]; rfl
            have hp256 : p < 256 := by omega
            clear htb hp htn0 htn1
            go_upto_block 2 with fail
            go_cut [7] (fun s7 wx => ∃ (s' : PS) (runs' : List ByteArray), EndK g.length (k + 1) s' runs' ∧ Mem none_ w [StrRow s7 runs', PlanC b V s', Blk w.heap.size 25 #[.slice GA gn gc, .slice A g.length c]] wx)
            case first =>
              by_cases hr : runs = []
              · have hrn : runs.length ≤ 0 := by rw [hr]; exact Nat.le_refl _
                have hr1 : decide (0 < (runs.length : Int)) = false := decide_eq_false (by omega)
                have hr2 : decide (0 < runs.length) = false := decide_eq_false (by omega)
                have hr4 : ¬ 0 < runs.length := by omega
                have hl3 : 0 < L.length := List.length_pos_iff.2 (hsm.resolve_left (fun h => h hr))
                have Hr := Lib.hid hr
                clear hr
                have hl1 : decide (0 < (L.length : Int)) = true := decide_eq_true (by omega)
                have hl2 : decide (0 < L.length) = true := decide_eq_true hl3
                have hd0 : decide ((L.length : Int) = 0) = false := decide_eq_false (by omega)
                have hd1 : ((L.length : Int) == 0) = false := by simpa using (by omega : ¬ L.length = 0)
                have hd2 : decide (L.length = 0) = false := decide_eq_false (by omega)
                have hd3 : decide (L = []) = false := decide_eq_false (fun e => by rw [e] at hl3; simp at hl3)
                have hpm : p % L.length < L.length := Nat.mod_lt _ hl3
                obtain ⟨gl, cl', el, _, _⟩ := Row.at_ (HM5.at_ 0 rfl) hl3
                cases el
                obtain ⟨x, hx⟩ : ∃ x, L[p % L.length] = x := ⟨_, rfl⟩
                have hget : Hid ((strs L)[p % L.length]? = some (.string x)) := by unfold Hid; rw [strs_get hpm, hx]
                obtain ⟨s', hf1, hE'⟩ := hgo x (by rw [← hx]; exact List.getElem_mem hpm)
                have HE' := Lib.hid hE'
                have m2 : (p : Int) % (L.length : Int) = ((p % L.length : Nat) : Int) := by simp
                have hx0 := Row.cell (HM5.at_ 0 rfl) hget.out
                have hS := Start_calls b V s x w5 (HM5.at_ 3 rfl) hGs
                rw [hf1] at hS
                clear hx hfin hgo hE' hf1 hsm
                generalize hpmg : p % L.length = pm at *
                clear hpmg
                go_wp2_with fail
                refine hS.mono ?_
                rintro e w6 ⟨rfl, HM7⟩
                have HM8 : Mem none_ w [StrRow (.slice Ar runs.length cr) runs, PlanC b V s', Blk w.heap.size 25 #[.slice GA gn gc, .slice A g.length c]] w6 := ((HM5.front [_, _, _]).call1 HM7).sel [3, 0, 4] (by decide)
                clear hS HM5 HM7 hx0 y0 y2
                go_wp2_with (at_builtin; refine wpList_appS strE rfl _ _ rfl HM8 rfl x _ rfl ?hnb ?hb ?_; (case hnb => simp); (case hb => omega); intro v' w' HM9 HU9)
                go_meet
                exact ⟨s', _, HE'.out, HM9⟩
              · have hr3 : 0 < runs.length := List.length_pos_iff.2 hr
                have hr1 : decide (0 < (runs.length : Int)) = true := decide_eq_true (by omega)
                have hr2 : decide (0 < runs.length) = true := decide_eq_true hr3
                have Hr := Lib.hid hr
                clear hr
                cases hfn : tn.fin with
                | true =>
                  rw [hfn] at y0
                  have Hfn := Lib.hid hfn
                  clear hfn
                  have hpm : p % runs.length < runs.length := Nat.mod_lt _ hr3
                  obtain ⟨gr, cr', er, _, _⟩ := Row.at_ (HM5.at_ 2 rfl) hr3
                  cases er
                  obtain ⟨x, hx⟩ : ∃ x, runs[p % runs.length] = x := ⟨_, rfl⟩
                  have hget : Hid ((strs runs)[p % runs.length]? = some (.string x)) := by unfold Hid; rw [strs_get hpm, hx]
                  obtain ⟨s', hf1, hE'⟩ := hfin (p % runs.length) hpm tn.ok
                  rw [hx] at hf1
                  have HE' := Lib.hid hE'
                  have Hf1 := Lib.hid hf1
                  have m2 : (p : Int) % (runs.length : Int) = ((p % runs.length : Nat) : Int) := by simp
                  have hL2 := (runs.drop (p % runs.length + 1)).length
                  clear hx hfin hgo hE' hf1 hsm
                  generalize hpmg : p % runs.length = pm at *
                  clear hpmg
                  go_wp2_with fail
                  have HM6 := HM5.drew
                  have htb : (Blk tb 38 (encT tn).toArray).ok w5.drew := HM6.at_ 1 rfl
                  have y1 : w5.drew.cell? ⟨tb, 1, none⟩ = some (.bool tn.ok) := by rw [Blk.cell_ htb]; rfl
                  have hx0 := Row.cell (HM6.at_ 2 rfl) hget.out
                  have hF := Finish_calls b V s x tn.ok w5.drew (HM6.at_ 3 rfl) hGs
                  rw [Hf1.out] at hF
                  clear htb HM5 y0 y2
                  refine wp_plan [7] (S := fun w' => w' = World.drew w5) [(.pure, 0), (.pure, 1), (.pure, 2), (.pure, 3), (.load, 4), (.pure, 5), (.load, 6), (.tail, 7), (.pure, 8)] (by kernel_rfl) rfl (by kernel_rfl) rfl (fun _ _ _ _ _ h => h) rfl ?_
                  generalize World.drew w5 = W6 at *
                  repeat (first | (refine plan_pure (v := ?_) (a' := ?_) rfl rfl rfl ?_ ?_ ?_; rotate_left 2; (focus (intro w'; go_simp; with_reducible rfl)); (focus (simp only [Act.put, List.setIfInBounds_toArray, List.set_cons_zero, List.set_cons_succ]; rfl))) | (refine plan_load (v := ?_) (a' := ?_) rfl rfl rfl ?_ ?_ ?_; rotate_left 2; (focus (intro w' hw'; rw [hw']; go_simp; with_reducible rfl)); (focus (simp only [Act.put, List.setIfInBounds_toArray, List.set_cons_zero, List.set_cons_succ]; rfl))) | (refine plan_skip rfl rfl (by decide +kernel) (by simp only [Act.put, List.setIfInBounds_toArray, List.set_cons_zero, List.set_cons_succ]; rfl) ?_))
                  refine plan_tail rfl (fun K hK => ?_)
                  go_wp2_with fail
                  refine hF.mono ?_
                  rintro e w6 ⟨rfl, HM7⟩
                  have HM8 : Mem none_ w [PlanC b V s', StrRow (.slice (some ⟨gr, 0, none⟩) runs.length cr) runs, Blk w.heap.size 25 #[.slice GA gn gc, .slice A g.length c]] w6 := ((HM6.front [_, _, _]).call1 HM7).sel [0, 3, 4] (by decide)
                  clear hF HM6 HM7 y1 hx0
                  go_wp2_with fail
                  repeat (first | (refine plan_pure (v := ?_) (a' := ?_) rfl rfl rfl ?_ ?_ ?_; rotate_left 2; (focus (intro w'; go_simp; with_reducible rfl)); (focus (simp only [Act.put, List.setIfInBounds_toArray, List.set_cons_zero, List.set_cons_succ]; rfl))) | (refine plan_load (v := ?_) (a' := ?_) rfl rfl rfl ?_ ?_ ?_; rotate_left 2; (focus (intro w' hw'; rw [hw']; go_simp; with_reducible rfl)); (focus (simp only [Act.put, List.setIfInBounds_toArray, List.set_cons_zero, List.set_cons_succ]; rfl))) | (refine plan_skip rfl rfl (by decide +kernel) (by simp only [Act.put, List.setIfInBounds_toArray, List.set_cons_zero, List.set_cons_succ]; rfl) ?_))
                  refine plan_done ?_
                  go_wp2_with fail
                  have HM9 := HM8.drew.nilS
                  clear HM8
                  have w1p : IntKind.i64.wrap ((pm : Int) + 1) = (pm : Int) + 1 := IntWalk.i64_in _ (by omega)
                  have q1 : pm ≤ cr := by omega
                  have q2 : pm + 1 ≤ cr := by omega
                  have q3 : pm + 1 ≤ runs.length := by omega
                  have q4 : (pm : Int) + 1 ≤ (cr : Int) := by omega
                  have q5 : (pm : Int) + 1 ≤ (runs.length : Int) := by omega
                  have q6 : 0 ≤ (pm : Int) + 1 := by omega
                  refine wp_plan [] (S := fun _ => True) [(.pure, 0), (.pure, 1), (.pure, 2), (.pure, 4), (.pure, 5), (.pure, 6), (.pure, 7), (.eff, 3), (.eff, 8), (.pure, 9)] (by kernel_rfl) rfl (by kernel_rfl) rfl (fun _ _ _ _ _ h => h) trivial ?_
                  generalize World.drew w6 = W7 at *
                  repeat (first | (refine plan_pure (v := ?_) (a' := ?_) rfl rfl rfl ?_ ?_ ?_; rotate_left 2; (focus (intro w'; go_simp; with_reducible rfl)); (focus (simp only [Act.put, List.setIfInBounds_toArray, List.set_cons_zero, List.set_cons_succ]; rfl))) | (refine plan_load (v := ?_) (a' := ?_) rfl rfl rfl ?_ ?_ ?_; rotate_left 2; (focus (intro w' hw'; rw [hw']; go_simp; with_reducible rfl)); (focus (simp only [Act.put, List.setIfInBounds_toArray, List.set_cons_zero, List.set_cons_succ]; rfl))) | (refine plan_skip rfl rfl (by decide +kernel) (by simp only [Act.put, List.setIfInBounds_toArray, List.set_cons_zero, List.set_cons_succ]; rfl) ?_))
                  have hT1 := Strs.take (Row.sl (HM9.at_ 2 rfl)) (k := pm) (by omega)
                  have hlt1 : (runs.take pm).length ≤ 1100 := by rw [List.length_take]; omega
                  refine plan_eff_put rfl rfl (fun K hK => ?_)
                  refine wpList_appL strE rfl _ _ rfl HM9 rfl (m := runs.take pm) (xv := .slice (some ⟨gr, 0, none⟩) pm cr) rfl hT1 (by simp only [List.length_nil]; omega) ?_
                  intro v7 w8 HMa _
                  refine wpList_nil_ (hK _ _ trivial ?_)
                  clear hK HM9 hT1
                  simp only [Act.put, List.setIfInBounds_toArray, List.set_cons_zero, List.set_cons_succ]
                  have hT2 := Strs.drop (Row.sl (HMa.at_ 2 rfl)) (k := pm + 1) (by omega)
                  have hlt2 : (runs.drop (pm + 1)).length ≤ 1100 := by rw [List.length_drop]; omega
                  refine plan_eff_put rfl rfl (fun K hK => ?_)
                  refine wpList_appL strE rfl _ _ rfl HMa rfl (m := runs.drop (pm + 1)) (xv := .slice (if cr = pm + 1 then some ⟨gr, 0, none⟩ else some ⟨gr, pm + 1, none⟩) (runs.length - (pm + 1)) (cr - (pm + 1))) rfl hT2 (by simp only [List.nil_append]; omega) ?_
                  intro v8 w9 HMb _
                  refine wpList_nil_ (hK _ _ trivial ?_)
                  clear hK HMa hT2
                  simp only [Act.put, List.setIfInBounds_toArray, List.set_cons_zero, List.set_cons_succ]
                  rw [List.nil_append] at HMb
                  repeat (first | (refine plan_pure (v := ?_) (a' := ?_) rfl rfl rfl ?_ ?_ ?_; rotate_left 2; (focus (intro w'; go_simp; with_reducible rfl)); (focus (simp only [Act.put, List.setIfInBounds_toArray, List.set_cons_zero, List.set_cons_succ]; rfl))) | (refine plan_load (v := ?_) (a' := ?_) rfl rfl rfl ?_ ?_ ?_; rotate_left 2; (focus (intro w' hw'; rw [hw']; go_simp; with_reducible rfl)); (focus (simp only [Act.put, List.setIfInBounds_toArray, List.set_cons_zero, List.set_cons_succ]; rfl))) | (refine plan_skip rfl rfl (by decide +kernel) (by simp only [Act.put, List.setIfInBounds_toArray, List.set_cons_zero, List.set_cons_succ]; rfl) ?_))
                  refine plan_done ?_
                  go_wp2_with fail
                  all_goals
                    go_meet
                    exact ⟨s', _, HE'.out, HMb.sel [0, 1, 3] (by decide)⟩
                | false =>
                  rw [hfn] at y0
                  have Hfn := Lib.hid hfn
                  clear hfn
                  by_cases hl : L = []
                  · skip
                    have hl3 : L.length ≤ 0 := by rw [hl]; exact Nat.le_refl _
                    have hd0 : decide ((L.length : Int) = 0) = true := decide_eq_true (by omega)
                    have hd1 : ((L.length : Int) == 0) = true := by rw [hl]; rfl
                    have hd2 : decide (L.length = 0) = true := decide_eq_true (by omega)
                    have hd3 : decide (L = []) = true := decide_eq_true hl
                    have Hl := Lib.hid hl
                    clear hl
                    have hpm : p % runs.length < runs.length := Nat.mod_lt _ hr3
                    obtain ⟨gr, cr', er, _, _⟩ := Row.at_ (HM5.at_ 2 rfl) hr3
                    cases er
                    obtain ⟨x, hx⟩ : ∃ x, runs[p % runs.length] = x := ⟨_, rfl⟩
                    have hget : Hid ((strs runs)[p % runs.length]? = some (.string x)) := by unfold Hid; rw [strs_get hpm, hx]
                    obtain ⟨s', hf1, hE'⟩ := hfin (p % runs.length) hpm tn.ok
                    rw [hx] at hf1
                    have HE' := Lib.hid hE'
                    have Hf1 := Lib.hid hf1
                    have m2 : (p : Int) % (runs.length : Int) = ((p % runs.length : Nat) : Int) := by simp
                    have hL2 := (runs.drop (p % runs.length + 1)).length
                    clear hx hfin hgo hE' hf1 hsm
                    generalize hpmg : p % runs.length = pm at *
                    clear hpmg
                    go_wp2_with fail
                    have HM6 := HM5.drew
                    have htb : (Blk tb 38 (encT tn).toArray).ok w5.drew := HM6.at_ 1 rfl
                    have y1 : w5.drew.cell? ⟨tb, 1, none⟩ = some (.bool tn.ok) := by rw [Blk.cell_ htb]; rfl
                    have hx0 := Row.cell (HM6.at_ 2 rfl) hget.out
                    have hF := Finish_calls b V s x tn.ok w5.drew (HM6.at_ 3 rfl) hGs
                    rw [Hf1.out] at hF
                    clear htb HM5 y0 y2
                    refine wp_plan [7] (S := fun w' => w' = World.drew w5) [(.pure, 0), (.pure, 1), (.pure, 2), (.pure, 3), (.load, 4), (.pure, 5), (.load, 6), (.tail, 7), (.pure, 8)] (by kernel_rfl) rfl (by kernel_rfl) rfl (fun _ _ _ _ _ h => h) rfl ?_
                    generalize World.drew w5 = W6 at *
                    repeat (first | (refine plan_pure (v := ?_) (a' := ?_) rfl rfl rfl ?_ ?_ ?_; rotate_left 2; (focus (intro w'; go_simp; with_reducible rfl)); (focus (simp only [Act.put, List.setIfInBounds_toArray, List.set_cons_zero, List.set_cons_succ]; rfl))) | (refine plan_load (v := ?_) (a' := ?_) rfl rfl rfl ?_ ?_ ?_; rotate_left 2; (focus (intro w' hw'; rw [hw']; go_simp; with_reducible rfl)); (focus (simp only [Act.put, List.setIfInBounds_toArray, List.set_cons_zero, List.set_cons_succ]; rfl))) | (refine plan_skip rfl rfl (by decide +kernel) (by simp only [Act.put, List.setIfInBounds_toArray, List.set_cons_zero, List.set_cons_succ]; rfl) ?_))
                    refine plan_tail rfl (fun K hK => ?_)
                    go_wp2_with fail
                    refine hF.mono ?_
                    rintro e w6 ⟨rfl, HM7⟩
                    have HM8 : Mem none_ w [PlanC b V s', StrRow (.slice (some ⟨gr, 0, none⟩) runs.length cr) runs, Blk w.heap.size 25 #[.slice GA gn gc, .slice A g.length c]] w6 := ((HM6.front [_, _, _]).call1 HM7).sel [0, 3, 4] (by decide)
                    clear hF HM6 HM7 y1 hx0
                    go_wp2_with fail
                    repeat (first | (refine plan_pure (v := ?_) (a' := ?_) rfl rfl rfl ?_ ?_ ?_; rotate_left 2; (focus (intro w'; go_simp; with_reducible rfl)); (focus (simp only [Act.put, List.setIfInBounds_toArray, List.set_cons_zero, List.set_cons_succ]; rfl))) | (refine plan_load (v := ?_) (a' := ?_) rfl rfl rfl ?_ ?_ ?_; rotate_left 2; (focus (intro w' hw'; rw [hw']; go_simp; with_reducible rfl)); (focus (simp only [Act.put, List.setIfInBounds_toArray, List.set_cons_zero, List.set_cons_succ]; rfl))) | (refine plan_skip rfl rfl (by decide +kernel) (by simp only [Act.put, List.setIfInBounds_toArray, List.set_cons_zero, List.set_cons_succ]; rfl) ?_))
                    refine plan_done ?_
                    go_wp2_with fail
                    have HM9 := HM8.drew.nilS
                    clear HM8
                    have w1p : IntKind.i64.wrap ((pm : Int) + 1) = (pm : Int) + 1 := IntWalk.i64_in _ (by omega)
                    have q1 : pm ≤ cr := by omega
                    have q2 : pm + 1 ≤ cr := by omega
                    have q3 : pm + 1 ≤ runs.length := by omega
                    have q4 : (pm : Int) + 1 ≤ (cr : Int) := by omega
                    have q5 : (pm : Int) + 1 ≤ (runs.length : Int) := by omega
                    have q6 : 0 ≤ (pm : Int) + 1 := by omega
                    refine wp_plan [] (S := fun _ => True) [(.pure, 0), (.pure, 1), (.pure, 2), (.pure, 4), (.pure, 5), (.pure, 6), (.pure, 7), (.eff, 3), (.eff, 8), (.pure, 9)] (by kernel_rfl) rfl (by kernel_rfl) rfl (fun _ _ _ _ _ h => h) trivial ?_
                    generalize World.drew w6 = W7 at *
                    repeat (first | (refine plan_pure (v := ?_) (a' := ?_) rfl rfl rfl ?_ ?_ ?_; rotate_left 2; (focus (intro w'; go_simp; with_reducible rfl)); (focus (simp only [Act.put, List.setIfInBounds_toArray, List.set_cons_zero, List.set_cons_succ]; rfl))) | (refine plan_load (v := ?_) (a' := ?_) rfl rfl rfl ?_ ?_ ?_; rotate_left 2; (focus (intro w' hw'; rw [hw']; go_simp; with_reducible rfl)); (focus (simp only [Act.put, List.setIfInBounds_toArray, List.set_cons_zero, List.set_cons_succ]; rfl))) | (refine plan_skip rfl rfl (by decide +kernel) (by simp only [Act.put, List.setIfInBounds_toArray, List.set_cons_zero, List.set_cons_succ]; rfl) ?_))
                    have hT1 := Strs.take (Row.sl (HM9.at_ 2 rfl)) (k := pm) (by omega)
                    have hlt1 : (runs.take pm).length ≤ 1100 := by rw [List.length_take]; omega
                    refine plan_eff_put rfl rfl (fun K hK => ?_)
                    refine wpList_appL strE rfl _ _ rfl HM9 rfl (m := runs.take pm) (xv := .slice (some ⟨gr, 0, none⟩) pm cr) rfl hT1 (by simp only [List.length_nil]; omega) ?_
                    intro v7 w8 HMa _
                    refine wpList_nil_ (hK _ _ trivial ?_)
                    clear hK HM9 hT1
                    simp only [Act.put, List.setIfInBounds_toArray, List.set_cons_zero, List.set_cons_succ]
                    have hT2 := Strs.drop (Row.sl (HMa.at_ 2 rfl)) (k := pm + 1) (by omega)
                    have hlt2 : (runs.drop (pm + 1)).length ≤ 1100 := by rw [List.length_drop]; omega
                    refine plan_eff_put rfl rfl (fun K hK => ?_)
                    refine wpList_appL strE rfl _ _ rfl HMa rfl (m := runs.drop (pm + 1)) (xv := .slice (if cr = pm + 1 then some ⟨gr, 0, none⟩ else some ⟨gr, pm + 1, none⟩) (runs.length - (pm + 1)) (cr - (pm + 1))) rfl hT2 (by simp only [List.nil_append]; omega) ?_
                    intro v8 w9 HMb _
                    refine wpList_nil_ (hK _ _ trivial ?_)
                    clear hK HMa hT2
                    simp only [Act.put, List.setIfInBounds_toArray, List.set_cons_zero, List.set_cons_succ]
                    rw [List.nil_append] at HMb
                    repeat (first | (refine plan_pure (v := ?_) (a' := ?_) rfl rfl rfl ?_ ?_ ?_; rotate_left 2; (focus (intro w'; go_simp; with_reducible rfl)); (focus (simp only [Act.put, List.setIfInBounds_toArray, List.set_cons_zero, List.set_cons_succ]; rfl))) | (refine plan_load (v := ?_) (a' := ?_) rfl rfl rfl ?_ ?_ ?_; rotate_left 2; (focus (intro w' hw'; rw [hw']; go_simp; with_reducible rfl)); (focus (simp only [Act.put, List.setIfInBounds_toArray, List.set_cons_zero, List.set_cons_succ]; rfl))) | (refine plan_skip rfl rfl (by decide +kernel) (by simp only [Act.put, List.setIfInBounds_toArray, List.set_cons_zero, List.set_cons_succ]; rfl) ?_))
                    refine plan_done ?_
                    go_wp2_with fail
                    all_goals
                      go_meet
                      exact ⟨s', _, HE'.out, HMb.sel [0, 1, 3] (by decide)⟩
                  · have hl3 : 0 < L.length := List.length_pos_iff.2 hl
                    clear hl
                    have hl1 : decide (0 < (L.length : Int)) = true := decide_eq_true (by omega)
                    have hl2 : decide (0 < L.length) = true := decide_eq_true hl3
                    have hd0 : decide ((L.length : Int) = 0) = false := decide_eq_false (by omega)
                    have hd1 : ((L.length : Int) == 0) = false := by simpa using (by omega : ¬ L.length = 0)
                    have hd2 : decide (L.length = 0) = false := decide_eq_false (by omega)
                    have hd3 : decide (L = []) = false := decide_eq_false (fun e => by rw [e] at hl3; simp at hl3)
                    have hpm : p % L.length < L.length := Nat.mod_lt _ hl3
                    obtain ⟨gl, cl', el, _, _⟩ := Row.at_ (HM5.at_ 0 rfl) hl3
                    cases el
                    obtain ⟨x, hx⟩ : ∃ x, L[p % L.length] = x := ⟨_, rfl⟩
                    have hget : Hid ((strs L)[p % L.length]? = some (.string x)) := by unfold Hid; rw [strs_get hpm, hx]
                    obtain ⟨s', hf1, hE'⟩ := hgo x (by rw [← hx]; exact List.getElem_mem hpm)
                    have HE' := Lib.hid hE'
                    have m2 : (p : Int) % (L.length : Int) = ((p % L.length : Nat) : Int) := by simp
                    have hx0 := Row.cell (HM5.at_ 0 rfl) hget.out
                    have hS := Start_calls b V s x w5 (HM5.at_ 3 rfl) hGs
                    rw [hf1] at hS
                    clear hx hfin hgo hE' hf1 hsm
                    generalize hpmg : p % L.length = pm at *
                    clear hpmg
                    go_wp2_with fail
                    refine hS.mono ?_
                    rintro e w6 ⟨rfl, HM7⟩
                    have HM8 : Mem none_ w [StrRow (.slice Ar runs.length cr) runs, PlanC b V s', Blk w.heap.size 25 #[.slice GA gn gc, .slice A g.length c]] w6 := ((HM5.front [_, _, _]).call1 HM7).sel [3, 0, 4] (by decide)
                    clear hS HM5 HM7 hx0 y0 y2
                    go_wp2_with (at_builtin; refine wpList_appS strE rfl _ _ rfl HM8 rfl x _ rfl ?hnb ?hb ?_; (case hnb => simp); (case hb => omega); intro v' w' HM9 HU9)
                    go_meet
                    exact ⟨s', _, HE'.out, HM9⟩
            case rest =>
              clear HM5 hfin hgo hsm y0 y2 hGs hrl ra1 ra2 la1 la2 hrd2
              obtain ⟨s', runs', hE', HM'⟩ := hcut
              have hgb : (Blk w.heap.size 25 #[.slice GA gn gc, .slice A g.length c]).ok wc := HM'.at_ 2 rfl
              have c1 : wc.cell? ⟨w.heap.size, 1, none⟩ = some (.slice A g.length c) := by rw [Blk.cell_ hgb]; rfl
              have hkk : ¬ 2 * (g.length : Int) < (k : Int) := by omega
              have hk3 : decide (2 * (g.length : Int) < (k : Int)) = false := decide_eq_false hkk
              clear hgb
              go_wp2_with fail
              go_roundw
              case rel => exact ⟨k + 1, s', runs', by omega, by go_num, hE', HM'⟩
              case measure => simp [intOf]; omega
        | true =>
          obtain ⟨hr0, hsum, p2, p3, p4⟩ := hE.end_ ho
          rw [ho] at hOv
          have hGs := hE.pg
          clear ho hE
          subst hr0
          obtain ⟨Ar, cr, rfl, ra1, ra2⟩ := Row.any_ (HM.at_ 0 rfl)
          have hcnt := fun (st : Int) (W : World) (h : (PlanC b V s).ok W) => Count_calls b V s st W h hGs
          have hc2 := hcnt 2
          have hc3 := hcnt 3
          have hc4 := hcnt 4
          clear hcnt
          generalize countS s 2 = c2 at *
          generalize countS s 3 = c3 at *
          generalize countS s 4 = c4 at *
          have hw1 : IntKind.i64.wrap (c2 + c3) = c2 + c3 := IntWalk.i64_in _ (by omega)
          have hw2 : IntKind.i64.wrap (c2 + c3 + c4) = c2 + c3 + c4 := IntWalk.i64_in _ (by omega)
          have he1 : (c2 + c3 + c4 == (g.length : Int)) = true := by simpa using hsum
          have he2 : decide (c2 + c3 + c4 = (g.length : Int)) = true := decide_eq_true hsum
          have Hsum := Lib.hid hsum
          clear hsum
          go_wp2_with fail
          refine hOv.mono ?_
          rintro e w4 ⟨rfl, hp⟩
          have HM2 : Mem none_ w [PlanC b V s, Blk w.heap.size 25 #[.slice GA gn gc, .slice A g.length c]] w4 := (HM.keep hp).sel [1, 2] (by decide)
          clear hOv hp HM
          go_wp2_with fail
          have hS0 : ∀ W, Mem none_ w [PlanC b V s, Blk w.heap.size 25 #[.slice GA gn gc, .slice A g.length c]] W → Hid (W.cell? ⟨w.heap.size, 1, none⟩ = some (.slice A g.length c)) := fun W h => by
            have hgb : (Blk w.heap.size 25 #[.slice GA gn gc, .slice A g.length c]).ok W := h.at_ 1 rfl
            exact Lib.hid (by rw [Blk.cell_ hgb]; rfl)
          refine wp_plan [] (S := fun w' => Hid (w'.cell? ⟨w.heap.size, 1, none⟩ = some (.slice A g.length c))) [(.pure, 0), (.pure, 1), (.pure, 2), (.pure, 3), (.pure, 4), (.pure, 6), (.pure, 9), (.pure, 12), (.load, 13), (.pure, 14), (.eff, 5), (.eff, 7), (.pure, 8), (.eff, 10), (.pure, 11), (.pure, 15), (.pure, 16), (.pure, 17), (.eff, 18), (.pure, 19), (.pure, 20)] (by kernel_rfl) rfl (by kernel_rfl) rfl (fun _ _ _ _ _ h => h) (hS0 _ HM2.drew) ?_
          have HM3 := HM2.drew
          clear HM2
          generalize World.drew w4 = W at *
          repeat (first | (refine plan_pure (v := ?_) (a' := ?_) rfl rfl rfl ?_ ?_ ?_; rotate_left 2; (focus (intro w'; go_simp; with_reducible rfl)); (focus (simp only [Act.put, List.setIfInBounds_toArray, List.set_cons_zero, List.set_cons_succ]; rfl))) | (refine plan_load (v := ?_) (a' := ?_) rfl rfl rfl ?_ ?_ ?_; rotate_left 2; (focus (intro w' hw'; have q0 := hw'.out; clear hw'; go_simp; with_reducible rfl)); (focus (simp only [Act.put, List.setIfInBounds_toArray, List.set_cons_zero, List.set_cons_succ]; rfl))) | (refine plan_skip rfl rfl (by decide +kernel) (by simp only [Act.put, List.setIfInBounds_toArray, List.set_cons_zero, List.set_cons_succ]; rfl) ?_))
          refine plan_eff rfl (fun K hK => ?_)
          go_wp2_with fail
          refine (hc2 W (HM3.at_ 0 rfl)).mono ?_
          rintro e w5 ⟨rfl, rfl⟩
          go_wp2_with fail
          refine hK _ _ (hS0 _ HM3) ?_
          clear hK
          refine plan_eff rfl (fun K hK => ?_)
          go_wp2_with fail
          refine (hc3 W (HM3.at_ 0 rfl)).mono ?_
          rintro e w5 ⟨rfl, rfl⟩
          go_wp2_with fail
          refine hK _ _ (hS0 _ HM3) ?_
          clear hK
          repeat (first | (refine plan_pure (v := ?_) (a' := ?_) rfl rfl rfl ?_ ?_ ?_; rotate_left 2; (focus (intro w'; go_simp; with_reducible rfl)); (focus (simp only [Act.put, List.setIfInBounds_toArray, List.set_cons_zero, List.set_cons_succ]; rfl))) | (refine plan_load (v := ?_) (a' := ?_) rfl rfl rfl ?_ ?_ ?_; rotate_left 2; (focus (intro w' hw'; have q0 := hw'.out; clear hw'; go_simp; with_reducible rfl)); (focus (simp only [Act.put, List.setIfInBounds_toArray, List.set_cons_zero, List.set_cons_succ]; rfl))) | (refine plan_skip rfl rfl (by decide +kernel) (by simp only [Act.put, List.setIfInBounds_toArray, List.set_cons_zero, List.set_cons_succ]; rfl) ?_))
          refine plan_eff rfl (fun K hK => ?_)
          go_wp2_with fail
          refine (hc4 W (HM3.at_ 0 rfl)).mono ?_
          rintro e w5 ⟨rfl, rfl⟩
          go_wp2_with fail
          refine hK _ _ (hS0 _ HM3) ?_
          clear hK hc2 hc3 hc4
          repeat (first | (refine plan_pure (v := ?_) (a' := ?_) rfl rfl rfl ?_ ?_ ?_; rotate_left 2; (focus (intro w'; go_simp; with_reducible rfl)); (focus (simp only [Act.put, List.setIfInBounds_toArray, List.set_cons_zero, List.set_cons_succ]; rfl))) | (refine plan_load (v := ?_) (a' := ?_) rfl rfl rfl ?_ ?_ ?_; rotate_left 2; (focus (intro w' hw'; have q0 := hw'.out; clear hw'; go_simp; with_reducible rfl)); (focus (simp only [Act.put, List.setIfInBounds_toArray, List.set_cons_zero, List.set_cons_succ]; rfl))) | (refine plan_skip rfl rfl (by decide +kernel) (by simp only [Act.put, List.setIfInBounds_toArray, List.set_cons_zero, List.set_cons_succ]; rfl) ?_))
          refine plan_eff rfl (fun K hK => ?_)
          go_wp2_with fail
          refine (alive_calls W).mono ?_
          rintro e w6 ⟨rfl, HM4⟩
          have HM5 := HM3.got HM4
          have hS6 := hS0 _ HM5
          have HM6 := HM5.sel [] (by decide)
          clear HM3 HM4 HM5
          go_wp2_with fail
          refine hK _ _ hS6 ?_
          clear hK hS0
          repeat (first | (refine plan_pure (v := ?_) (a' := ?_) rfl rfl rfl ?_ ?_ ?_; rotate_left 2; (focus (intro w'; go_simp; with_reducible rfl)); (focus (simp only [Act.put, List.setIfInBounds_toArray, List.set_cons_zero, List.set_cons_succ]; rfl))) | (refine plan_load (v := ?_) (a' := ?_) rfl rfl rfl ?_ ?_ ?_; rotate_left 2; (focus (intro w' hw'; have q0 := hw'.out; clear hw'; go_simp; with_reducible rfl)); (focus (simp only [Act.put, List.setIfInBounds_toArray, List.set_cons_zero, List.set_cons_succ]; rfl))) | (refine plan_skip rfl rfl (by decide +kernel) (by simp only [Act.put, List.setIfInBounds_toArray, List.set_cons_zero, List.set_cons_succ]; rfl) ?_))
          refine plan_done ?_
          go_wp2_with fail
          go_ret
          exact ⟨rfl, HM6⟩
end Go.Proofs.Ytcbhdjpigadhmaa
