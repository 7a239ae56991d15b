/-
  The walk of PlanSkips.
-/
import Derived.Test.YtcbhdjpigadhmaaPlanX
set_option linter.unusedVariables false
set_option linter.unusedSimpArgs false
namespace Go.Proofs.Ytcbhdjpigadhmaa
open Go.RowKit

/-- What holds behind k turns, if bi fails. -/
structure SkipK (n k bi : Nat) (s : PS) : Prop where
  pg : PG s
  inv : Inv s
  why : Why s
  len : s.names.length = n
  c1 : cN s 1 = 0
  bad : stD s bi ≠ 2
  one : ∀ j : Nat, j < n → stD s j = 3 → j = bi
  mea : k + cN s 0 ≤ n
theorem SkipK.start {g : List Nd} {s : PS} (hb : buildOf g = some s) (ok : PlanOk s) (bi : Nat) : SkipK g.length 0 bi s := by
  obtain ⟨hG, _, hz, hl⟩ := build_good hb ok
  have h1 : cN s 1 = 0 := by
    refine Nat.eq_zero_of_not_pos fun hp => ?_
    obtain ⟨i, _, e⟩ := cN_pos hp
    rw [hz] at e; omega
  have ha := cN_all hG
  exact ⟨hG, Inv.init hz, Why.init hz, hl, h1, by rw [hz]; omega, fun j _ h => by rw [hz] at h; omega, by omega⟩
theorem SkipK.going {n k bi : Nat} {s : PS} (h : SkipK n k bi s) (ho : overS s = false) : readyS s ≠ [] ∧ k < n := by
  have hno : ¬ (cN s 0 = 0 ∧ cN s 1 = 0) := fun hh => by rw [(over_iff h.pg).2 hh] at ho; cases ho
  have := h.c1
  have hm := h.mea
  obtain ⟨j, hj, hr⟩ := some_ready h.pg h.inv h.c1 (by omega)
  exact ⟨ready_ne hj hr, by omega⟩
theorem SkipK.step {n k bi : Nat} {s : PS} {bad : ByteArray} (h : SkipK n k bi s) (hbi : s.names[bi]? = some bad) {x : ByteArray} (hx : x ∈ readyS s) :
    ∃ s1 s2, startS s x = (s1, 0) ∧ PG s1 ∧ finishS s1 x (decide (¬ x = bad)) = (s2, 0) ∧ SkipK n (k + 1) bi s2 ∧ Same s s2 := by
  have hG := h.pg
  have hnl := h.len
  obtain ⟨j, hj, hm, hr, hs⟩ := start_ready hG hx
  have r0 := (ready_iff.1 hr).1
  have hjn : s.names[j]? = some x := by have := (hG.at1 x j hm).2; rwa [Int.toNat_natCast] at this
  have hG1 : PG (turnS s j 1) := hG.turn (by omega) (by omega) (by omega) (by omega)
  have hj1 : j < (turnS s j 1).names.length := hj
  have e1 : stD (turnS s j 1) j = 1 := by rw [st_turn hG hj _ (by omega), if_pos rfl]
  have hI1 := h.inv.start_ hG hj hr
  have hW1 := Why.start_ hG h.why hj r0 (st := 1) (by omega)
  have a0 := cN_turn hG hj 1 0
  have a1 := cN_turn hG hj 1 1
  rw [r0] at a0 a1
  simp at a0 a1
  have hp := cN_of hG hj r0
  have hmea := h.mea
  have hc1 := h.c1
  have hfin : ∀ ok, finishS (turnS s j 1) x ok = (if ok then (turnS (turnS s j 1) j 2, 0) else (skipF s.names.length (turnS (turnS s j 1) j 3) j, 0)) := fun ok => by
    unfold finishS
    have : mget (turnS s j 1).at_ x = some (j : Int) := hm
    rw [this]
    simp only [e1, if_true]
    rfl
  have hxb : x = bad ↔ j = bi := by
    constructor
    · rintro rfl; exact name_place hG hjn hbi
    · rintro rfl; rw [hjn] at hbi; exact Option.some.inj hbi
  by_cases hxe : x = bad
  · have hjb : j = bi := hxb.1 hxe
    have R := fail_skip hG1 hj1
    have hG3 : PG (turnS (turnS s j 1) j 3) := hG1.turn (by omega) (by omega) (by omega) (by omega)
    obtain ⟨b0, b1⟩ := R.sk.counts hG3 R.pg
    have d0 := cN_turn hG1 hj1 3 0
    have d1 := cN_turn hG1 hj1 3 1
    rw [e1] at d0 d1
    simp at d0 d1
    have b1' := b1 1 (by omega) (by omega)
    have hst : ∀ i : Nat, stD (turnS (turnS s j 1) j 3) i = if (i : Int) = j then 3 else stD s i := fun i => by
      rw [st_turn hG1 hj1 _ (by omega)]
      split
      · rfl
      · rw [st_turn hG hj _ (by omega), if_neg (by assumption)]
    refine ⟨_, _, hs, hG1, by rw [hfin, if_neg (by simp [hxe])]; rfl, ⟨R.pg, hI1.fail_ hG1 hj1 e1, Why.fail_ hG1 hW1 hj1 e1, by rw [R.sk.same.1]; exact h.len, ?_, ?_, ?_, ?_⟩, (Same.turn s j 1).trans ((Same.turn _ j 3).trans R.sk.same)⟩
    · have : cN (skipF (turnS s j 1).names.length (turnS (turnS s j 1) j 3) j) 1 = 0 := by omega
      exact this
    · subst hjb
      have := hst j
      rw [if_pos rfl] at this
      rcases R.sk.st j (by omega) with e | e
      · intro h2; have h2' : stD (skipF (turnS s j 1).names.length (turnS (turnS s j 1) j 3) j) j = 2 := h2; rw [e] at h2'; omega
      · omega
    · intro i hi h3
      have h3' : stD (skipF (turnS s j 1).names.length (turnS (turnS s j 1) j 3) j) i = 3 := h3
      rcases R.sk.st i (by omega) with e | e
      · rw [e, hst] at h3'
        split at h3'
        · omega
        · exact h.one i hi h3'
      · omega
    · have : k + 1 + cN (skipF (turnS s j 1).names.length (turnS (turnS s j 1) j 3) j) 0 ≤ n := by omega
      exact this
  · have hjb : j ≠ bi := fun e => hxe (hxb.2 e)
    have hG2 : PG (turnS (turnS s j 1) j 2) := hG1.turn (by omega) (by omega) (by omega) (by omega)
    have d0 := cN_turn hG1 hj1 2 0
    have d1 := cN_turn hG1 hj1 2 1
    rw [e1] at d0 d1
    simp at d0 d1
    have hst : ∀ i : Nat, stD (turnS (turnS s j 1) j 2) i = if (i : Int) = j then 2 else stD s i := fun i => by
      rw [st_turn hG1 hj1 _ (by omega)]
      split
      · rfl
      · rw [st_turn hG hj _ (by omega), if_neg (by assumption)]
    refine ⟨_, _, hs, hG1, by rw [hfin, if_pos (by simp [hxe])], ⟨hG2, hI1.done_ hG1 hj1 e1, Why.done_ hG1 hW1 hj1 e1 (by omega), h.len, by omega, ?_, ?_, by omega⟩, (Same.turn s j 1).trans (Same.turn _ j 2)⟩
    · rw [hst, if_neg (by omega)]; exact h.bad
    · intro i hi h3
      rw [hst] at h3
      split at h3
      · omega
      · exact h.one i hi h3
/-- At its end a plan has just those skipped that need bi. -/
theorem SkipK.end_ {n k bi : Nat} {s : PS} (h : SkipK n k bi s) (hbi : bi < n) (ho : overS s = true) : stD s bi = 3 ∧ (∀ i : Nat, i < n → i ≠ bi → stD s i = 2 ∨ stD s i = 4) ∧ ∀ i : Nat, i < n → (stD s i = 4 ↔ ∃ j, j ∈ s.needs.getD i [] ∧ (j = (bi : Int) ∨ stD s j = 4)) := by
  obtain ⟨h0, h1⟩ := (over_iff h.pg).1 ho
  have hG := h.pg
  have hl := h.len
  have no : ∀ i : Nat, i < n → stD s i = 2 ∨ stD s i = 3 ∨ stD s i = 4 := fun i hi => by
    have hr := hG.range i
    have a : stD s i ≠ 0 := fun e => by have := cN_of hG (by omega) e; omega
    have b : stD s i ≠ 1 := fun e => by have := cN_of hG (by omega) e; omega
    omega
  have low : ∀ m i : Nat, i < m → i ≤ bi → stD s i ≠ 4 := by
    intro m
    induction m with
    | zero => intro i hi; omega
    | succ m ih =>
      intro i hi hib h4
      obtain ⟨j, hj, h3⟩ := h.why i (by omega) h4
      have hjr := need_ge hG hj
      have e : ((j.toNat : Nat) : Int) = j := by omega
      have hn4 := ih j.toNat (by omega) (by omega)
      rw [e] at hn4
      have hr := hG.range j
      have := h.one j.toNat (by omega) (by rw [e]; omega)
      omega
  have hb3 : stD s bi = 3 := by
    have a := no bi hbi
    have b := h.bad
    have c := low (bi + 1) bi (by omega) (Nat.le_refl _)
    omega
  refine ⟨hb3, fun i hi hne => ?_, fun i hi => ⟨fun h4 => ?_, fun ⟨j, hj, hjj⟩ => ?_⟩⟩
  · have a := no i hi
    have b : stD s i ≠ 3 := fun e => hne (h.one i hi e)
    omega
  · obtain ⟨j, hj, h3⟩ := h.why i (by omega) h4
    have hjr := need_ge hG hj
    have e : ((j.toNat : Nat) : Int) = j := by omega
    refine ⟨j, hj, ?_⟩
    have hr := hG.range j
    by_cases e4 : stD s j = 4
    · exact .inr e4
    · have := h.one j.toNat (by omega) (by rw [e]; omega)
      exact .inl (by omega)
  · have hbad : 3 ≤ stD s j := by
      rcases hjj with e | e
      · rw [e, hb3]; omega
      · omega
    have a := no i hi
    refine Classical.byContradiction fun hne => ?_
    have := (h.inv.run i (by omega) (by omega) (by omega)).1 j hj
    omega

/-- The names of places below k of which q holds. -/
def upTo (names : List ByteArray) (q : Int → Bool) (k : Nat) : List ByteArray := ((names.take k).zipIdx.filter (fun p => q (p.2 : Int))).map (·.1)
theorem upTo_succ {names : List ByteArray} {q : Int → Bool} {k : Nat} (h : k < names.length) : upTo names q (k + 1) = upTo names q k ++ if q (k : Int) then [names[k]] else [] := by
  unfold upTo
  rw [List.take_succ_eq_append_getElem h, List.zipIdx_append, List.filter_append, List.map_append]
  congr 1
  have e : (names.take k).length = k := by rw [List.length_take]; omega
  rw [e]
  simp only [List.zipIdx_cons, List.zipIdx_nil, List.filter_cons, List.filter_nil, Nat.zero_add]
  by_cases hr : q (k : Int) = true <;> simp [hr]
theorem upTo_len (names : List ByteArray) (q : Int → Bool) (k : Nat) : (upTo names q k).length ≤ k := by
  unfold upTo
  rw [List.length_map]
  refine Nat.le_trans (List.length_filter_le _ _) ?_
  rw [List.length_zipIdx, List.length_take]; omega
theorem mem_upTo {names : List ByteArray} {q : Int → Bool} {k : Nat} {x : ByteArray} : x ∈ upTo names q k ↔ ∃ j : Nat, j < k ∧ names[j]? = some x ∧ q j = true := by
  unfold upTo
  simp only [List.mem_map, List.mem_filter, Prod.exists]
  constructor
  · rintro ⟨a, b, ⟨h1, h2⟩, rfl⟩
    have h3 := List.mem_zipIdx_iff_getElem?.1 h1
    rw [List.getElem?_take] at h3
    simp only at h3
    split at h3
    · rename_i hb; exact ⟨b, hb, h3, h2⟩
    · cases h3
  · rintro ⟨j, hj, h1, h2⟩
    refine ⟨x, j, ⟨List.mem_zipIdx_iff_getElem?.2 ?_, h2⟩, rfl⟩
    simp only
    rw [List.getElem?_take, if_pos hj]; exact h1
def memB (l : List ByteArray) (x : ByteArray) : Bool := l.any (fun y => decide (y = x))
theorem memB_iff (l : List ByteArray) (x : ByteArray) : memB l x = true ↔ x ∈ l := by simp [memB]
def four (s : PS) (k : Int) : Bool := decide (stD s k = 4)
theorem upTo_count {s : PS} (hG : PG s) : ∀ k : Nat, k ≤ s.names.length → (upTo s.names (four s) k).length = (s.states.take k).count 4
  | 0, _ => by simp [upTo]
  | k + 1, hk => by
    have h2 := hG.st2
    have hks : k < s.states.length := by omega
    rw [upTo_succ (by omega), List.length_append, upTo_count hG k (by omega), List.take_succ_eq_append_getElem hks, List.count_append]
    congr 1
    have e : stD s k = s.states[k] := by unfold stD; rw [Int.toNat_natCast, List.getD_eq_getElem?_getD, List.getElem?_eq_getElem hks]; rfl
    unfold four
    rw [e, List.count_singleton]
    by_cases h4 : s.states[k] = 4 <;> simp [h4]
theorem upTo_four {s : PS} (hG : PG s) : ((upTo s.names (four s) s.names.length).length : Int) = countS s 4 := by
  rw [upTo_count hG _ (Nat.le_refl _)]
  unfold countS
  rw [if_neg (by omega)]
  have := cnt_cN hG (k := 4) (by omega)
  rw [show ((4 : Int).toNat) = 4 from rfl, this, List.take_of_length_le hG.st1]
  rfl
/-- Whether a node needs bi, at once or through others, as the statement reckons it. -/
def isB (bad : ByteArray) (need : List ByteArray) (src : List ByteArray) : Bool := src.any (fun x => decide (x = bad) || memB need x)
theorem is_four {n k bi : Nat} {s : PS} {g : List Nd} {bad : ByteArray} (h : SkipK n k bi s) (hB : Built g s) (hbi : bi < n) (hb : s.names[bi]? = some bad) (ho : overS s = true) {i : Nat} (hi : i < g.length) (hgn : g.length = n) :
    isB bad (upTo s.names (four s) i) g[i].src = four s i := by
  obtain ⟨e1, e2, e3⟩ := h.end_ hbi ho
  have hG := h.pg
  have hl := h.len
  have hs := hB.srcs i hi
  have key : ∀ x, x ∈ g[i].src → ∃ j : Nat, (j : Int) ∈ s.needs.getD i [] ∧ j < i ∧ s.names[j]? = some x := by
    intro x hx
    have h1 : mget s.at_ x ∈ g[i].src.map (mget s.at_) := List.mem_map.2 ⟨x, hx, rfl⟩
    rw [hs] at h1
    obtain ⟨j, hj, hjx⟩ := List.mem_map.1 h1
    have h2 := hG.at1 x j hjx.symm
    have h3 := hG.ahead i j hj
    exact ⟨j.toNat, by rw [show ((j.toNat : Nat) : Int) = j from by omega]; exact hj, by omega, h2.2⟩
  have key2 : ∀ j, j ∈ s.needs.getD i [] → ∃ x, x ∈ g[i].src ∧ 0 ≤ j ∧ s.names[j.toNat]? = some x := by
    intro j hj
    have h1 : some j ∈ (s.needs.getD i []).map some := List.mem_map.2 ⟨j, hj, rfl⟩
    rw [← hs] at h1
    obtain ⟨x, hx, hxj⟩ := List.mem_map.1 h1
    exact ⟨x, hx, hG.at1 x j hxj⟩
  unfold isB four
  rw [Bool.eq_iff_iff, List.any_eq_true, decide_eq_true_eq, e3 i (by omega)]
  constructor
  · rintro ⟨x, hx, hq⟩
    obtain ⟨j, hj, hji, hjx⟩ := key x hx
    refine ⟨j, hj, ?_⟩
    rw [Bool.or_eq_true, decide_eq_true_eq, memB_iff] at hq
    rcases hq with rfl | hq
    · exact .inl (by rw [name_place hG hjx hb])
    · obtain ⟨m, _, hm, hq⟩ := mem_upTo.1 hq
      have := name_place hG hjx hm
      subst this
      exact .inr (by simpa [four] using hq)
  · rintro ⟨j, hj, hq⟩
    obtain ⟨x, hx, hj0, hjx⟩ := key2 j hj
    refine ⟨x, hx, ?_⟩
    rw [Bool.or_eq_true, decide_eq_true_eq, memB_iff]
    rcases hq with rfl | hq
    · rw [Int.toNat_natCast] at hjx
      rw [hjx] at hb
      exact .inl (Option.some.inj hb)
    · have := hG.ahead i j hj
      exact .inr (mem_upTo.2 ⟨j.toNat, by omega, hjx, by rw [show ((j.toNat : Nat) : Int) = j from by omega]; exact decide_eq_true hq⟩)









theorem memB_end {l : List ByteArray} {x : ByteArray} (hno : ∀ j, j < l.length → l[j]? ≠ some x) : memB l x = false := by
  refine Bool.eq_false_iff.2 fun h => ?_
  obtain ⟨j, hj, e⟩ := List.getElem_of_mem ((memB_iff l x).1 h)
  exact absurd (by rw [List.getElem?_eq_getElem hj, e]) (hno j hj)
set_option maxHeartbeats 1000000 in
theorem has_calls (V : Value) (l : List ByteArray) (x : ByteArray) (w : World) (hV : Strs w V l) (hb : l.length ≤ 1000000) :
    Calls Try.prog 18 #[V, .string x] w fun e w' => e = .returned (.bool (memB l x)) ∧ w = w' := by
  obtain ⟨A, c, rfl, h1, h2, h3, h4⟩ := hV
  unfold maxLen at h2
  go_enter Try.func18, Try.ntmps18
  go_wp2
  go_loop [5] (fun i => ∃ k : Nat, k ≤ l.length ∧ i = .int .i64 k ∧ Hid (∀ j, j < k → l[j]? ≠ some x)) (fun i => l.length - (intOf i).toNat)
  case atStart => exact ⟨0, Nat.zero_le _, rfl, fun j hj => by omega⟩
  case round =>
    obtain ⟨k, hk, rfl, hno⟩ := hrel
    by_cases hlt : k < l.length
    · obtain ⟨b, o, rfl, hcells⟩ := h4.resolve_left (by omega)
      clear h4
      have hx0 : w.cell? ⟨b, o + k, none⟩ = some (.string l[k]) := hcells k _ (strs_get hlt)
      clear hcells
      by_cases he : l[k] = x
      · have HR : Hid (memB l x = true) := (memB_iff l x).2 (he ▸ List.getElem_mem hlt)
        have he' : (l[k].toList == x.toList) = true := by rw [strEq]; simp [he]
        clear he
        generalize l[k] = y at *
        go_wp2
        go_ret
        exact ⟨ret_bool HR.out.symm, rfl⟩
      · have hno2 : Hid (∀ j, j < k + 1 → l[j]? ≠ some x) := by
          intro j hj
          by_cases hjk : j = k
          · subst hjk; rw [List.getElem?_eq_getElem hlt]; intro e; exact he (Option.some.inj e)
          · exact hno.out j (by omega)
        have he' : (l[k].toList == x.toList) = false := by rw [strEq]; simp [he]
        clear he
        generalize l[k] = y at *
        go_wp2
        go_round
        case rel => exact ⟨k + 1, by omega, by go_num, hno2⟩
        case measure => simp [intOf]; omega
    · have HR : Hid (memB l x = false) := memB_end (fun j hj => hno.out j (by omega))
      go_wp2
      go_ret
      exact ⟨ret_bool HR.out.symm, rfl⟩

set_option maxRecDepth 100000 in
set_option maxHeartbeats 16000000 in
theorem skips_calls (GA : Option Addr) (gn gc : Nat) (NV PV_ : Value) (g : List Nd) (which : Int) (picks : List Int) (w : World) (hG : Nodes w NV g) (hbnd : ∀ x, x ∈ g → x.src.length ≤ 10000000000000 ∧ x.aft.length ≤ 10000000000000) (hwr : 0 ≤ which ∧ which < 256) (hP : U8s w PV_ picks) (hpb : picks.length ≤ 140737488351232) (hpr : ∀ x, x ∈ picks → 0 ≤ x ∧ x < 256) :
    Calls Try.prog 5 #[.agg #[.slice GA gn gc, NV], .int .u8 which, PV_] w fun e w' => e = .returned (.bool true) ∧ Mem none_ w [] w' := by
  obtain ⟨A, c, rfl, nn1, nn2⟩ : ∃ A c, NV = .slice A g.length c ∧ g.length ≤ c ∧ c ≤ maxLen := by
    obtain ⟨cells, h, _⟩ := hG
    exact Sl.any_ h
  obtain ⟨PA, pc, rfl, pn1, pn2⟩ := Sl.any_ hP
  unfold maxLen at nn2 pn2
  have HM0 := (Mem.start (fp := none_) w).box #[.slice GA gn gc, .slice A g.length c] 25
  have c0 : (w.alloc (.cells #[.slice GA gn gc, .slice A g.length c] 25)).cell? ⟨w.heap.size, 0, none⟩ = some (.slice GA gn gc) := by rw [Blk.cell_ HM0.head]; rfl
  have c1 : (w.alloc (.cells #[.slice GA gn gc, .slice A g.length c] 25)).cell? ⟨w.heap.size, 1, none⟩ = some (.slice A g.length c) := by rw [Blk.cell_ HM0.head]; rfl
  have hfar := far_calls (.slice GA gn gc) _ g _ (hG.pure HM0.mu) hbnd
  cases hf : farG g with
  | true =>
    rw [hf] at hfar
    clear hf
    go_enter Try.func5, Try.ntmps5
    go_wp2_with fail
    refine hfar.mono ?_
    rintro e w1 ⟨rfl, HM1⟩
    have HM2 := HM0.got HM1
    clear hfar c0 c1
    go_wp2_with fail
    refine (alive_calls w1).mono ?_
    rintro e w2 ⟨rfl, HM3⟩
    have HM4 := (HM2.got HM3).sel [] (by decide)
    clear HM0 HM1 HM2 HM3
    go_wp2
    go_ret
    exact ⟨rfl, HM4⟩
  | false =>
    rw [hf] at hfar
    obtain ⟨hl515, hbd⟩ := farG_bounds hf
    clear hf
    by_cases hz : g.length = 0
    · have hz0 : decide ((g.length : Int) = 0) = true := decide_eq_true (by omega)
      have hz1 : ((g.length : Int) == 0) = true := by simpa using hz
      have hz2 : decide (g.length = 0) = true := decide_eq_true hz
      have HMa : ∀ w1, Mem none_ (w.alloc (.cells #[.slice GA gn gc, .slice A g.length c] 25)) [] w1 → Hid (w1.cell? ⟨w.heap.size, 1, none⟩ = some (.slice A g.length c)) := fun w1 h => Lib.hid (h.mu.cell c1 (fun h => h))
      have Hz := Lib.hid hz
      clear hz
      go_enter Try.func5, Try.ntmps5
      go_wp2_with fail
      refine hfar.mono ?_
      rintro e w1 ⟨rfl, HM1⟩
      have c2 := (HMa w1 HM1).out
      have HM2 := HM0.got HM1
      clear hfar c0 c1 HMa
      go_wp2_with fail
      refine (alive_calls w1).mono ?_
      rintro e w2 ⟨rfl, HM3⟩
      have HM4 := (HM2.got HM3).sel [] (by decide)
      clear HM0 HM1 HM2 HM3
      go_wp2
      go_ret
      exact ⟨rfl, HM4⟩
    have hz0 : decide ((g.length : Int) = 0) = false := decide_eq_false (by omega)
    have hz1 : ((g.length : Int) == 0) = false := by simpa using hz
    have hz2 : decide (g.length = 0) = false := decide_eq_false hz
    have hgp : 0 < g.length := by omega
    have hz3 : ¬ g = [] := fun e => hz (by rw [e]; rfl)
    have Hz := Lib.hid hz
    clear hz
    go_enter Try.func5, Try.ntmps5
    go_wp2_with fail
    refine hfar.mono ?_
    rintro e w1 ⟨rfl, HM1⟩
    have HM2 := HM0.got HM1
    clear hfar c0 c1 HM0 HM1
    have c0 : w1.cell? ⟨w.heap.size, 0, none⟩ = some (.slice GA gn gc) := by have h1 : (Blk w.heap.size 25 _).ok w1 := HM2.at_ 0 rfl; rw [Blk.cell_ h1]; rfl
    have c1 : w1.cell? ⟨w.heap.size, 1, none⟩ = some (.slice A g.length c) := by have h1 : (Blk w.heap.size 25 _).ok w1 := HM2.at_ 0 rfl; rw [Blk.cell_ h1]; rfl
    go_wp2_with fail
    refine (theirs_calls GA gn gc _ g w1 (hG.pure HM2.mu) (by omega)).mono ?_
    rintro e w2 ⟨v2, rfl, hG2, HM3⟩
    have HM4 := HM2.got HM3
    clear HM2 HM3 c0 c1
    go_wp2_with fail
    refine (New_calls _ _ g w2 hG2 hbd (by omega)).mono ?_
    rintro e w3 ⟨h1, h2⟩
    cases hB : buildOf g with
    | none =>
      obtain ⟨rfl, HM5⟩ := h1 hB
      have HM6 := HM4.got HM5
      clear h1 h2 hG2 HM4 HM5 hB
      go_wp2_with fail
      refine (alive_calls _).mono ?_
      rintro e w4 ⟨rfl, HM7⟩
      have HM8 := (HM6.got HM7).sel [] (by decide)
      clear HM6 HM7
      go_wp2
      go_ret
      exact ⟨rfl, HM8⟩
    | some s0 =>
      obtain ⟨b, V, rfl, hO, HM5⟩ := h2 s0 hB
      have HM6 : Mem none_ w [PlanC b V s0, Blk w.heap.size 25 #[.slice GA gn gc, .slice A g.length c]] w3 := HM4.got HM5
      have hK0 : ∀ bi, SkipK g.length 0 bi s0 := fun bi => SkipK.start hB hO bi
      obtain ⟨_, hBt, _, hnl⟩ := build_good hB hO
      clear h1 h2 hG2 HM4 HM5 hB hO
      obtain ⟨q0, rfl⟩ : ∃ m : Nat, which = (m : Int) := ⟨which.toNat, by omega⟩
      obtain ⟨hw0, hw1⟩ := hwr
      have hq256 : q0 < 256 := by omega
      have hqw : IntKind.i64.wrap (q0 : Int) = q0 := IntWalk.i64_in _ (by omega)
      have hbi : q0 % g.length < g.length := Nat.mod_lt _ hgp
      have HMd := HM6.drew
      have hgb : (Blk w.heap.size 25 #[.slice GA gn gc, .slice A g.length c]).ok w3.drew := HMd.at_ 1 rfl
      have c1 : w3.drew.cell? ⟨w.heap.size, 1, none⟩ = some (.slice A g.length c) := by rw [Blk.cell_ hgb]; rfl
      obtain ⟨gb0, go0, kd, sv, cA, cn, cc, av, im, ph, pr, si, ig, rfl, _, _, hcell⟩ := (hG.pure HMd.mu).cells hbi
      have x0 := hcell 0 _ rfl
      rw [Nat.add_zero] at x0
      obtain ⟨bad, hbad⟩ : ∃ y, g[q0 % g.length].name = y := ⟨_, rfl⟩
      have hbn : s0.names[q0 % g.length]? = some bad := by rw [hBt.names, List.getElem?_map, List.getElem?_eq_getElem hbi, ← hbad]; rfl
      rw [hbad] at x0
      have hK1 := hK0 (q0 % g.length)
      have m1 : (q0 : Int) % (g.length : Int) = ((q0 % g.length : Nat) : Int) := by simp
      have m3 : Int.tmod (q0 : Int) (g.length : Int) = ((q0 % g.length : Nat) : Int) := by rw [Int.tmod_eq_emod_of_nonneg (by omega)]; simp
      have m4 : IntKind.i64.wrap ((q0 % g.length : Nat) : Int) = ((q0 % g.length : Nat) : Int) := IntWalk.i64_in _ (by omega)
      have Hbn := Lib.hid hbn
      have HBt := Lib.hid hBt
      have Hnl := Lib.hid hnl
      clear hcell hbad hK0 hgb hbn hBt hnl
      generalize hbig : q0 % g.length = bi at *
      have Hbig := Lib.hid hbig
      clear hbig
      go_wp2_with fail
      refine wp_plan [] (S := fun w' => w' = World.drew w3) [(.pure, 0), (.load, 1), (.pure, 2), (.pure, 3), (.pure, 4), (.load, 5), (.pure, 6), (.pure, 7), (.pure, 8), (.pure, 9), (.load, 10), (.pure, 11)] (by kernel_rfl) rfl (by kernel_rfl) rfl (fun _ _ _ _ _ h => h) rfl ?_
      generalize World.drew w3 = W3 at *
      repeat (first | (refine plan_pure (v := ?_) (a' := ?_) rfl rfl rfl ?_ ?_ ?_; rotate_left 2; (focus (intro w'; go_simp; with_reducible rfl)); (focus (simp only [Act.put, List.setIfInBounds_toArray, List.set_cons_zero, List.set_cons_succ]; rfl))) | (refine plan_load (v := ?_) (a' := ?_) rfl rfl rfl ?_ ?_ ?_; rotate_left 2; (focus (intro w' hw'; rw [hw']; go_simp; with_reducible rfl)); (focus (simp only [Act.put, List.setIfInBounds_toArray, List.set_cons_zero, List.set_cons_succ]; rfl))) | (refine plan_skip rfl rfl (by decide +kernel) (by simp only [Act.put, List.setIfInBounds_toArray, List.set_cons_zero, List.set_cons_succ]; rfl) ?_))
      refine plan_done ?_
      clear c1 x0
      go_wp2_with fail
      go_loopw [10] (fun v10 wr => ∃ (k : Nat) (s : PS), k ≤ g.length ∧ v10 = .int .i64 k ∧ SkipK g.length k bi s ∧ Hid (Same s0 s) ∧ Mem none_ w [PlanC b V s, Blk w.heap.size 25 #[.slice GA gn gc, .slice (some ⟨gb0, go0, none⟩) g.length c]] wr) (fun v _ => g.length - (intOf v).toNat)
      case atStart => exact ⟨0, s0, Nat.zero_le _, rfl, hK1, Lib.hid (Same.refl s0), HMd⟩
      case round =>
        clear HM6 HMd hK1 m1 m3 m4
        obtain ⟨k, s, hk, rfl, hE, hSame, HM⟩ := hrel
        have hOv := Over_calls b V s wr (HM.at_ 0 rfl) hE.pg
        cases ho : overS s with
        | false =>
          obtain ⟨hne, hkn⟩ := hE.going ho
          rw [ho] at hOv
          have hlen := readyUp_len s s.names.length
          have hn5 := hE.pg.ok.n512
          have hbs : s.names[bi]? = some bad := by rw [hSame.out.1]; exact Hbn.out
          have hstep := fun x hx => hE.step (x := x) hbs hx
          have hGs := hE.pg
          clear ho hE hbs
          go_wp2_with fail
          refine hOv.mono ?_
          rintro e w2b ⟨rfl, hp⟩
          have HMo := HM.keep hp
          clear hOv hp HM
          go_wp2_with fail
          refine (Ready_calls b V s _ (HMo.at_ 0 rfl) hGs).mono ?_
          rintro e w4 ⟨v4, rfl, HM7⟩
          have HM8 : Mem none_ w [StrRow v4 (readyS s), PlanC b V s, Blk w.heap.size 25 #[.slice GA gn gc, .slice (some ⟨gb0, go0, none⟩) g.length c]] w4 := HMo.got HM7
          clear HMo HM7
          have hll : (readyS s).length ≤ 512 := Nat.le_trans hlen hn5
          clear hlen hn5
          generalize readyS s = L at *
          have hpos : 0 < L.length := List.length_pos_iff.2 hne
          have hd0 : decide ((L.length : Int) = 0) = false := decide_eq_false (by omega)
          have hd1 : ((L.length : Int) == 0) = false := by simpa using (by omega : ¬ L.length = 0)
          have hd2 : decide (L.length = 0) = false := decide_eq_false (by omega)
          have hd3 : decide (L = []) = false := decide_eq_false hne
          have hkk : ¬ (g.length : Int) < (k : Int) := by omega
          have hk3 : decide ((g.length : Int) < (k : Int)) = false := decide_eq_false hkk
          have hk4 : decide (g.length < k) = false := decide_eq_false (by omega)
          have hgb : (Blk w.heap.size 25 #[.slice GA gn gc, .slice (some ⟨gb0, go0, none⟩) g.length c]).ok w4 := HM8.at_ 2 rfl
          have c1 : w4.cell? ⟨w.heap.size, 1, none⟩ = some (.slice (some ⟨gb0, go0, none⟩) g.length c) := by rw [Blk.cell_ hgb]; rfl
          clear hgb
          obtain ⟨gL, cL, rfl, nL1, nL2⟩ := Row.at_ (HM8.at_ 0 rfl) hpos
          unfold maxLen at nL2
          by_cases hp0 : picks.length = 0
          · have hp1 : decide (0 < (picks.length : Int)) = false := decide_eq_false (by omega)
            have hp2 : decide (0 < picks.length) = false := decide_eq_false (by omega)
            have hp3 : ¬ 0 < picks.length := by omega
            have hp4 := Lib.hid hp0
            clear hp0
            obtain ⟨x, hx⟩ : ∃ x, L[0] = x := ⟨_, rfl⟩
            have hget : Hid ((strs L)[0]? = some (.string x)) := by unfold Hid; rw [strs_get hpos, hx]
            have hx0 := Row.cell (HM8.at_ 0 rfl) hget.out
            have hxm : x ∈ L := by rw [← hx]; exact List.getElem_mem hpos
            clear hx
            obtain ⟨s1, s2, e1, hG1, e2, hK2, hSm⟩ := hstep x hxm
            have hS := Start_calls b V s x w4.drew (HM8.drew.at_ 1 rfl) hGs
            rw [e1] at hS
            have HK2 := Lib.hid hK2
            have E2 := Lib.hid e2
            have HSm := Lib.hid (hSame.out.trans hSm)
            clear hstep e1 hK2 e2 hxm hSm
            have HM9 := HM8.drew
            have hx9 : (World.drew w4).cell? ⟨gL, 0, none⟩ = some (.string x) := Row.cell (HM9.at_ 0 rfl) hget.out
            clear HM8 hx0
            obtain ⟨okb, hokb⟩ : ∃ ob : Bool, decide (¬ x = bad) = ob := ⟨_, rfl⟩
            rw [hokb] at E2
            have hq1 : (x.toList == bad.toList) = !okb := by rw [strEq, ← hokb]; by_cases h : x = bad <;> simp [h]
            have hq2 : (x.toList != bad.toList) = okb := by rw [bne, hq1, Bool.not_not]
            clear hokb
            go_wp2_with fail
            refine wp_plan [] (S := fun w' => Hid (w'.cell? ⟨gL, 0, none⟩ = some (.string x))) [(.pure, 0), (.pure, 1), (.pure, 2), (.pure, 3), (.load, 4), (.eff, 5), (.pure, 6), (.pure, 7), (.pure, 8), (.pure, 9), (.pure, 10), (.pure, 11), (.load, 12), (.pure, 13), (.pure, 14), (.pure, 15), (.load, 16), (.pure, 17), (.pure, 18), (.eff, 19), (.pure, 20), (.pure, 21)] (by kernel_rfl) rfl (by kernel_rfl) rfl (fun _ _ _ _ _ h => h) (Lib.hid hx9) ?_
            clear hx9
            generalize World.drew w4 = W4 at *
            repeat (first | (refine plan_pure (v := ?_) (a' := ?_) rfl rfl rfl ?_ ?_ ?_; rotate_left 2; (focus (intro w'; go_simp; with_reducible rfl)); (focus (simp only [Act.put, List.setIfInBounds_toArray, List.set_cons_zero, List.set_cons_succ]; rfl))) | (refine plan_load (v := ?_) (a' := ?_) rfl rfl rfl ?_ ?_ ?_; rotate_left 2; (focus (intro w' hw'; have q0 := hw'.out; clear hw'; go_simp; with_reducible rfl)); (focus (simp only [Act.put, List.setIfInBounds_toArray, List.set_cons_zero, List.set_cons_succ]; rfl))) | (refine plan_skip rfl rfl (by decide +kernel) (by simp only [Act.put, List.setIfInBounds_toArray, List.set_cons_zero, List.set_cons_succ]; rfl) ?_))
            refine plan_eff rfl (fun K hK => ?_)
            go_wp2_with fail
            refine hS.mono ?_
            rintro e w5 ⟨rfl, HM10⟩
            have HM11 : Mem none_ w [PlanC b V s1, StrRow (.slice (some ⟨gL, 0, none⟩) L.length cL) L, Blk w.heap.size 25 #[.slice GA gn gc, .slice (some ⟨gb0, go0, none⟩) g.length c]] w5 := (HM9.front [_]).call1 HM10
            have hx5 := Lib.hid (Row.cell (HM11.at_ 1 rfl) hget.out)
            clear hS HM9 HM10
            go_wp2_with fail
            refine hK _ _ hx5 ?_
            clear hK hx5
            repeat (first | (refine plan_pure (v := ?_) (a' := ?_) rfl rfl rfl ?_ ?_ ?_; rotate_left 2; (focus (intro w'; go_simp; with_reducible rfl)); (focus (simp only [Act.put, List.setIfInBounds_toArray, List.set_cons_zero, List.set_cons_succ]; rfl))) | (refine plan_load (v := ?_) (a' := ?_) rfl rfl rfl ?_ ?_ ?_; rotate_left 2; (focus (intro w' hw'; have q0 := hw'.out; clear hw'; go_simp; with_reducible rfl)); (focus (simp only [Act.put, List.setIfInBounds_toArray, List.set_cons_zero, List.set_cons_succ]; rfl))) | (refine plan_skip rfl rfl (by decide +kernel) (by simp only [Act.put, List.setIfInBounds_toArray, List.set_cons_zero, List.set_cons_succ]; rfl) ?_))
            have hF := Finish_calls b V s1 x okb w5 (HM11.at_ 0 rfl) hG1
            rw [E2.out] at hF
            refine plan_eff rfl (fun K hK => ?_)
            go_wp2_with fail
            refine hF.mono ?_
            rintro e w6 ⟨rfl, HM12⟩
            have HM13 : Mem none_ w [PlanC b V s2, StrRow (.slice (some ⟨gL, 0, none⟩) L.length cL) L, Blk w.heap.size 25 #[.slice GA gn gc, .slice (some ⟨gb0, go0, none⟩) g.length c]] w6 := HM11.call1 HM12
            have hx6 := Lib.hid (Row.cell (HM13.at_ 1 rfl) hget.out)
            clear hF HM11 HM12
            go_wp2_with fail
            refine hK _ _ hx6 ?_
            clear hK hx6
            repeat (first | (refine plan_pure (v := ?_) (a' := ?_) rfl rfl rfl ?_ ?_ ?_; rotate_left 2; (focus (intro w'; go_simp; with_reducible rfl)); (focus (simp only [Act.put, List.setIfInBounds_toArray, List.set_cons_zero, List.set_cons_succ]; rfl))) | (refine plan_load (v := ?_) (a' := ?_) rfl rfl rfl ?_ ?_ ?_; rotate_left 2; (focus (intro w' hw'; have q0 := hw'.out; clear hw'; go_simp; with_reducible rfl)); (focus (simp only [Act.put, List.setIfInBounds_toArray, List.set_cons_zero, List.set_cons_succ]; rfl))) | (refine plan_skip rfl rfl (by decide +kernel) (by simp only [Act.put, List.setIfInBounds_toArray, List.set_cons_zero, List.set_cons_succ]; rfl) ?_))
            refine plan_done ?_
            go_wp2_with fail
            go_roundw
            case rel => exact ⟨k + 1, s2, by omega, by go_num, HK2.out, HSm, HM13.sel [0, 2] (by decide)⟩
            case measure => simp [intOf]; omega
          · have hp1 : decide (0 < (picks.length : Int)) = true := decide_eq_true (by omega)
            have hp2 : decide (0 < picks.length) = true := decide_eq_true (by omega)
            have hp3 : 0 < picks.length := by omega
            have hkp : k % picks.length < picks.length := Nat.mod_lt _ hp3
            obtain ⟨pb, po, rfl, hpc⟩ := flat_cells (enc := encU) (sz := 1) (fun _ => rfl) (hP.pure HM8.mu) hkp
            have hpc0 := hpc 0 _ rfl
            have hpq := hpr _ (List.getElem_mem hkp)
            clear hpc
            generalize picks[k % picks.length] = q at *
            obtain ⟨q, rfl⟩ : ∃ m : Nat, q = (m : Int) := ⟨q.toNat, by omega⟩
            have hqm : q % L.length < L.length := Nat.mod_lt _ hpos
            obtain ⟨x, hx⟩ : ∃ x, L[q % L.length] = x := ⟨_, rfl⟩
            have hget : Hid ((strs L)[q % L.length]? = some (.string x)) := by unfold Hid; rw [strs_get hqm, hx]
            have hx0 := Row.cell (HM8.at_ 0 rfl) hget.out
            have hxm : x ∈ L := by rw [← hx]; exact List.getElem_mem hqm
            have m1 : (k : Int) % (picks.length : Int) = ((k % picks.length : Nat) : Int) := by simp
            have m2 : (q : Int) % (L.length : Int) = ((q % L.length : Nat) : Int) := by simp
            clear hx hp0
            rw [Nat.mul_one, Nat.add_zero] at hpc0
            generalize k % picks.length = km at *
            generalize q % L.length = qm at *
            obtain ⟨s1, s2, e1, hG1, e2, hK2, hSm⟩ := hstep x hxm
            have hS := Start_calls b V s x w4.drew (HM8.drew.at_ 1 rfl) hGs
            rw [e1] at hS
            have HK2 := Lib.hid hK2
            have E2 := Lib.hid e2
            have HSm := Lib.hid (hSame.out.trans hSm)
            clear hstep e1 hK2 e2 hxm hSm
            have HM9 := HM8.drew
            have hx9 : (World.drew w4).cell? ⟨gL, qm, none⟩ = some (.string x) := Row.cell (HM9.at_ 0 rfl) hget.out
            clear HM8 hx0
            obtain ⟨okb, hokb⟩ : ∃ ob : Bool, decide (¬ x = bad) = ob := ⟨_, rfl⟩
            rw [hokb] at E2
            have hq1 : (x.toList == bad.toList) = !okb := by rw [strEq, ← hokb]; by_cases h : x = bad <;> simp [h]
            have hq2 : (x.toList != bad.toList) = okb := by rw [bne, hq1, Bool.not_not]
            clear hokb
            go_wp2_with fail
            refine wp_plan [] (S := fun w' => Hid (w'.cell? ⟨gL, qm, none⟩ = some (.string x))) [(.pure, 0), (.pure, 1), (.pure, 2), (.pure, 3), (.load, 4), (.eff, 5), (.pure, 6), (.pure, 7), (.pure, 8), (.pure, 9), (.pure, 10), (.pure, 11), (.load, 12), (.pure, 13), (.pure, 14), (.pure, 15), (.load, 16), (.pure, 17), (.pure, 18), (.eff, 19), (.pure, 20), (.pure, 21)] (by kernel_rfl) rfl (by kernel_rfl) rfl (fun _ _ _ _ _ h => h) (Lib.hid hx9) ?_
            clear hx9
            generalize World.drew w4 = W4 at *
            repeat (first | (refine plan_pure (v := ?_) (a' := ?_) rfl rfl rfl ?_ ?_ ?_; rotate_left 2; (focus (intro w'; go_simp; with_reducible rfl)); (focus (simp only [Act.put, List.setIfInBounds_toArray, List.set_cons_zero, List.set_cons_succ]; rfl))) | (refine plan_load (v := ?_) (a' := ?_) rfl rfl rfl ?_ ?_ ?_; rotate_left 2; (focus (intro w' hw'; have q0 := hw'.out; clear hw'; go_simp; with_reducible rfl)); (focus (simp only [Act.put, List.setIfInBounds_toArray, List.set_cons_zero, List.set_cons_succ]; rfl))) | (refine plan_skip rfl rfl (by decide +kernel) (by simp only [Act.put, List.setIfInBounds_toArray, List.set_cons_zero, List.set_cons_succ]; rfl) ?_))
            refine plan_eff rfl (fun K hK => ?_)
            go_wp2_with fail
            refine hS.mono ?_
            rintro e w5 ⟨rfl, HM10⟩
            have HM11 : Mem none_ w [PlanC b V s1, StrRow (.slice (some ⟨gL, 0, none⟩) L.length cL) L, Blk w.heap.size 25 #[.slice GA gn gc, .slice (some ⟨gb0, go0, none⟩) g.length c]] w5 := (HM9.front [_]).call1 HM10
            have hx5 := Lib.hid (Row.cell (HM11.at_ 1 rfl) hget.out)
            clear hS HM9 HM10
            go_wp2_with fail
            refine hK _ _ hx5 ?_
            clear hK hx5
            repeat (first | (refine plan_pure (v := ?_) (a' := ?_) rfl rfl rfl ?_ ?_ ?_; rotate_left 2; (focus (intro w'; go_simp; with_reducible rfl)); (focus (simp only [Act.put, List.setIfInBounds_toArray, List.set_cons_zero, List.set_cons_succ]; rfl))) | (refine plan_load (v := ?_) (a' := ?_) rfl rfl rfl ?_ ?_ ?_; rotate_left 2; (focus (intro w' hw'; have q0 := hw'.out; clear hw'; go_simp; with_reducible rfl)); (focus (simp only [Act.put, List.setIfInBounds_toArray, List.set_cons_zero, List.set_cons_succ]; rfl))) | (refine plan_skip rfl rfl (by decide +kernel) (by simp only [Act.put, List.setIfInBounds_toArray, List.set_cons_zero, List.set_cons_succ]; rfl) ?_))
            have hF := Finish_calls b V s1 x okb w5 (HM11.at_ 0 rfl) hG1
            rw [E2.out] at hF
            refine plan_eff rfl (fun K hK => ?_)
            go_wp2_with fail
            refine hF.mono ?_
            rintro e w6 ⟨rfl, HM12⟩
            have HM13 : Mem none_ w [PlanC b V s2, StrRow (.slice (some ⟨gL, 0, none⟩) L.length cL) L, Blk w.heap.size 25 #[.slice GA gn gc, .slice (some ⟨gb0, go0, none⟩) g.length c]] w6 := HM11.call1 HM12
            have hx6 := Lib.hid (Row.cell (HM13.at_ 1 rfl) hget.out)
            clear hF HM11 HM12
            go_wp2_with fail
            refine hK _ _ hx6 ?_
            clear hK hx6
            repeat (first | (refine plan_pure (v := ?_) (a' := ?_) rfl rfl rfl ?_ ?_ ?_; rotate_left 2; (focus (intro w'; go_simp; with_reducible rfl)); (focus (simp only [Act.put, List.setIfInBounds_toArray, List.set_cons_zero, List.set_cons_succ]; rfl))) | (refine plan_load (v := ?_) (a' := ?_) rfl rfl rfl ?_ ?_ ?_; rotate_left 2; (focus (intro w' hw'; have q0 := hw'.out; clear hw'; go_simp; with_reducible rfl)); (focus (simp only [Act.put, List.setIfInBounds_toArray, List.set_cons_zero, List.set_cons_succ]; rfl))) | (refine plan_skip rfl rfl (by decide +kernel) (by simp only [Act.put, List.setIfInBounds_toArray, List.set_cons_zero, List.set_cons_succ]; rfl) ?_))
            refine plan_done ?_
            go_wp2_with fail
            go_roundw
            case rel => exact ⟨k + 1, s2, by omega, by go_num, HK2.out, HSm, HM13.sel [0, 2] (by decide)⟩
            case measure => simp [intOf]; omega
        | true =>
          have hGs := hE.pg
          obtain ⟨f1, f2, f3⟩ := hE.end_ hbi ho
          have hBs : Built g s := HBt.out.same hSame.out
          have hbs : s.names[bi]? = some bad := by rw [hSame.out.1]; exact Hbn.out
          have hfour := fun i hi => is_four (i := i) hE hBs hbi hbs ho hi rfl
          have hln := hE.len
          have hnm : ∀ i (h : i < g.length), s.names[i]? = some g[i].name := fun i h => by rw [hBs.names, List.getElem?_map, List.getElem?_eq_getElem h]; rfl
          have hcount := upTo_four hGs
          rw [hln] at hcount
          have Hfour := Lib.hid hfour
          have Hf2 := Lib.hid f2
          have Hf1 := Lib.hid f1
          have Hcount := Lib.hid hcount
          have Hnm := Lib.hid hnm
          have Hln := Lib.hid hln
          have HBs := Lib.hid hBs
          rw [ho] at hOv
          clear ho hE f1 f2 f3 hfour hcount hnm hln hbs hBs
          go_wp2_with fail
          refine hOv.mono ?_
          rintro e w2b ⟨rfl, hp⟩
          have HMo := HM.keep hp
          have hgb : (Blk w.heap.size 25 #[.slice GA gn gc, .slice (some ⟨gb0, go0, none⟩) g.length c]).ok w2b := HMo.at_ 1 rfl
          have c1 : w2b.cell? ⟨w.heap.size, 1, none⟩ = some (.slice (some ⟨gb0, go0, none⟩) g.length c) := by rw [Blk.cell_ hgb]; rfl
          clear hOv hp HM hgb
          have HMn := HMo.nilS
          clear HMo
          go_wp2_with fail
          clear c1
          go_loopw [13, 111] (fun v13 v111 wr => ∃ i : Nat, i ≤ g.length ∧ v111 = .int .i64 i ∧ Mem none_ w [StrRow v13 (upTo s.names (four s) i), PlanC b V s, Blk w.heap.size 25 #[.slice GA gn gc, .slice (some ⟨gb0, go0, none⟩) g.length c]] wr) (fun _ v _ => g.length - (intOf v).toNat)
          case atStart => exact ⟨0, Nat.zero_le _, rfl, by (have e : upTo s.names (four s) 0 = [] := by simp [upTo]); rw [e]; exact HMn⟩
          case round =>
            clear HMn
            obtain ⟨i, hi, rfl, HM⟩ := hrel
            by_cases hlt : i < g.length
            · have hlt' : decide ((i : Int) < (g.length : Int)) = true := decide_eq_true (by omega)
              obtain ⟨gb, go, kd, sv, cA, cn, cc, av, im, ph, pr, si, ig, e0, hsv, hav, hcell⟩ := (hG.pure HM.mu).cells hlt
              cases e0
              obtain ⟨sA, sc, rfl, sl1, sl2⟩ := Sl.any_ hsv
              obtain ⟨aA, ac, rfl, al1, al2⟩ := Sl.any_ hav
              have x0 := hcell 0 _ rfl
              rw [Nat.add_zero] at x0
              have x1 := hcell 1 _ rfl
              have x2 := hcell 2 _ rfl
              have x3 := hcell 3 _ rfl
              have x4 := hcell 4 _ rfl
              have x5 := hcell 5 _ rfl
              have x6 := hcell 6 _ rfl
              have x7 := hcell 7 _ rfl
              have x8 := hcell 8 _ rfl
              have x9 := hcell 9 _ rfl
              clear hcell
              have hbx := (hbd _ (List.getElem_mem hlt)).1
              have HMx := HM.box #[.string g[i].name, .int .i64 kd, .slice sA g[i].src.length sc, .slice cA cn cc, .slice aA g[i].aft.length ac, .string im, .bool ph, .bool pr, .bool si, .bool ig] 47
              have hsx := hsv.pure ((Mut.refl (fun _ => False) wr).alloc (.cells #[.string g[i].name, .int .i64 kd, .slice sA g[i].src.length sc, .slice cA cn cc, .slice aA g[i].aft.length ac, .string im, .bool ph, .bool pr, .bool si, .bool ig] 47))
              have hf4 := Hfour.out i hlt
              have hn4 := Hnm.out i hlt
              have hst := hGs.at2 i _ hn4
              have hup := upTo_succ (names := s.names) (q := four s) (k := i) (by rw [Hln.out]; exact hlt)
              have hgi : s.names[i]'(by rw [Hln.out]; exact hlt) = g[i].name := by
                have h := List.getElem?_eq_some_iff.1 hn4
                exact h.2
              rw [hgi] at hup
              have hstS : stateS s g[i].name = (stD s i, 0) := by unfold stateS; rw [hst]
              have hSc := State_calls b V s g[i].name
              rw [hstS] at hSc
              have hbe : (g[i].name.toList == bad.toList) = decide (i = bi) := by
                rw [strEq, decide_eq_decide]
                constructor
                · intro e; exact name_place hGs (by rw [hn4, e]) (by rw [HBs.out.names, ← HBt.out.names]; exact Hbn.out)
                · rintro rfl
                  have h1 : s.names[i]? = some bad := by rw [HBs.out.names, ← HBt.out.names]; exact Hbn.out
                  rw [hn4] at h1; exact Option.some.inj h1
              have Hf4 := Lib.hid hf4
              have Hup := Lib.hid hup
              have Hbe := Lib.hid hbe
              have HSc := Lib.hid hSc
              have hul := upTo_len s.names (four s) i
              clear hf4 hn4 hst hup hgi hstS hSc hbe
              have hxb : (Blk wr.heap.size 47 #[.string g[i].name, .int .i64 kd, .slice sA g[i].src.length sc, .slice cA cn cc, .slice aA g[i].aft.length ac, .string im, .bool ph, .bool pr, .bool si, .bool ig]).ok (wr.alloc (.cells #[.string g[i].name, .int .i64 kd, .slice sA g[i].src.length sc, .slice cA cn cc, .slice aA g[i].aft.length ac, .string im, .bool ph, .bool pr, .bool si, .bool ig] 47)) := HMx.head
              have xn : (wr.alloc (.cells #[.string g[i].name, .int .i64 kd, .slice sA g[i].src.length sc, .slice cA cn cc, .slice aA g[i].aft.length ac, .string im, .bool ph, .bool pr, .bool si, .bool ig] 47)).cell? ⟨wr.heap.size, 0, none⟩ = some (.string g[i].name) := by rw [Blk.cell_ hxb]; rfl
              clear hxb
              obtain ⟨need, hneed⟩ : ∃ nd, upTo s.names (four s) i = nd := ⟨_, rfl⟩
              rw [hneed] at Hf4 Hup HMx hul
              generalize g[i] = x at *
              obtain ⟨An, cn', rfl, na1, na2⟩ := Row.any_ (HMx.at_ 1 rfl)
              unfold maxLen at sl2 al2 na2
              clear hneed hsv hav HM
              go_wp2_with fail
              clear x0 x1 x2 x3 x4 x5 x6 x7 x8 x9
              generalize hWx : wr.alloc _ = Wx at *
              clear hWx
              generalize wr.heap.size = xb at *
              go_loop [16, 118] (fun v16 v118 => ∃ j : Nat, j ≤ x.src.length ∧ v118 = .int .i64 j ∧ v16 = .bool (isB bad need (x.src.take j))) (fun _ v => x.src.length - (intOf v).toNat)
              case atStart => exact ⟨0, Nat.zero_le _, rfl, rfl⟩
              case round =>
                obtain ⟨j, hj, rfl, rfl⟩ := hrel
                by_cases hjl : j < x.src.length
                · have hjl' : decide ((j : Int) < (x.src.length : Int)) = true := decide_eq_true (by omega)
                  obtain ⟨A', c', e7, _, _, _, h4⟩ := id hsx
                  cases e7
                  obtain ⟨sb', so, rfl, hcells⟩ := h4.resolve_left (by omega)
                  have hx0 : Wx.cell? ⟨sb', so + j, none⟩ = some (.string x.src[j]) := hcells j _ (strs_get hjl)
                  have hsucc : isB bad need (x.src.take (j + 1)) = (isB bad need (x.src.take j) || (decide (x.src[j] = bad) || memB need x.src[j])) := by
                    unfold isB
                    rw [List.take_succ_eq_append_getElem hjl, List.any_append]; simp
                  have Hsucc := Lib.hid hsucc
                  clear hcells h4 hsucc
                  have hq := strEq x.src[j] bad
                  generalize x.src[j] = y at *
                  cases hb0 : isB bad need (x.src.take j) with
                  | true =>
                    have hs2 : Hid (isB bad need (x.src.take (j + 1)) = true) := Lib.hid (by rw [Hsucc.out, hb0]; rfl)
                    clear hb0 hq
                    go_wp2_with fail
                    go_round
                    case rel => exact ⟨j + 1, by omega, by go_num, by rw [hs2.out]⟩
                    case measure => simp [intOf]; omega
                  | false =>
                    by_cases hyb : y = bad
                    · have hs2 : Hid (isB bad need (x.src.take (j + 1)) = true) := Lib.hid (by rw [Hsucc.out, hb0]; simp [hyb])
                      rw [decide_eq_true hyb] at hq
                      clear hb0 hyb
                      go_wp2_with fail
                      go_round
                      case rel => exact ⟨j + 1, by omega, by go_num, by rw [hs2.out]⟩
                      case measure => simp [intOf]; omega
                    · have hs2 : Hid (isB bad need (x.src.take (j + 1)) = memB need y) := Lib.hid (by rw [Hsucc.out, hb0]; simp [hyb])
                      rw [decide_eq_false hyb] at hq
                      clear hb0 hyb
                      go_wp2_with fail
                      refine (has_calls _ need y Wx (Row.sl (HMx.at_ 1 rfl)) (by omega)).mono ?_
                      rintro e w6 ⟨rfl, rfl⟩
                      go_wp2_with fail
                      go_round
                      case rel => exact ⟨j + 1, by omega, by go_num, by rw [hs2.out]⟩
                      case measure => simp [intOf]; omega
                · have e : j = x.src.length := by omega
                  subst e
                  rw [List.take_length, Hf4.out]
                  have hSt := HSc.out Wx (HMx.at_ 2 rfl) hGs
                  by_cases hib : i = bi
                  · have e3 : stD s i = 3 := by rw [hib]; exact Hf1.out
                    have e4 : four s i = false := by unfold four; rw [e3]; rfl
                    have hq1 : (x.name.toList == bad.toList) = true := by rw [Hbe.out, decide_eq_true hib]
                    rw [e3] at hSt
                    have HMe : Hid (Mem none_ w [StrRow (.slice An need.length cn') (upTo s.names (four s) (i + 1)), PlanC b V s, Blk w.heap.size 25 #[.slice GA gn gc, .slice (some ⟨gb0, go0, none⟩) g.length c]] Wx) := by
                      unfold Hid
                      rw [Hup.out, e4, if_neg (by decide), List.append_nil]
                      exact HMx.sel [1, 2, 3] (by decide)
                    rw [e4]
                    clear e3 e4 hib
                    go_wp2_with fail
                    refine hSt.mono ?_
                    rintro e w7 ⟨rfl, rfl⟩
                    clear hSt
                    go_wp2_with fail
                    go_roundw
                    case rel => exact ⟨i + 1, by omega, by go_num, HMe.out⟩
                    case measure => simp [intOf]; omega
                  · have hq1 : (x.name.toList == bad.toList) = false := by rw [Hbe.out, decide_eq_false hib]
                    rcases Hf2.out i hlt hib with e3 | e3
                    · have e4 : four s i = false := by unfold four; rw [e3]; rfl
                      rw [e3] at hSt
                      have HMe : Hid (Mem none_ w [StrRow (.slice An need.length cn') (upTo s.names (four s) (i + 1)), PlanC b V s, Blk w.heap.size 25 #[.slice GA gn gc, .slice (some ⟨gb0, go0, none⟩) g.length c]] Wx) := by
                        unfold Hid
                        rw [Hup.out, e4, if_neg (by decide), List.append_nil]
                        exact HMx.sel [1, 2, 3] (by decide)
                      rw [e4]
                      clear e3 e4 hib
                      go_wp2_with fail
                      refine hSt.mono ?_
                      rintro e w7 ⟨rfl, rfl⟩
                      clear hSt
                      go_wp2_with fail
                      go_roundw
                      case rel => exact ⟨i + 1, by omega, by go_num, HMe.out⟩
                      case measure => simp [intOf]; omega
                    · have e4 : four s i = true := by unfold four; rw [e3]; rfl
                      rw [e3] at hSt
                      have hu2 := Hup.out
                      rw [e4, if_pos rfl] at hu2
                      have Hu2 := Lib.hid hu2
                      rw [e4]
                      have HMf : Mem none_ w [StrRow (.slice An need.length cn') need, Blk xb 47 _, PlanC b V s, Blk w.heap.size 25 #[.slice GA gn gc, .slice (some ⟨gb0, go0, none⟩) g.length c]] Wx := HMx.sel [1, 0, 2, 3] (by decide)
                      clear e4 hib hu2 hSt
                      go_wp2_with (at_builtin; refine wpList_appS strE rfl _ _ rfl HMf rfl x.name _ rfl ?hnb ?hb ?_; (case hnb => simp); (case hb => omega); intro v' w' HM3 HU3; have hxb2 : (Blk xb 47 _).ok w' := HM3.at_ 1 rfl; have xn2 := Blk.cell_ hxb2 0; simp only [List.getElem?_toArray, List.getElem?_cons_zero] at xn2)
                      have hSt := HSc.out _ (HM3.at_ 2 rfl) hGs
                      rw [e3] at hSt
                      have HMe : Hid (Mem none_ w [StrRow v' (upTo s.names (four s) (i + 1)), PlanC b V s, Blk w.heap.size 25 #[.slice GA gn gc, .slice (some ⟨gb0, go0, none⟩) g.length c]] w') := by
                        unfold Hid
                        rw [Hu2.out]
                        exact HM3.sel [0, 2, 3] (by decide)
                      refine hSt.mono ?_
                      rintro e w7 ⟨rfl, rfl⟩
                      clear hSt e3
                      go_wp2_with fail
                      go_roundw
                      case rel => exact ⟨i + 1, by omega, by go_num, HMe.out⟩
                      case measure => simp [intOf]; omega
            · have e : i = g.length := by omega
              subst e
              have hCt := Count_calls b V s 4 wr (HM.at_ 1 rfl) hGs
              rw [← Hcount.out] at hCt
              obtain ⟨Ae, ce, rfl, _, _⟩ := Row.any_ (HM.at_ 0 rfl)
              generalize (upTo s.names (four s) g.length).length = nd at *
              go_wp2_with fail
              refine hCt.mono ?_
              rintro e w7 ⟨rfl, rfl⟩
              clear hCt
              go_wp2_with fail
              refine (alive_calls wr).mono ?_
              rintro e w8 ⟨rfl, HMz⟩
              have HMy := (HM.got HMz).sel [] (by decide)
              clear HMz HM
              go_wp2_with fail
              go_ret
              exact ⟨rfl, HMy⟩
end Go.Proofs.Ytcbhdjpigadhmaa
