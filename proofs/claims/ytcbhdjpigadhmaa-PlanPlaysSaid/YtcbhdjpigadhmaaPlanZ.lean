/-
  The walk of PlanOrder.
-/
import Derived.Test.YtcbhdjpigadhmaaPlanY
set_option linter.unusedVariables false
set_option linter.unusedSimpArgs false
namespace Go.Proofs.Ytcbhdjpigadhmaa
open Go.RowKit

theorem stopUp_none {s : PS} (hG : PG s) : ∀ (k : Nat), k ≤ s.names.length → ∀ j : Nat, j < k → stD (stopUp s k) j ≠ 0
  | 0, _, j, hj => by omega
  | k + 1, hk, j, hj => by
    obtain ⟨h1, h2⟩ := hG.stopUp k (by omega)
    have hn : (stopUp s k).names = s.names := h2.same.1
    show stD (if stD (stopUp s k) (k : Int) = 0 then turnS (stopUp s k) k 4 else stopUp s k) j ≠ 0
    by_cases hz : stD (stopUp s k) (k : Int) = 0
    · rw [if_pos hz, st_turn h1 (by rw [hn]; omega) _ (by omega)]
      split
      · omega
      · rename_i hne
        exact stopUp_none hG k (by omega) j (by omega)
    · rw [if_neg hz]
      by_cases e : j = k
      · subst e; exact hz
      · exact stopUp_none hG k (by omega) j (by omega)
theorem Inv.stop_ {s : PS} (hG : PG s) (h : Inv s) : Inv (stopS s) := by
  obtain ⟨h1, h2⟩ := hG.stopUp s.states.length hG.st1
  have hn : (stopS s).names = s.names := h2.same.1
  have hd : (stopS s).needs = s.needs := h2.same.2.2.1
  have hb : (stopS s).behind = s.behind := h2.same.2.2.2.1
  refine ⟨fun k hk h0 => ?_, fun k hk a1 a3 => ?_⟩
  · rw [hn] at hk
    exact absurd h0 (stopUp_none hG _ hG.st1 k (by have := hG.st2; omega))
  · rw [hn] at hk
    rw [hd, hb]
    have e : stD (stopS s) k = stD s k := by
      rcases h2.st k (by omega) with e | e
      · exact e
      · have e2 : stD (stopS s) k = 4 := e.2
        omega
    rw [e] at a1 a3
    obtain ⟨r1, r2⟩ := h.run k hk a1 a3
    refine ⟨fun j hj => ?_, fun j hj => ?_⟩
    · have a := r1 j hj
      rcases h2.st j (need_ge hG hj).1 with e | e
      · have e2 : stD (stopS s) j = stD s j := e
        rw [e2]; exact a
      · omega
    · have a := r2 j hj
      rcases h2.st j (beh_ge hG hj) with e | e
      · have e2 : stD (stopS s) j = stD s j := e
        rw [e2]; exact a
      · omega
/-- What holds behind whatever acts. -/
structure OrdK (s0 : PS) (st : Bool) (s : PS) : Prop where
  pg : PG s
  inv : Inv s
  why : st = false → Why s
  same : Same s0 s
theorem OrdK.start {g : List Nd} {s : PS} (hb : buildOf g = some s) (ok : PlanOk s) : OrdK s false s := by
  obtain ⟨hG, _, hz, hl⟩ := build_good hb ok
  exact ⟨hG, Inv.init hz, fun _ => Why.init hz, Same.refl s⟩
theorem OrdK.start_ {s0 s : PS} {st : Bool} (h : OrdK s0 st s) (x : ByteArray) : OrdK s0 st (startS s x).1 := by
  unfold startS
  cases hg : mget s.at_ x with
  | none => exact h
  | some i =>
    obtain ⟨i, rfl, hi⟩ := place_of h.pg hg
    dsimp only
    by_cases hr : readyB s (i : Int) = true
    · rw [if_pos hr]
      exact ⟨h.pg.turn (by omega) (by omega) (by omega) (by omega), h.inv.start_ h.pg hi hr, fun hst => Why.start_ h.pg (h.why hst) hi (ready_iff.1 hr).1 (by omega), h.same.trans (Same.turn s i 1)⟩
    · rw [if_neg hr]
      exact h
theorem OrdK.fin_ {s0 s : PS} {st : Bool} (h : OrdK s0 st s) (x : ByteArray) (ok : Bool) : OrdK s0 st (finishS s x ok).1 := by
  unfold finishS
  cases hg : mget s.at_ x with
  | none => exact h
  | some i =>
    obtain ⟨i, rfl, hi⟩ := place_of h.pg hg
    dsimp only
    by_cases h1 : stD s (i : Int) = 1
    · rw [if_pos h1]
      cases ok with
      | true =>
        rw [if_pos rfl]
        exact ⟨h.pg.turn (by omega) (by omega) (by omega) (by omega), h.inv.done_ h.pg hi h1, fun hst => Why.done_ h.pg (h.why hst) hi h1 (by omega), h.same.trans (Same.turn s i 2)⟩
      | false =>
        rw [if_neg (by decide)]
        have R := fail_skip h.pg hi
        exact ⟨R.pg, h.inv.fail_ h.pg hi h1, fun hst => Why.fail_ h.pg (h.why hst) hi h1, h.same.trans ((Same.turn s i 3).trans R.sk.same)⟩
    · rw [if_neg h1]
      exact h
theorem OrdK.stop_ {s0 s : PS} {st : Bool} (h : OrdK s0 st s) : OrdK s0 true (stopS s) :=
  ⟨h.pg.stop, h.inv.stop_ h.pg, fun h => (by cases h), h.same.trans (h.pg.stopUp s.states.length h.pg.st1).2.same⟩
/-- A source's place. -/
theorem src_at {g : List Nd} {s : PS} (hB : Built g s) {i m : Nat} (hi : i < g.length) (hm : m < g[i].src.length) : ∃ j, mget s.at_ g[i].src[m] = some j ∧ j ∈ s.needs.getD i [] := by
  have h := hB.srcs i hi
  have h1 := congrArg (fun l => l[m]?) h
  simp only [List.getElem?_map, List.getElem?_eq_getElem hm, Option.map_some] at h1
  cases hn : (s.needs.getD i [])[m]? with
  | none => rw [hn] at h1; cases h1
  | some j =>
    rw [hn] at h1
    exact ⟨j, Option.some.inj h1, List.mem_of_getElem? hn⟩
theorem aft_at {g : List Nd} {s : PS} (hB : Built g s) {i m : Nat} (hi : i < g.length) (hm : m < g[i].aft.length) : ∃ j, mget s.at_ g[i].aft[m] = some j ∧ j ∈ s.behind.getD i [] := by
  have h := hB.afts i hi
  have h1 := congrArg (fun l => l[m]?) h
  simp only [List.getElem?_map, List.getElem?_eq_getElem hm, Option.map_some] at h1
  cases hn : (s.behind.getD i [])[m]? with
  | none => rw [hn] at h1; cases h1
  | some j =>
    rw [hn] at h1
    exact ⟨j, Option.some.inj h1, List.mem_of_getElem? hn⟩
/-- Whether one of some names failed or is skipped. -/
def badB (s : PS) (l : List ByteArray) : Bool := l.any (fun x => decide (3 ≤ (stateS s x).1))
theorem state_at {s : PS} {x : ByteArray} {j : Int} (h : mget s.at_ x = some j) : stateS s x = (stD s j, 0) := by unfold stateS; rw [h]
theorem bad_four {g : List Nd} {s0 s : PS} (h : OrdK s0 false s) (hB : Built g s) {i : Nat} (hi : i < g.length) (hn : s.names.length = g.length) : badB s g[i].src = decide (stD s i = 4) := by
  unfold badB
  rw [Bool.eq_iff_iff, List.any_eq_true, decide_eq_true_eq]
  have hG := h.pg
  constructor
  · rintro ⟨x, hx, hq⟩
    obtain ⟨m, hm, rfl⟩ := List.getElem_of_mem hx
    obtain ⟨j, hj, hjn⟩ := src_at hB hi hm
    rw [state_at hj, decide_eq_true_eq] at hq
    have hq' : 3 ≤ stD s j := hq
    have hr := hG.range i
    refine Classical.byContradiction fun hne => ?_
    by_cases h0 : stD s i = 0
    · have := h.inv.clos i (by omega) h0 j hjn; omega
    · have := (h.inv.run i (by omega) (by omega) (by omega)).1 j hjn; omega
  · intro h4
    obtain ⟨j, hj, h3⟩ := h.why rfl i (by omega) h4
    have hs := hB.srcs i hi
    have h1 : some j ∈ (s.needs.getD i []).map some := List.mem_map.2 ⟨j, hj, rfl⟩
    rw [← hs] at h1
    obtain ⟨x, hx, hxj⟩ := List.mem_map.1 h1
    exact ⟨x, hx, by rw [state_at hxj, decide_eq_true_eq]; exact h3⟩
/-- What holds of one node's calls. -/
theorem OrdK.node {g : List Nd} {s0 s : PS} {st : Bool} (h : OrdK s0 st s) (hB : Built g s) (hn : s.names.length = g.length) {i : Nat} (hi : i < g.length) :
    stateS s g[i].name = (stD s i, 0) ∧ (0 ≤ stD s i ∧ stD s i ≤ 4) ∧ (∀ m (hm : m < g[i].src.length), 1 ≤ stD s i → stD s i ≤ 3 → (stateS s g[i].src[m]).1 = 2) ∧
      (∀ m (hm : m < g[i].aft.length), 1 ≤ stD s i → stD s i ≤ 3 → 2 ≤ (stateS s g[i].aft[m]).1) ∧ (st = false → badB s g[i].src = decide (stD s i = 4)) := by
  have hG := h.pg
  refine ⟨state_at (hG.at2 i _ (by rw [hB.names, List.getElem?_map, List.getElem?_eq_getElem hi]; rfl)), hG.range i, fun m hm a1 a2 => ?_, fun m hm a1 a2 => ?_, fun e => ?_⟩
  · obtain ⟨j, hj, hjn⟩ := src_at hB hi hm
    rw [state_at hj]
    exact (h.inv.run i (by omega) a1 a2).1 j hjn
  · obtain ⟨j, hj, hjn⟩ := aft_at hB hi hm
    rw [state_at hj]
    exact (h.inv.run i (by omega) a1 a2).2 j hjn
  · subst e
    exact bad_four h hB hi hn
set_option maxRecDepth 100000 in
set_option maxHeartbeats 16000000 in
theorem order_calls (GA : Option Addr) (gn gc : Nat) (NV PV_ : Value) (g : List Nd) (acts : List Ac) (w : World) (hG : Nodes w NV g) (hbnd : ∀ x, x ∈ g → x.src.length ≤ 10000000000000 ∧ x.aft.length ≤ 10000000000000) (hP : Acs w PV_ acts) (hpb : acts.length ≤ 140737488351232) (hpr : ∀ x : Ac, x ∈ acts → ActOk x) :
    Calls Try.prog 6 #[.agg #[.slice GA gn gc, NV], PV_] w fun e w' => e = .returned (.bool true) ∧ Mem none_ w [] w' := by
  obtain ⟨A, c, rfl, nn1, nn2⟩ : ∃ A c, NV = .slice A g.length c ∧ g.length ≤ c ∧ c ≤ maxLen := by
    obtain ⟨cells, h, _⟩ := hG
    exact Sl.any_ h
  obtain ⟨PA, pc, rfl, pn1, pn2⟩ := Sl.any_ hP
  unfold maxLen at nn2 pn2
  have HM0 := (Mem.start (fp := none_) w).box #[.slice GA gn gc, .slice A g.length c] 25
  have c0 : (w.alloc (.cells #[.slice GA gn gc, .slice A g.length c] 25)).cell? ⟨w.heap.size, 0, none⟩ = some (.slice GA gn gc) := by rw [Blk.cell_ HM0.head]; rfl
  have c1 : (w.alloc (.cells #[.slice GA gn gc, .slice A g.length c] 25)).cell? ⟨w.heap.size, 1, none⟩ = some (.slice A g.length c) := by rw [Blk.cell_ HM0.head]; rfl
  have hfar := far_calls (.slice GA gn gc) _ g _ (hG.pure HM0.mu) hbnd
  cases hf : farG g with
  | true =>
    rw [hf] at hfar
    clear hf
    go_enter Try.func6, Try.ntmps6
    go_wp2_with fail
    refine hfar.mono ?_
    rintro e w1 ⟨rfl, HM1⟩
    have HM2 := HM0.got HM1
    clear hfar c0 c1
    go_wp2_with fail
    refine (alive_calls w1).mono ?_
    rintro e w2 ⟨rfl, HM3⟩
    have HM4 := (HM2.got HM3).sel [] (by decide)
    clear HM0 HM1 HM2 HM3
    go_wp2
    go_ret
    exact ⟨rfl, HM4⟩
  | false =>
    rw [hf] at hfar
    obtain ⟨hl515, hbd⟩ := farG_bounds hf
    clear hf
    go_enter Try.func6, Try.ntmps6
    go_wp2_with fail
    refine hfar.mono ?_
    rintro e w1 ⟨rfl, HM1⟩
    have HM2 := HM0.got HM1
    clear hfar c0 c1 HM0 HM1
    have c0 : w1.cell? ⟨w.heap.size, 0, none⟩ = some (.slice GA gn gc) := by have h1 : (Blk w.heap.size 25 _).ok w1 := HM2.at_ 0 rfl; rw [Blk.cell_ h1]; rfl
    have c1 : w1.cell? ⟨w.heap.size, 1, none⟩ = some (.slice A g.length c) := by have h1 : (Blk w.heap.size 25 _).ok w1 := HM2.at_ 0 rfl; rw [Blk.cell_ h1]; rfl
    go_wp2_with fail
    refine (theirs_calls GA gn gc _ g w1 (hG.pure HM2.mu) (by omega)).mono ?_
    rintro e w2 ⟨v2, rfl, hG2, HM3⟩
    have HM4 := HM2.got HM3
    clear HM2 HM3 c0 c1
    go_wp2_with fail
    refine (New_calls _ _ g w2 hG2 hbd (by omega)).mono ?_
    rintro e w3 ⟨h1, h2⟩
    cases hB : buildOf g with
    | none =>
      obtain ⟨rfl, HM5⟩ := h1 hB
      have HM6 := HM4.got HM5
      clear h1 h2 hG2 HM4 HM5 hB
      go_wp2_with fail
      refine (alive_calls _).mono ?_
      rintro e w4 ⟨rfl, HM7⟩
      have HM8 := (HM6.got HM7).sel [] (by decide)
      clear HM6 HM7
      go_wp2
      go_ret
      exact ⟨rfl, HM8⟩
    | some s0 =>
      obtain ⟨b, V, rfl, hO, HM5⟩ := h2 s0 hB
      have HM6 : Mem none_ w [PlanC b V s0, Blk w.heap.size 25 #[.slice GA gn gc, .slice A g.length c]] w3 := HM4.got HM5
      have hK0 := OrdK.start hB hO
      obtain ⟨_, hBt, _, hnl⟩ := build_good hB hO
      have HBt := Lib.hid hBt
      have Hnl := Lib.hid hnl
      clear h1 h2 hG2 HM4 HM5 hB hO hBt hnl
      go_upto_region 7 with fail
      go_cut [45, 46, 47] (fun s45 s46 s47 wx => wx = w3 ∧ s47 = .int .i64 0 ∧ ∃ m : Nat, m ≤ acts.length ∧ m ≤ 200 ∧ s45 = .slice PA m pc ∧ s46 = .int .i64 m)
      case first =>
        by_cases h200 : acts.length ≤ 200
        · have h2 : (acts.length : Int) ≤ 200 := by omega
          go_wp2_with fail
          go_meet
          exact ⟨rfl, rfl, acts.length, Nat.le_refl _, h200, rfl, rfl⟩
        · have h2 : 200 < (acts.length : Int) := by omega
          go_wp2_with fail
          go_meet
          exact ⟨rfl, rfl, 200, by omega, Nat.le_refl _, rfl, rfl⟩
      case rest =>
        obtain ⟨rfl, rfl, m, hm1, hm2, rfl, rfl⟩ := hcut
        go_wp2_with fail
        go_loopw [7, 47] (fun v7 v47 wr => ∃ (k : Nat) (st : Bool) (s : PS), k ≤ m ∧ v47 = .int .i64 k ∧ v7 = .bool st ∧ OrdK s0 st s ∧ Mem none_ w [PlanC b V s, Blk w.heap.size 25 #[.slice GA gn gc, .slice A g.length c]] wr) (fun _ v _ => m - (intOf v).toNat)
        case atStart => exact ⟨0, false, s0, Nat.zero_le _, rfl, rfl, hK0, HM6⟩
        case round =>
          clear HM6 hK0
          obtain ⟨k, st, s, hk, rfl, rfl, hK, HM⟩ := hrel
          by_cases hlt : k < m
          · have hlt' : decide ((k : Int) < (m : Int)) = true := decide_eq_true (by omega)
            have hka : k < acts.length := by omega
            obtain ⟨pb, po, rfl, hpc⟩ := flat_cells (enc := encA) (sz := 4) (fun _ => rfl) (hP.pure HM.mu) hka
            have x0 := hpc 0 _ rfl
            rw [Nat.add_zero] at x0
            have x1 := hpc 1 _ rfl
            have x2 := hpc 2 _ rfl
            have x3 := hpc 3 _ rfl
            obtain ⟨a1, a2, a3, a4, a5⟩ := hpr _ (List.getElem_mem hka)
            have HMa := HM.box #[.int .u8 acts[k].kind, .string acts[k].name, .bool acts[k].ok, .int .u8 acts[k].pick] 54
            clear hpc
            generalize acts[k] = a at *
            obtain ⟨kd, nm, okk, pk⟩ := a
            dsimp only at x0 x1 x2 x3 a1 a2 a3 a4 a5 HMa
            obtain ⟨kd, rfl⟩ : ∃ q : Nat, kd = (q : Int) := ⟨kd.toNat, by omega⟩
            obtain ⟨pk, rfl⟩ : ∃ q : Nat, pk = (q : Int) := ⟨pk.toNat, by omega⟩
            have hkd : kd < 256 := by omega
            have hpk : pk < 256 := by omega
            have hGs := hK.pg
            have hrdl := Nat.le_trans (readyUp_len s s.names.length) hGs.ok.n512
            go_wp2_with fail
            clear x0 x1 x2 x3
            generalize hwa : wr.alloc _ = Wa at *
            clear hwa
            generalize wr.heap.size = ab at *
            refine (Ready_calls b V s _ (HMa.at_ 1 rfl) hGs).mono ?_
            rintro e w5 ⟨v5, rfl, HM4⟩
            have HM5 : Mem none_ w [StrRow v5 (readyS s), Blk ab 54 #[.int .u8 kd, .string nm, .bool okk, .int .u8 pk], PlanC b V s, Blk w.heap.size 25 #[.slice GA gn gc, .slice A g.length c]] w5 := HMa.got HM4
            clear HMa HM4 HM
            have hrd2 : (readyS s).length ≤ 512 := hrdl
            clear hrdl
            generalize readyS s = L at *
            obtain ⟨AL, cL, rfl, la1, la2⟩ := Row.any_ (HM5.at_ 0 rfl)
            unfold maxLen at la2
            have hab : (Blk ab 54 #[.int .u8 kd, .string nm, .bool okk, .int .u8 pk]).ok w5 := HM5.at_ 1 rfl
            have y0 : w5.cell? ⟨ab, 0, none⟩ = some (.int .u8 kd) := by rw [Blk.cell_ hab]; rfl
            have y2 : w5.cell? ⟨ab, 2, none⟩ = some (.bool okk) := by rw [Blk.cell_ hab]; rfl
            have y3 : w5.cell? ⟨ab, 3, none⟩ = some (.int .u8 pk) := by rw [Blk.cell_ hab]; rfl
            have hk4 : kd % 4 < 4 := Nat.mod_lt _ (by omega)
            have m1 : (kd : Int) % 4 = ((kd % 4 : Nat) : Int) := by simp
            generalize hkg : kd % 4 = kq at *
            clear hab hkg
            go_upto_region 12 with fail
            go_cut [63] (fun s63 wx => wx = w5 ∧ ∃ q : Bool, s63 = .bool q ∧ (q = true → 0 < L.length))
            case first =>
              by_cases h3 : kq = 3
              · subst h3
                by_cases hl : L = []
                · have hl1 : decide (0 < (L.length : Int)) = false := by rw [hl]; rfl
                  have hl2 : decide (0 < L.length) = false := by rw [hl]; rfl
                  go_wp2_with fail
                  go_meet
                  exact ⟨rfl, false, rfl, fun h => by cases h⟩
                · have hl0 : 0 < L.length := List.length_pos_iff.2 hl
                  have hl1 : decide (0 < (L.length : Int)) = true := decide_eq_true (by omega)
                  have hl2 : decide (0 < L.length) = true := decide_eq_true hl0
                  have Hl := Lib.hid hl
                  clear hl
                  go_wp2_with fail
                  go_meet
                  exact ⟨rfl, true, rfl, fun _ => hl0⟩
              · have h3q : ((kq : Int) == 3) = false := beq_eq_false_iff_ne.2 (by omega)
                have h3d : decide ((kq : Int) = 3) = false := decide_eq_false (by omega)
                have h3e : decide (kq = 3) = false := decide_eq_false h3
                go_wp2_with fail
                go_meet
                exact ⟨rfl, false, rfl, fun h => by cases h⟩
            case rest =>
              obtain ⟨rfl, q, rfl, hq⟩ := hcut
              go_upto_if 63 with fail
              go_cut [10] (fun s10 wx => wx = wc ∧ ∃ x : ByteArray, s10 = .string x)
              case first =>
                cases q with
                | false =>
                  go_wp2_with fail
                  go_meet
                  exact ⟨rfl, _, rfl⟩
                | true =>
                  have hl0 := hq rfl
                  clear hq
                  obtain ⟨gl, cl', el, _, _⟩ := Row.at_ (HM5.at_ 0 rfl) hl0
                  cases el
                  have hpm : pk % L.length < L.length := Nat.mod_lt _ hl0
                  have hx0 := Row.cell (HM5.at_ 0 rfl) (strs_get hpm)
                  have m2 : (pk : Int) % (L.length : Int) = ((pk % L.length : Nat) : Int) := by simp
                  have hl1 : decide (0 < (L.length : Int)) = true := decide_eq_true (by omega)
                  generalize L[pk % L.length] = x at *
                  generalize pk % L.length = pm at *
                  go_wp2_with fail
                  go_meet
                  exact ⟨rfl, _, rfl⟩
              case rest =>
                obtain ⟨rfl, x, rfl⟩ := hcut
                have HM6 : Mem none_ w [PlanC b V s, Blk w.heap.size 25 #[.slice GA gn gc, .slice A g.length c]] wc := HM5.sel [2, 3] (by decide)
                clear HM5 hq
                go_upto_block 2 with fail
                go_cut [7, 75] (fun s7 s75 wx => ∃ (s' : PS) (st' : Bool), s7 = .bool st' ∧ OrdK s0 st' s' ∧ Mem none_ w [PlanC b V s', Blk w.heap.size 25 #[.slice GA gn gc, .slice A g.length c]] wx)
                case first =>
                  by_cases h1 : kq = 1
                  · subst h1
                    have hF := Finish_calls b V s x okk wc (HM6.at_ 0 rfl) hGs
                    have hK2 := Lib.hid (hK.fin_ x okk)
                    go_wp2_with fail
                    refine hF.mono ?_
                    rintro e w7 ⟨rfl, HM7⟩
                    have HM8 := HM6.call1 HM7
                    clear hF HM6 HM7 y0 y2 y3
                    go_wp2_with fail
                    go_meet
                    exact ⟨_, st, rfl, hK2.out, HM8⟩
                  · have h1q : ((kq : Int) == 1) = false := beq_eq_false_iff_ne.2 (by omega)
                    have h1d : decide ((kq : Int) = 1) = false := decide_eq_false (by omega)
                    have h1e : decide (kq = 1) = false := decide_eq_false h1
                    by_cases h2 : kq = 2
                    · subst h2
                      have hF := Stop_calls b V s wc (HM6.at_ 0 rfl) hGs
                      have hK2 := Lib.hid hK.stop_
                      go_wp2_with fail
                      refine hF.mono ?_
                      rintro e w7 ⟨rfl, HM7⟩
                      have HM8 := HM6.call1 HM7
                      clear hF HM6 HM7 y0 y2 y3
                      go_wp2_with fail
                      go_meet
                      exact ⟨_, true, rfl, hK2.out, HM8⟩
                    · have h2q : ((kq : Int) == 2) = false := beq_eq_false_iff_ne.2 (by omega)
                      have h2d : decide ((kq : Int) = 2) = false := decide_eq_false (by omega)
                      have h2e : decide (kq = 2) = false := decide_eq_false h2
                      have hF := Start_calls b V s x wc (HM6.at_ 0 rfl) hGs
                      have hK2 := Lib.hid (hK.start_ x)
                      go_wp2_with fail
                      refine hF.mono ?_
                      rintro e w7 ⟨rfl, HM7⟩
                      have HM8 := HM6.call1 HM7
                      clear hF HM6 HM7 y0 y2 y3
                      go_wp2_with fail
                      go_meet
                      exact ⟨_, st, rfl, hK2.out, HM8⟩
                case rest =>
                  clear HM6 hK y0 y2 y3 hrd2 hGs
                  obtain ⟨s', st', rfl, hK', HM7⟩ := hcut
                  have hgb : (Blk w.heap.size 25 #[.slice GA gn gc, .slice A g.length c]).ok wc := HM7.at_ 1 rfl
                  have c1 : wc.cell? ⟨w.heap.size, 1, none⟩ = some (.slice A g.length c) := by rw [Blk.cell_ hgb]; rfl
                  go_wp2_with fail
                  clear hgb m1 hk4
                  go_wp2_with fail
                  clear c1
                  go_loopw [93] (fun v93 wr => ∃ i : Nat, i ≤ g.length ∧ v93 = .int .i64 i ∧ Mem none_ w [PlanC b V s', Blk w.heap.size 25 #[.slice GA gn gc, .slice A g.length c]] wr) (fun v _ => g.length - (intOf v).toNat)
                  case atStart => exact ⟨0, Nat.zero_le _, rfl, HM7⟩
                  case round =>
                    clear HM7
                    obtain ⟨i, hi, rfl, HM⟩ := hrel
                    by_cases hlt : i < g.length
                    · have hlt' : decide ((i : Int) < (g.length : Int)) = true := decide_eq_true (by omega)
                      obtain ⟨gb, go, kd, sv, cA, cn, cc, av, im, ph, pr, si, ig, e0, hsv, hav, hcell⟩ := (hG.pure HM.mu).cells hlt
                      cases e0
                      obtain ⟨sA, sc, rfl, sl1, sl2⟩ := Sl.any_ hsv
                      obtain ⟨aA, ac, rfl, al1, al2⟩ := Sl.any_ hav
                      have x0 := hcell 0 _ rfl
                      rw [Nat.add_zero] at x0
                      have x1 := hcell 1 _ rfl
                      have x2 := hcell 2 _ rfl
                      have x3 := hcell 3 _ rfl
                      have x4 := hcell 4 _ rfl
                      have x5 := hcell 5 _ rfl
                      have x6 := hcell 6 _ rfl
                      have x7 := hcell 7 _ rfl
                      have x8 := hcell 8 _ rfl
                      have x9 := hcell 9 _ rfl
                      clear hcell
                      have hbx := hbd _ (List.getElem_mem hlt)
                      have HMx := HM.box #[.string g[i].name, .int .i64 kd, .slice sA g[i].src.length sc, .slice cA cn cc, .slice aA g[i].aft.length ac, .string im, .bool ph, .bool pr, .bool si, .bool ig] 47
                      have hsx := hsv.pure ((Mut.refl (fun _ => False) wr).alloc (.cells #[.string g[i].name, .int .i64 kd, .slice sA g[i].src.length sc, .slice cA cn cc, .slice aA g[i].aft.length ac, .string im, .bool ph, .bool pr, .bool si, .bool ig] 47))
                      have hax := hav.pure ((Mut.refl (fun _ => False) wr).alloc (.cells #[.string g[i].name, .int .i64 kd, .slice sA g[i].src.length sc, .slice cA cn cc, .slice aA g[i].aft.length ac, .string im, .bool ph, .bool pr, .bool si, .bool ig] 47))
                      obtain ⟨F0, FR, F1, F2, F3⟩ := hK'.node (HBt.out.same hK'.same) (by rw [hK'.same.1]; exact Hnl.out) hlt
                      have hSt := State_calls b V s' g[i].name
                      rw [F0] at hSt
                      have hxb : (Blk wr.heap.size 47 #[.string g[i].name, .int .i64 kd, .slice sA g[i].src.length sc, .slice cA cn cc, .slice aA g[i].aft.length ac, .string im, .bool ph, .bool pr, .bool si, .bool ig]).ok (wr.alloc (.cells #[.string g[i].name, .int .i64 kd, .slice sA g[i].src.length sc, .slice cA cn cc, .slice aA g[i].aft.length ac, .string im, .bool ph, .bool pr, .bool si, .bool ig] 47)) := HMx.head
                      have xn : (wr.alloc (.cells #[.string g[i].name, .int .i64 kd, .slice sA g[i].src.length sc, .slice cA cn cc, .slice aA g[i].aft.length ac, .string im, .bool ph, .bool pr, .bool si, .bool ig] 47)).cell? ⟨wr.heap.size, 0, none⟩ = some (.string g[i].name) := by rw [Blk.cell_ hxb]; rfl
                      have xs : (wr.alloc (.cells #[.string g[i].name, .int .i64 kd, .slice sA g[i].src.length sc, .slice cA cn cc, .slice aA g[i].aft.length ac, .string im, .bool ph, .bool pr, .bool si, .bool ig] 47)).cell? ⟨wr.heap.size, 2, none⟩ = some (.slice sA g[i].src.length sc) := by rw [Blk.cell_ hxb]; rfl
                      have xa : (wr.alloc (.cells #[.string g[i].name, .int .i64 kd, .slice sA g[i].src.length sc, .slice cA cn cc, .slice aA g[i].aft.length ac, .string im, .bool ph, .bool pr, .bool si, .bool ig] 47)).cell? ⟨wr.heap.size, 4, none⟩ = some (.slice aA g[i].aft.length ac) := by rw [Blk.cell_ hxb]; rfl
                      have HSt := Lib.hid hSt
                      have hcls : stD s' i = 0 ∨ stD s' i = 4 ∨ (1 ≤ stD s' i ∧ stD s' i ≤ 3) := by omega
                      clear hxb F0 FR hSt hsv hav HM
                      generalize stD s' i = S at *
                      generalize g[i] = x at *
                      unfold maxLen at sl2 al2
                      go_wp2_with fail
                      clear x0 x1 x2 x3 x4 x5 x6 x7 x8 x9
                      generalize hWx : wr.alloc _ = Wx at *
                      clear hWx
                      generalize wr.heap.size = xb at *
                      have hSt := HSt.out Wx (HMx.at_ 1 rfl) hK'.pg
                      refine hSt.mono ?_
                      rintro e w6 ⟨rfl, rfl⟩
                      clear hSt HSt
                      go_wp2_with fail
                      clear xn xs
                      have HMe : Hid (Mem none_ w [PlanC b V s', Blk w.heap.size 25 _] Wx) := Lib.hid (HMx.sel [1, 2] (by decide))
                      go_loop [16, 107] (fun v16 v107 => ∃ j : Nat, j ≤ x.src.length ∧ v107 = .int .i64 j ∧ v16 = .bool (badB s' (x.src.take j))) (fun _ v => x.src.length - (intOf v).toNat)
                      case atStart => exact ⟨0, Nat.zero_le _, rfl, rfl⟩
                      case round =>
                        obtain ⟨j, hj, rfl, rfl⟩ := hrel
                        by_cases hjl : j < x.src.length
                        · have hjl' : decide ((j : Int) < (x.src.length : Int)) = true := decide_eq_true (by omega)
                          clear xa F2 F3 hax
                          obtain ⟨A', c', e7, _, _, _, h4⟩ := id hsx
                          cases e7
                          obtain ⟨sb', so, rfl, hcells⟩ := h4.resolve_left (by omega)
                          have hx0 : Wx.cell? ⟨sb', so + j, none⟩ = some (.string x.src[j]) := hcells j _ (strs_get hjl)
                          have hsucc : badB s' (x.src.take (j + 1)) = (badB s' (x.src.take j) || decide (3 ≤ (stateS s' x.src[j]).1)) := by
                            unfold badB
                            rw [List.take_succ_eq_append_getElem hjl, List.any_append]; simp
                          have Hsucc := Lib.hid hsucc
                          have hT := F1 j hjl
                          have hSt2 := State_calls b V s' x.src[j] Wx (HMx.at_ 1 rfl) hK'.pg
                          clear hcells h4 hsucc
                          generalize stateS s' x.src[j] = T at *
                          obtain ⟨T, T2⟩ := T
                          dsimp only at hT Hsucc hSt2
                          generalize x.src[j] = y at *
                          go_wp2_with fail
                          refine hSt2.mono ?_
                          rintro e w6 ⟨rfl, rfl⟩
                          clear hSt2 hx0
                          obtain ⟨b0, hb0⟩ : ∃ q, badB s' (x.src.take j) = q := ⟨_, rfl⟩
                          rw [hb0] at Hsucc ⊢
                          clear hb0
                          rcases hcls with rfl | rfl | ⟨hS1, hS3⟩
                          · cases b0 with
                            | true =>
                              go_wp2_with fail
                              go_round
                              case rel => exact ⟨j + 1, by omega, by go_num, by rw [Hsucc.out]; rfl⟩
                              case measure => simp [intOf]; omega
                            | false =>
                              go_wp2_with fail
                              go_round
                              case rel => exact ⟨j + 1, by omega, by go_num, by rw [Hsucc.out]; simp⟩
                              case measure => simp [intOf]; omega
                          · cases b0 with
                            | true =>
                              go_wp2_with fail
                              go_round
                              case rel => exact ⟨j + 1, by omega, by go_num, by rw [Hsucc.out]; rfl⟩
                              case measure => simp [intOf]; omega
                            | false =>
                              go_wp2_with fail
                              go_round
                              case rel => exact ⟨j + 1, by omega, by go_num, by rw [Hsucc.out]; simp⟩
                              case measure => simp [intOf]; omega
                          · have hT' := hT hS1 hS3
                            subst hT'
                            have d1 : decide (1 ≤ S) = true := decide_eq_true hS1
                            have d2 : decide (S ≤ 3) = true := decide_eq_true hS3
                            cases b0 with
                            | true =>
                              go_wp2_with fail
                              go_round
                              case rel => exact ⟨j + 1, by omega, by go_num, by rw [Hsucc.out]; rfl⟩
                              case measure => simp [intOf]; omega
                            | false =>
                              go_wp2_with fail
                              go_round
                              case rel => exact ⟨j + 1, by omega, by go_num, by rw [Hsucc.out]; rfl⟩
                              case measure => simp [intOf]; omega
                        · have e : j = x.src.length := by omega
                          subst e
                          rw [List.take_length]
                          generalize badB s' x.src = bq at *
                          clear hsx F1
                          go_wp2_with fail
                          clear xa
                          go_loop [136] (fun v136 => ∃ j : Nat, j ≤ x.aft.length ∧ v136 = .int .i64 j) (fun v => x.aft.length - (intOf v).toNat)
                          case atStart => exact ⟨0, Nat.zero_le _, rfl⟩
                          case round =>
                            obtain ⟨j, hj, rfl⟩ := hrel
                            by_cases hjl : j < x.aft.length
                            · have hjl' : decide ((j : Int) < (x.aft.length : Int)) = true := decide_eq_true (by omega)
                              clear F3
                              obtain ⟨A', c', e7, _, _, _, h4⟩ := id hax
                              cases e7
                              obtain ⟨sb', so, rfl, hcells⟩ := h4.resolve_left (by omega)
                              have hx0 : Wx.cell? ⟨sb', so + j, none⟩ = some (.string x.aft[j]) := hcells j _ (strs_get hjl)
                              have hT := F2 j hjl
                              have hSt2 := State_calls b V s' x.aft[j] Wx (HMx.at_ 1 rfl) hK'.pg
                              clear hcells h4
                              generalize stateS s' x.aft[j] = T at *
                              obtain ⟨T, T2⟩ := T
                              dsimp only at hT hSt2
                              generalize x.aft[j] = y at *
                              go_wp2_with fail
                              refine hSt2.mono ?_
                              rintro e w6 ⟨rfl, rfl⟩
                              clear hSt2 hx0
                              rcases hcls with rfl | rfl | ⟨hS1, hS3⟩
                              · go_wp2_with fail
                                go_round
                                case rel => exact ⟨j + 1, by omega, by go_num⟩
                                case measure => simp [intOf]; omega
                              · go_wp2_with fail
                                go_round
                                case rel => exact ⟨j + 1, by omega, by go_num⟩
                                case measure => simp [intOf]; omega
                              · have hT' := hT hS1 hS3
                                have d1 : decide (1 ≤ S) = true := decide_eq_true hS1
                                have d2 : decide (S ≤ 3) = true := decide_eq_true hS3
                                have d3 : decide (T < 2) = false := decide_eq_false (by omega)
                                go_wp2_with fail
                                go_round
                                case rel => exact ⟨j + 1, by omega, by go_num⟩
                                case measure => simp [intOf]; omega
                            · have e : j = x.aft.length := by omega
                              subst e
                              clear hax F2
                              cases st' with
                              | true =>
                                go_wp2_with fail
                                go_roundw
                                case rel => exact ⟨i + 1, by omega, by go_num, HMe.out⟩
                                case measure => simp [intOf]; omega
                              | false =>
                                have hb := F3 rfl
                                rcases hcls with rfl | rfl | ⟨hS1, hS3⟩
                                · have hb' : bq = false := by rw [hb]; rfl
                                  subst hb'
                                  clear hb F3
                                  go_wp2_with fail
                                  go_roundw
                                  case rel => exact ⟨i + 1, by omega, by go_num, HMe.out⟩
                                  case measure => simp [intOf]; omega
                                · have hb' : bq = true := by rw [hb]; rfl
                                  subst hb'
                                  clear hb F3
                                  go_wp2_with fail
                                  go_roundw
                                  case rel => exact ⟨i + 1, by omega, by go_num, HMe.out⟩
                                  case measure => simp [intOf]; omega
                                · have hb' : bq = false := by rw [hb]; exact decide_eq_false (by omega)
                                  subst hb'
                                  clear hb F3
                                  have d1 : (S == 4) = false := beq_eq_false_iff_ne.2 (by omega)
                                  have d2 : decide (S = 4) = false := decide_eq_false (by omega)
                                  go_wp2_with fail
                                  go_roundw
                                  case rel => exact ⟨i + 1, by omega, by go_num, HMe.out⟩
                                  case measure => simp [intOf]; omega
                    · have e : i = g.length := by omega
                      subst e
                      go_wp2_with fail
                      go_roundw
                      case rel => exact ⟨k + 1, st', s', by omega, by go_num, rfl, hK', HM⟩
                      case measure => simp [intOf]; omega
          · have e : k = m := by omega
            subst e
            go_wp2_with fail
            refine (alive_calls wr).mono ?_
            rintro e w8 ⟨rfl, HMz⟩
            have HMy := (HM.got HMz).sel [] (by decide)
            clear HMz HM
            go_wp2_with fail
            go_ret
            exact ⟨rfl, HMy⟩
end Go.Proofs.Ytcbhdjpigadhmaa
