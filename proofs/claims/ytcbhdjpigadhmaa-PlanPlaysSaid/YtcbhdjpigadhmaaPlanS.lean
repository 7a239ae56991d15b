/-
  The walks of layer 19 (plan): New, Right, and what the statements ask besides.
-/
import Derived.Test.YtcbhdjpigadhmaaPlanM
import Derived.Test.YtcbhdjpigadhmaaPlanN
import Derived.Test.YtcbhdjpigadhmaaPlanF
set_option linter.unusedVariables false
set_option linter.unusedSimpArgs false
namespace Go.Proofs.Ytcbhdjpigadhmaa
open Go.RowKit

theorem ret_bool {a b : Bool} (h : a = b) : Ending.returned (.bool a) = .returned (.bool b) := by rw [h]
theorem New_calls (GV NV : Value) (g : List Nd) (w : World) (hG : Nodes w NV g) (hL : ∀ x, x ∈ g → x.src.length ≤ 1000 ∧ x.aft.length ≤ 1000) (hgl : g.length ≤ 1000000) :
    Calls Try.prog 11 #[.agg #[GV, NV]] w fun e w' => (buildOf g = none → e = .returned (.tuple #[.pointer none, .int .i64 3]) ∧ Mem none_ w [] w') ∧
      (∀ s, buildOf g = some s → ∃ b V, e = .returned (.tuple #[.pointer (some ⟨b, 0, none⟩), .int .i64 0]) ∧ PlanOk s ∧ Mem none_ w [PlanC b V s] w') := by
  have HM0 := (Mem.start (fp := none_) w).box #[GV, NV] 35
  have c0 : (w.alloc (.cells #[GV, NV] 35)).cell? ⟨w.heap.size, 0, none⟩ = some GV := by rw [Blk.cell_ HM0.head]; rfl
  have c1 : (w.alloc (.cells #[GV, NV] 35)).cell? ⟨w.heap.size, 1, none⟩ = some NV := by rw [Blk.cell_ HM0.head]; rfl
  obtain ⟨cells, h0, _⟩ := id hG
  obtain ⟨A, c, rfl, _, _⟩ := Sl.any_ h0
  clear h0
  have hb := build_calls GV _ g _ (hG.pure HM0.mu) hL hgl
  cases hB : buildOf g with
  | none =>
    have HB := Lib.hid hB
    clear hB
    go_enter Try.func11, Try.ntmps11
    go_wp2_with fail
    refine hb.mono ?_
    rintro e w1 ⟨h1, _⟩
    obtain ⟨rfl, HM1⟩ := h1 HB.out
    have HM2 := HM0.got HM1
    clear h1 hb HM0 HM1 c0 c1
    go_wp2
    go_ret2
    exact ⟨fun _ => ⟨rfl, HM2.sel [] (by decide)⟩, fun s h => by cases h⟩
  | some s =>
    have HB := Lib.hid hB
    clear hB
    go_enter Try.func11, Try.ntmps11
    go_wp2_with fail
    refine hb.mono ?_
    rintro e w1 ⟨_, h1⟩
    obtain ⟨b, V, rfl, hO, HM1⟩ := h1 s HB.out
    have HM2 := HM0.got HM1
    have HO := Lib.hid hO
    clear h1 hb HM0 HM1 c0 c1 hO
    go_wp2
    go_ret2
    exact ⟨fun h => by (cases h), fun s' h => by (cases h; exact ⟨b, V, rfl, HO.out, HM2.sel [0] (by decide)⟩)⟩
theorem Right_calls (GV NV : Value) (g : List Nd) (w : World) (hG : Nodes w NV g) (hL : ∀ x, x ∈ g → x.src.length ≤ 1000 ∧ x.aft.length ≤ 1000) (hgl : g.length ≤ 1000000) :
    Calls Try.prog 23 #[.agg #[GV, NV]] w fun e w' => e = .returned (.bool (buildOf g).isSome) ∧ Mem none_ w [] w' := by
  have HM0 := (Mem.start (fp := none_) w).box #[GV, NV] 35
  have c0 : (w.alloc (.cells #[GV, NV] 35)).cell? ⟨w.heap.size, 0, none⟩ = some GV := by rw [Blk.cell_ HM0.head]; rfl
  have c1 : (w.alloc (.cells #[GV, NV] 35)).cell? ⟨w.heap.size, 1, none⟩ = some NV := by rw [Blk.cell_ HM0.head]; rfl
  obtain ⟨cells, h0, _⟩ := id hG
  obtain ⟨A, c, rfl, _, _⟩ := Sl.any_ h0
  clear h0
  have hb := build_calls GV _ g _ (hG.pure HM0.mu) hL hgl
  cases hB : buildOf g with
  | none =>
    have HB := Lib.hid hB
    clear hB
    go_enter Try.func23, Try.ntmps23
    go_wp2_with fail
    refine hb.mono ?_
    rintro e w1 ⟨h1, _⟩
    obtain ⟨rfl, HM1⟩ := h1 HB.out
    have HM2 := HM0.got HM1
    clear h1 hb HM0 HM1 c0 c1
    go_wp2
    go_ret
    exact ⟨rfl, HM2.sel [] (by decide)⟩
  | some s =>
    have HB := Lib.hid hB
    clear hB
    go_enter Try.func23, Try.ntmps23
    go_wp2_with fail
    refine hb.mono ?_
    rintro e w1 ⟨_, h1⟩
    obtain ⟨b, V, rfl, hO, HM1⟩ := h1 s HB.out
    have HM2 := HM0.got HM1
    clear h1 hb HM0 HM1 c0 c1 hO
    go_wp2
    go_ret
    exact ⟨rfl, HM2.sel [] (by decide)⟩

def same (a b : List ByteArray) : Bool := decide (a = b)
theorem same_end {a b : List ByteArray} (hl : a.length = b.length) (h : ∀ j, j < a.length → a[j]? = b[j]?) : same a b = true := by
  refine decide_eq_true (List.ext_getElem? fun j => ?_)
  by_cases hj : j < a.length
  · exact h j hj
  · rw [List.getElem?_eq_none (by omega), List.getElem?_eq_none (by omega)]

set_option maxHeartbeats 1000000 in
theorem same_calls (V U : Value) (l m : List ByteArray) (w : World) (hV : Strs w V l) (hU : Strs w U m) :
    Calls Try.prog 21 #[V, U] w fun e w' => e = .returned (.bool (same l m)) ∧ Mem none_ w [] w' := by
  obtain ⟨A, c, rfl, h1, h2, h3, h4⟩ := hV
  obtain ⟨A', c', rfl, h1', h2', h3', h4'⟩ := hU
  unfold maxLen at h2 h2'
  by_cases hl : l.length = m.length
  · have hl0 : ((l.length : Int) != m.length) = false := by rw [bne_eq_false_iff_eq]; omega
    have hl1 := Lib.hid hl
    clear hl
    go_enter Try.func21, Try.ntmps21
    go_wp2
    go_loopw [5] (fun i wr => ∃ k : Nat, k ≤ l.length ∧ i = .int .i64 k ∧ Hid (∀ j, j < k → l[j]? = m[j]?) ∧ Mem none_ w [] wr) (fun i _ => l.length - (intOf i).toNat)
    case atStart => exact ⟨0, Nat.zero_le _, rfl, fun j hj => by omega, Mem.start _⟩
    case round =>
      obtain ⟨k, hk, rfl, hyes, HM⟩ := hrel
      by_cases hlt : k < l.length
      · have hlt' : k < m.length := by have := hl1.out; omega
        obtain ⟨b, o, rfl, hcells⟩ := h4.resolve_left (by omega)
        obtain ⟨b', o', rfl, hcells'⟩ := h4'.resolve_left (by omega)
        clear h4 h4'
        have hx0 : wr.cell? ⟨b, o + k, none⟩ = some (.string l[k]) := HM.mu.cell (hcells k _ (strs_get hlt)) (fun h => h)
        have hx1 : wr.cell? ⟨b', o' + k, none⟩ = some (.string m[k]) := HM.mu.cell (hcells' k _ (strs_get hlt')) (fun h => h)
        clear hcells hcells'
        by_cases he : l[k] = m[k]
        · have he' : (l[k].toList == m[k].toList) = true := by rw [strEq]; simp [he]
          have hy2 : Hid (∀ j, j < k + 1 → l[j]? = m[j]?) := by
            intro j hj
            by_cases hjk : j = k
            · subst hjk; rw [List.getElem?_eq_getElem hlt, List.getElem?_eq_getElem hlt', he]
            · exact hyes.out j (by omega)
          clear he
          go_wp2
          go_quiet (fail)
          go_wp2
          go_roundw
          case rel => exact ⟨k + 1, by omega, by go_num, hy2, HM.drewN _⟩
          case measure => simp [intOf]; omega
        · have he' : (l[k].toList == m[k].toList) = false := by rw [strEq]; simp [he]
          have HR : Hid (same l m = false) := by
            unfold Hid same
            refine decide_eq_false (fun e => he ?_)
            have := congrArg (fun l => l[k]?) e
            simpa [hlt, hlt'] using this
          clear he
          go_wp2
          go_quiet (fail)
          go_wp2
          go_ret
          exact ⟨ret_bool HR.out.symm, HM.drewN _⟩
      · have HR : Hid (same l m = true) := same_end hl1.out (fun j hj => hyes.out j (by omega))
        go_wp2
        go_ret
        exact ⟨ret_bool HR.out.symm, HM⟩
  · have hl0 : ((l.length : Int) != m.length) = true := by rw [bne_iff_ne]; omega
    have HR : Hid (same l m = false) := decide_eq_false (fun e => hl (by rw [e]))
    clear hl
    go_enter Try.func21, Try.ntmps21
    go_wp2
    go_ret
    exact ⟨ret_bool HR.out.symm, Mem.start _⟩


/-- How many edges the first k nodes have, each counted up to 1000. -/
def farN (g : List Nd) : Nat → Nat
  | 0 => 0
  | k + 1 => farN g k + min ((g.getD k ⟨⟨#[]⟩, [], []⟩).src.length + (g.getD k ⟨⟨#[]⟩, [], []⟩).aft.length) 1000
def farG (g : List Nd) : Bool := (decide (40 < g.length) && decide (g.length < 510)) || decide (400 < farN g (min g.length 600)) || decide (515 < g.length)
theorem farN_le (g : List Nd) : ∀ k, farN g k ≤ 1000 * k
  | 0 => Nat.le_refl _
  | k + 1 => by have := farN_le g k; unfold farN; omega
theorem farN_mono (g : List Nd) : ∀ (d k : Nat), farN g k ≤ farN g (k + d)
  | 0, k => Nat.le_refl _
  | d + 1, k => by have := farN_mono g d k; rw [show k + (d + 1) = (k + d) + 1 from rfl, farN]; omega
theorem farG_bounds {g : List Nd} (h : farG g = false) : g.length ≤ 515 ∧ ∀ x, x ∈ g → x.src.length ≤ 1000 ∧ x.aft.length ≤ 1000 := by
  simp only [farG, Bool.or_eq_false_iff, decide_eq_false_iff_not] at h
  obtain ⟨⟨_, h2⟩, h3⟩ := h
  refine ⟨by omega, fun x hx => ?_⟩
  obtain ⟨i, hi, rfl⟩ := List.getElem_of_mem hx
  have h4 := farN_mono g (min g.length 600 - (i + 1)) (i + 1)
  rw [show i + 1 + (min g.length 600 - (i + 1)) = min g.length 600 from by omega] at h4
  have e : g.getD i ⟨⟨#[]⟩, [], []⟩ = g[i] := by rw [List.getD_eq_getElem?_getD, List.getElem?_eq_getElem hi]; rfl
  rw [farN, e] at h4
  omega

set_option maxHeartbeats 2000000 in
theorem far_calls (GV NV : Value) (g : List Nd) (w : World) (hG : Nodes w NV g) (hbnd : ∀ x, x ∈ g → x.src.length ≤ 10000000000000 ∧ x.aft.length ≤ 10000000000000) :
    Calls Try.prog 9 #[.agg #[GV, NV]] w fun e w' => e = .returned (.bool (farG g)) ∧ Mem none_ w [] w' := by
  obtain ⟨A, c, rfl, nn1, nn2⟩ : ∃ A c, NV = .slice A g.length c ∧ g.length ≤ c ∧ c ≤ maxLen := by
    obtain ⟨cells, h, _⟩ := hG
    exact Sl.any_ h
  unfold maxLen at nn2
  have HM0 := (Mem.start (fp := none_) w).box #[GV, .slice A g.length c] 25
  have c1 : (w.alloc (.cells #[GV, .slice A g.length c] 25)).cell? ⟨w.heap.size, 1, none⟩ = some (.slice A g.length c) := by rw [Blk.cell_ HM0.head]; rfl
  by_cases hbig : g.length ≤ 600
  · have hb2 : (g.length : Int) ≤ 600 := by omega
    go_enter Try.func9, Try.ntmps9
    go_wp2
    go_loopw [3, 14] (fun v3 v14 wr => ∃ k : Nat, k ≤ g.length ∧ v14 = .int .i64 k ∧ v3 = .int .i64 (farN g k) ∧ Mem none_ w [Blk w.heap.size 25 #[GV, .slice A g.length c]] wr) (fun _ i _ => g.length - (intOf i).toNat)
    case atStart => exact ⟨0, Nat.zero_le _, rfl, rfl, HM0⟩
    case round =>
      clear HM0 c1
      obtain ⟨k, hk, rfl, rfl, HM⟩ := hrel
      have hfl := farN_le g k
      by_cases hlt : k < g.length
      · have hkg : k < g.length := by omega
        have hlt' : decide ((k : Int) < (g.length : Int)) = true := decide_eq_true (by omega)
        obtain ⟨gb, go, kd, sv, cA, cn, cc, av, im, ph, pr, si, ig, rfl, hsv, hav, hcell⟩ := (hG.pure HM.mu).cells hkg
        obtain ⟨sA, sc, rfl, sl1, sl2⟩ := Sl.any_ hsv
        obtain ⟨aA, ac, rfl, al1, al2⟩ := Sl.any_ hav
        have x0 := hcell 0 _ rfl
        rw [Nat.add_zero] at x0
        have x1 := hcell 1 _ rfl
        have x2 := hcell 2 _ rfl
        have x3 := hcell 3 _ rfl
        have x4 := hcell 4 _ rfl
        have x5 := hcell 5 _ rfl
        have x6 := hcell 6 _ rfl
        have x7 := hcell 7 _ rfl
        have x8 := hcell 8 _ rfl
        have x9 := hcell 9 _ rfl
        have hF : farN g (k + 1) = farN g k + min (g[k].src.length + g[k].aft.length) 1000 := by
          rw [farN, List.getD_eq_getElem?_getD, List.getElem?_eq_getElem hkg]; rfl
        have HF := Lib.hid hF
        have HMx := HM.box #[.string g[k].name, .int .i64 kd, .slice sA g[k].src.length sc, .slice cA cn cc, .slice aA g[k].aft.length ac, .string im, .bool ph, .bool pr, .bool si, .bool ig] 47
        unfold maxLen at sl2 al2
        have hbx := hbnd _ (List.getElem_mem hkg)
        clear hcell hF hsv hav HM
        generalize g[k] = x at *
        generalize farN g k = fk at *
        by_cases hm : x.src.length + x.aft.length ≤ 1000
        · rw [Nat.min_eq_left hm] at HF
          have hw1 : IntKind.i64.wrap ((x.src.length : Int) + (x.aft.length : Int)) = (x.src.length : Int) + (x.aft.length : Int) := IntWalk.i64_in _ (by omega)
          have hm2 : (x.src.length : Int) + (x.aft.length : Int) ≤ 1000 := by omega
          go_wp2
          go_roundw
          case rel => exact ⟨k + 1, by omega, by go_num, by rw [HF.out]; first | go_num | (simp only [Int.natCast_add]; first | rfl | (congr 1; omega)), HMx.sel [1] (by decide)⟩
          case measure => simp [intOf]; omega
        · rw [Nat.min_eq_right (by omega)] at HF
          have hw1 : IntKind.i64.wrap ((x.src.length : Int) + (x.aft.length : Int)) = (x.src.length : Int) + (x.aft.length : Int) := IntWalk.i64_in _ (by omega)
          have hm2 : 1000 < (x.src.length : Int) + (x.aft.length : Int) := by omega
          go_wp2
          go_roundw
          case rel => exact ⟨k + 1, by omega, by go_num, by rw [HF.out]; first | go_num | (simp only [Int.natCast_add]; first | rfl | (congr 1; omega)), HMx.sel [1] (by decide)⟩
          case measure => simp [intOf]; omega
      · have e : k = g.length := by omega
        subst e
        have c1 : wr.cell? ⟨w.heap.size, 1, none⟩ = some (.slice A g.length c) := by rw [Blk.cell_ HM.head]; rfl
        have hR : farG g = ((decide (40 < (g.length : Int)) && decide ((g.length : Int) < 510)) || decide (400 < (farN g g.length : Int)) || decide (515 < (g.length : Int))) := by
          unfold farG
          rw [Nat.min_eq_left hbig]
          rw [show decide (40 < (g.length : Int)) = decide (40 < g.length) from decide_eq_decide.2 (by omega), show decide ((g.length : Int) < 510) = decide (g.length < 510) from decide_eq_decide.2 (by omega), show decide (400 < (farN g g.length : Int)) = decide (400 < farN g g.length) from decide_eq_decide.2 (by omega), show decide (515 < (g.length : Int)) = decide (515 < g.length) from decide_eq_decide.2 (by omega)]
        have HR := Lib.hid hR
        clear hR
        generalize farN g g.length = fk at *
        have h1 := HR.out
        clear HR hlt hk hb2 hbig
        have key : ∀ r, ((decide (40 < (g.length : Int)) && decide ((g.length : Int) < 510)) || decide (400 < (fk : Int)) || decide (515 < (g.length : Int))) = r → Hid (farG g = r) := fun r h => Lib.hid (h1.trans h)
        clear h1
        by_cases r1 : 40 < g.length
        · have hq1 : decide (40 < (g.length : Int)) = true := decide_eq_true (by omega)
          by_cases r2 : g.length < 510
          · have hq2 : decide ((g.length : Int) < 510) = true := decide_eq_true (by omega)
            have HR := key true (by simp [hq1, hq2])
            clear key
            go_wp2
            go_ret
            exact ⟨ret_bool HR.out.symm, HM.sel [] (by decide)⟩
          · have hq2 : decide ((g.length : Int) < 510) = false := decide_eq_false (by omega)
            by_cases r3 : 400 < fk
            · have hq3 : decide (400 < (fk : Int)) = true := decide_eq_true (by omega)
              have HR := key true (by simp [hq3])
              clear key
              go_wp2
              go_ret
              exact ⟨ret_bool HR.out.symm, HM.sel [] (by decide)⟩
            · have hq3 : decide (400 < (fk : Int)) = false := decide_eq_false (by omega)
              by_cases r4 : 515 < g.length
              · have hq4 : decide (515 < (g.length : Int)) = true := decide_eq_true (by omega)
                have HR := key true (by simp [hq4])
                clear key
                go_wp2
                go_ret
                exact ⟨ret_bool HR.out.symm, HM.sel [] (by decide)⟩
              · have hq4 : decide (515 < (g.length : Int)) = false := decide_eq_false (by omega)
                have HR := key false (by simp [hq2, hq3, hq4])
                clear key
                go_wp2
                go_ret
                exact ⟨ret_bool HR.out.symm, HM.sel [] (by decide)⟩
        · have hq1 : decide (40 < (g.length : Int)) = false := decide_eq_false (by omega)
          have hq4 : decide (515 < (g.length : Int)) = false := decide_eq_false (by omega)
          by_cases r3 : 400 < fk
          · have hq3 : decide (400 < (fk : Int)) = true := decide_eq_true (by omega)
            have HR := key true (by simp [hq3])
            clear key
            go_wp2
            go_ret
            exact ⟨ret_bool HR.out.symm, HM.sel [] (by decide)⟩
          · have hq3 : decide (400 < (fk : Int)) = false := decide_eq_false (by omega)
            have HR := key false (by simp [hq1, hq3, hq4])
            clear key
            go_wp2
            go_ret
            exact ⟨ret_bool HR.out.symm, HM.sel [] (by decide)⟩
  · have hb2 : 600 < (g.length : Int) := by omega
    go_enter Try.func9, Try.ntmps9
    go_wp2
    go_loopw [3, 14] (fun v3 v14 wr => ∃ k : Nat, k ≤ 600 ∧ v14 = .int .i64 k ∧ v3 = .int .i64 (farN g k) ∧ Mem none_ w [Blk w.heap.size 25 #[GV, .slice A g.length c]] wr) (fun _ i _ => 600 - (intOf i).toNat)
    case atStart => exact ⟨0, Nat.zero_le _, rfl, rfl, HM0⟩
    case round =>
      clear HM0 c1
      obtain ⟨k, hk, rfl, rfl, HM⟩ := hrel
      have hfl := farN_le g k
      by_cases hlt : k < 600
      · have hkg : k < g.length := by omega
        have hlt' : decide ((k : Int) < (600 : Int)) = true := decide_eq_true (by omega)
        obtain ⟨gb, go, kd, sv, cA, cn, cc, av, im, ph, pr, si, ig, rfl, hsv, hav, hcell⟩ := (hG.pure HM.mu).cells hkg
        obtain ⟨sA, sc, rfl, sl1, sl2⟩ := Sl.any_ hsv
        obtain ⟨aA, ac, rfl, al1, al2⟩ := Sl.any_ hav
        have x0 := hcell 0 _ rfl
        rw [Nat.add_zero] at x0
        have x1 := hcell 1 _ rfl
        have x2 := hcell 2 _ rfl
        have x3 := hcell 3 _ rfl
        have x4 := hcell 4 _ rfl
        have x5 := hcell 5 _ rfl
        have x6 := hcell 6 _ rfl
        have x7 := hcell 7 _ rfl
        have x8 := hcell 8 _ rfl
        have x9 := hcell 9 _ rfl
        have hF : farN g (k + 1) = farN g k + min (g[k].src.length + g[k].aft.length) 1000 := by
          rw [farN, List.getD_eq_getElem?_getD, List.getElem?_eq_getElem hkg]; rfl
        have HF := Lib.hid hF
        have HMx := HM.box #[.string g[k].name, .int .i64 kd, .slice sA g[k].src.length sc, .slice cA cn cc, .slice aA g[k].aft.length ac, .string im, .bool ph, .bool pr, .bool si, .bool ig] 47
        unfold maxLen at sl2 al2
        have hbx := hbnd _ (List.getElem_mem hkg)
        clear hcell hF hsv hav HM
        generalize g[k] = x at *
        generalize farN g k = fk at *
        by_cases hm : x.src.length + x.aft.length ≤ 1000
        · rw [Nat.min_eq_left hm] at HF
          have hw1 : IntKind.i64.wrap ((x.src.length : Int) + (x.aft.length : Int)) = (x.src.length : Int) + (x.aft.length : Int) := IntWalk.i64_in _ (by omega)
          have hm2 : (x.src.length : Int) + (x.aft.length : Int) ≤ 1000 := by omega
          go_wp2
          go_roundw
          case rel => exact ⟨k + 1, by omega, by go_num, by rw [HF.out]; first | go_num | (simp only [Int.natCast_add]; first | rfl | (congr 1; omega)), HMx.sel [1] (by decide)⟩
          case measure => simp [intOf]; omega
        · rw [Nat.min_eq_right (by omega)] at HF
          have hw1 : IntKind.i64.wrap ((x.src.length : Int) + (x.aft.length : Int)) = (x.src.length : Int) + (x.aft.length : Int) := IntWalk.i64_in _ (by omega)
          have hm2 : 1000 < (x.src.length : Int) + (x.aft.length : Int) := by omega
          go_wp2
          go_roundw
          case rel => exact ⟨k + 1, by omega, by go_num, by rw [HF.out]; first | go_num | (simp only [Int.natCast_add]; first | rfl | (congr 1; omega)), HMx.sel [1] (by decide)⟩
          case measure => simp [intOf]; omega
      · have e : k = 600 := by omega
        subst e
        have c1 : wr.cell? ⟨w.heap.size, 1, none⟩ = some (.slice A g.length c) := by rw [Blk.cell_ HM.head]; rfl
        have hR : farG g = true := by
          unfold farG
          rw [Bool.or_eq_true]; exact .inr (decide_eq_true (by omega))
        have HR := Lib.hid hR
        clear hR
        have hq1 : decide (40 < (g.length : Int)) = true := decide_eq_true (by omega)
        have hq2 : decide ((g.length : Int) < 510) = false := decide_eq_false (by omega)
        have hq4 : decide (515 < (g.length : Int)) = true := decide_eq_true (by omega)
        generalize farN g 600 = fk at *
        generalize hq3 : decide (400 < (fk : Int)) = q3 at *
        clear hlt hk hbig
        cases q3
        all_goals
          go_wp2
          go_ret
          exact ⟨ret_bool HR.out.symm, HM.sel [] (by decide)⟩
end Go.Proofs.Ytcbhdjpigadhmaa
