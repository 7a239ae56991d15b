/-
  The walks of the reference of layer 19: names, of, ready.
-/
import Derived.Test.YtcbhdjpigadhmaaRefA
set_option linter.unusedVariables false
set_option linter.unusedSimpArgs false
namespace Go.Proofs.Ytcbhdjpigadhmaa
open Go.RowKit

/-- The block of a reference's plan. -/
abbrev RefB (b : Nat) (GV NV LV SV : Value) : Chunk := Blk b 68 #[GV, NV, LV, SV]
/-- A name's state. -/
def stR (names : List ByteArray) (l : List Int) (x : ByteArray) : Int := l.getD (atR names x).toNat 0

set_option maxHeartbeats 1000000 in
theorem of_calls (b : Nat) (GV NV LV SV : Value) (names : List ByteArray) (l : List Int) (x : ByteArray) (w : World) (hB : (RefB b GV NV LV SV).ok w) (hL : Strs w LV names) (hS : (IRow SV l).ok w) (hn : names.length ≤ 1000000) (hl : names.length ≤ l.length) (hl2 : l.length ≤ 1000000) (hx : x ∈ names) :
    Calls Try.prog 42 #[.pointer (some ⟨b, 0, none⟩), .string x] w fun e w' => e = .returned (.int .i64 (stR names l x)) ∧ w' = w.drew := by
  have hdr : Pure w w.drew := (Mut.refl _ _).drew
  have hAt := at_calls LV names x w.drew (hL.pure hdr) hn
  unfold stR
  rcases atR_cases names x with ⟨k, h1, _, h3⟩ | ⟨h1, _⟩
  · have hk : k < names.length := (List.getElem?_eq_some_iff.1 h1).1
    have hkl : k < l.length := by omega
    rw [h3] at hAt ⊢
    rw [Int.toNat_natCast]
    obtain ⟨sb, sc, rfl, nS1, nS2⟩ := Row.at_ hS (by omega)
    obtain ⟨LA, lc, rfl, nL1, nL2⟩ := Sl.any_ hL
    unfold maxLen at nS2 nL2
    have y1 := IRow.cell (Pure.chunk hdr hS) rfl hkl
    have hxs : l[k] = l.getD k 0 := by rw [List.getD_eq_getElem?_getD, List.getElem?_eq_getElem hkl]; rfl
    rw [hxs] at y1
    have hBd := Pure.chunk hdr hB
    have c1 : w.drew.cell? ⟨b, 2, none⟩ = some (.slice LA names.length lc) := by rw [Blk.cell_ hBd]; rfl
    have c2 : w.drew.cell? ⟨b, 3, none⟩ = some (.slice (some ⟨sb, 0, none⟩) l.length sc) := by rw [Blk.cell_ hBd]; rfl
    clear hxs h1 h3 hBd hB hL hS hx hdr
    generalize l.getD k 0 = y at *
    go_enter Try.func42, Try.ntmps42
    go_wp2_with fail
    refine wp_plan [] (S := fun w' => w' = World.drew w) [(.pure, 0), (.pure, 1), (.pure, 2), (.load, 3), (.pure, 4), (.pure, 5), (.pure, 6), (.load, 7), (.pure, 8), (.eff, 9), (.pure, 10), (.load, 11), (.pure, 12)] (by kernel_rfl) rfl (by kernel_rfl) rfl (fun _ _ _ _ _ h => h) rfl ?_
    generalize hW : World.drew w = W at *
    repeat (first | (refine plan_pure (v := ?_) (a' := ?_) rfl rfl rfl ?_ ?_ ?_; rotate_left 2; (focus (intro w'; go_simp; with_reducible rfl)); (focus (simp only [Act.put, List.setIfInBounds_toArray, List.set_cons_zero, List.set_cons_succ]; rfl))) | (refine plan_load (v := ?_) (a' := ?_) rfl rfl rfl ?_ ?_ ?_; rotate_left 2; (focus (intro w' hw'; rw [hw']; go_simp; with_reducible rfl)); (focus (simp only [Act.put, List.setIfInBounds_toArray, List.set_cons_zero, List.set_cons_succ]; rfl))) | (refine plan_skip rfl rfl (by decide +kernel) (by simp only [Act.put, List.setIfInBounds_toArray, List.set_cons_zero, List.set_cons_succ]; rfl) ?_))
    refine plan_eff rfl (fun K hK => ?_)
    go_wp2_with fail
    refine hAt.mono ?_
    rintro e w' ⟨rfl, rfl⟩
    go_wp2_with fail
    refine hK _ _ rfl ?_
    repeat (first | (refine plan_pure (v := ?_) (a' := ?_) rfl rfl rfl ?_ ?_ ?_; rotate_left 2; (focus (intro w'; go_simp; with_reducible rfl)); (focus (simp only [Act.put, List.setIfInBounds_toArray, List.set_cons_zero, List.set_cons_succ]; rfl))) | (refine plan_load (v := ?_) (a' := ?_) rfl rfl rfl ?_ ?_ ?_; rotate_left 2; (focus (intro w' hw'; rw [hw']; go_simp; with_reducible rfl)); (focus (simp only [Act.put, List.setIfInBounds_toArray, List.set_cons_zero, List.set_cons_succ]; rfl))) | (refine plan_skip rfl rfl (by decide +kernel) (by simp only [Act.put, List.setIfInBounds_toArray, List.set_cons_zero, List.set_cons_succ]; rfl) ?_))
    refine plan_done ?_
    go_wp2_with fail
    go_ret
    exact ⟨rfl, hW.symm⟩
  · obtain ⟨j, hj⟩ := List.getElem?_of_mem hx
    exact absurd hj (h1 j)

def namesG (g : List Nd) : List ByteArray := g.map (·.name)
set_option maxHeartbeats 4000000 in
theorem names_calls (GV NV : Value) (g : List Nd) (w : World) (hG : Nodes w NV g) (hb : g.length ≤ 1000000) :
    Calls Try.prog 38 #[.agg #[GV, NV]] w fun e w' => ∃ v, e = .returned v ∧ Mem none_ w [StrRow v (namesG g)] w' := by
  obtain ⟨A, c, rfl, nn1, nn2⟩ : ∃ A c, NV = .slice A g.length c ∧ g.length ≤ c ∧ c ≤ maxLen := by
    obtain ⟨cells, h, _⟩ := hG
    exact Sl.any_ h
  unfold maxLen at nn2
  have HM0 := ((Mem.start (fp := none_) w).box #[GV, .slice A g.length c] 25).nilS
  go_enter Try.func38, Try.ntmps38
  go_wp2_with fail
  go_loopw [3, 4] (fun v3 v4 wr => ∃ k : Nat, k ≤ g.length ∧ v4 = .int .i64 k ∧ Mem none_ w [StrRow v3 ((namesG g).take k), Blk w.heap.size 25 #[GV, .slice A g.length c]] wr) (fun _ i _ => g.length - (intOf i).toNat)
  case atStart => exact ⟨0, Nat.zero_le _, rfl, HM0⟩
  case round =>
    clear HM0
    obtain ⟨k, hk, rfl, HM⟩ := hrel
    have hgb : (Blk w.heap.size 25 #[GV, .slice A g.length c]).ok wr := HM.at_ 1 rfl
    have c1 : wr.cell? ⟨w.heap.size, 1, none⟩ = some (.slice A g.length c) := by rw [Blk.cell_ hgb]; rfl
    clear hgb
    by_cases hlt : k < g.length
    · have hlt' : decide ((k : Int) < (g.length : Int)) = true := decide_eq_true (by omega)
      obtain ⟨gb, go, kd, sv, cA, cn, cc, av, im, ph, pr, si, ig, e0, hsv, hav, hcell⟩ := (hG.pure HM.mu).cells hlt
      cases e0
      have x0 := hcell 0 _ rfl
      rw [Nat.add_zero] at x0
      have hS : (namesG g).take (k + 1) = (namesG g).take k ++ [g[k].name] := by
        rw [List.take_succ_eq_append_getElem (by unfold namesG; rw [List.length_map]; exact hlt)]
        unfold namesG; rw [List.getElem_map]
      have hln : ((namesG g).take k).length ≤ 1000000 := by rw [List.length_take]; omega
      have HS := Lib.hid hS
      clear hcell hS hsv hav
      generalize g[k].name = x at *
      generalize (namesG g).take k = L at *
      go_wp2_with (at_builtin; refine wpList_appS strE rfl _ _ rfl HM rfl x _ rfl ?hnb ?hb ?_; (case hnb => simp); (case hb => omega); intro v' w' HM3 HU3)
      rw [← HS.out] at HM3
      go_roundw
      case rel => exact ⟨k + 1, by omega, by go_num, HM3⟩
      case measure => simp [intOf]; omega
    · have e : k = g.length := by omega
      subst e
      have e2 : (namesG g).take g.length = namesG g := by rw [List.take_of_length_le]; unfold namesG; rw [List.length_map]; omega
      rw [e2] at HM
      clear e2
      go_wp2
      go_ret
      exact ⟨_, rfl, HM.sel [0] (by decide)⟩

def rready (names : List ByteArray) (l : List Int) (x : Nd) (i : Nat) : Bool :=
  decide (l.getD i 0 = 0) && (x.src.all (fun y => decide (stR names l y = 2)) && x.aft.all (fun y => decide (2 ≤ stR names l y)))

set_option maxHeartbeats 4000000 in
theorem rready_calls (b : Nat) (GV NV LV SV : Value) (g : List Nd) (names : List ByteArray) (l : List Int) (i : Nat) (w : World) (hB : (RefB b GV NV LV SV).ok w) (hN : Nodes w NV g) (hL : Strs w LV names) (hS : (IRow SV l).ok w) (hnb : names.length ≤ 1000000) (hln : names.length ≤ l.length) (hlb : l.length ≤ 1000000) (hi : i < g.length) (hil : i < l.length)
    (hbx : g[i].src.length ≤ 1000 ∧ g[i].aft.length ≤ 1000) (hms : ∀ y, y ∈ g[i].src → y ∈ names) (hma : ∀ y, y ∈ g[i].aft → y ∈ names) :
    Calls Try.prog 41 #[.pointer (some ⟨b, 0, none⟩), .int .i64 i] w fun e w' => e = .returned (.bool (rready names l g[i] i)) ∧ Mem none_ w [] w' := by
  obtain ⟨NA, nc, rfl, nn1, nn2⟩ : ∃ A c, NV = .slice A g.length c ∧ g.length ≤ c ∧ c ≤ maxLen := by
    obtain ⟨cells, h, _⟩ := hN
    exact Sl.any_ h
  unfold maxLen at nn2
  obtain ⟨gb, go, kd, sv, cA, cn, cc, av, im, ph, pr, si, ig, e0, hsv, hav, hcell⟩ := hN.cells hi
  cases e0
  obtain ⟨sA, sc, rfl, sl1, sl2⟩ := Sl.any_ hsv
  obtain ⟨aA, ac, rfl, al1, al2⟩ := Sl.any_ hav
  have x0 := hcell 0 _ rfl
  rw [Nat.add_zero] at x0
  have x1 := hcell 1 _ rfl
  have x2 := hcell 2 _ rfl
  have x3 := hcell 3 _ rfl
  have x4 := hcell 4 _ rfl
  have x5 := hcell 5 _ rfl
  have x6 := hcell 6 _ rfl
  have x7 := hcell 7 _ rfl
  have x8 := hcell 8 _ rfl
  have x9 := hcell 9 _ rfl
  clear hcell hN
  have hi0 : (i : Int) < (g.length : Int) := by omega
  have hi1 : (i : Int) < (l.length : Int) := by omega
  obtain ⟨sb, scp, rfl, nS1, nS2⟩ := Row.at_ hS (by omega)
  have y1 := IRow.cell hS rfl hil
  have hxs : l[i] = l.getD i 0 := by rw [List.getD_eq_getElem?_getD, List.getElem?_eq_getElem hil]; rfl
  rw [hxs] at y1
  have c1 : w.cell? ⟨b, 3, none⟩ = some (.slice (some ⟨sb, 0, none⟩) l.length scp) := by rw [Blk.cell_ hB]; rfl
  have c2 : w.cell? ⟨b, 1, none⟩ = some (.slice (some ⟨gb, go, none⟩) g.length nc) := by rw [Blk.cell_ hB]; rfl
  unfold maxLen at nS2 sl2 al2
  have HM0 := (Mem.start (fp := none_) w).box #[.string g[i].name, .int .i64 kd, .slice sA g[i].src.length sc, .slice cA cn cc, .slice aA g[i].aft.length ac, .string im, .bool ph, .bool pr, .bool si, .bool ig] 47
  by_cases hz : l.getD i 0 = 0
  · rw [hz] at y1
    have Hz := Lib.hid hz
    clear hz hxs
    generalize g[i] = x at *
    go_enter Try.func41, Try.ntmps41
    go_wp2_with fail
    clear x0 x1 x2 x3 x4 x5 x6 x7 x8 x9 c1 c2 y1
    obtain ⟨xb, hxbn⟩ : ∃ q, w.heap.size = q := ⟨_, rfl⟩
    have HMx : Mem none_ w [Blk xb 47 #[.string x.name, .int .i64 kd, .slice sA x.src.length sc, .slice cA cn cc, .slice aA x.aft.length ac, .string im, .bool ph, .bool pr, .bool si, .bool ig]] _ := hxbn ▸ HM0
    clear HM0
    rw [hxbn]
    clear hxbn
    generalize w.alloc _ = Wx at *
    go_loopw [6] (fun v6 wr => ∃ j : Nat, j ≤ x.src.length ∧ v6 = .int .i64 j ∧ Hid ((x.src.take j).all (fun y => decide (stR names l y = 2)) = true) ∧ Mem none_ w [Blk xb 47 #[.string x.name, .int .i64 kd, .slice sA x.src.length sc, .slice cA cn cc, .slice aA x.aft.length ac, .string im, .bool ph, .bool pr, .bool si, .bool ig]] wr) (fun i _ => x.src.length - (intOf i).toNat)
    case atStart => exact ⟨0, Nat.zero_le _, rfl, rfl, HMx⟩
    case round =>
      clear HMx
      obtain ⟨j, hj, rfl, hall, HM⟩ := hrel
      have hxb : (Blk xb 47 #[.string x.name, .int .i64 kd, .slice sA x.src.length sc, .slice cA cn cc, .slice aA x.aft.length ac, .string im, .bool ph, .bool pr, .bool si, .bool ig]).ok wr := HM.at_ 0 rfl
      have xs : wr.cell? ⟨xb, 2, none⟩ = some (.slice sA x.src.length sc) := by rw [Blk.cell_ hxb]; rfl
      clear hxb
      by_cases hjl : j < x.src.length
      · have hjl' : decide ((j : Int) < (x.src.length : Int)) = true := decide_eq_true (by omega)
        obtain ⟨A', c', e7, _, _, _, h4⟩ := hsv.pure HM.mu
        cases e7
        obtain ⟨sb', so, rfl, hcells⟩ := h4.resolve_left (by omega)
        have hx0 : wr.cell? ⟨sb', so + j, none⟩ = some (.string x.src[j]) := hcells j _ (strs_get hjl)
        have hof := of_calls b _ _ _ _ names l x.src[j] wr (Pure.chunk HM.mu hB) (hL.pure HM.mu) (Pure.chunk HM.mu hS) hnb hln hlb (hms _ (List.getElem_mem hjl))
        have hsu : (x.src.take (j + 1)).all (fun y => decide (stR names l y = 2)) = ((x.src.take j).all (fun y => decide (stR names l y = 2)) && decide (stR names l x.src[j] = 2)) := by
          rw [List.take_succ_eq_append_getElem hjl, List.all_append]; simp
        rw [hall.out, Bool.true_and] at hsu
        by_cases hT : stR names l x.src[j] = 2
        · rw [decide_eq_true hT] at hsu
          have Hsu := Lib.hid hsu
          clear hsu hcells h4
          generalize stR names l x.src[j] = T at *
          generalize x.src[j] = y at *
          subst hT
          go_wp2_with fail
          refine hof.mono ?_
          rintro e w6 ⟨rfl, rfl⟩
          clear hof hx0
          have HMd := HM.drew
          clear HM xs
          go_wp2_with fail
          go_roundw
          case rel => exact ⟨j + 1, by omega, by go_num, Hsu, HMd⟩
          case measure => simp [intOf]; omega
        · have HR : Hid (rready names l x i = false) := by
            unfold Hid rready
            have h1 : x.src.all (fun y => decide (stR names l y = 2)) = false := by
              rw [List.all_eq_false]
              exact ⟨x.src[j], List.getElem_mem hjl, by simpa using hT⟩
            rw [h1]; simp
          clear hsu hcells h4
          generalize stR names l x.src[j] = T at *
          generalize x.src[j] = y at *
          have d1 : (T == 2) = false := beq_eq_false_iff_ne.2 hT
          have d2 : decide (T = 2) = false := decide_eq_false hT
          go_wp2_with fail
          refine hof.mono ?_
          rintro e w6 ⟨rfl, rfl⟩
          clear hof hx0
          have HMd := HM.drew
          clear HM xs
          go_wp2_with fail
          go_ret
          exact ⟨by rw [HR.out]; rfl, HMd.sel [] (by decide)⟩
      · have e : j = x.src.length := by omega
        subst e
        rw [List.take_length] at hall
        have HMx := HM
        clear HM
        go_wp2_with fail
        clear xs
        go_loopw [7] (fun v7 wr => ∃ j : Nat, j ≤ x.aft.length ∧ v7 = .int .i64 j ∧ Hid ((x.aft.take j).all (fun y => decide (2 ≤ stR names l y)) = true) ∧ Mem none_ w [Blk xb 47 #[.string x.name, .int .i64 kd, .slice sA x.src.length sc, .slice cA cn cc, .slice aA x.aft.length ac, .string im, .bool ph, .bool pr, .bool si, .bool ig]] wr) (fun i _ => x.aft.length - (intOf i).toNat)
        case atStart => exact ⟨0, Nat.zero_le _, rfl, rfl, HMx⟩
        case round =>
          clear HMx
          obtain ⟨j, hj, rfl, hall2, HM⟩ := hrel
          have hxb : (Blk xb 47 #[.string x.name, .int .i64 kd, .slice sA x.src.length sc, .slice cA cn cc, .slice aA x.aft.length ac, .string im, .bool ph, .bool pr, .bool si, .bool ig]).ok wr := HM.at_ 0 rfl
          have xs : wr.cell? ⟨xb, 4, none⟩ = some (.slice aA x.aft.length ac) := by rw [Blk.cell_ hxb]; rfl
          clear hxb
          by_cases hjl : j < x.aft.length
          · have hjl' : decide ((j : Int) < (x.aft.length : Int)) = true := decide_eq_true (by omega)
            obtain ⟨A', c', e7, _, _, _, h4⟩ := hav.pure HM.mu
            cases e7
            obtain ⟨sb', so, rfl, hcells⟩ := h4.resolve_left (by omega)
            have hx0 : wr.cell? ⟨sb', so + j, none⟩ = some (.string x.aft[j]) := hcells j _ (strs_get hjl)
            have hof := of_calls b _ _ _ _ names l x.aft[j] wr (Pure.chunk HM.mu hB) (hL.pure HM.mu) (Pure.chunk HM.mu hS) hnb hln hlb (hma _ (List.getElem_mem hjl))
            have hsu : (x.aft.take (j + 1)).all (fun y => decide (2 ≤ stR names l y)) = ((x.aft.take j).all (fun y => decide (2 ≤ stR names l y)) && decide (2 ≤ stR names l x.aft[j])) := by
              rw [List.take_succ_eq_append_getElem hjl, List.all_append]; simp
            rw [hall2.out, Bool.true_and] at hsu
            by_cases hT : 2 ≤ stR names l x.aft[j]
            · rw [decide_eq_true hT] at hsu
              have Hsu := Lib.hid hsu
              clear hsu hcells h4
              generalize stR names l x.aft[j] = T at *
              generalize x.aft[j] = y at *
              have d1 : decide (T < 2) = false := decide_eq_false (by omega)
              go_wp2_with fail
              refine hof.mono ?_
              rintro e w6 ⟨rfl, rfl⟩
              clear hof hx0
              have HMd := HM.drew
              clear HM xs
              go_wp2_with fail
              go_roundw
              case rel => exact ⟨j + 1, by omega, by go_num, Hsu, HMd⟩
              case measure => simp [intOf]; omega
            · have HR : Hid (rready names l x i = false) := by
                unfold Hid rready
                have h1 : x.aft.all (fun y => decide (2 ≤ stR names l y)) = false := by
                  rw [List.all_eq_false]
                  exact ⟨x.aft[j], List.getElem_mem hjl, by simpa using hT⟩
                rw [h1]; simp
              clear hsu hcells h4
              generalize stR names l x.aft[j] = T at *
              generalize x.aft[j] = y at *
              have d1 : decide (T < 2) = true := decide_eq_true (by omega)
              go_wp2_with fail
              refine hof.mono ?_
              rintro e w6 ⟨rfl, rfl⟩
              clear hof hx0
              have HMd := HM.drew
              clear HM xs
              go_wp2_with fail
              go_ret
              exact ⟨by rw [HR.out]; rfl, HMd.sel [] (by decide)⟩
          · have e : j = x.aft.length := by omega
            subst e
            have HR : Hid (rready names l x i = true) := by
              have h2 := hall2.out
              rw [List.take_length] at h2
              unfold Hid rready
              rw [hall.out, h2, decide_eq_true Hz.out]; rfl
            go_wp2_with fail
            go_ret
            exact ⟨by rw [HR.out]; rfl, HM.sel [] (by decide)⟩
  · have HR : Hid (rready names l g[i] i = false) := by
      unfold Hid rready
      rw [decide_eq_false hz]; rfl
    have d1 : (l.getD i 0 == 0) = false := beq_eq_false_iff_ne.2 hz
    have d2 : decide (l.getD i 0 = 0) = false := decide_eq_false hz
    clear hxs
    generalize l.getD i 0 = S at *
    go_enter Try.func41, Try.ntmps41
    go_wp2_with fail
    go_ret
    exact ⟨by rw [HR.out]; rfl, Mem.start w⟩
end Go.Proofs.Ytcbhdjpigadhmaa
