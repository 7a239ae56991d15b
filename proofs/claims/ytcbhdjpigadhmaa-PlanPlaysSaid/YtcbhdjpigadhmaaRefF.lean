/-
  The walks of the reference of layer 19: Finish.
-/
import Derived.Test.YtcbhdjpigadhmaaRefE
set_option linter.unusedVariables false
set_option linter.unusedSimpArgs false
namespace Go.Proofs.Ytcbhdjpigadhmaa
open Go.RowKit

/-- What one source turns of its node's state. -/
def skipStep (names : List ByteArray) (k : Nat) (l : List Int) (x : ByteArray) : List Int := if l.getD k 0 = 0 ∧ 3 ≤ stR names l x then l.set k 4 else l
def skipRow (names : List ByteArray) (k : Nat) (xs : List ByteArray) (l : List Int) : List Int := xs.foldl (skipStep names k) l
def skipUp (g : List Nd) (l : List Int) : Nat → List Int
  | 0 => l
  | k + 1 => match g[k]? with
    | none => skipUp g l k
    | some nd => skipRow (namesG g) k nd.src (skipUp g l k)
theorem skipStep_len (names : List ByteArray) (k : Nat) (l : List Int) (x : ByteArray) : (skipStep names k l x).length = l.length := by
  unfold skipStep; split
  · rw [List.length_set]
  · rfl
theorem skipRow_len (names : List ByteArray) (k : Nat) : ∀ (xs : List ByteArray) (l : List Int), (skipRow names k xs l).length = l.length
  | [], _ => rfl
  | x :: xs, l => by
    show (skipRow names k xs (skipStep names k l x)).length = _
    rw [skipRow_len names k xs, skipStep_len]
theorem skipUp_len (g : List Nd) (l : List Int) : ∀ k, (skipUp g l k).length = l.length
  | 0 => rfl
  | k + 1 => by
    unfold skipUp
    cases g[k]? with
    | none => exact skipUp_len g l k
    | some nd => show (skipRow _ _ _ _).length = _; rw [skipRow_len, skipUp_len g l k]
theorem skipRow_succ (names : List ByteArray) (k : Nat) (xs : List ByteArray) (l : List Int) {j : Nat} (h : j < xs.length) : skipRow names k (xs.take (j + 1)) l = skipStep names k (skipRow names k (xs.take j) l) xs[j] := by
  unfold skipRow
  rw [List.take_succ_eq_append_getElem h, List.foldl_append]; rfl

set_option maxHeartbeats 8000000 in
theorem Rskip_calls (w0 : World) (F : List Chunk) (b : Nat) (GV NV LV SV : Value) (g : List Nd) (l : List Int) (x : ByteArray) (w : World) (hN : Nodes w0 NV g) (hM : Mem none_ w0 (IRow SV l :: RefB b GV NV LV SV :: StrRow LV (namesG g) :: F) w) (hg : RG g l) {k0 : Nat} (h1 : (namesG g)[k0]? = some x) (h3 : atR (namesG g) x = (k0 : Int)) (hz : l.getD k0 0 = 1) :
    Calls Try.prog 26 #[.pointer (some ⟨b, 0, none⟩), .string x, .bool false] w fun e w' => e = .returned (.int .i64 0) ∧ Mem none_ w0 (IRow SV (skipUp g (l.set k0 3) g.length) :: RefB b GV NV LV SV :: StrRow LV (namesG g) :: F) w' := by
  obtain ⟨NA, nc, rfl, nn1, nn2⟩ : ∃ A c, NV = .slice A g.length c ∧ g.length ≤ c ∧ c ≤ maxLen := by
    obtain ⟨cells, h, _⟩ := hN
    exact Sl.any_ h
  unfold maxLen at nn2
  have hn := namesG_len g
  have h512 := hg.n512
  have hlen := hg.len
  have hk : k0 < (namesG g).length := (List.getElem?_eq_some_iff.1 h1).1
  have hkg : k0 < g.length := by omega
  have hkl : k0 < l.length := by omega
  have hAt := at_calls LV (namesG g) x w (Row.sl (hM.at_ 2 rfl)) (by omega)
  rw [h3] at hAt
  obtain ⟨LA, lc, rfl, nL1, nL2⟩ := Sl.any_ (Row.sl (hM.at_ 2 rfl))
  rw [hn] at nL1 hM hAt
  obtain ⟨sb, sc, rfl, nS1, nS2⟩ := Row.at_ hM.head (by omega)
  unfold maxLen at nS2 nL2
  have hB : (RefB b GV (.slice NA g.length nc) (.slice LA g.length lc) (.slice (some ⟨sb, 0, none⟩) l.length sc)).ok w := hM.at_ 1 rfl
  have c1 : w.cell? ⟨b, 2, none⟩ = some (.slice LA g.length lc) := by rw [Blk.cell_ hB]; rfl
  have c2 : w.cell? ⟨b, 3, none⟩ = some (.slice (some ⟨sb, 0, none⟩) l.length sc) := by rw [Blk.cell_ hB]; rfl
  have y1 := IRow.cell hM.head rfl hkl
  have hxs : l[k0] = 1 := by rw [← hz, List.getD_eq_getElem?_getD, List.getElem?_eq_getElem hkl]; rfl
  rw [hxs] at y1
  have y2 := IRow.frozen hM.head rfl k0
  have HM1 := hM.irowSet' rfl hkl (2 : Int)
  have hB1 : (RefB b GV (.slice NA g.length nc) (.slice LA g.length lc) (.slice (some ⟨sb, 0, none⟩) l.length sc)).ok (w.setCell ⟨sb, k0, none⟩ (.int .i64 2)) := HM1.at_ 1 rfl
  have hl2 : (l.set k0 2).length = l.length := List.length_set
  have c3 : (w.setCell ⟨sb, k0, none⟩ (.int .i64 2)).cell? ⟨b, 3, none⟩ = some (.slice (some ⟨sb, 0, none⟩) l.length sc) := by rw [Blk.cell_ hB1]; rfl
  have y3 := IRow.cell HM1.head hl2 (j := k0) (by omega)
  have y4 := IRow.frozen HM1.head hl2 k0
  have HM2 := HM1.irowSet' hl2 hkl (3 : Int)
  rw [List.set_set] at HM2
  have hl3 : (l.set k0 3).length = l.length := List.length_set
  have d1 : decide ((k0 : Int) < 0) = false := decide_eq_false (by omega)
  have hki : (k0 : Int) < (l.length : Int) := by omega
  have hl512 : l.length ≤ 512 := by omega
  have Hn := Lib.hid hn
  have Hlen := Lib.hid hlen
  have Hl3 := Lib.hid hl3
  generalize (l.set k0 2)[k0] = yy at y3
  clear hxs h1 h3 hn hlen hB hB1 HM1 hM hz hl2 hl3
  generalize l.set k0 3 = l3 at *
  go_enter Try.func26, Try.ntmps26
  go_wp2_with fail
  refine hAt.mono ?_
  rintro e w' ⟨rfl, rfl⟩
  go_wp2_with fail
  clear c1 c2 c3 y1 y2 y3 y4 hAt
  go_loopw [8] (fun v8 wr => ∃ k : Nat, k ≤ g.length ∧ v8 = .int .i64 k ∧ Mem none_ w0 (IRow (.slice (some ⟨sb, 0, none⟩) l.length sc) (skipUp g l3 k) :: RefB b GV (.slice NA g.length nc) (.slice LA g.length lc) (.slice (some ⟨sb, 0, none⟩) l.length sc) :: StrRow (.slice LA g.length lc) (namesG g) :: F) wr) (fun i _ => g.length - (intOf i).toNat)
  case atStart => exact ⟨0, Nat.zero_le _, rfl, HM2⟩
  case round =>
    clear HM2
    obtain ⟨k, hk, rfl, HM⟩ := hrel
    have hB : (RefB b GV (.slice NA g.length nc) (.slice LA g.length lc) (.slice (some ⟨sb, 0, none⟩) l.length sc)).ok wr := HM.at_ 1 rfl
    have c1 : wr.cell? ⟨b, 2, none⟩ = some (.slice LA g.length lc) := by rw [Blk.cell_ hB]; rfl
    clear hB
    by_cases hlt : k < g.length
    · have hlt' : decide ((k : Int) < (g.length : Int)) = true := decide_eq_true (by omega)
      go_wp2_with fail
      clear c1
      have HS : Hid (skipUp g l3 (k + 1) = skipRow (namesG g) k g[k].src (skipUp g l3 k)) := by
        unfold Hid
        rw [skipUp, List.getElem?_eq_getElem hlt]
      have hL0 : (skipUp g l3 k).length = l.length := by rw [skipUp_len, Hl3.out]
      have Hm := Lib.hid (hg.src k hlt)
      have hfew := (hg.few k hlt).1
      generalize skipUp g l3 k = L0 at *
      go_loopw [9] (fun v9 wr => ∃ j : Nat, j ≤ g[k].src.length ∧ v9 = .int .i64 j ∧ Mem none_ w0 (IRow (.slice (some ⟨sb, 0, none⟩) l.length sc) (skipRow (namesG g) k (g[k].src.take j) L0) :: RefB b GV (.slice NA g.length nc) (.slice LA g.length lc) (.slice (some ⟨sb, 0, none⟩) l.length sc) :: StrRow (.slice LA g.length lc) (namesG g) :: F) wr) (fun i _ => g[k].src.length - (intOf i).toNat)
      case atStart => exact ⟨0, Nat.zero_le _, rfl, HM⟩
      case round =>
        clear HM
        obtain ⟨j, hj, rfl, HM⟩ := hrel
        obtain ⟨gb, go, kd, sv, cA, cn, cc, av, im, ph, pr, si, ig, e0, hsv, hav, hcell⟩ := (hN.pure HM.mu).cells hlt
        cases e0
        obtain ⟨sA, scp, rfl, sl1, sl2⟩ := Sl.any_ hsv
        have x2 := hcell 2 _ rfl
        clear hcell hav
        have hB : (RefB b GV (.slice (some ⟨gb, go, none⟩) g.length nc) (.slice LA g.length lc) (.slice (some ⟨sb, 0, none⟩) l.length sc)).ok wr := HM.at_ 1 rfl
        have c2 : wr.cell? ⟨b, 1, none⟩ = some (.slice (some ⟨gb, go, none⟩) g.length nc) := by rw [Blk.cell_ hB]; rfl
        have c3 : wr.cell? ⟨b, 3, none⟩ = some (.slice (some ⟨sb, 0, none⟩) l.length sc) := by rw [Blk.cell_ hB]; rfl
        have hMl : (skipRow (namesG g) k (g[k].src.take j) L0).length = l.length := by rw [skipRow_len, hL0]
        have hki2 : k < l.length := by have := Hlen.out; omega
        have hki3 : (k : Int) < (l.length : Int) := by omega
        unfold maxLen at sl2
        by_cases hjl : j < g[k].src.length
        · have hjl' : decide ((j : Int) < (g[k].src.length : Int)) = true := decide_eq_true (by omega)
          obtain ⟨A', c', e7, _, _, _, h4⟩ := id hsv
          cases e7
          obtain ⟨sb', so, rfl, hcells⟩ := h4.resolve_left (by omega)
          have hx0 : wr.cell? ⟨sb', so + j, none⟩ = some (.string g[k].src[j]) := hcells j _ (strs_get hjl)
          have hsu := skipRow_succ (namesG g) k g[k].src L0 hjl
          have hof := of_calls b _ _ _ _ (namesG g) (skipRow (namesG g) k (g[k].src.take j) L0) g[k].src[j] wr hB (Row.sl (HM.at_ 2 rfl)) HM.head (by rw [Hn.out]; omega) (by rw [Hn.out, hMl, Hlen.out]; exact Nat.le_refl _) (by omega) (Hm.out _ (List.getElem_mem hjl))
          have y1 := IRow.cell HM.head hMl (j := k) (by omega)
          have hxs : (skipRow (namesG g) k (g[k].src.take j) L0)[k]'(by omega) = (skipRow (namesG g) k (g[k].src.take j) L0).getD k 0 := by rw [List.getD_eq_getElem?_getD, List.getElem?_eq_getElem (by omega)]; rfl
          rw [hxs] at y1
          clear hxs hcells h4 hB hsv
          unfold skipStep at hsu
          have HMd := HM.drew
          generalize hMg : skipRow (namesG g) k (g[k].src.take j) L0 = M at *
          have hfr := IRow.frozen HMd.head hMl k
          have y1d : wr.drew.cell? ⟨sb, k, none⟩ = some (.int .i64 (M.getD k 0)) := y1
          have c3d : wr.drew.cell? ⟨b, 3, none⟩ = some (.slice (some ⟨sb, 0, none⟩) l.length sc) := c3
          have HM3 := HMd.irowSet' hMl hki2 (4 : Int)
          by_cases hS : M.getD k 0 = 0
          · rw [hS] at y1 y1d
            by_cases hT : 3 ≤ stR (namesG g) M g[k].src[j]
            · rw [if_pos ⟨hS, hT⟩] at hsu
              rw [← hsu] at HM3
              have d1 : decide (3 ≤ stR (namesG g) M g[k].src[j]) = true := decide_eq_true hT
              clear hsu hS hMg HM HMd hMl Hm
              generalize stR (namesG g) M g[k].src[j] = T at *
              generalize g[k].src[j] = y at *
              go_wp2_with fail
              refine hof.mono ?_
              rintro e w6 ⟨rfl, rfl⟩
              clear hof hx0 c2 x2
              go_wp2_with fail
              go_roundw
              case rel => exact ⟨j + 1, by omega, by go_num, HM3⟩
              case measure => simp [intOf]; omega
            · rw [if_neg (by omega)] at hsu
              rw [← hsu] at HMd
              have d1 : decide (3 ≤ stR (namesG g) M g[k].src[j]) = false := decide_eq_false hT
              clear hsu hS hMg HM HM3 hMl Hm
              generalize stR (namesG g) M g[k].src[j] = T at *
              generalize g[k].src[j] = y at *
              go_wp2_with fail
              refine hof.mono ?_
              rintro e w6 ⟨rfl, rfl⟩
              clear hof hx0 c2 x2
              go_wp2_with fail
              go_roundw
              case rel => exact ⟨j + 1, by omega, by go_num, HMd⟩
              case measure => simp [intOf]; omega
          · rw [if_neg (fun h => hS h.1)] at hsu
            rw [← hsu] at HM
            have d1 : (M.getD k 0 == 0) = false := beq_eq_false_iff_ne.2 hS
            have d2 : decide (M.getD k 0 = 0) = false := decide_eq_false hS
            clear hsu hS hMg HM3 HMd hMl Hm hof y1d c3d hfr
            generalize M.getD k 0 = S at *
            generalize g[k].src[j] = y at *
            go_wp2_with fail
            go_roundw
            case rel => exact ⟨j + 1, by omega, by go_num, HM⟩
            case measure => simp [intOf]; omega
        · have e : j = g[k].src.length := by omega
          subst e
          rw [List.take_length, ← HS.out] at HM
          clear hB hMl hsv
          go_wp2_with fail
          go_roundw
          case rel => exact ⟨k + 1, by omega, by go_num, HM⟩
          case measure => simp [intOf]; omega
    · have e : k = g.length := by omega
      subst e
      go_wp2_with fail
      go_ret
      exact ⟨rfl, by rw [Hn.out]; exact HM⟩

/-- Finish, as a function. -/
def rfinish (g : List Nd) (l : List Int) (x : ByteArray) (ok : Bool) : List Int × Int :=
  if atR (namesG g) x < 0 then (l, 6) else
    if l.getD (atR (namesG g) x).toNat 0 = 1 then (if ok then (l.set (atR (namesG g) x).toNat 2, 0) else (skipUp g (l.set (atR (namesG g) x).toNat 3) g.length, 0)) else (l, 16)
set_option maxHeartbeats 4000000 in
theorem Rfinish_calls (w0 : World) (F : List Chunk) (b : Nat) (GV NV LV SV : Value) (g : List Nd) (l : List Int) (x : ByteArray) (ok : Bool) (w : World) (hN : Nodes w0 NV g) (hM : Mem none_ w0 (IRow SV l :: RefB b GV NV LV SV :: StrRow LV (namesG g) :: F) w) (hg : RG g l) :
    Calls Try.prog 26 #[.pointer (some ⟨b, 0, none⟩), .string x, .bool ok] w fun e w' => e = .returned (.int .i64 (rfinish g l x ok).2) ∧ Mem none_ w0 (IRow SV (rfinish g l x ok).1 :: RefB b GV NV LV SV :: StrRow LV (namesG g) :: F) w' := by
  have hn := namesG_len g
  have h512 := hg.n512
  have hlen := hg.len
  have hL := Row.sl (hM.at_ 2 rfl)
  have hAt := at_calls LV (namesG g) x w hL (by omega)
  have hB : (RefB b GV NV LV SV).ok w := hM.at_ 1 rfl
  have c1 : w.cell? ⟨b, 2, none⟩ = some LV := by rw [Blk.cell_ hB]; rfl
  unfold rfinish
  rcases atR_cases (namesG g) x with ⟨k, h1, _, h3⟩ | ⟨_, h3⟩
  · have hk : k < (namesG g).length := (List.getElem?_eq_some_iff.1 h1).1
    have hkl : k < l.length := by omega
    have hsk := fun hz => Rskip_calls w0 F b GV NV LV SV g l x w hN hM hg h1 h3 (k0 := k) hz
    rw [h3] at hAt ⊢
    rw [if_neg (by omega), Int.toNat_natCast]
    obtain ⟨sb, sc, rfl, nS1, nS2⟩ := Row.at_ hM.head (by omega)
    unfold maxLen at nS2
    have c2 : w.cell? ⟨b, 3, none⟩ = some (.slice (some ⟨sb, 0, none⟩) l.length sc) := by rw [Blk.cell_ hB]; rfl
    have y1 := IRow.cell hM.head rfl hkl
    have hxs : l[k] = l.getD k 0 := by rw [List.getD_eq_getElem?_getD, List.getElem?_eq_getElem hkl]; rfl
    rw [hxs] at y1
    have y2 := IRow.frozen hM.head rfl k
    have HM1 := hM.irowSet' rfl hkl (2 : Int)
    have d1 : decide ((k : Int) < 0) = false := decide_eq_false (by omega)
    have hki : (k : Int) < (l.length : Int) := by omega
    have hl512 : l.length ≤ 512 := by omega
    by_cases hz : l.getD k 0 = 1
    · rw [if_pos hz]
      cases ok with
      | false => exact hsk hz
      | true =>
        rw [if_pos rfl]
        rw [hz] at y1
        obtain ⟨LA, lc, rfl, nL1, nL2⟩ := Sl.any_ hL
        clear hxs h1 h3 hn hlen h512 hz hsk hM hB
        go_enter Try.func26, Try.ntmps26
        go_wp2_with fail
        refine hAt.mono ?_
        rintro e w' ⟨rfl, rfl⟩
        go_wp2_with fail
        go_ret
        exact ⟨rfl, HM1⟩
    · rw [if_neg hz]
      have e1 : (l.getD k 0 == 1) = false := beq_eq_false_iff_ne.2 hz
      have e2 : decide (l.getD k 0 = 1) = false := decide_eq_false hz
      clear hxs h1 h3 hn hlen h512 hz hsk HM1
      generalize l.getD k 0 = y at *
      go_enter Try.func26, Try.ntmps26
      go_wp2_with fail
      refine hAt.mono ?_
      rintro e w' ⟨rfl, rfl⟩
      go_wp2_with fail
      go_ret
      exact ⟨rfl, hM⟩
  · rw [h3] at hAt ⊢
    rw [if_pos (by omega)]
    clear h3 hn hlen h512
    go_enter Try.func26, Try.ntmps26
    go_wp2_with fail
    refine hAt.mono ?_
    rintro e w' ⟨rfl, rfl⟩
    go_wp2_with fail
    go_ret
    exact ⟨rfl, hM⟩
end Go.Proofs.Ytcbhdjpigadhmaa
