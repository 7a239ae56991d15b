/-
  The walks of the reference of layer 19: Ready, Start, Stop.
-/
import Derived.Test.YtcbhdjpigadhmaaRefC
import Derived.Test.YtcbhdjpigadhmaaPlanY
set_option linter.unusedVariables false
set_option linter.unusedSimpArgs false
namespace Go.Proofs.Ytcbhdjpigadhmaa
open Go.RowKit

set_option maxHeartbeats 4000000 in
theorem Rready_calls (b : Nat) (GV NV LV SV : Value) (g : List Nd) (l : List Int) (q : Int → Bool) (w : World) (hB : (RefB b GV NV LV SV).ok w) (hN : Nodes w NV g) (hL : Strs w LV (namesG g)) (hS : (IRow SV l).ok w) (hg : RG g l)
    (hq : ∀ (i : Nat) (h : i < g.length), rready (namesG g) l g[i] i = q (i : Int)) :
    Calls Try.prog 25 #[.pointer (some ⟨b, 0, none⟩)] w fun e w' => ∃ v, e = .returned v ∧ Mem none_ w [StrRow v (upTo (namesG g) q g.length)] w' := by
  have hn := namesG_len g
  have h512 := hg.n512
  have hlen := hg.len
  have HM0 := (Mem.start (fp := none_) w).nilS
  have e0 : upTo (namesG g) q 0 = [] := by simp [upTo]
  rw [← e0] at HM0
  clear e0
  obtain ⟨LA, lc, rfl, nL1, nL2⟩ := Sl.any_ hL
  unfold maxLen at nL2
  rw [hn] at nL1 hB hL
  have Hn := Lib.hid hn
  have Hlen := Lib.hid hlen
  clear hn hlen
  go_enter Try.func25, Try.ntmps25
  go_wp2_with fail
  go_loopw [3, 4] (fun v3 v4 wr => ∃ k : Nat, k ≤ g.length ∧ v4 = .int .i64 k ∧ Mem none_ w [StrRow v3 (upTo (namesG g) q k)] wr) (fun _ i _ => g.length - (intOf i).toNat)
  case atStart => exact ⟨0, Nat.zero_le _, rfl, HM0⟩
  case round =>
    clear HM0
    obtain ⟨k, hk, rfl, HM⟩ := hrel
    have hBr := Pure.chunk HM.mu hB
    have c2 : wr.cell? ⟨b, 2, none⟩ = some (.slice LA g.length lc) := by rw [Blk.cell_ hBr]; rfl
    by_cases hlt : k < g.length
    · have hlt' : decide ((k : Int) < (g.length : Int)) = true := decide_eq_true (by omega)
      have hkn : k < (namesG g).length := by rw [Hn.out]; exact hlt
      have hrc := rready_calls b GV NV (.slice LA g.length lc) SV g (namesG g) l k wr hBr (hN.pure HM.mu) (hL.pure HM.mu) (Pure.chunk HM.mu hS) (by rw [Hn.out]; omega) (by rw [Hn.out, Hlen.out]; exact Nat.le_refl _) (by rw [Hlen.out]; omega) hlt (by rw [Hlen.out]; exact hlt) (hg.few k hlt) (hg.src k hlt) (hg.aft k hlt)
      rw [hq k hlt] at hrc
      have hup := upTo_succ (names := namesG g) (q := q) (k := k) hkn
      have hul := upTo_len (namesG g) q k
      cases hr : q (k : Int) with
      | true =>
        rw [hr] at hrc
        rw [hr, if_pos rfl] at hup
        obtain ⟨A', c', e7, _, _, _, h4⟩ := hL.pure HM.mu
        have eA : A' = LA := by injection e7 with e1 _ _; exact e1.symm
        subst eA
        obtain ⟨sb', so, rfl, hcells⟩ := h4.resolve_left (by have := Hn.out; omega)
        have Hcells : Hid (∀ (j : Nat) (u : Value), (strs (namesG g))[j]? = some u → wr.cell? ⟨sb', so + j, none⟩ = some u) := hcells
        have hget : (strs (namesG g))[k]? = some (.string (namesG g)[k]) := strs_get hkn
        have Hup := Lib.hid hup
        clear hcells h4 hup hr
        have Hget := Lib.hid hget
        clear hget
        generalize (namesG g)[k] = x at *
        generalize upTo (namesG g) q k = L at *
        go_wp2_with fail
        refine hrc.mono ?_
        rintro e w1 ⟨rfl, HM1⟩
        have HM2 := HM.got HM1
        simp only [List.nil_append] at HM2
        have hB2 := Pure.chunk HM1.mu hBr
        have c3 : w1.cell? ⟨b, 2, none⟩ = some (.slice (some ⟨sb', so, none⟩) g.length lc) := by rw [Blk.cell_ hB2]; rfl
        have hx0 : w1.cell? ⟨sb', so + k, none⟩ = some (.string x) := by
          obtain ⟨A', c', e7, _, _, _, h4⟩ := hL.pure HM2.mu
          have eA : A' = some ⟨sb', so, none⟩ := by injection e7 with e1 _ _; exact e1.symm
          subst eA
          obtain ⟨sb2, so2, e8, hcells⟩ := h4.resolve_left (by have := Hn.out; omega)
          cases e8
          exact hcells k _ Hget.out
        clear hrc c2 HM HM1 hB2 hBr
        go_wp2_with (at_builtin; refine wpList_appS strE rfl _ _ rfl HM2 rfl x _ rfl ?hnb ?hb ?_; (case hnb => simp); (case hb => omega); intro v' w' HM3 HU3)
        rw [← Hup.out] at HM3
        go_roundw
        case rel => exact ⟨k + 1, by omega, by go_num, HM3⟩
        case measure => simp [intOf]; omega
      | false =>
        rw [hr] at hrc
        rw [hr, if_neg (by decide), List.append_nil] at hup
        rw [← hup] at HM
        clear hup hr
        go_wp2_with fail
        refine hrc.mono ?_
        rintro e w1 ⟨rfl, HM1⟩
        have HM2 := HM.got HM1
        simp only [List.nil_append] at HM2
        clear hrc c2 HM HM1 hBr
        go_wp2_with fail
        go_roundw
        case rel => exact ⟨k + 1, by omega, by go_num, HM2⟩
        case measure => simp [intOf]; omega
    · have e : k = g.length := by omega
      subst e
      go_wp2_with fail
      go_ret
      exact ⟨_, rfl, HM⟩

/-- Start, as a function. -/
def rstart (g : List Nd) (l : List Int) (x : ByteArray) : List Int × Int :=
  if atR (namesG g) x < 0 then (l, 6) else match g[(atR (namesG g) x).toNat]? with
    | none => (l, 16)
    | some nd => if rready (namesG g) l nd (atR (namesG g) x).toNat then (l.set (atR (namesG g) x).toNat 1, 0) else (l, 16)
set_option maxHeartbeats 4000000 in
theorem Rstart_calls (b : Nat) (GV NV LV SV : Value) (g : List Nd) (l : List Int) (x : ByteArray) (w : World) (hB : (RefB b GV NV LV SV).ok w) (hN : Nodes w NV g) (hL : Strs w LV (namesG g)) (hS : (IRow SV l).ok w) (hg : RG g l) :
    Calls Try.prog 28 #[.pointer (some ⟨b, 0, none⟩), .string x] w fun e w' => e = .returned (.int .i64 (rstart g l x).2) ∧ Mem (IRow SV l).fp w [IRow SV (rstart g l x).1] w' := by
  have hn := namesG_len g
  have h512 := hg.n512
  have hlen := hg.len
  have HM0 := Mem.from hS
  have hAt := at_calls LV (namesG g) x w hL (by omega)
  have c1 : w.cell? ⟨b, 2, none⟩ = some LV := by rw [Blk.cell_ hB]; rfl
  unfold rstart
  rcases atR_cases (namesG g) x with ⟨k, h1, _, h3⟩ | ⟨_, h3⟩
  · have hk : k < (namesG g).length := (List.getElem?_eq_some_iff.1 h1).1
    have hkg : k < g.length := by omega
    have hkl : k < l.length := by omega
    rw [h3] at hAt ⊢
    rw [if_neg (by omega), Int.toNat_natCast, List.getElem?_eq_getElem hkg]
    dsimp only
    have hrc := rready_calls b GV NV LV SV g (namesG g) l k w hB hN hL hS (by omega) (by omega) (by omega) hkg hkl (hg.few k hkg) (hg.src k hkg) (hg.aft k hkg)
    have d1 : decide ((k : Int) < 0) = false := decide_eq_false (by omega)
    cases hr : rready (namesG g) l g[k] k with
    | false =>
      rw [hr] at hrc
      rw [if_neg (by decide)]
      clear hr h1 h3 hn hlen h512
      go_enter Try.func28, Try.ntmps28
      go_wp2_with fail
      refine hAt.mono ?_
      rintro e w' ⟨rfl, rfl⟩
      go_wp2_with fail
      refine hrc.mono ?_
      rintro e w1 ⟨rfl, HM1⟩
      have HM2 := HM0.got HM1
      simp only [List.nil_append] at HM2
      clear HM0 HM1
      go_wp2_with fail
      go_ret
      exact ⟨rfl, HM2⟩
    | true =>
      rw [hr] at hrc
      rw [if_pos rfl]
      obtain ⟨sb, sc, rfl, nS1, nS2⟩ := Row.at_ hS (by omega)
      unfold maxLen at nS2
      have hki : (k : Int) < (l.length : Int) := by omega
      have hl512 : l.length ≤ 512 := by omega
      clear hr h1 h3 hn hlen h512
      go_enter Try.func28, Try.ntmps28
      go_wp2_with fail
      refine hAt.mono ?_
      rintro e w' ⟨rfl, rfl⟩
      go_wp2_with fail
      refine hrc.mono ?_
      rintro e w1 ⟨rfl, HM1⟩
      have HM2 := HM0.got HM1
      simp only [List.nil_append] at HM2
      have hB1 := Pure.chunk HM1.mu hB
      have c2 : w1.cell? ⟨b, 3, none⟩ = some (.slice (some ⟨sb, 0, none⟩) l.length sc) := by rw [Blk.cell_ hB1]; rfl
      have y1 := IRow.cell HM2.head rfl hkl
      have y2 := IRow.frozen HM2.head rfl k
      have HM3 := HM2.irowSet' rfl hkl (1 : Int)
      clear HM0 HM1 HM2 hB1
      go_wp2_with fail
      go_ret
      exact ⟨rfl, HM3⟩
  · rw [h3] at hAt ⊢
    rw [if_pos (by omega)]
    clear h3 hn hlen h512
    go_enter Try.func28, Try.ntmps28
    go_wp2_with fail
    refine hAt.mono ?_
    rintro e w' ⟨rfl, rfl⟩
    go_wp2_with fail
    go_ret
    exact ⟨rfl, HM0⟩
end Go.Proofs.Ytcbhdjpigadhmaa
