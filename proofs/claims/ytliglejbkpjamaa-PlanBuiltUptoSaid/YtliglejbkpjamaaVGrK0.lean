/-
  Layer 16 (graph): the builder in memory; implied, plainly.
-/
/-
  Layer 16 (graph): the walk of implied.
-/
import Derived.Test.YtliglejbkpjamaaVGrI0
set_option linter.unusedVariables false
set_option linter.unusedSimpArgs false
section
set_option maxRecDepth 20000
namespace Go.Proofs.Ytliglejbkpjamaa
open Go.RowKit

/-- A node. -/
structure NodeS where
  name : ByteArray
  kind : Int
  src : List ByteArray
  cmd : List ByteArray
  aft : List ByteArray
  impl : ByteArray
  ph : Bool
  pr : Bool
  si : Bool
  ig : Bool
/-- A node of an own row: its cells' slices. -/
structure NX where
  SV : Value
  CV : Value
  AV : Value
  nd : NodeS
def NX.cells (x : NX) : List Value := [.string x.nd.name, .int .i64 x.nd.kind, x.SV, x.CV, x.AV, .string x.nd.impl, .bool x.nd.ph, .bool x.nd.pr, .bool x.nd.si, .bool x.nd.ig]
def NX.own (x : NX) : List Chunk := [StrRow x.SV x.nd.src, StrRow x.CV x.nd.cmd, StrRow x.AV x.nd.aft]
abbrev NRow (V : Value) (xs : List NX) : Chunk := Row 38 10 V xs.length (xs.flatMap NX.cells)
def RX.val (x : RX) : Value := .agg #[x.TV, .int .i64 x.r.kind, x.SV, x.CV, .int .i64 x.r.at_]
abbrev MarkS := Nat × List (ByteArray × Unit)
def markV (p : MarkS) : Value := .map (some p.1)
def markC (p : ByteArray × MarkS) : Chunk := MapC p.2.1 Value.string setV p.2.2
/-- The builder: its blocks, its slices, what it holds. -/
structure BS where
  b : Nat
  fb : Nat
  ob : Nat
  mb : Nat
  lb : Nat
  sb : Nat
  RV : Value
  SV : Value
  WV : Value
  TH : Value
  NV : Value
  suf : List ByteArray
  ways : List (ByteArray × ByteArray)
  files : List (ByteArray × Unit)
  own : List (ByteArray × RX)
  there : List ByteArray
  marks : List (ByteArray × MarkS)
  links : List (ByteArray × ByteArray)
  state : List (ByteArray × Int)
  nodes : List NX
  count : Int
  why : Int
  pname : ByteArray
  pat : Int
def BS.cells (X : BS) : Array Value := #[X.RV, X.SV, X.WV, .map (some X.fb), .map (some X.ob), X.TH, .map (some X.mb), .map (some X.lb), .map (some X.sb), X.NV, .int .i64 X.count, .int .i64 X.why, .string X.pname, .int .i64 X.pat]
def BS.heads (X : BS) : List Chunk := [Blk X.b 67 X.cells, StrRow X.SV X.suf, PrsRow X.WV X.ways, MapC X.fb Value.string setV X.files, MapC X.ob Value.string RX.val X.own, StrRow X.TH X.there, MapC X.mb Value.string markV X.marks,
  MapC X.lb Value.string Value.string X.links, MapC X.sb Value.string (Value.int .i64) X.state, NRow X.NV X.nodes]
def BS.tails (X : BS) : List Chunk := Cls (X.own.map (·.2)) ++ (X.marks.map markC ++ X.nodes.flatMap NX.own)
def BS.mem (X : BS) (F : List Chunk) : List Chunk := X.heads ++ (X.tails ++ F)

/-- One link more for each step of a chain. -/
def linkAll (m : List (ByteArray × ByteArray)) : ByteArray → List ByteArray → List (ByteArray × ByteArray)
  | _, [] => m
  | f, x :: xs => linkAll (if mhas m x then m else mput m x f) x xs
def chainL (ways : List (ByteArray × ByteArray)) (name : ByteArray) (there : List ByteArray) : List ByteArray := (up (walkOf ways name there).1.makes name 8 (walkOf ways name there).2).getD []
/-- A name's implied source, and the links behind. -/
def implB (suf : List ByteArray) (ways : List (ByteArray × ByteArray)) (there : List ByteArray) (m : List (ByteArray × ByteArray)) (name : ByteArray) : ByteArray × List (ByteArray × ByteArray) :=
  match mget m name with
  | some s => (s, m)
  | none => if (rightOf suf ways && hit ways name there) = true then (mval (linkAll m (walkOf ways name there).2 (chainL ways name there)) name, linkAll m (walkOf ways name there).2 (chainL ways name there)) else (⟨#[]⟩, m)
theorem up_mono {m : List (ByteArray × ByteArray)} {name : ByteArray} : ∀ {n k : Nat} {x : ByteArray} {l : List ByteArray}, up m name n x = some l → n ≤ k → up m name k x = some l
  | 0, _, _, _, h, _ => by unfold up at h; cases h
  | n + 1, 0, _, _, _, h => by omega
  | n + 1, k + 1, x, l, h, hk => by
    rcases up_succ h with ⟨rfl, rfl⟩ | ⟨hx, l', rfl, hl⟩
    · unfold up; rw [if_pos rfl]
    · unfold up
      rw [if_neg hx, up_mono hl (by omega)]; rfl
/-- Chain, in all cases. -/
theorem chainB_calls (SV WV TV : Value) (s : List ByteArray) (ways : List (ByteArray × ByteArray)) (name : ByteArray) (there : List ByteArray) (w : World) (hS : Strs w SV s) (hW : Prs w WV ways) (hT : Strs w TV there)
    (hws : ∀ p, p ∈ ways → p.1.size ≤ 1099511627776) (hn : name.size ≤ 1099511627776) :
    Calls Try.prog 76 #[.agg #[SV, WV], .string name, TV] w fun e w' => ∃ v, e = .returned (.tuple #[v, .bool (rightOf s ways && hit ways name there)]) ∧
      Mem none_ w [StrRow v (if (rightOf s ways && hit ways name there) = true then (walkOf ways name there).2 :: chainL ways name there else [])] w' := by
  cases hr : rightOf s ways
  · refine (chain_no SV WV TV s ways name w hS hW hr).mono ?_
    rintro e w' ⟨rfl, HM⟩
    exact ⟨_, rfl, HM.nilS⟩
  · have hl : ways.length ≤ 256 := (right_in hr).2
    cases hh : hit ways name there
    · refine (chain_miss SV WV TV s ways name there w hS hW hT hr hn hws hl hh).mono ?_
      rintro e w' ⟨rfl, HM⟩
      exact ⟨_, rfl, HM.nilS⟩
    · obtain ⟨n, l, f1, f2, f3, f4, f5, f6, f7, f8⟩ := chain_facts hh
      have hc : chainL ways name there = l := by unfold chainL; rw [up_mono f3 (by omega)]; rfl
      rw [hc]
      refine (chain_hit SV WV TV s ways name there w hS hW hT hr hn hws hl hh (n + 1) (by omega) l f3).mono ?_
      rintro e w' ⟨v, rfl, HM⟩
      exact ⟨v, rfl, HM⟩
theorem chainL_pos {s : List ByteArray} {ways : List (ByteArray × ByteArray)} {name : ByteArray} {there : List ByteArray} (h : (rightOf s ways && hit ways name there) = true) : 1 ≤ (chainL ways name there).length := by
  rw [Bool.and_eq_true] at h
  obtain ⟨n, l, f1, f2, f3, f4, _⟩ := chain_facts h.2
  unfold chainL
  rw [up_mono f3 (show n + 1 ≤ 8 by omega)]
  simp only [Option.getD_some]
  omega
theorem linkAll_step (m : List (ByteArray × ByteArray)) (f : ByteArray) (xs : List ByteArray) (i : Nat) (h : i < xs.length) (g : ByteArray) (hg : (f :: xs)[i]? = some g) :
    linkAll m g (xs.drop i) = linkAll (if mhas m xs[i] then m else mput m xs[i] g) xs[i] (xs.drop (i + 1)) := by
  rw [List.drop_eq_getElem_cons h]; rfl
end Go.Proofs.Ytliglejbkpjamaa
end
section
set_option maxRecDepth 100000
namespace Go.Proofs.Ytliglejbkpjamaa
open Go.RowKit

set_option maxHeartbeats 16000000 in
theorem implied_calls (X : BS) (name : ByteArray) {fp : Nat → Prop} {w0 : World} {F : List Chunk} (w : World) (HX : Mem fp w0 (X.mem F) w) (hws : ∀ p, p ∈ X.ways → p.1.size ≤ 1099511627776) (hn : name.size ≤ 1099511627776) :
    Calls Try.prog 64 #[.pointer (some ⟨X.b, 0, none⟩), .string name] w fun e w' => e = .returned (.string (implB X.suf X.ways X.there X.links name).1) ∧
      Mem fp w0 (({ X with links := (implB X.suf X.ways X.there X.links name).2 } : BS).mem F) w' := by
  obtain ⟨b, fb, ob, mb, lb, sb, RV, SV, WV, TH, NV, suf, ways, files, own, there, marks, links, state, nodes, count, why, pname, pat⟩ := X
  have HM : Mem fp w0 ([Blk b 67 #[RV, SV, WV, .map (some fb), .map (some ob), TH, .map (some mb), .map (some lb), .map (some sb), NV, .int .i64 count, .int .i64 why, .string pname, .int .i64 pat], StrRow SV suf, PrsRow WV ways, MapC fb Value.string setV files, MapC ob Value.string RX.val own, StrRow TH there, MapC mb Value.string markV marks, MapC lb Value.string Value.string links, MapC sb Value.string (Value.int .i64) state, NRow NV nodes] ++ (BS.tails ⟨b, fb, ob, mb, lb, sb, RV, SV, WV, TH, NV, suf, ways, files, own, there, marks, links, state, nodes, count, why, pname, pat⟩ ++ F)) w := HX
  clear HX
  simp only at hws ⊢
  obtain ⟨As, cs, e1, s1, s2⟩ := Row.any_ (HM.at_ 1 rfl)
  obtain ⟨Aw, cw, e2, w1, w2⟩ := Row.any_ (HM.at_ 2 rfl)
  obtain ⟨At, ct, e3, t1, t2⟩ := Row.any_ (HM.at_ 5 rfl)
  subst e1 e2 e3
  unfold maxLen at s2 w2 t2
  obtain ⟨C, hCC⟩ : ∃ C, BS.tails ⟨b, fb, ob, mb, lb, sb, RV, (.slice As suf.length cs), (.slice Aw ways.length cw), (.slice At there.length ct), NV, suf, ways, files, own, there, marks, links, state, nodes, count, why, pname, pat⟩ ++ F = C := ⟨_, rfl⟩
  rw [hCC] at HM
  have hgo : ∀ (IS : ByteArray) (L : List (ByteArray × ByteArray)), implB suf ways there links name = (IS, L) → Calls Try.prog 64 #[.pointer (some ⟨b, 0, none⟩), .string name] w fun e w' => e = .returned (.string IS) ∧
      Mem fp w0 ([Blk b 67 #[RV, (.slice As suf.length cs), (.slice Aw ways.length cw), .map (some fb), .map (some ob), (.slice At there.length ct), .map (some mb), .map (some lb), .map (some sb), NV, .int .i64 count, .int .i64 why, .string pname, .int .i64 pat], StrRow (.slice As suf.length cs) suf, PrsRow (.slice Aw ways.length cw) ways, MapC fb Value.string setV files, MapC ob Value.string RX.val own, StrRow (.slice At there.length ct) there, MapC mb Value.string markV marks, MapC lb Value.string Value.string L, MapC sb Value.string (Value.int .i64) state, NRow NV nodes] ++ C) w' := by
    intro IS L hIS
    have hIS := Lib.hid hIS
    clear hCC
    have k1 := Blk.cell_ (HM.at_ 0 rfl) 1
    have k2 := Blk.cell_ (HM.at_ 0 rfl) 2
    have k5 := Blk.cell_ (HM.at_ 0 rfl) 5
    have k7 := Blk.cell_ (HM.at_ 0 rfl) 7
    simp only [List.getElem?_toArray, List.getElem?_cons_succ, List.getElem?_cons_zero] at k1 k2 k5 k7
    have HM1 := Lib.hid HM
    clear HM
    go_enter Try.func64, Try.ntmps64
    cases hg : mget links name with
    | some s =>
      have hmh : mhas links name = true := by simp [mhas, hg]
      have hlk : (if true = true then Value.tuple #[((mget links name).map Value.string).getD (.string ⟨#[]⟩), .bool (mhas links name)] else ((mget links name).map Value.string).getD (.string ⟨#[]⟩)) = .tuple #[.string s, .bool true] := by rw [if_pos rfl, hg, hmh]; rfl
      have hR : Hid (s = IS ∧ links = L) := by
        have h := hIS.out
        unfold implB at h
        rw [hg] at h
        exact ⟨congrArg Prod.fst h, congrArg Prod.snd h⟩
      clear hg hmh hIS
      go_wp2_with (at_lookup; refine wpList_get keyS Try.underlying64 zeroS rfl _ _ true rfl (HM1.out.at_ 7 rfl) rfl name rfl _ hlk ?_)
      go_ret
      obtain ⟨r1, r2⟩ := hR.out
      subst r1 r2
      exact ⟨rfl, HM1.out⟩
    | none =>
      have hmh : mhas links name = false := by simp [mhas, hg]
      have hlk : (if true = true then Value.tuple #[((mget links name).map Value.string).getD (.string ⟨#[]⟩), .bool (mhas links name)] else ((mget links name).map Value.string).getD (.string ⟨#[]⟩)) = .tuple #[.string ⟨#[]⟩, .bool false] := by rw [if_pos rfl, hg, hmh]; rfl
      have hR := hIS.out
      unfold implB at hR
      rw [hg] at hR
      simp only at hR
      have hR := Lib.hid hR
      clear hg hmh hIS
      go_wp2_with (at_lookup; refine wpList_get keyS Try.underlying64 zeroS rfl _ _ true rfl (HM1.out.at_ 7 rfl) rfl name rfl _ hlk ?_)
      have HM2 := Lib.hid HM1.out.drew
      have hS0 := Lib.hid (show _ ∧ _ ∧ _ from ⟨Blk.cell_ (HM2.out.at_ 0 rfl) 1, Blk.cell_ (HM2.out.at_ 0 rfl) 2, Blk.cell_ (HM2.out.at_ 0 rfl) 5⟩)
      refine wp_plan [] (S := fun w' => Hid (w'.cell? ⟨b, 1, none⟩ = some (.slice As suf.length cs) ∧ w'.cell? ⟨b, 2, none⟩ = some (.slice Aw ways.length cw) ∧ w'.cell? ⟨b, 5, none⟩ = some (.slice At there.length ct))) [(.pure, 0), (.pure, 1), (.pure, 2), (.load, 3), (.pure, 4), (.pure, 5), (.pure, 6), (.pure, 7), (.load, 8), (.eff, 9), (.pure, 10), (.pure, 11), (.pure, 12), (.pure, 13), (.pure, 14)] (by kernel_rfl) rfl (by kernel_rfl) rfl (fun _ _ _ _ _ h => h) hS0 ?_
      clear HM1 k1 k2 k5 k7 hlk hS0
      generalize World.drew _ = W5 at *
      have hC := chainB_calls _ _ _ suf ways name there W5 (Row.sl (HM2.out.at_ 1 rfl)) (Row.sl (HM2.out.at_ 2 rfl)) (Row.sl (HM2.out.at_ 5 rfl)) hws hn
      have hpos := Lib.hid (@chainL_pos suf ways name there)
      generalize (rightOf suf ways && hit ways name there) = ok at *
      generalize (walkOf ways name there).2 = f at *
      generalize chainL ways name there = xs at *
      repeat (first | (refine plan_pure (v := ?_) (a' := ?_) rfl rfl rfl ?_ ?_ ?_; rotate_left 2; (focus (intro w'; go_simp; with_reducible rfl)); (focus (simp only [Act.put, List.setIfInBounds_toArray, List.set_cons_zero, List.set_cons_succ]; rfl))) | (refine plan_load (v := ?_) (a' := ?_) rfl rfl rfl ?_ ?_ ?_; rotate_left 2; (focus (intro w' hw'; obtain ⟨q0, q1, q2⟩ := hw'.out; clear hw'; go_simp; with_reducible rfl)); (focus (simp only [Act.put, List.setIfInBounds_toArray, List.set_cons_zero, List.set_cons_succ]; rfl))) | (refine plan_skip rfl rfl (by decide +kernel) (by simp only [Act.put, List.setIfInBounds_toArray, List.set_cons_zero, List.set_cons_succ]; rfl) ?_))
      refine plan_eff rfl (fun K hK => ?_)
      go_wp2_with (go_at_call 76; refine hC.mono ?_; clear hC; rintro e w2 ⟨v, rfl, hm⟩)
      have HM3 := Lib.hid (HM2.out.got hm)
      clear hm HM2
      have hS1 := Lib.hid (show _ ∧ _ ∧ _ from ⟨Blk.cell_ (HM3.out.at_ 1 rfl) 1, Blk.cell_ (HM3.out.at_ 1 rfl) 2, Blk.cell_ (HM3.out.at_ 1 rfl) 5⟩)
      refine hK _ _ hS1 ?_
      clear hK hS1
      repeat (first | (refine plan_pure (v := ?_) (a' := ?_) rfl rfl rfl ?_ ?_ ?_; rotate_left 2; (focus (intro w'; go_simp; with_reducible rfl)); (focus (simp only [Act.put, List.setIfInBounds_toArray, List.set_cons_zero, List.set_cons_succ]; rfl))) | (refine plan_load (v := ?_) (a' := ?_) rfl rfl rfl ?_ ?_ ?_; rotate_left 2; (focus (intro w' hw'; obtain ⟨q0, q1, q2⟩ := hw'.out; clear hw'; go_simp; with_reducible rfl)); (focus (simp only [Act.put, List.setIfInBounds_toArray, List.set_cons_zero, List.set_cons_succ]; rfl))) | (refine plan_skip rfl rfl (by decide +kernel) (by simp only [Act.put, List.setIfInBounds_toArray, List.set_cons_zero, List.set_cons_succ]; rfl) ?_))
      refine plan_done ?_
      cases ok with
      | false =>
        have hR2 := hR.out
        rw [if_neg (by decide)] at hR2
        have hR3 := Lib.hid hR2
        clear hR hR2
        go_wp2_with fail
        go_ret
        have h1 := congrArg Prod.fst hR3.out
        have h2 := congrArg Prod.snd hR3.out
        simp only at h1 h2
        subst h1 h2
        exact ⟨rfl, HM3.out.tail⟩
      | true =>
        have hR2 := hR.out
        rw [if_pos rfl] at hR2
        rw [if_pos rfl] at HM3
        obtain ⟨LA, hLA⟩ : ∃ x, linkAll links f xs = x := ⟨_, rfl⟩
        rw [hLA] at hR2
        have hR3 := Lib.hid hR2
        have HI0 : Hid (LA = linkAll links f (xs.drop 0)) := hLA.symm
        clear hR hR2 hLA
        obtain ⟨g, cv, e9, v1, v2⟩ := Row.at_ (HM3.out.at_ 0 rfl) (by simp)
        subst e9
        simp only [List.length_cons] at v1 v2
        unfold maxLen at v2
        have hx1 : 1 ≤ xs.length := hpos.out rfl
        have hcv : ¬ cv = 1 := by omega
        have hcvN : (cv == 1) = false := by rw [beq_eq_false_iff_ne]; exact hcv
        clear hpos
        have HM4 := Lib.hid (HM3.out.psel (L := [_, _, _, _, _, _, _, _, _, _, _]) [8, 0, 1, 2, 3, 4, 5, 6, 7, 9, 10] 11 rfl (by decide))
        clear HM3
        go_wp2_with fail
        go_loopw [42] (fun v42 wr => ∃ (i : Nat) (m : List (ByteArray × ByteArray)) (z : ByteArray), i ≤ xs.length ∧ v42 = .int .i64 i ∧ (f :: xs)[i]? = some z ∧ Hid (LA = linkAll m z (xs.drop i)) ∧ Mem fp w0 ([MapC lb Value.string Value.string m, StrRow (.slice (some ⟨g, 0, none⟩) (f :: xs).length cv) (f :: xs), Blk b 67 #[RV, (.slice As suf.length cs), (.slice Aw ways.length cw), .map (some fb), .map (some ob), (.slice At there.length ct), .map (some mb), .map (some lb), .map (some sb), NV, .int .i64 count, .int .i64 why, .string pname, .int .i64 pat], StrRow (.slice As suf.length cs) suf, PrsRow (.slice Aw ways.length cw) ways, MapC fb Value.string setV files, MapC ob Value.string RX.val own, StrRow (.slice At there.length ct) there, MapC mb Value.string markV marks, MapC sb Value.string (Value.int .i64) state, NRow NV nodes] ++ C) wr) (fun v _ => xs.length - (intOf v).toNat)
        case atStart => exact ⟨0, links, f, Nat.zero_le _, rfl, rfl, HI0, HM4.out⟩
        case round =>
          clear HM4 HI0
          obtain ⟨i, m, z, hi, rfl, hz, HI, HM⟩ := hrel
          have k7 := Blk.cell_ (HM.at_ 2 rfl) 7
          simp only [List.getElem?_toArray, List.getElem?_cons_succ, List.getElem?_cons_zero] at k7
          by_cases hlt : i < xs.length
          · have hlt' : decide ((i : Int) < (xs.length : Int)) = true := decide_eq_true (by omega)
            have hltN : decide (i < xs.length) = true := decide_eq_true hlt
            have HI1 := HI.out
            rw [linkAll_step m f xs i hlt z hz] at HI1
            have x1 := Row.cell (j := 1 + i) (HM.at_ 1 rfl) (show _ = some (Value.string xs[i]) from by rw [Nat.add_comm]; show (strs xs)[i]? = _; exact strs_get hlt)
            have x1' := x1
            rw [Nat.add_comm] at x1'
            have x0 := Row.cell (j := i) (HM.at_ 1 rfl) (show _ = some (Value.string z) from by unfold strs; rw [List.getElem?_map, hz]; rfl)
            have hz2 : (f :: xs)[i + 1]? = some xs[i] := by simp [hlt]
            generalize xs[i] = y at *
            have HI1 := Lib.hid HI1
            clear HI
            have hsome : ∃ s, ((mget m y).map Value.string).getD (.string ⟨#[]⟩) = .string s := by cases mget m y <;> exact ⟨_, rfl⟩
            obtain ⟨s0, hs0⟩ := hsome
            obtain ⟨bv, hbv⟩ : ∃ bv, mhas m y = bv := ⟨_, rfl⟩
            have hlk1 : (if true = true then Value.tuple #[((mget m y).map Value.string).getD (.string ⟨#[]⟩), .bool (mhas m y)] else ((mget m y).map Value.string).getD (.string ⟨#[]⟩)) = .tuple #[.string s0, .bool bv] := by rw [if_pos rfl, hs0, hbv]
            rw [hbv] at HI1
            clear hbv hs0
            cases bv with
            | true =>
              have HI2 := Lib.hid (show LA = linkAll m y (xs.drop (i + 1)) from HI1.out)
              clear HI1 hz x0
              go_wp2_with (at_lookup; refine wpList_get keyS Try.underlying64 zeroS rfl _ _ true rfl (HM.at_ 0 rfl) rfl y rfl _ hlk1 ?_)
              go_roundw
              case rel => exact ⟨i + 1, m, y, by omega, by go_num, hz2, HI2, HM⟩
              case measure => simp [intOf]; omega
            | false =>
              have HI2 := Lib.hid (show LA = linkAll (mput m y z) y (xs.drop (i + 1)) from HI1.out)
              clear HI1 hz
              go_wp2_with (at_lookup; refine wpList_get keyS Try.underlying64 zeroS rfl _ _ true rfl (HM.at_ 0 rfl) rfl y rfl _ hlk1 ?_)
              clear x1 x1'
              have HMd := Lib.hid HM.drew
              have hd := Mut.drew (Mut.refl none_ wr)
              refine wp_plan [9] (S := fun w' => Hid (w'.cell? ⟨b, 7, none⟩ = some (.map (some lb)) ∧ w'.cell? ⟨g, i, none⟩ = some (.string z))) [(.pure, 0), (.pure, 1), (.pure, 2), (.load, 3), (.pure, 4), (.pure, 5), (.pure, 6), (.pure, 7), (.load, 8), (.tail, 9)] (by kernel_rfl) rfl (by kernel_rfl) rfl (fun _ _ _ _ _ h => h) (Lib.hid ⟨Pure.cell hd k7, Pure.cell hd x0⟩) ?_
              clear hd k7 x0 HM
              generalize World.drew _ = W7 at *
              have hi1 : decide ((i : Int) < ((xs.length + 1 : Nat) : Int)) = true := decide_eq_true (by omega)
              have hi1N : decide (i < xs.length + 1) = true := decide_eq_true (by omega)
              have hi1P : (i : Int) < (xs.length : Int) + 1 := by omega
              have hi1Q : i < xs.length + 1 := by omega
              repeat (first | (refine plan_pure (v := ?_) (a' := ?_) rfl rfl rfl ?_ ?_ ?_; rotate_left 2; (focus (intro w'; go_simp; with_reducible rfl)); (focus (simp only [Act.put, List.setIfInBounds_toArray, List.set_cons_zero, List.set_cons_succ]; rfl))) | (refine plan_load (v := ?_) (a' := ?_) rfl rfl rfl ?_ ?_ ?_; rotate_left 2; (focus (intro w' hw'; obtain ⟨q0, q1⟩ := hw'.out; clear hw'; go_simp; with_reducible rfl)); (focus (simp only [Act.put, List.setIfInBounds_toArray, List.set_cons_zero, List.set_cons_succ]; rfl))) | (refine plan_skip rfl rfl (by decide +kernel) (by simp only [Act.put, List.setIfInBounds_toArray, List.set_cons_zero, List.set_cons_succ]; rfl) ?_))
              refine plan_tail_put rfl rfl (fun K hK => ?_)
              refine wpList_put keyS Try.underlying64 rfl _ _ _ (.inl rfl) HMd.out rfl y rfl z rfl ?_
              intro w6 HM6 HU6
              refine wpList_nil_ (hK _ _ (plan_done ?_))
              dsimp only [Act.put]
              clear hK HU6 HMd
              go_wp2_with fail
              go_roundw
              case rel => exact ⟨i + 1, _, y, by omega, by go_num, hz2, HI2, HM6⟩
              case measure => simp [intOf]; omega
          · have hlt' : decide ((i : Int) < (xs.length : Int)) = false := decide_eq_false (by omega)
            have hltN : decide (i < xs.length) = false := decide_eq_false hlt
            have HI1 := HI.out
            rw [List.drop_of_length_le (by omega)] at HI1
            have HI2 : Hid (LA = m) := HI1
            clear HI HI1
            go_wp2_with (at_lookup; refine wpList_get keyS Try.underlying64 zeroS rfl _ _ false rfl (HM.at_ 0 rfl) rfl name rfl (.string (mval m name)) (by rw [if_neg (by decide)]; exact mval_get m name) ?_)
            go_ret
            have h1 := congrArg Prod.fst hR3.out
            have h2 := congrArg Prod.snd hR3.out
            have h3 := HI2.out
            simp only at h1 h2
            subst h1 h2 h3
            exact ⟨rfl, HM.psel (L := [_, _, _, _, _, _, _, _, _, _, _]) [2, 3, 4, 5, 6, 7, 8, 0, 9, 10] 11 rfl (by decide)⟩
  have := hgo _ _ rfl
  refine this.mono ?_
  rintro e w' ⟨rfl, h⟩
  subst hCC
  exact ⟨rfl, h⟩
end Go.Proofs.Ytliglejbkpjamaa
end
