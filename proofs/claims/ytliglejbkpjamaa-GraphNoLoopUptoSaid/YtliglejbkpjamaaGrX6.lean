/-
  Layer 16 (graph): the walk of GraphNoLoop.
-/
import Derived.Test.YtliglejbkpjamaaGrX5
set_option linter.unusedVariables false
set_option linter.unusedSimpArgs false
set_option maxRecDepth 100000
namespace Go.Proofs.Ytliglejbkpjamaa
open Go.RowKit

structure NodeV where
  nm : ByteArray
  kd : Int
  A1 : Option Addr
  n1 : Nat
  c1 : Nat
  A2 : Option Addr
  n2 : Nat
  c2 : Nat
  A3 : Option Addr
  n3 : Nat
  c3 : Nat
  im : ByteArray
  ph : Bool
  pr : Bool
  si : Bool
  ig : Bool
def NodeV.val (v : NodeV) : Value := .agg #[.string v.nm, .int .i64 v.kd, .slice v.A1 v.n1 v.c1, .slice v.A2 v.n2 v.c2, .slice v.A3 v.n3 v.c3, .string v.im, .bool v.ph, .bool v.pr, .bool v.si, .bool v.ig]
abbrev LeftM := List (ByteArray × NodeV)
abbrev leftC (b : Nat) (m : LeftM) : Chunk := MapC b Value.string NodeV.val m
theorem zeroNd : ∀ w, (zeroValue 38).run Try.prog w = .ok (.agg #[.string ⟨#[]⟩, .int .i64 0, .slice none 0 0, .slice none 0 0, .slice none 0 0, .string ⟨#[]⟩, .bool false, .bool false, .bool false, .bool false]) w := fun w => by kernel_rfl
theorem lookN (m : LeftM) (s : ByteArray) {b : Bool} (hb : mhas m s = b) : ∃ nm kd A1 n1 c1 A2 n2 c2 A3 n3 c3 im ph pr si ig, (if true = true then Value.tuple #[((mget m s).map NodeV.val).getD (.agg #[.string ⟨#[]⟩, .int .i64 0, .slice none 0 0, .slice none 0 0, .slice none 0 0, .string ⟨#[]⟩, .bool false, .bool false, .bool false, .bool false]), .bool (mhas m s)] else ((mget m s).map NodeV.val).getD (.agg #[.string ⟨#[]⟩, .int .i64 0, .slice none 0 0, .slice none 0 0, .slice none 0 0, .string ⟨#[]⟩, .bool false, .bool false, .bool false, .bool false])) = .tuple #[.agg #[.string nm, .int .i64 kd, .slice A1 n1 c1, .slice A2 n2 c2, .slice A3 n3 c3, .string im, .bool ph, .bool pr, .bool si, .bool ig], .bool b] := by
  rw [if_pos rfl, hb]
  cases mget m s with
  | none => exact ⟨_, _, _, _, _, _, _, _, _, _, _, _, _, _, _, _, rfl⟩
  | some v => exact ⟨_, _, _, _, _, _, _, _, _, _, _, _, _, _, _, _, rfl⟩
theorem keys_new {gs : List ByteArray} {xs : List NX} (h : Laid gs xs) {m : LeftM} {k : Nat} (hk : k < xs.length) (hm : m.map Prod.fst = (xs.take k).map fun x => x.nd.name) (v : NodeV) : (mput m xs[k].nd.name v).map Prod.fst = (xs.take (k + 1)).map fun x => x.nd.name := by
  have h1 := h.fresh k hk
  rw [← hm, mem_false] at h1
  have h2 : mget m xs[k].nd.name = none := by
    have h3 : ¬ mhas m xs[k].nd.name = true := fun h3 => h1 ((mhas_mem _ _).1 h3)
    unfold mhas at h3
    cases h4 : mget m xs[k].nd.name
    · rfl
    · rw [h4] at h3; exact absurd rfl h3
  rw [mput_new h2, List.map_append, hm, List.take_succ_eq_append_getElem hk, List.map_append]
  rfl
set_option maxHeartbeats 16000000 in
theorem noloop_calls (LV FV GV : Value) (l : List RuleS) (files goals : List ByteArray) (Z C : Nat) (w : World) (hL : Rules w LV l) (hF : Strs w FV files) (hG : Strs w GV goals) (hz : ∀ r, r ∈ l → r.cmd.length ≤ C ∧ (∀ t, t ∈ r.tg → t.size ≤ Z) ∧ ∀ x, x ∈ r.src → x.size ≤ Z) (hgz : ∀ g, g ∈ goals → g.size ≤ Z) (hfl : files.length ≤ 140737488351232) (hgl : goals.length ≤ 140737488351232) (hZ : Z ≤ 1048576) (hC : C ≤ 1048576) :
    Calls Try.prog 5 #[LV, FV, GV] w fun e w' => e = .returned (.bool true) ∧ Mem none_ w [] w' := by
  obtain ⟨Af, cf, rfl, qf, uf, _⟩ := id hF
  obtain ⟨Ag, cg, rfl, qg, ug, _⟩ := id hG
  obtain ⟨Al, nl, cl, rfl⟩ : ∃ A n c, LV = .slice A n c := by
    obtain ⟨cells, ⟨A, c, e, _⟩, _⟩ := hL
    exact ⟨A, _, c, e⟩
  obtain rfl : nl = l.length := hL.get.1
  have hFar := farG_calls _ l Af files.length cf Ag goals.length cg w hL hfl hgl
  unfold maxLen at uf ug
  obtain ⟨b, hb⟩ : ∃ b, farB l files.length goals.length = b := ⟨_, rfl⟩
  rw [hb] at hFar
  cases b with
  | true =>
    go_enter Try.func5, Try.ntmps5
    go_wp2_with (first | (go_at_call 11; refine hFar.mono ?_; clear hFar; rintro e w1 ⟨rfl, hm⟩; have HM1 := Lib.hid hm; have hAl := alive_calls w1; clear hm) | (go_at_call 12; refine hAl.mono ?_; clear hAl; rintro e wa ⟨rfl, hm⟩; have HMa := Lib.hid (HM1.out.got hm); clear hm))
    go_ret
    exact ⟨rfl, HMa.out⟩
  | false =>
    have hs := sized_of hb hz hZ hC
    obtain ⟨_, hfg, _⟩ := not_far hb
    go_enter Try.func5, Try.ntmps5
    go_wp2_with (go_at_call 11; refine hFar.mono ?_; clear hFar; rintro e w1 ⟨rfl, hm⟩; have HM1 := Lib.hid hm; clear hm)
    refine (build_calls _ _ _ l files goals Z 200 C 66 _ (hL.pure HM1.out.mu) (hF.pure HM1.out.mu) (hG.pure HM1.out.mu) hs hgz (by omega) (by omega)).mono ?_
    rintro e w2 (⟨why, nm, pat, hbad, rfl, hm2⟩ | ⟨gs, xs, GO, NV, hg, rfl, hm2⟩)
    case inl =>
      have hp := neqP why pat nm
      have hp := fun w => hp w hbad.ne
      have hne : (why != 0) = true := by simpa using hbad.ne
      have hne2 : (why == 0) = false := by simpa using hbad.ne
      have hne3 : ¬ why = 0 := hbad.ne
      have HM2 := Lib.hid (((HM1.out.got hm2).box #[.slice none 0 0, .slice none 0 0] 29).box #[.int .i64 why, .string nm, .int .i64 pat] 32)
      have hAl := alive_calls
      clear hbad hm2 hb hfg hs
      unfold retB
      go_wp2_with (go_at_call 12; refine (hAl _).mono ?_; clear hAl; rintro e wa ⟨rfl, hm⟩; have HMa := Lib.hid (HM2.out.got hm); clear hm)
      go_ret
      exact ⟨rfl, HMa.out.only (fun d hd => by cases hd) .nil⟩
    have hg2 : gs.length ≤ 200 := by
      rw [hg.eq]
      unfold goalsOf
      split
      · exact aimB_len l hs
      · omega
    have hp := neqP0
    have hW := laid_of hg
    have hln := hW.len
    have hW := Lib.hid hW
    clear hg hs hfg hb hz hgz
    obtain ⟨AN, cN, rfl, qN, uN⟩ := Row.any_ (hm2.at_ 1 rfl)
    obtain ⟨AG, cG, rfl, qG, uG⟩ := Row.any_ (hm2.at_ 0 rfl)
    unfold maxLen at uN uG
    have HM2 := Lib.hid (((HM1.out.got hm2).box #[.slice AG gs.length cG, .slice AN xs.length cN] 29).box #[.int .i64 0, .string ⟨#[]⟩, .int .i64 0] 32)
    clear hm2
    unfold retB
    have hmm := @run_makeMap Try.prog
    have h := HM2.out
    rw [List.append_nil] at h
    have h2 := MapC.made (h.psel (L := [_, _, _, _]) [1, 3] 4 rfl (by decide)) Value.string NodeV.val
    simp only [sz_alloc] at h2
    have HM3 : Hid (Mem none_ w (leftC (w2.heap.size + 1 + 1) [] :: ([Blk w2.heap.size 29 #[.slice AG gs.length cG, .slice AN xs.length cN], NRow (.slice AN xs.length cN) xs] ++ xs.flatMap NX.own)) _) := h2
    have gN := (Blk.cell_ (HM3.out.at_ 1 rfl) 1).trans (show _ = some (Value.slice AN xs.length cN) from rfl)
    clear h h2 HM2
    go_wp2_with fail
    clear hp hmm gN
    generalize World.alloc _ _ = W5 at *
    generalize w2.heap.size = gb at *
    generalize gb + 1 + 1 = mb at *
    go_loopw [41] (fun v41 wr => ∃ (k : Nat) (m : LeftM), k ≤ xs.length ∧ v41 = .int .i64 k ∧ Hid (m.map Prod.fst = (xs.take k).map fun x => x.nd.name) ∧ Mem none_ w (leftC mb m :: ([Blk gb 29 #[.slice AG gs.length cG, .slice AN xs.length cN], NRow (.slice AN xs.length cN) xs] ++ xs.flatMap NX.own)) wr) (fun v _ => xs.length - (intOf v).toNat)
    case atStart => exact ⟨0, [], Nat.zero_le _, rfl, rfl, HM3.out⟩
    case round =>
      clear HM3
      obtain ⟨k, m, hk, rfl, hm, HM⟩ := hrel
      by_cases hlt : k < xs.length
      · have hlt' : decide ((k : Int) < (xs.length : Int)) = true := decide_eq_true (by omega)
        have hltN : decide (k < xs.length) = true := decide_eq_true hlt
        have hrow : (NRow (.slice AN xs.length cN) xs).ok _ := HM.at_ 2 rfl
        obtain ⟨nb, nc, e1, _, _⟩ := Row.at_ hrow (by omega)
        cases e1
        obtain ⟨⟨S1, z1, e1, _, us1⟩, ⟨S2, z2, e2, _⟩, ⟨S3, z3, e3, _, us3⟩⟩ : (∃ A c, xs[k].SV = .slice A xs[k].nd.src.length c ∧ _) ∧ (∃ A c, xs[k].CV = .slice A xs[k].nd.cmd.length c ∧ _) ∧ (∃ A c, xs[k].AV = .slice A xs[k].nd.aft.length c ∧ _) := by
          obtain ⟨a, b, c⟩ := own_of (L := [_, _, _]) HM (List.getElem_mem hlt)
          exact ⟨Row.any_ a, Row.any_ b, Row.any_ c⟩
        unfold maxLen at us1 us3
        have xg : ∀ j, j < 10 → wr.cell? ⟨nb, k * 10 + j, none⟩ = (xs[k].cells)[j]? := fun j hj => by
          rw [Row.cell hrow ((flat_get NX.cells 10 NX.len xs k hlt j hj).trans (List.getElem?_eq_getElem (by rw [NX.len]; exact hj)))]
          rw [List.getElem?_eq_getElem (by rw [NX.len]; exact hj)]
        have y0 : wr.cell? ⟨nb, k * 10, none⟩ = some (.string xs[k].nd.name) := xg 0 (by decide)
        have y1 : wr.cell? ⟨nb, k * 10 + 1, none⟩ = some (.int .i64 xs[k].nd.kind) := xg 1 (by decide)
        have y2 : wr.cell? ⟨nb, k * 10 + 2, none⟩ = some (xs[k].SV) := xg 2 (by decide)
        have y3 : wr.cell? ⟨nb, k * 10 + 3, none⟩ = some (xs[k].CV) := xg 3 (by decide)
        have y4 : wr.cell? ⟨nb, k * 10 + 4, none⟩ = some (xs[k].AV) := xg 4 (by decide)
        have y5 : wr.cell? ⟨nb, k * 10 + 5, none⟩ = some (.string xs[k].nd.impl) := xg 5 (by decide)
        have y6 : wr.cell? ⟨nb, k * 10 + 6, none⟩ = some (.bool xs[k].nd.ph) := xg 6 (by decide)
        have y7 : wr.cell? ⟨nb, k * 10 + 7, none⟩ = some (.bool xs[k].nd.pr) := xg 7 (by decide)
        have y8 : wr.cell? ⟨nb, k * 10 + 8, none⟩ = some (.bool xs[k].nd.si) := xg 8 (by decide)
        have y9 : wr.cell? ⟨nb, k * 10 + 9, none⟩ = some (.bool xs[k].nd.ig) := xg 9 (by decide)
        clear xg hrow
        have hkn := Lib.hid (fun v => keys_new hW.out hlt hm.out v)
        generalize xs[k] = x at *
        obtain ⟨SVx, CVx, AVx, ⟨nm, kd, src, cmd, aft, im, ph, pr, si, ig⟩⟩ := x
        simp only at e1 e2 e3 y0 y1 y2 y3 y4 y5 y6 y7 y8 y9 hkn
        subst e1 e2 e3
        have HM5 := HM.box #[.string nm, .int .i64 kd, .slice S1 src.length z1, .slice S2 cmd.length z2, .slice S3 aft.length z3, .string im, .bool ph, .bool pr, .bool si, .bool ig] 38
        have HM6 := Lib.hid (HM5.psel (L := [_, _, _, _]) [1, 2, 3] 4 rfl (by decide))
        clear HM HM5
        go_wp2_with (at_mapUpdate; refine wpList_put keyS Try.underlying40 rfl _ _ _ (.inl rfl) HM6.out rfl nm rfl ⟨nm, kd, S1, src.length, z1, S2, cmd.length, z2, S3, aft.length, z3, im, ph, pr, si, ig⟩ rfl ?_; intro w9 hm9 hU9; have HM9 := Lib.hid hm9; clear hm9 hU9 HM6)
        go_roundw
        case rel => exact ⟨k + 1, _, by omega, by go_num, Lib.hid (hkn.out _), HM9.out⟩
        case measure => simp [intOf]; omega
      · have hlt' : decide ((k : Int) < (xs.length : Int)) = false := decide_eq_false (by omega)
        have hltN : decide (k < xs.length) = false := decide_eq_false hlt
        obtain rfl : k = xs.length := by omega
        have hm0 := hm.out
        rw [List.take_length] at hm0
        have hka := Lib.hid (kahn hW.out m hm0)
        clear hm0 hm hlt
        have gN := (Blk.cell_ (HM.at_ 1 rfl) 1).trans (show _ = some (Value.slice AN xs.length cN) from rfl)
        have HM2 := Lib.hid HM
        clear HM
        go_wp2_with fail
        clear gN
        go_loopw [53] (fun v53 wr => ∃ i : Nat, i ≤ xs.length ∧ v53 = .int .i64 i ∧ Mem none_ w (leftC mb (iterM xs m i) :: ([Blk gb 29 #[.slice AG gs.length cG, .slice AN xs.length cN], NRow (.slice AN xs.length cN) xs] ++ xs.flatMap NX.own)) wr) (fun v _ => xs.length - (intOf v).toNat)
        case atStart => exact ⟨0, Nat.zero_le _, rfl, HM2.out⟩
        case round =>
          clear HM2
          obtain ⟨i, hi, rfl, HM⟩ := hrel
          by_cases hit : i < xs.length
          · have hit' : decide ((i : Int) < (xs.length : Int)) = true := decide_eq_true (by omega)
            have hitN : decide (i < xs.length) = true := decide_eq_true hit
            have gN := (Blk.cell_ (HM.at_ 1 rfl) 1).trans (show _ = some (Value.slice AN xs.length cN) from rfl)
            have HM2 := Lib.hid HM
            have hmi := Lib.hid (show iterM xs m (i + 1) = xs.foldl stepM (iterM xs m i) from rfl)
            generalize iterM xs m i = mi at *
            clear HM
            go_wp2_with fail
            clear gN
            go_loopw [58] (fun v58 wr => ∃ k : Nat, k ≤ xs.length ∧ v58 = .int .i64 k ∧ Mem none_ w (leftC mb ((xs.take k).foldl stepM mi) :: ([Blk gb 29 #[.slice AG gs.length cG, .slice AN xs.length cN], NRow (.slice AN xs.length cN) xs] ++ xs.flatMap NX.own)) wr) (fun v _ => xs.length - (intOf v).toNat)
            case atStart => exact ⟨0, Nat.zero_le _, rfl, HM2.out⟩
            case round =>
              clear HM2
              obtain ⟨k, hk, rfl, HM⟩ := hrel
              by_cases hlt : k < xs.length
              · have hlt' : decide ((k : Int) < (xs.length : Int)) = true := decide_eq_true (by omega)
                have hltN : decide (k < xs.length) = true := decide_eq_true hlt
                have hrow : (NRow (.slice AN xs.length cN) xs).ok _ := HM.at_ 2 rfl
                obtain ⟨nb, nc, e1, _, _⟩ := Row.at_ hrow (by omega)
                cases e1
                obtain ⟨⟨S1, z1, e1, _, us1⟩, ⟨S2, z2, e2, _⟩, ⟨S3, z3, e3, _, us3⟩⟩ : (∃ A c, xs[k].SV = .slice A xs[k].nd.src.length c ∧ _) ∧ (∃ A c, xs[k].CV = .slice A xs[k].nd.cmd.length c ∧ _) ∧ (∃ A c, xs[k].AV = .slice A xs[k].nd.aft.length c ∧ _) := by
                  obtain ⟨a, b, c⟩ := own_of (L := [_, _, _]) HM (List.getElem_mem hlt)
                  exact ⟨Row.any_ a, Row.any_ b, Row.any_ c⟩
                unfold maxLen at us1 us3
                have xg : ∀ j, j < 10 → wr.cell? ⟨nb, k * 10 + j, none⟩ = (xs[k].cells)[j]? := fun j hj => by
                  rw [Row.cell hrow ((flat_get NX.cells 10 NX.len xs k hlt j hj).trans (List.getElem?_eq_getElem (by rw [NX.len]; exact hj)))]
                  rw [List.getElem?_eq_getElem (by rw [NX.len]; exact hj)]
                have y0 : wr.cell? ⟨nb, k * 10, none⟩ = some (.string xs[k].nd.name) := xg 0 (by decide)
                have y1 : wr.cell? ⟨nb, k * 10 + 1, none⟩ = some (.int .i64 xs[k].nd.kind) := xg 1 (by decide)
                have y2 : wr.cell? ⟨nb, k * 10 + 2, none⟩ = some (xs[k].SV) := xg 2 (by decide)
                have y3 : wr.cell? ⟨nb, k * 10 + 3, none⟩ = some (xs[k].CV) := xg 3 (by decide)
                have y4 : wr.cell? ⟨nb, k * 10 + 4, none⟩ = some (xs[k].AV) := xg 4 (by decide)
                have y5 : wr.cell? ⟨nb, k * 10 + 5, none⟩ = some (.string xs[k].nd.impl) := xg 5 (by decide)
                have y6 : wr.cell? ⟨nb, k * 10 + 6, none⟩ = some (.bool xs[k].nd.ph) := xg 6 (by decide)
                have y7 : wr.cell? ⟨nb, k * 10 + 7, none⟩ = some (.bool xs[k].nd.pr) := xg 7 (by decide)
                have y8 : wr.cell? ⟨nb, k * 10 + 8, none⟩ = some (.bool xs[k].nd.si) := xg 8 (by decide)
                have y9 : wr.cell? ⟨nb, k * 10 + 9, none⟩ = some (.bool xs[k].nd.ig) := xg 9 (by decide)
                clear xg hrow
                have hst := Lib.hid (show (xs.take (k + 1)).foldl stepM mi = stepM ((xs.take k).foldl stepM mi) xs[k] from by
                  rw [List.take_succ_eq_append_getElem hlt, List.foldl_append]; rfl)
                have hsl := hW.out.srcs _ (List.getElem_mem hlt)
                have hal := (hW.out.afts _ (List.getElem_mem hlt)).1
                have hR1 := Lib.hid (show ∀ L w', Mem none_ w (L ++ xs.flatMap NX.own) w' → (StrRow xs[k].SV xs[k].nd.src).ok w' ∧ (StrRow xs[k].AV xs[k].nd.aft).ok w' from fun L w' h => ⟨(own_of h (List.getElem_mem hlt)).1, (own_of h (List.getElem_mem hlt)).2.2⟩)
                generalize (xs.take k).foldl stepM mi = mk at *
                have hst2 := Lib.hid (hst.out.trans (show stepM mk xs[k] = if mhas mk xs[k].nd.name = true ∧ lackB mk (xs[k].nd.src ++ xs[k].nd.aft) = true then mdel mk xs[k].nd.name else mk from rfl))
                clear hst
                generalize xs[k] = x at *
                obtain ⟨SVx, CVx, AVx, ⟨nm, kd, src, cmd, aft, im, ph, pr, si, ig⟩⟩ := x
                simp only at e1 e2 e3 y0 y1 y2 y3 y4 y5 y6 y7 y8 y9 hst2 hsl hal hR1
                subst e1 e2 e3
                obtain ⟨b, hb⟩ : ∃ b, mhas mk nm = b := ⟨_, rfl⟩
                obtain ⟨nmz, kdz, A1z, n1z, c1z, A2z, n2z, c2z, A3z, n3z, c3z, imz, phz, prz, siz, igz, hlk⟩ := lookN mk nm hb
                have hb := Lib.hid hb
                have HM5 := HM.box #[.string nm, .int .i64 kd, .slice S1 src.length z1, .slice S2 cmd.length z2, .slice S3 aft.length z3, .string im, .bool ph, .bool pr, .bool si, .bool ig] 38
                have HM6 := Lib.hid (HM5.box #[.string nmz, .int .i64 kdz, .slice A1z n1z c1z, .slice A2z n2z c2z, .slice A3z n3z c3z, .string imz, .bool phz, .bool prz, .bool siz, .bool igz] 38)
                have HM5 := Lib.hid HM5
                clear HM
                cases b with
                | false =>
                  have hst3 := hst2.out
                  rw [hb.out, if_neg (by simp)] at hst3
                  have hst3 := Lib.hid hst3
                  go_wp2_with (at_lookup; refine wpList_get keyS Try.underlying40 zeroNd rfl _ _ true rfl (HM5.out.at_ 1 rfl) rfl nm rfl _ hlk ?_)
                  go_roundw
                  case rel => exact ⟨k + 1, by omega, by go_num, by rw [hst3.out]; exact HM6.out.tail.tail⟩
                  case measure => simp [intOf]; omega
                | true =>
                  go_wp2_with (at_lookup; refine wpList_get keyS Try.underlying40 zeroNd rfl _ _ true rfl (HM5.out.at_ 1 rfl) rfl nm rfl _ hlk ?_)
                  clear hlk HM5
                  have HM7 := Lib.hid HM6.out.drew
                  have hrr := hR1.out [_, _, _, _, _] _ HM7.out
                  have hx1 := Lib.hid (Row.sl hrr.1)
                  have hS0 := Lib.hid (show _ ∧ _ from ⟨Blk.cell_ (HM7.out.at_ 1 rfl) 2, Blk.cell_ (HM7.out.at_ 1 rfl) 4⟩)
                  have hbA := Lib.hid (show (([] : List ByteArray).length + src.length) * 16 ≤ 140737488355328 from by simp; omega)
                  have hbB := Lib.hid (show (([] ++ src : List ByteArray).length + aft.length) * 16 ≤ 140737488355328 from by simp; omega)
                  refine wp_plan [] (S := fun w' => Hid (w'.cell? ⟨wr.heap.size, 2, none⟩ = some (.slice S1 src.length z1) ∧ w'.cell? ⟨wr.heap.size, 4, none⟩ = some (.slice S3 aft.length z3))) [(.pure, 0), (.load, 1), (.pure, 3), (.load, 4), (.pure, 7), (.eff, 2), (.eff, 5), (.pure, 6)] (by kernel_rfl) rfl (by kernel_rfl) rfl (fun _ _ _ _ _ h => h) hS0 ?_
                  clear hS0 hrr HM6 y0 y1 y2 y3 y4 y5 y6 y7 y8 y9
                  generalize World.drew _ = W6 at *
                  generalize wr.heap.size = nb0 at *
                  repeat (first | (refine plan_pure (v := ?_) (a' := ?_) rfl rfl rfl ?_ ?_ ?_; rotate_left 2; (focus (intro w'; go_simp; with_reducible rfl)); (focus (simp only [Act.put, List.setIfInBounds_toArray, List.set_cons_zero, List.set_cons_succ]; rfl))) | (refine plan_load (v := ?_) (a' := ?_) rfl rfl rfl ?_ ?_ ?_; rotate_left 2; (focus (intro w' hw'; obtain ⟨q0, q1⟩ := hw'.out; clear hw'; go_simp; with_reducible rfl)); (focus (simp only [Act.put, List.setIfInBounds_toArray, List.set_cons_zero, List.set_cons_succ]; rfl))) | (refine plan_skip rfl rfl (by decide +kernel) (by simp only [Act.put, List.setIfInBounds_toArray, List.set_cons_zero, List.set_cons_succ]; rfl) ?_))
                  refine plan_eff_put (N := some 73) rfl rfl (fun K1 hK1 => ?_)
                  have HM7n := Lib.hid HM7.out.nilS
                  refine wpList_appL (xv := .slice S1 src.length z1) (m := src) strE rfl _ _ rfl HM7n.out rfl rfl hx1.out hbA.out ?_
                  intro v2 wb hm8 hU8
                  have HM8 := Lib.hid hm8
                  clear hm8 hU8
                  have hx2 := Lib.hid (Row.sl (hR1.out [_, _, _, _, _, _] _ HM8.out).2)
                  refine wpList_nil_ (hK1 _ _ (Lib.hid ⟨Blk.cell_ (HM8.out.at_ 2 rfl) 2, Blk.cell_ (HM8.out.at_ 2 rfl) 4⟩) ?_)
                  simp only [Act.put, List.setIfInBounds_toArray, List.set_cons_zero, List.set_cons_succ]
                  clear hK1 hx1 HM7 HM7n
                  refine plan_eff_put (N := some 76) rfl rfl (fun K2 hK2 => ?_)
                  refine wpList_appL (xv := .slice S3 aft.length z3) (m := aft) strE rfl _ _ rfl HM8.out rfl rfl hx2.out hbB.out ?_
                  intro v5 wc hm8 hU8
                  obtain ⟨L, hL0⟩ : ∃ L, [] ++ src ++ aft = L := ⟨_, rfl⟩
                  rw [hL0] at hm8
                  have hL := Lib.hid hL0
                  clear hL0
                  obtain ⟨A5, c5, rfl, _, u5⟩ := Row.any_ hm8.head
                  have HM9 := Lib.hid hm8
                  clear hm8 hU8
                  refine wpList_nil_ (hK2 _ _ (Lib.hid ⟨Blk.cell_ (HM9.out.at_ 2 rfl) 2, Blk.cell_ (HM9.out.at_ 2 rfl) 4⟩) ?_)
                  simp only [Act.put, List.setIfInBounds_toArray, List.set_cons_zero, List.set_cons_succ]
                  clear hK2 hx2 HM8 hbA hbB
                  repeat (first | (refine plan_pure (v := ?_) (a' := ?_) rfl rfl rfl ?_ ?_ ?_; rotate_left 2; (focus (intro w'; go_simp; with_reducible rfl)); (focus (simp only [Act.put, List.setIfInBounds_toArray, List.set_cons_zero, List.set_cons_succ]; rfl))) | (refine plan_load (v := ?_) (a' := ?_) rfl rfl rfl ?_ ?_ ?_; rotate_left 2; (focus (intro w' hw'; obtain ⟨q0, q1⟩ := hw'.out; clear hw'; go_simp; with_reducible rfl)); (focus (simp only [Act.put, List.setIfInBounds_toArray, List.set_cons_zero, List.set_cons_succ]; rfl))) | (refine plan_skip rfl rfl (by decide +kernel) (by simp only [Act.put, List.setIfInBounds_toArray, List.set_cons_zero, List.set_cons_succ]; rfl) ?_))
                  refine plan_done ?_
                  have hL2 : src ++ aft = L := hL.out
                  have hst5 := hst2.out
                  rw [hL2] at hst5
                  have hst2 := Lib.hid hst5
                  clear hL2 hst5
                  have HMa := Lib.hid (HM9.out.psel (L := [_, _, _, _, _, _]) [0, 2, 3, 4, 5] 6 rfl (by decide))
                  clear HM9
                  unfold maxLen at u5
                  go_wp2_with fail
                  go_loopw [16, 78] (fun v16 v78 wq => ∃ j : Nat, j ≤ L.length ∧ v78 = .int .i64 j ∧ v16 = .bool (lackB mk (L.take j)) ∧ Mem none_ w ([StrRow (.slice A5 L.length c5) L, Blk nb0 38 #[.string nm, .int .i64 kd, .slice S1 src.length z1, .slice S2 cmd.length z2, .slice S3 aft.length z3, .string im, .bool ph, .bool pr, .bool si, .bool ig], leftC mb mk, Blk gb 29 #[.slice AG gs.length cG, .slice (some ⟨nb, 0, none⟩) xs.length cN], NRow (.slice (some ⟨nb, 0, none⟩) xs.length cN) xs] ++ xs.flatMap NX.own) wq) (fun _ v _ => L.length - (intOf v).toNat)
                  case atStart => exact ⟨0, Nat.zero_le _, rfl, rfl, HMa.out⟩
                  case round =>
                    clear HMa
                    obtain ⟨j, hj, rfl, rfl, HM⟩ := hrel
                    have b0 := (Blk.cell_ (HM.at_ 1 rfl) 0).trans (show _ = some (Value.string nm) from rfl)
                    by_cases hjt : j < L.length
                    · have hjt' : decide ((j : Int) < (L.length : Int)) = true := decide_eq_true (by omega)
                      have hjtN : decide (j < L.length) = true := decide_eq_true hjt
                      have hrs : (StrRow (.slice A5 L.length c5) L).ok _ := HM.at_ 0 rfl
                      obtain ⟨gg, gc, e1, _, _⟩ := Row.at_ hrs (by omega)
                      cases e1
                      have ys := Row.cell hrs (strs_get hjt)
                      have hlb := Lib.hid (show lackB mk (L.take (j + 1)) = (lackB mk (L.take j) && !mhas mk L[j]) from by
                        unfold lackB
                        rw [List.take_succ_eq_append_getElem hjt, List.all_append]; simp)
                      clear hrs b0
                      generalize lackB mk (L.take j) = Fr at *
                      generalize L[j] = s at *
                      obtain ⟨b2, hb2⟩ : ∃ b, mhas mk s = b := ⟨_, rfl⟩
                      obtain ⟨nmz, kdz, A1z, n1z, c1z, A2z, n2z, c2z, A3z, n3z, c3z, imz, phz, prz, siz, igz, hlk⟩ := lookN mk s hb2
                      have hlb := Lib.hid (hlb.out.trans (show _ = (Fr && !b2) from by rw [hb2]))
                      clear hb2
                      have HMj := Lib.hid HM
                      have HMk := Lib.hid (HM.box #[.string nmz, .int .i64 kdz, .slice A1z n1z c1z, .slice A2z n2z c2z, .slice A3z n3z c3z, .string imz, .bool phz, .bool prz, .bool siz, .bool igz] 38)
                      clear HM
                      cases Fr <;> cases b2
                      all_goals
                        go_wp2_with (at_lookup; refine wpList_get keyS Try.underlying40 zeroNd rfl _ _ true rfl (HMj.out.at_ 2 rfl) rfl s rfl _ hlk ?_)
                        go_roundw
                        case rel => exact ⟨j + 1, by omega, by go_num, by rw [hlb.out]; rfl, HMk.out.tail⟩
                        case measure => simp [intOf]; omega
                    · have hjt' : decide ((j : Int) < (L.length : Int)) = false := decide_eq_false (by omega)
                      have hjtN : decide (j < L.length) = false := decide_eq_false hjt
                      obtain rfl : j = L.length := by omega
                      rw [List.take_length]
                      have hst3 := hst2.out
                      rw [hb.out] at hst3
                      have HMd := Lib.hid (HM.psel (L := [_, _, _, _, _]) [2, 3, 4] 5 rfl (by decide))
                      clear HM hst2
                      generalize lackB mk L = Fr at *
                      cases Fr with
                      | true =>
                        rw [if_pos ⟨rfl, rfl⟩] at hst3
                        have hst4 := Lib.hid hst3
                        clear hst3
                        go_wp2_with (at_delete; refine wpList_delM keyS Try.underlying40 rfl _ _ _ rfl HMd.out rfl nm rfl ?_; intro w9 hm9 hU9; have HM9 := Lib.hid hm9; clear hm9 hU9 HMd)
                        go_roundw
                        case rel => exact ⟨k + 1, by omega, by go_num, by rw [hst4.out]; exact HM9.out⟩
                        case measure => simp [intOf]; omega
                      | false =>
                        rw [if_neg (by simp)] at hst3
                        have hst4 := Lib.hid hst3
                        clear hst3
                        go_wp2_with fail
                        go_roundw
                        case rel => exact ⟨k + 1, by omega, by go_num, by rw [hst4.out]; exact HMd.out⟩
                        case measure => simp [intOf]; omega
              · have hlt' : decide ((k : Int) < (xs.length : Int)) = false := decide_eq_false (by omega)
                have hltN : decide (k < xs.length) = false := decide_eq_false hlt
                obtain rfl : k = xs.length := by omega
                rw [List.take_length, ← hmi.out] at HM
                have HM2 := Lib.hid HM
                clear HM
                go_wp2_with fail
                go_roundw
                case rel => exact ⟨i + 1, by omega, by go_num, HM2.out⟩
                case measure => simp [intOf]; omega
          · have hit' : decide ((i : Int) < (xs.length : Int)) = false := decide_eq_false (by omega)
            have hitN : decide (i < xs.length) = false := decide_eq_false hit
            obtain rfl : i = xs.length := by omega
            rw [hka.out] at HM
            have HMe := Lib.hid HM
            clear HM
            have hAl := alive_calls
            go_wp2_with (first | (at_len; refine wpList_lenM Try.underlying40 rfl _ rfl (HMe.out.at_ 0 rfl) rfl ?_) | (go_at_call 12; refine (hAl _).mono ?_; clear hAl; rintro e wa ⟨rfl, hm⟩; have HMa := Lib.hid (HMe.out.got hm); clear hm))
            go_ret
            exact ⟨rfl, HMa.out.only (fun d hd => by cases hd) .nil⟩
end Go.Proofs.Ytliglejbkpjamaa
