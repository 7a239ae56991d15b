/-
  Layer 16 (graph): the walk of Find.
  Layer 16 (graph): the walk of GraphReached.
-/
import Derived.Test.YtliglejbkpjamaaGrX0
set_option linter.unusedVariables false
set_option linter.unusedSimpArgs false
namespace Go.Proofs.Ytliglejbkpjamaa
section
set_option maxRecDepth 100000
open Go.RowKit

set_option maxHeartbeats 4000000 in
theorem hitN_calls (nm : ByteArray) (kd : Int) (SV CV AV : Value) (im : ByteArray) (ph pr si ig : Bool) (name : ByteArray) (cb : Nat) (w : World) (hS : ∃ A n c, SV = .slice A n c) (hC : ∃ A n c, CV = .slice A n c) (hA : ∃ A n c, AV = .slice A n c) (hc : w.cell? ⟨cb, 0, none⟩ = some (.string name)) :
    Calls Try.prog 33 #[.agg #[.string nm, .int .i64 kd, SV, CV, AV, .string im, .bool ph, .bool pr, .bool si, .bool ig], .pointer (some ⟨cb, 0, none⟩)] w fun e w' => e = .returned (.bool (nm.toList == name.toList)) ∧ Mem none_ w [] w' := by
  obtain ⟨S1, n1, z1, rfl⟩ := hS
  obtain ⟨S2, n2, z2, rfl⟩ := hC
  obtain ⟨S3, n3, z3, rfl⟩ := hA
  have HM := (Mem.start (fp := none_) w).box #[.string nm, .int .i64 kd, .slice S1 n1 z1, .slice S2 n2 z2, .slice S3 n3 z3, .string im, .bool ph, .bool pr, .bool si, .bool ig] 38
  have hc := Pure.cell HM.mu hc
  have b0 := Blk.cell_ (HM.at_ 0 rfl) 0
  simp only [List.getElem?_toArray, List.getElem?_cons_succ, List.getElem?_cons_zero] at b0
  have HM := Lib.hid HM
  go_enter Try.func33, Try.ntmps33
  go_wp2_with fail
  go_ret
  exact ⟨rfl, HM.out.tail⟩
set_option maxHeartbeats 8000000 in
theorem idxN_calls (name : ByteArray) (cb : Nat) (NV : Value) (xs : List NX) (w : World) {fp : Nat → Prop} {w0 : World} (HX : Mem fp w0 ([NRow NV xs] ++ xs.flatMap NX.own) w) (hl : xs.length ≤ 1000000) (hc : w.cell? ⟨cb, 0, none⟩ = some (.string name)) :
    Calls Try.prog 32 #[NV, .func (.func 33) #[] #[.pointer (some ⟨cb, 0, none⟩)]] w fun e w' => ∃ r : Int, e = .returned (.int .i64 r) ∧ ((r = -1 ∧ (xs.any fun x => x.nd.name.toList == name.toList) = false) ∨ ∃ k : Nat, r = (k : Int) ∧ k < xs.length ∧ (xs.any fun x => x.nd.name.toList == name.toList) = true) ∧ Mem none_ w [] w' := by
  have hV : (NRow NV xs).ok w := HX.at_ 0 rfl
  have ho := fun (x : NX) (hx : x ∈ xs) => own_of (L := [_]) HX hx
  clear HX
  obtain ⟨AN, cN, rfl, qN, uN⟩ := Row.any_ hV
  have HM0 := (Mem.start (fp := none_) w)
  go_enter Try.func32, Try.ntmps32
  go_wp2_with fail
  go_loopw [5, 8] (fun v5 v8 wr => ∃ k : Nat, k ≤ xs.length ∧ v8 = .int .i64 k ∧ Hid (((xs.take k).any fun x => x.nd.name.toList == name.toList) = false) ∧ Mem none_ w [] wr) (fun _ v _ => xs.length - (intOf v).toNat)
  case atStart => exact ⟨0, Nat.zero_le _, rfl, rfl, HM0⟩
  case round =>
    clear HM0
    obtain ⟨k, hk, rfl, HN, HM⟩ := hrel
    by_cases hlt : k < xs.length
    · have hlt' : decide ((k : Int) < (xs.length : Int)) = true := decide_eq_true (by omega)
      have hltN : decide (k < xs.length) = true := decide_eq_true hlt
      obtain ⟨nb, nc, e1, _, _⟩ := Row.at_ hV (by omega)
      cases e1
      obtain ⟨⟨S1, z1, e1, _⟩, ⟨S2, z2, e2, _⟩, ⟨S3, z3, e3, _⟩⟩ : (∃ A c, xs[k].SV = .slice A xs[k].nd.src.length c ∧ _) ∧ (∃ A c, xs[k].CV = .slice A xs[k].nd.cmd.length c ∧ _) ∧ (∃ A c, xs[k].AV = .slice A xs[k].nd.aft.length c ∧ _) := by
        obtain ⟨a, b, c⟩ := ho _ (List.getElem_mem hlt)
        exact ⟨Row.any_ a, Row.any_ b, Row.any_ c⟩
      have xg : ∀ j, j < 10 → wr.cell? ⟨nb, k * 10 + j, none⟩ = (xs[k].cells)[j]? := fun j hj => by
        have h1 := Row.cell hV ((flat_get NX.cells 10 NX.len xs k hlt j hj).trans (List.getElem?_eq_getElem (by rw [NX.len]; exact hj)))
        rw [Pure.cell HM.mu h1]
        rw [List.getElem?_eq_getElem (by rw [NX.len]; exact hj)]
      have y0 : wr.cell? ⟨nb, k * 10, none⟩ = some (.string xs[k].nd.name) := xg 0 (by decide)
      have y1 : wr.cell? ⟨nb, k * 10 + 1, none⟩ = some (.int .i64 xs[k].nd.kind) := xg 1 (by decide)
      have y2 : wr.cell? ⟨nb, k * 10 + 2, none⟩ = some (xs[k].SV) := xg 2 (by decide)
      have y3 : wr.cell? ⟨nb, k * 10 + 3, none⟩ = some (xs[k].CV) := xg 3 (by decide)
      have y4 : wr.cell? ⟨nb, k * 10 + 4, none⟩ = some (xs[k].AV) := xg 4 (by decide)
      have y5 : wr.cell? ⟨nb, k * 10 + 5, none⟩ = some (.string xs[k].nd.impl) := xg 5 (by decide)
      have y6 : wr.cell? ⟨nb, k * 10 + 6, none⟩ = some (.bool xs[k].nd.ph) := xg 6 (by decide)
      have y7 : wr.cell? ⟨nb, k * 10 + 7, none⟩ = some (.bool xs[k].nd.pr) := xg 7 (by decide)
      have y8 : wr.cell? ⟨nb, k * 10 + 8, none⟩ = some (.bool xs[k].nd.si) := xg 8 (by decide)
      have y9 : wr.cell? ⟨nb, k * 10 + 9, none⟩ = some (.bool xs[k].nd.ig) := xg 9 (by decide)
      clear xg
      have hc := Pure.cell HM.mu hc
      have HT := Lib.hid (anyt_take hlt HN.out)
      have HH : Hid ((fun x : NX => x.nd.name.toList == name.toList) xs[k] = true → (xs.any fun x => x.nd.name.toList == name.toList) = true) := fun h => anyt_hit (p := fun x : NX => x.nd.name.toList == name.toList) hlt h
      clear HN hV ho
      generalize xs[k] = x at *
      obtain ⟨SVx, CVx, AVx, ⟨nm, kd, src, cmd, aft, im, ph, pr, si, ig⟩⟩ := x
      simp only at e1 e2 e3 y0 y1 y2 y3 y4 y5 y6 y7 y8 y9 HT HH
      subst e1 e2 e3
      have hq := hitN_calls nm kd (.slice S1 src.length z1) (.slice S2 cmd.length z2) (.slice S3 aft.length z3) im ph pr si ig name cb wr ⟨_, _, _, rfl⟩ ⟨_, _, _, rfl⟩ ⟨_, _, _, rfl⟩ hc
      obtain ⟨G, hG⟩ : ∃ G, (nm.toList == name.toList) = G := ⟨_, rfl⟩
      rw [hG] at hq HT HH
      clear hG hc
      have HM := Lib.hid HM
      cases G with
      | true =>
        have HL : Hid ((xs.any fun x => x.nd.name.toList == name.toList) = true) := HH.out rfl
        clear HH HT
        go_wp2_with fail
        refine hq.mono ?_
        rintro e w3 ⟨rfl, HM1⟩
        have HMe := HM.out.got HM1
        go_wp2_with fail
        go_ret
        exact ⟨_, rfl, .inr ⟨k, rfl, hlt, HL.out⟩, HMe⟩
      | false =>
        clear HH
        go_wp2_with fail
        refine hq.mono ?_
        rintro e w3 ⟨rfl, HM1⟩
        have HMe := HM.out.got HM1
        go_wp2_with fail
        go_roundw
        case rel => exact ⟨k + 1, by omega, by go_num, HT.out, HMe⟩
        case measure => simp [intOf]; omega
    · have hlt' : decide ((k : Int) < (xs.length : Int)) = false := decide_eq_false (by omega)
      have hltN : decide (k < xs.length) = false := decide_eq_false hlt
      have e : k = xs.length := by omega
      subst e
      have HR2 := HN.out
      rw [List.take_length] at HR2
      have HR3 := Lib.hid HR2
      have HM := Lib.hid HM
      clear HR2 HN
      go_wp2_with fail
      go_ret
      exact ⟨_, rfl, .inl ⟨rfl, HR3.out⟩, HM.out⟩
set_option maxHeartbeats 8000000 in
theorem find_calls (name : ByteArray) (GO NV : Value) (xs : List NX) (w : World) (hG : ∃ A n c, GO = .slice A n c) {fp : Nat → Prop} {w0 : World} (HX : Mem fp w0 ([NRow NV xs] ++ xs.flatMap NX.own) w) (hl : xs.length ≤ 1000000) :
    Calls Try.prog 15 #[.agg #[GO, NV], .string name] w fun e w' => ∃ nm kd A1 n1 c1 A2 n2 c2 A3 n3 c3 im ph pr si ig, e = .returned (.tuple #[.agg #[.string nm, .int .i64 kd, .slice A1 n1 c1, .slice A2 n2 c2, .slice A3 n3 c3, .string im, .bool ph, .bool pr, .bool si, .bool ig], .bool (xs.any fun x => x.nd.name.toList == name.toList)]) ∧ Mem none_ w [] w' := by
  obtain ⟨AG, nG, cG, rfl⟩ := hG
  obtain ⟨AN, cN, rfl, qN, uN⟩ := Row.any_ (HX.at_ 0 rfl)
  have HM0 := (((Mem.start (fp := none_) w).box #[.slice AG nG cG, .slice AN xs.length cN] 29).box #[.string name] 9).box #[.string ⟨#[]⟩, .int .i64 0, .slice none 0 0, .slice none 0 0, .slice none 0 0, .string ⟨#[]⟩, .bool false, .bool false, .bool false, .bool false] 38
  simp only [sz_alloc] at HM0
  have hc := Blk.cell_ (HM0.at_ 1 rfl) 0
  simp only [List.getElem?_toArray, List.getElem?_cons_succ, List.getElem?_cons_zero] at hc
  have hI := idxN_calls name (w.heap.size + 1) (.slice AN xs.length cN) xs _ ((HX.got HM0).psel (L := [_, _, _, _]) [3] 4 rfl (by decide)) hl hc
  have HX2 := (HX.got HM0).psel (L := [_, _, _, _]) [3] 4 rfl (by decide)
  clear hc
  have HM0 := Lib.hid HM0
  have HX2 := Lib.hid HX2
  clear HX
  go_enter Try.func15, Try.ntmps15
  go_wp2_with fail
  refine hI.mono ?_
  clear hI
  rintro e w1 ⟨r, rfl, hr, hm⟩
  have HM1 := Lib.hid (HM0.out.got hm)
  have HX3 := Lib.hid (HX2.out.got hm)
  clear HM0 HX2 hm
  obtain ⟨R, hR⟩ : ∃ R, (xs.any fun x => x.nd.name.toList == name.toList) = R := ⟨_, rfl⟩
  rw [hR] at hr
  have hb : (Blk (w.heap.size + 1 + 1) 38 #[.string ⟨#[]⟩, .int .i64 0, .slice none 0 0, .slice none 0 0, .slice none 0 0, .string ⟨#[]⟩, .bool false, .bool false, .bool false, .bool false]).ok w1 := HM1.out.at_ 0 rfl
  have c0 := (Blk.cell_ hb 0).trans (show _ = some (Value.string ⟨#[]⟩) from rfl)
  have f0 := Blk.frozen hb 0
  have c1 := (Blk.cell_ hb 1).trans (show _ = some (Value.int .i64 0) from rfl)
  have f1 := Blk.frozen hb 1
  have c2 := (Blk.cell_ hb 2).trans (show _ = some (Value.slice none 0 0) from rfl)
  have f2 := Blk.frozen hb 2
  have c3 := (Blk.cell_ hb 3).trans (show _ = some (Value.slice none 0 0) from rfl)
  have f3 := Blk.frozen hb 3
  have c4 := (Blk.cell_ hb 4).trans (show _ = some (Value.slice none 0 0) from rfl)
  have f4 := Blk.frozen hb 4
  have c5 := (Blk.cell_ hb 5).trans (show _ = some (Value.string ⟨#[]⟩) from rfl)
  have f5 := Blk.frozen hb 5
  have c6 := (Blk.cell_ hb 6).trans (show _ = some (Value.bool false) from rfl)
  have f6 := Blk.frozen hb 6
  have c7 := (Blk.cell_ hb 7).trans (show _ = some (Value.bool false) from rfl)
  have f7 := Blk.frozen hb 7
  have c8 := (Blk.cell_ hb 8).trans (show _ = some (Value.bool false) from rfl)
  have f8 := Blk.frozen hb 8
  have c9 := (Blk.cell_ hb 9).trans (show _ = some (Value.bool false) from rfl)
  have f9 := Blk.frozen hb 9
  clear hb
  have gN := (Blk.cell_ (HM1.out.at_ 2 rfl) 1).trans (show _ = some (Value.slice AN xs.length cN) from rfl)
  rcases hr with ⟨rfl, rfl⟩ | ⟨k, rfl, hlt, rfl⟩
  · have hR2 := Lib.hid hR
    clear HX3 hR
    go_wp2_with fail
    refine bodyPost_ret (v := .tuple #[.agg #[.string ⟨#[]⟩, .int .i64 0, .slice none 0 0, .slice none 0 0, .slice none 0 0, .string ⟨#[]⟩, .bool false, .bool false, .bool false, .bool false], .bool false]) ?hr1 rfl ?_
    case hr1 =>
      unfold results
      go_simp
    have G0 := HM1.out
    have G1 := Mem.blkSet (F := [_, _]) G0 0 (.string ⟨#[]⟩)
    have G2 := Mem.blkSet (F := [_, _]) G1 1 (.int .i64 0)
    have G3 := Mem.blkSet (F := [_, _]) G2 2 (.slice none 0 0)
    have G4 := Mem.blkSet (F := [_, _]) G3 3 (.slice none 0 0)
    have G5 := Mem.blkSet (F := [_, _]) G4 4 (.slice none 0 0)
    have G6 := Mem.blkSet (F := [_, _]) G5 5 (.string ⟨#[]⟩)
    have G7 := Mem.blkSet (F := [_, _]) G6 6 (.bool false)
    have G8 := Mem.blkSet (F := [_, _]) G7 7 (.bool false)
    have G9 := Mem.blkSet (F := [_, _]) G8 8 (.bool false)
    have G10 := Mem.blkSet (F := [_, _]) G9 9 (.bool false)
    exact ⟨⟨#[]⟩, 0, none, 0, 0, none, 0, 0, none, 0, 0, ⟨#[]⟩, false, false, false, false, by rw [hR2.out], G10.only (fun d hd => by cases hd) .nil⟩
  · have hk0 : decide ((k : Int) < 0) = false := decide_eq_false (by omega)
    have hkL : k < cN := by omega
    have HM := HX3.out
    have hrow : (NRow (.slice AN xs.length cN) xs).ok _ := HM.at_ 0 rfl
    obtain ⟨nb, nc, e1, _, _⟩ := Row.at_ hrow (by omega)
    cases e1
    obtain ⟨⟨S1, z1, e1, _, us1⟩, ⟨S2, z2, e2, _⟩, ⟨S3, z3, e3, _, us3⟩⟩ : (∃ A c, xs[k].SV = .slice A xs[k].nd.src.length c ∧ _) ∧ (∃ A c, xs[k].CV = .slice A xs[k].nd.cmd.length c ∧ _) ∧ (∃ A c, xs[k].AV = .slice A xs[k].nd.aft.length c ∧ _) := by
      obtain ⟨a, b, c⟩ := own_of (L := [_]) HM (List.getElem_mem hlt)
      exact ⟨Row.any_ a, Row.any_ b, Row.any_ c⟩
    unfold maxLen at us1 us3
    have xg : ∀ j, j < 10 → w1.cell? ⟨nb, k * 10 + j, none⟩ = (xs[k].cells)[j]? := fun j hj => by
      rw [Row.cell hrow ((flat_get NX.cells 10 NX.len xs k hlt j hj).trans (List.getElem?_eq_getElem (by rw [NX.len]; exact hj)))]
      rw [List.getElem?_eq_getElem (by rw [NX.len]; exact hj)]
    have y0 : w1.cell? ⟨nb, k * 10, none⟩ = some (.string xs[k].nd.name) := xg 0 (by decide)
    have y1 : w1.cell? ⟨nb, k * 10 + 1, none⟩ = some (.int .i64 xs[k].nd.kind) := xg 1 (by decide)
    have y2 : w1.cell? ⟨nb, k * 10 + 2, none⟩ = some (xs[k].SV) := xg 2 (by decide)
    have y3 : w1.cell? ⟨nb, k * 10 + 3, none⟩ = some (xs[k].CV) := xg 3 (by decide)
    have y4 : w1.cell? ⟨nb, k * 10 + 4, none⟩ = some (xs[k].AV) := xg 4 (by decide)
    have y5 : w1.cell? ⟨nb, k * 10 + 5, none⟩ = some (.string xs[k].nd.impl) := xg 5 (by decide)
    have y6 : w1.cell? ⟨nb, k * 10 + 6, none⟩ = some (.bool xs[k].nd.ph) := xg 6 (by decide)
    have y7 : w1.cell? ⟨nb, k * 10 + 7, none⟩ = some (.bool xs[k].nd.pr) := xg 7 (by decide)
    have y8 : w1.cell? ⟨nb, k * 10 + 8, none⟩ = some (.bool xs[k].nd.si) := xg 8 (by decide)
    have y9 : w1.cell? ⟨nb, k * 10 + 9, none⟩ = some (.bool xs[k].nd.ig) := xg 9 (by decide)
    clear xg hrow
    generalize xs[k] = x at *
    obtain ⟨SVx, CVx, AVx, ⟨nm, kd, src, cmd, aft, im, ph, pr, si, ig⟩⟩ := x
    simp only at e1 e2 e3 y0 y1 y2 y3 y4 y5 y6 y7 y8 y9
    subst e1 e2 e3
    have hR2 := Lib.hid hR
    clear HM HX3 hR
    go_wp2_with fail
    refine bodyPost_ret (v := .tuple #[.agg #[.string nm, .int .i64 kd, .slice S1 src.length z1, .slice S2 cmd.length z2, .slice S3 aft.length z3, .string im, .bool ph, .bool pr, .bool si, .bool ig], .bool true]) ?hr2 rfl ?_
    case hr2 =>
      unfold results
      go_simp
    have G0 := HM1.out
    have G1 := Mem.blkSet (F := [_, _]) G0 0 (.string nm)
    have G2 := Mem.blkSet (F := [_, _]) G1 1 (.int .i64 kd)
    have G3 := Mem.blkSet (F := [_, _]) G2 2 (.slice S1 src.length z1)
    have G4 := Mem.blkSet (F := [_, _]) G3 3 (.slice S2 cmd.length z2)
    have G5 := Mem.blkSet (F := [_, _]) G4 4 (.slice S3 aft.length z3)
    have G6 := Mem.blkSet (F := [_, _]) G5 5 (.string im)
    have G7 := Mem.blkSet (F := [_, _]) G6 6 (.bool ph)
    have G8 := Mem.blkSet (F := [_, _]) G7 7 (.bool pr)
    have G9 := Mem.blkSet (F := [_, _]) G8 8 (.bool si)
    have G10 := Mem.blkSet (F := [_, _]) G9 9 (.bool ig)
    exact ⟨nm, kd, S1, src.length, z1, S2, cmd.length, z2, S3, aft.length, z3, im, ph, pr, si, ig, by rw [hR2.out], G10.only (fun d hd => by cases hd) .nil⟩
end
section
set_option maxRecDepth 100000
open Go.RowKit

def reachS (gs : List ByteArray) (xs : List NX) (m : Nat) : List ByteArray := gs ++ (xs.drop m).reverse.flatMap fun x => x.nd.src
theorem reachS_step (gs : List ByteArray) (xs : List NX) (k : Nat) (h : k < xs.length) : reachS gs xs k = reachS gs xs (k + 1) ++ xs[k].nd.src := by
  unfold reachS
  rw [List.drop_eq_getElem_cons h, List.reverse_cons, List.flatMap_append, List.flatMap_singleton, List.append_assoc]
theorem Laid.reached {gs : List ByteArray} {xs : List NX} (h : Laid gs xs) (k : Nat) (hk : k < xs.length) : mem (reachS gs xs (k + 1)) xs[k].nd.name = true := by
  rw [mem_iff]
  unfold reachS
  rcases h.from_ k hk with h1 | ⟨j, hj, hkj, h1⟩
  · exact List.mem_append.2 (.inl h1)
  · refine List.mem_append.2 (.inr (List.mem_flatMap.2 ⟨xs[j], List.mem_reverse.2 ?_, h1⟩))
    refine List.mem_of_getElem? (i := j - (k + 1)) ?_
    rw [List.getElem?_drop, show k + 1 + (j - (k + 1)) = j from by omega]
    exact List.getElem?_eq_getElem hj
set_option maxHeartbeats 16000000 in
theorem reached_calls (LV FV GV : Value) (l : List RuleS) (files goals : List ByteArray) (Z C : Nat) (w : World) (hL : Rules w LV l) (hF : Strs w FV files) (hG : Strs w GV goals) (hz : ∀ r, r ∈ l → r.cmd.length ≤ C ∧ (∀ t, t ∈ r.tg → t.size ≤ Z) ∧ ∀ x, x ∈ r.src → x.size ≤ Z) (hgz : ∀ g, g ∈ goals → g.size ≤ Z) (hfl : files.length ≤ 140737488351232) (hgl : goals.length ≤ 140737488351232) (hZ : Z ≤ 1048576) (hC : C ≤ 1048576) :
    Calls Try.prog 7 #[LV, FV, GV] w fun e w' => e = .returned (.bool true) ∧ Mem none_ w [] w' := by
  obtain ⟨Af, cf, rfl, qf, uf, _⟩ := id hF
  obtain ⟨Ag, cg, rfl, qg, ug, _⟩ := id hG
  obtain ⟨Al, nl, cl, rfl⟩ : ∃ A n c, LV = .slice A n c := by
    obtain ⟨cells, ⟨A, c, e, _⟩, _⟩ := hL
    exact ⟨A, _, c, e⟩
  obtain rfl : nl = l.length := hL.get.1
  have hFar := farG_calls _ l Af files.length cf Ag goals.length cg w hL hfl hgl
  unfold maxLen at uf ug
  obtain ⟨b, hb⟩ : ∃ b, farB l files.length goals.length = b := ⟨_, rfl⟩
  rw [hb] at hFar
  cases b with
  | true =>
    go_enter Try.func7, Try.ntmps7
    go_wp2_with (first | (go_at_call 11; refine hFar.mono ?_; clear hFar; rintro e w1 ⟨rfl, hm⟩; have HM1 := Lib.hid hm; have hAl := alive_calls w1; clear hm) | (go_at_call 12; refine hAl.mono ?_; clear hAl; rintro e wa ⟨rfl, hm⟩; have HMa := Lib.hid (HM1.out.got hm); clear hm))
    go_ret
    exact ⟨rfl, HMa.out⟩
  | false =>
    have hs := sized_of hb hz hZ hC
    obtain ⟨_, hfg, _⟩ := not_far hb
    go_enter Try.func7, Try.ntmps7
    go_wp2_with (go_at_call 11; refine hFar.mono ?_; clear hFar; rintro e w1 ⟨rfl, hm⟩; have HM1 := Lib.hid hm; clear hm)
    refine (build_calls _ _ _ l files goals Z 200 C 66 _ (hL.pure HM1.out.mu) (hF.pure HM1.out.mu) (hG.pure HM1.out.mu) hs hgz (by omega) (by omega)).mono ?_
    rintro e w2 (⟨why, nm, pat, hbad, rfl, hm2⟩ | ⟨gs, xs, GO, NV, hg, rfl, hm2⟩)
    case inl =>
      have hp := neqP why pat nm
      have hp := fun w => hp w hbad.ne
      have hne : (why != 0) = true := by simpa using hbad.ne
      have hne2 : (why == 0) = false := by simpa using hbad.ne
      have hne3 : ¬ why = 0 := hbad.ne
      have HM2 := Lib.hid (((HM1.out.got hm2).box #[.slice none 0 0, .slice none 0 0] 29).box #[.int .i64 why, .string nm, .int .i64 pat] 32)
      have hAl := alive_calls
      clear hbad hm2 hb hfg hs
      unfold retB
      go_wp2_with (go_at_call 12; refine (hAl _).mono ?_; clear hAl; rintro e wa ⟨rfl, hm⟩; have HMa := Lib.hid (HM2.out.got hm); clear hm)
      go_ret
      exact ⟨rfl, HMa.out.only (fun d hd => by cases hd) .nil⟩
    have hge := hg.eq
    have hg1 : goals.length = 0 ∨ gs.length = goals.length := by
      rw [hge]
      unfold goalsOf
      split
      · exact .inl (by assumption)
      · exact .inr rfl
    have hg2 : gs.length ≤ 200 := by
      rw [hge]
      unfold goalsOf
      split
      · exact aimB_len l hs
      · omega
    have hg3 : gs.length ≠ 0 := fun h => hg.pos (List.length_eq_zero_iff.1 h)
    clear hge
    have hp := neqP0
    have hW := laid_of hg
    have hln := hW.len
    have hW := Lib.hid hW
    clear hg hs hfg hb hz hgz
    obtain ⟨AN, cN, rfl, qN, uN⟩ := Row.any_ (hm2.at_ 1 rfl)
    obtain ⟨AG, cG, rfl, qG, uG⟩ := Row.any_ (hm2.at_ 0 rfl)
    unfold maxLen at uN uG
    have HM2 := Lib.hid (((HM1.out.got hm2).box #[.slice AG gs.length cG, .slice AN xs.length cN] 29).box #[.int .i64 0, .string ⟨#[]⟩, .int .i64 0] 32)
    clear hm2
    unfold retB
    have h := HM2.out
    rw [List.append_nil] at h
    have HM3 : Hid (Mem none_ w (StrRow (.slice none 0 0) [] :: ([Blk w2.heap.size 29 #[.slice AG gs.length cG, .slice AN xs.length cN], StrRow (.slice AG gs.length cG) gs, NRow (.slice AN xs.length cN) xs] ++ xs.flatMap NX.own)) _) := (h.psel (L := [_, _, _, _]) [1, 2, 3] 4 rfl (by decide)).nilS
    have hgr : (StrRow (.slice AG gs.length cG) gs).ok _ := h.at_ 2 rfl
    have hGs := Lib.hid (Row.sl hgr)
    have hb0 := Lib.hid (show (([] : List ByteArray).length + gs.length) * 16 ≤ 140737488355328 from by simp; omega)
    clear h HM2
    have q3 : ((gs.length : Int) == 0) = false := by rw [beq_eq_false_iff_ne]; omega
    have hq : (decide ((0 : Int) < (goals.length : Int)) = false ∧ decide (0 < goals.length) = false ∧ goals.length = 0) ∨ (decide ((0 : Int) < (goals.length : Int)) = true ∧ decide (0 < goals.length) = true ∧ gs.length = goals.length) := by
      by_cases h0 : goals.length = 0
      · exact .inl ⟨decide_eq_false (by omega), decide_eq_false (by omega), h0⟩
      · have := hg1.resolve_left h0
        exact .inr ⟨decide_eq_true (by omega), decide_eq_true (by omega), this⟩
    clear hg1
    have q7 : ((gs.length : Int) != (goals.length : Int)) = decide (gs.length ≠ goals.length) := by
      rw [Bool.eq_iff_iff, bne_iff_ne, decide_eq_true_iff]; omega
    rcases hq with ⟨q1, q2, q6⟩ | ⟨q1, q2, q6⟩
    case inr =>
      have q8 : ((gs.length : Int) != (gs.length : Int)) = false := bne_self_eq_false _
      have q9 := 0
      rw [← q6] at q1 q2
      simp only [← q6]
      have q6h := Lib.hid q6
      clear q7 q6
      go_wp2_with (at_builtin; refine wpList_appL (xv := .slice AG gs.length cG) (m := gs) strE rfl _ _ rfl HM3.out rfl rfl hGs.out hb0.out ?_; intro v' w9 hm9 hU9; have HM9 := Lib.hid hm9; have gN9 := (Blk.cell_ (HM9.out.at_ 1 rfl) 1).trans (show _ = some (Value.slice AN xs.length cN) from rfl); clear hm9 hU9 HM3)
      clear gN9 q1 q2 q3 q6h q8 q9 hp hgr
      generalize w2.heap.size = gb at *
      go_loopw [9, 10] (fun v9 v10 wr => ∃ (m : Nat), m ≤ xs.length ∧ v10 = .int .i64 ((m : Int) - 1) ∧ Hid ((reachS gs xs m).length ≤ 200 + (xs.length - m) * 1000001) ∧ Mem none_ w (StrRow v9 (reachS gs xs m) :: ([Blk gb 29 #[.slice AG gs.length cG, .slice AN xs.length cN], StrRow (.slice AG gs.length cG) gs, NRow (.slice AN xs.length cN) xs] ++ xs.flatMap NX.own)) wr) (fun _ v _ => (intOf v + 1).toNat)
      case atStart => exact ⟨xs.length, Nat.le_refl _, rfl, Lib.hid (by unfold reachS; rw [List.drop_length]; simpa using hg2), by have h := HM9.out; unfold reachS; rw [List.drop_length]; simpa using h⟩
      case round =>
        clear HM9
        obtain ⟨m, hm, rfl, hSl, HM⟩ := hrel
        have b1 := (Blk.cell_ (HM.at_ 1 rfl) 1).trans (show _ = some (Value.slice AN xs.length cN) from rfl)
        have b0 := (Blk.cell_ (HM.at_ 1 rfl) 0).trans (show _ = some (Value.slice AG gs.length cG) from rfl)
        rcases m with _ | k
        · have e0 : (((0 : Nat) : Int) - 1) = -1 := rfl
          rw [e0]
          have HMb := Lib.hid (HM.psel (L := [_, _, _, _]) [1, 2, 3] 4 rfl (by decide))
          clear HM hSl e0
          go_wp2_with fail
          clear b1 b0
          go_loopw [77] (fun v77 wq => ∃ j : Nat, j ≤ gs.length ∧ v77 = .int .i64 j ∧ Mem none_ w ([Blk gb 29 #[.slice AG gs.length cG, .slice AN xs.length cN], StrRow (.slice AG gs.length cG) gs, NRow (.slice AN xs.length cN) xs] ++ xs.flatMap NX.own) wq) (fun v _ => gs.length - (intOf v).toNat)
          case atStart => exact ⟨0, Nat.zero_le _, rfl, HMb.out⟩
          case round =>
            clear HMb
            obtain ⟨j, hj, rfl, HM⟩ := hrel
            by_cases hjt : j < gs.length
            · have hjt' : decide ((j : Int) < (gs.length : Int)) = true := decide_eq_true (by omega)
              have hjtN : decide (j < gs.length) = true := decide_eq_true hjt
              have b1 := (Blk.cell_ (HM.at_ 0 rfl) 1).trans (show _ = some (Value.slice AN xs.length cN) from rfl)
              have b0 := (Blk.cell_ (HM.at_ 0 rfl) 0).trans (show _ = some (Value.slice AG gs.length cG) from rfl)
              have hrs : (StrRow (.slice AG gs.length cG) gs).ok _ := HM.at_ 1 rfl
              obtain ⟨gg, gc, e1, _, _⟩ := Row.at_ hrs (by omega)
              cases e1
              have ys := Row.cell hrs (strs_get hjt)
              have hfi := find_calls gs[j] (.slice (some ⟨gg, 0, none⟩) gs.length cG) (.slice AN xs.length cN) xs _ ⟨_, _, _, rfl⟩ (HM.psel (L := [_, _, _]) [2] 3 rfl (by decide)) (by omega)
              have hany : (xs.any fun x => x.nd.name.toList == gs[j].toList) = true := by
                obtain ⟨x, hx, e⟩ := List.mem_map.1 (hW.out.has gs[j] (List.getElem_mem hjt))
                exact List.any_eq_true.2 ⟨x, hx, by rw [e]; exact beq_self_eq_true _⟩
              rw [hany] at hfi
              have HMj := Lib.hid HM
              clear HM hrs hany
              generalize gs[j] = s at *
              go_wp2_with (go_at_call 15; refine hfi.mono ?_; clear hfi; rintro e w7 ⟨nm, kd, A1, n1, c1, A2, n2, c2, A3, n3, c3, im, ph, pr, si, ig, rfl, hm⟩; have HM8 := Lib.hid ((HMj.out.got hm).box #[.string nm, .int .i64 kd, .slice A1 n1 c1, .slice A2 n2 c2, .slice A3 n3 c3, .string im, .bool ph, .bool pr, .bool si, .bool ig] 38); clear hm)
              go_roundw
              case rel => exact ⟨j + 1, by omega, by go_num, HM8.out.tail⟩
              case measure => simp [intOf]; omega
            · have hjt' : decide ((j : Int) < (gs.length : Int)) = false := decide_eq_false (by omega)
              have hjtN : decide (j < gs.length) = false := decide_eq_false hjt
              have HMe := Lib.hid HM
              clear HM
              have hAl := alive_calls
              go_wp2_with (go_at_call 12; refine (hAl _).mono ?_; clear hAl; rintro e wa ⟨rfl, hm⟩; have HMa := Lib.hid (HMe.out.got hm); clear hm)
              go_ret
              exact ⟨rfl, HMa.out.only (fun d hd => by cases hd) .nil⟩
        · have hlt : k < xs.length := by omega
          have e0 : (((k + 1 : Nat) : Int) - 1) = (k : Int) := by omega
          rw [e0]
          have q4 : decide ((0 : Int) ≤ (k : Int)) = true := decide_eq_true (by omega)
          have q5 : IntKind.i64.wrap ((k : Int) - 1) = (k : Int) - 1 := IntWalk.i64_in _ (by omega)
          have hrow : (NRow (.slice AN xs.length cN) xs).ok _ := HM.at_ 3 rfl
          obtain ⟨nb, nc, e1, _, _⟩ := Row.at_ hrow (by omega)
          cases e1
          obtain ⟨⟨S1, z1, e1, _, us1⟩, ⟨S2, z2, e2, _⟩, ⟨S3, z3, e3, _, us3⟩⟩ : (∃ A c, xs[k].SV = .slice A xs[k].nd.src.length c ∧ _) ∧ (∃ A c, xs[k].CV = .slice A xs[k].nd.cmd.length c ∧ _) ∧ (∃ A c, xs[k].AV = .slice A xs[k].nd.aft.length c ∧ _) := by
            obtain ⟨a, b, c⟩ := own_of (L := [_, _, _, _]) HM (List.getElem_mem hlt)
            exact ⟨Row.any_ a, Row.any_ b, Row.any_ c⟩
          unfold maxLen at us1 us3
          have xg : ∀ j, j < 10 → wr.cell? ⟨nb, k * 10 + j, none⟩ = (xs[k].cells)[j]? := fun j hj => by
            rw [Row.cell hrow ((flat_get NX.cells 10 NX.len xs k hlt j hj).trans (List.getElem?_eq_getElem (by rw [NX.len]; exact hj)))]
            rw [List.getElem?_eq_getElem (by rw [NX.len]; exact hj)]
          have y0 : wr.cell? ⟨nb, k * 10, none⟩ = some (.string xs[k].nd.name) := xg 0 (by decide)
          have y1 : wr.cell? ⟨nb, k * 10 + 1, none⟩ = some (.int .i64 xs[k].nd.kind) := xg 1 (by decide)
          have y2 : wr.cell? ⟨nb, k * 10 + 2, none⟩ = some (xs[k].SV) := xg 2 (by decide)
          have y3 : wr.cell? ⟨nb, k * 10 + 3, none⟩ = some (xs[k].CV) := xg 3 (by decide)
          have y4 : wr.cell? ⟨nb, k * 10 + 4, none⟩ = some (xs[k].AV) := xg 4 (by decide)
          have y5 : wr.cell? ⟨nb, k * 10 + 5, none⟩ = some (.string xs[k].nd.impl) := xg 5 (by decide)
          have y6 : wr.cell? ⟨nb, k * 10 + 6, none⟩ = some (.bool xs[k].nd.ph) := xg 6 (by decide)
          have y7 : wr.cell? ⟨nb, k * 10 + 7, none⟩ = some (.bool xs[k].nd.pr) := xg 7 (by decide)
          have y8 : wr.cell? ⟨nb, k * 10 + 8, none⟩ = some (.bool xs[k].nd.si) := xg 8 (by decide)
          have y9 : wr.cell? ⟨nb, k * 10 + 9, none⟩ = some (.bool xs[k].nd.ig) := xg 9 (by decide)
          clear xg hrow
          have htk := Lib.hid (reachS_step gs xs k hlt)
          have f1 := hW.out.reached k hlt
          have hsl := hW.out.srcs _ (List.getElem_mem hlt)
          have hR1 := Lib.hid (show ∀ L w', Mem none_ w (L ++ xs.flatMap NX.own) w' → (StrRow xs[k].SV xs[k].nd.src).ok w' from fun L w' h => (own_of h (List.getElem_mem hlt)).1)
          have hS2 := hSl.out
          generalize reachS gs xs (k + 1) = S at *
          generalize xs[k] = x at *
          obtain ⟨SVx, CVx, AVx, ⟨nm, kd, src, cmd, aft, im, ph, pr, si, ig⟩⟩ := x
          simp only at e1 e2 e3 y0 y1 y2 y3 y4 y5 y6 y7 y8 y9 f1 hsl hR1 htk
          subst e1 e2 e3
          have hSn : S.length + src.length ≤ 200 + (xs.length - k) * 1000001 := by
            have e : xs.length - k = (xs.length - (k + 1)) + 1 := by omega
            rw [e, Nat.add_mul, Nat.one_mul]
            omega
          have hbb := Lib.hid (show (S.length + src.length) * 16 ≤ 140737488355328 from by
            have h1 : (xs.length - k) * 1000001 ≤ 512 * 1000001 := Nat.mul_le_mul_right _ (by omega)
            omega)
          have hSn := Lib.hid hSn
          have HM5 := Lib.hid (HM.box #[.string nm, .int .i64 kd, .slice S1 src.length z1, .slice S2 cmd.length z2, .slice S3 aft.length z3, .string im, .bool ph, .bool pr, .bool si, .bool ig] 38)
          have hr0 : (StrRow u9 S).ok _ := HM5.out.at_ 1 rfl
          have hH0 := rhas_calls u9 S nm _ (Row.sl hr0)
          rw [f1] at hH0
          have hxs := Row.sl (hR1.out [_, _, _, _, _] _ HM5.out)
          have HM6 := Lib.hid (HM5.out.psel (L := [_, _, _, _, _]) [1, 2, 3, 4] 5 rfl (by decide))
          clear HM f1 hr0 hSl hS2 b0 HM5 hR1
          have hxs := Lib.hid hxs
          go_wp2_with (first | (go_at_call 13; refine hH0.mono ?_; clear hH0; rintro e _ ⟨rfl, rfl⟩) | (at_builtin; refine wpList_appL (xv := .slice S1 src.length z1) (m := src) strE rfl _ _ rfl HM6.out rfl rfl hxs.out hbb.out ?_; intro v' w9 hm9 hU9; have HM9 := Lib.hid hm9; clear hm9 hU9 HM6))
          go_roundw
          case rel => exact ⟨k, by omega, by go_num, Lib.hid (by rw [htk.out, List.length_append]; exact hSn.out), by rw [htk.out]; exact HM9.out⟩
          case measure => first | (simp [intOf]; done) | (simp [intOf]; omega)
    case inl =>
      have q6h := Lib.hid q6
      clear q7 q6
      have q8 := 0
      have q9 := 0
      go_wp2_with (at_builtin; refine wpList_appL (xv := .slice AG gs.length cG) (m := gs) strE rfl _ _ rfl HM3.out rfl rfl hGs.out hb0.out ?_; intro v' w9 hm9 hU9; have HM9 := Lib.hid hm9; have gN9 := (Blk.cell_ (HM9.out.at_ 1 rfl) 1).trans (show _ = some (Value.slice AN xs.length cN) from rfl); clear hm9 hU9 HM3)
      clear gN9 q1 q2 q3 q6h q8 q9 hp hgr
      generalize w2.heap.size = gb at *
      go_loopw [9, 10] (fun v9 v10 wr => ∃ (m : Nat), m ≤ xs.length ∧ v10 = .int .i64 ((m : Int) - 1) ∧ Hid ((reachS gs xs m).length ≤ 200 + (xs.length - m) * 1000001) ∧ Mem none_ w (StrRow v9 (reachS gs xs m) :: ([Blk gb 29 #[.slice AG gs.length cG, .slice AN xs.length cN], StrRow (.slice AG gs.length cG) gs, NRow (.slice AN xs.length cN) xs] ++ xs.flatMap NX.own)) wr) (fun _ v _ => (intOf v + 1).toNat)
      case atStart => exact ⟨xs.length, Nat.le_refl _, rfl, Lib.hid (by unfold reachS; rw [List.drop_length]; simpa using hg2), by have h := HM9.out; unfold reachS; rw [List.drop_length]; simpa using h⟩
      case round =>
        clear HM9
        obtain ⟨m, hm, rfl, hSl, HM⟩ := hrel
        have b1 := (Blk.cell_ (HM.at_ 1 rfl) 1).trans (show _ = some (Value.slice AN xs.length cN) from rfl)
        have b0 := (Blk.cell_ (HM.at_ 1 rfl) 0).trans (show _ = some (Value.slice AG gs.length cG) from rfl)
        rcases m with _ | k
        · have e0 : (((0 : Nat) : Int) - 1) = -1 := rfl
          rw [e0]
          have HMb := Lib.hid (HM.psel (L := [_, _, _, _]) [1, 2, 3] 4 rfl (by decide))
          clear HM hSl e0
          go_wp2_with fail
          clear b1 b0
          go_loopw [77] (fun v77 wq => ∃ j : Nat, j ≤ gs.length ∧ v77 = .int .i64 j ∧ Mem none_ w ([Blk gb 29 #[.slice AG gs.length cG, .slice AN xs.length cN], StrRow (.slice AG gs.length cG) gs, NRow (.slice AN xs.length cN) xs] ++ xs.flatMap NX.own) wq) (fun v _ => gs.length - (intOf v).toNat)
          case atStart => exact ⟨0, Nat.zero_le _, rfl, HMb.out⟩
          case round =>
            clear HMb
            obtain ⟨j, hj, rfl, HM⟩ := hrel
            by_cases hjt : j < gs.length
            · have hjt' : decide ((j : Int) < (gs.length : Int)) = true := decide_eq_true (by omega)
              have hjtN : decide (j < gs.length) = true := decide_eq_true hjt
              have b1 := (Blk.cell_ (HM.at_ 0 rfl) 1).trans (show _ = some (Value.slice AN xs.length cN) from rfl)
              have b0 := (Blk.cell_ (HM.at_ 0 rfl) 0).trans (show _ = some (Value.slice AG gs.length cG) from rfl)
              have hrs : (StrRow (.slice AG gs.length cG) gs).ok _ := HM.at_ 1 rfl
              obtain ⟨gg, gc, e1, _, _⟩ := Row.at_ hrs (by omega)
              cases e1
              have ys := Row.cell hrs (strs_get hjt)
              have hfi := find_calls gs[j] (.slice (some ⟨gg, 0, none⟩) gs.length cG) (.slice AN xs.length cN) xs _ ⟨_, _, _, rfl⟩ (HM.psel (L := [_, _, _]) [2] 3 rfl (by decide)) (by omega)
              have hany : (xs.any fun x => x.nd.name.toList == gs[j].toList) = true := by
                obtain ⟨x, hx, e⟩ := List.mem_map.1 (hW.out.has gs[j] (List.getElem_mem hjt))
                exact List.any_eq_true.2 ⟨x, hx, by rw [e]; exact beq_self_eq_true _⟩
              rw [hany] at hfi
              have HMj := Lib.hid HM
              clear HM hrs hany
              generalize gs[j] = s at *
              go_wp2_with (go_at_call 15; refine hfi.mono ?_; clear hfi; rintro e w7 ⟨nm, kd, A1, n1, c1, A2, n2, c2, A3, n3, c3, im, ph, pr, si, ig, rfl, hm⟩; have HM8 := Lib.hid ((HMj.out.got hm).box #[.string nm, .int .i64 kd, .slice A1 n1 c1, .slice A2 n2 c2, .slice A3 n3 c3, .string im, .bool ph, .bool pr, .bool si, .bool ig] 38); clear hm)
              go_roundw
              case rel => exact ⟨j + 1, by omega, by go_num, HM8.out.tail⟩
              case measure => simp [intOf]; omega
            · have hjt' : decide ((j : Int) < (gs.length : Int)) = false := decide_eq_false (by omega)
              have hjtN : decide (j < gs.length) = false := decide_eq_false hjt
              have HMe := Lib.hid HM
              clear HM
              have hAl := alive_calls
              go_wp2_with (go_at_call 12; refine (hAl _).mono ?_; clear hAl; rintro e wa ⟨rfl, hm⟩; have HMa := Lib.hid (HMe.out.got hm); clear hm)
              go_ret
              exact ⟨rfl, HMa.out.only (fun d hd => by cases hd) .nil⟩
        · have hlt : k < xs.length := by omega
          have e0 : (((k + 1 : Nat) : Int) - 1) = (k : Int) := by omega
          rw [e0]
          have q4 : decide ((0 : Int) ≤ (k : Int)) = true := decide_eq_true (by omega)
          have q5 : IntKind.i64.wrap ((k : Int) - 1) = (k : Int) - 1 := IntWalk.i64_in _ (by omega)
          have hrow : (NRow (.slice AN xs.length cN) xs).ok _ := HM.at_ 3 rfl
          obtain ⟨nb, nc, e1, _, _⟩ := Row.at_ hrow (by omega)
          cases e1
          obtain ⟨⟨S1, z1, e1, _, us1⟩, ⟨S2, z2, e2, _⟩, ⟨S3, z3, e3, _, us3⟩⟩ : (∃ A c, xs[k].SV = .slice A xs[k].nd.src.length c ∧ _) ∧ (∃ A c, xs[k].CV = .slice A xs[k].nd.cmd.length c ∧ _) ∧ (∃ A c, xs[k].AV = .slice A xs[k].nd.aft.length c ∧ _) := by
            obtain ⟨a, b, c⟩ := own_of (L := [_, _, _, _]) HM (List.getElem_mem hlt)
            exact ⟨Row.any_ a, Row.any_ b, Row.any_ c⟩
          unfold maxLen at us1 us3
          have xg : ∀ j, j < 10 → wr.cell? ⟨nb, k * 10 + j, none⟩ = (xs[k].cells)[j]? := fun j hj => by
            rw [Row.cell hrow ((flat_get NX.cells 10 NX.len xs k hlt j hj).trans (List.getElem?_eq_getElem (by rw [NX.len]; exact hj)))]
            rw [List.getElem?_eq_getElem (by rw [NX.len]; exact hj)]
          have y0 : wr.cell? ⟨nb, k * 10, none⟩ = some (.string xs[k].nd.name) := xg 0 (by decide)
          have y1 : wr.cell? ⟨nb, k * 10 + 1, none⟩ = some (.int .i64 xs[k].nd.kind) := xg 1 (by decide)
          have y2 : wr.cell? ⟨nb, k * 10 + 2, none⟩ = some (xs[k].SV) := xg 2 (by decide)
          have y3 : wr.cell? ⟨nb, k * 10 + 3, none⟩ = some (xs[k].CV) := xg 3 (by decide)
          have y4 : wr.cell? ⟨nb, k * 10 + 4, none⟩ = some (xs[k].AV) := xg 4 (by decide)
          have y5 : wr.cell? ⟨nb, k * 10 + 5, none⟩ = some (.string xs[k].nd.impl) := xg 5 (by decide)
          have y6 : wr.cell? ⟨nb, k * 10 + 6, none⟩ = some (.bool xs[k].nd.ph) := xg 6 (by decide)
          have y7 : wr.cell? ⟨nb, k * 10 + 7, none⟩ = some (.bool xs[k].nd.pr) := xg 7 (by decide)
          have y8 : wr.cell? ⟨nb, k * 10 + 8, none⟩ = some (.bool xs[k].nd.si) := xg 8 (by decide)
          have y9 : wr.cell? ⟨nb, k * 10 + 9, none⟩ = some (.bool xs[k].nd.ig) := xg 9 (by decide)
          clear xg hrow
          have htk := Lib.hid (reachS_step gs xs k hlt)
          have f1 := hW.out.reached k hlt
          have hsl := hW.out.srcs _ (List.getElem_mem hlt)
          have hR1 := Lib.hid (show ∀ L w', Mem none_ w (L ++ xs.flatMap NX.own) w' → (StrRow xs[k].SV xs[k].nd.src).ok w' from fun L w' h => (own_of h (List.getElem_mem hlt)).1)
          have hS2 := hSl.out
          generalize reachS gs xs (k + 1) = S at *
          generalize xs[k] = x at *
          obtain ⟨SVx, CVx, AVx, ⟨nm, kd, src, cmd, aft, im, ph, pr, si, ig⟩⟩ := x
          simp only at e1 e2 e3 y0 y1 y2 y3 y4 y5 y6 y7 y8 y9 f1 hsl hR1 htk
          subst e1 e2 e3
          have hSn : S.length + src.length ≤ 200 + (xs.length - k) * 1000001 := by
            have e : xs.length - k = (xs.length - (k + 1)) + 1 := by omega
            rw [e, Nat.add_mul, Nat.one_mul]
            omega
          have hbb := Lib.hid (show (S.length + src.length) * 16 ≤ 140737488355328 from by
            have h1 : (xs.length - k) * 1000001 ≤ 512 * 1000001 := Nat.mul_le_mul_right _ (by omega)
            omega)
          have hSn := Lib.hid hSn
          have HM5 := Lib.hid (HM.box #[.string nm, .int .i64 kd, .slice S1 src.length z1, .slice S2 cmd.length z2, .slice S3 aft.length z3, .string im, .bool ph, .bool pr, .bool si, .bool ig] 38)
          have hr0 : (StrRow u9 S).ok _ := HM5.out.at_ 1 rfl
          have hH0 := rhas_calls u9 S nm _ (Row.sl hr0)
          rw [f1] at hH0
          have hxs := Row.sl (hR1.out [_, _, _, _, _] _ HM5.out)
          have HM6 := Lib.hid (HM5.out.psel (L := [_, _, _, _, _]) [1, 2, 3, 4] 5 rfl (by decide))
          clear HM f1 hr0 hSl hS2 b0 HM5 hR1
          have hxs := Lib.hid hxs
          go_wp2_with (first | (go_at_call 13; refine hH0.mono ?_; clear hH0; rintro e _ ⟨rfl, rfl⟩) | (at_builtin; refine wpList_appL (xv := .slice S1 src.length z1) (m := src) strE rfl _ _ rfl HM6.out rfl rfl hxs.out hbb.out ?_; intro v' w9 hm9 hU9; have HM9 := Lib.hid hm9; clear hm9 hU9 HM6))
          go_roundw
          case rel => exact ⟨k, by omega, by go_num, Lib.hid (by rw [htk.out, List.length_append]; exact hSn.out), by rw [htk.out]; exact HM9.out⟩
          case measure => first | (simp [intOf]; done) | (simp [intOf]; omega)
end
end Go.Proofs.Ytliglejbkpjamaa
