/-
  Layer 16 (graph): the walk of behind.
-/
import Derived.Test.YtliglejbkpjamaaVGrQ0
set_option linter.unusedVariables false
set_option linter.unusedSimpArgs false
set_option maxRecDepth 100000
namespace Go.Proofs.Ytliglejbkpjamaa
open Go.RowKit

theorem mem_tail {fp : Nat → Prop} {w0 w : World} {X : BS} {c : Chunk} {L F : List Chunk} (h : Mem fp w0 (c :: (L ++ X.mem F)) w) : Mem fp w0 (L ++ X.mem (F ++ [c])) w := by
  have e : L ++ X.mem (F ++ [c]) = (L ++ X.mem F) ++ [c] := by unfold BS.mem; simp only [List.append_assoc]
  rw [e]
  exact h.perm (List.perm_append_comm (l₁ := [c]))
theorem mem_head {fp : Nat → Prop} {w0 w : World} {X : BS} {c : Chunk} {L F : List Chunk} (h : Mem fp w0 (L ++ X.mem (F ++ [c])) w) : Mem fp w0 (c :: (L ++ X.mem F)) w := by
  have e : L ++ X.mem (F ++ [c]) = (L ++ X.mem F) ++ [c] := by unfold BS.mem; simp only [List.append_assoc]
  rw [e] at h
  exact h.perm (List.perm_append_comm (l₂ := [c]))
theorem nodes_own {fp : Nat → Prop} {w0 w : World} {X : BS} {L F : List Chunk} (h : Mem fp w0 (L ++ X.mem F) w) {x : NX} (hx : x ∈ X.nodes) : (StrRow x.SV x.nd.src).ok w ∧ (StrRow x.CV x.nd.cmd).ok w ∧ (StrRow x.AV x.nd.aft).ok w := by
  have key : ∀ c, c ∈ x.own → c.ok w := fun c hc => h.star.1 c (by
    unfold BS.mem BS.tails
    simp only [List.mem_append, List.mem_flatMap]
    exact .inr (.inr (.inl (.inr (.inr ⟨x, hx, hc⟩)))))
  exact ⟨key _ (by simp [NX.own]), key _ (by simp [NX.own]), key _ (by simp [NX.own])⟩
theorem strs_first {w : World} {A : Option Addr} {c k : Nat} {l : List ByteArray} (h : Strs w (.slice A l.length c) l) (hk : k ≤ l.length) : Strs w (.slice A k c) (l.take k) := by
  have h1 : Sl w (.slice A k c) 1 k ((strs l).take (k * 1)) := Sl.take h hk
  unfold Strs
  rw [strs_take1, List.length_take, Nat.min_eq_left hk]
  exact h1
def pre (raw : List RuleS) (k : Nat) : Nat := ((raw.take k).map fun r => r.src.length).sum
theorem pre_succ (raw : List RuleS) (k : Nat) (h : k < raw.length) : pre raw (k + 1) = pre raw k + raw[k].src.length := by
  unfold pre
  rw [List.take_succ_eq_append_getElem h, List.map_append, List.sum_append]
  simp
theorem pre_le (raw : List RuleS) (k : Nat) : pre raw k ≤ pre raw raw.length := by
  unfold pre
  rw [List.take_length]
  have : raw.map (fun r => r.src.length) = (raw.take k).map (fun r => r.src.length) ++ (raw.drop k).map (fun r => r.src.length) := by rw [← List.map_append, List.take_append_drop]
  rw [this, List.sum_append]
  omega
abbrev AtOk (s0 : List NodeS) (m : List (ByteArray × Int)) : Prop := ∀ y i, mget m y = some i → 0 ≤ i ∧ i.toNat < s0.length ∧ y ∈ s0.map NodeS.name
theorem atOk_put {s0 : List NodeS} {m : List (ByteArray × Int)} (h : AtOk s0 m) {k : Nat} (hk : k < s0.length) : AtOk s0 (mput m s0[k].name (k : Int)) := by
  intro y i hy
  rw [mget_put] at hy
  split at hy
  · rename_i e
    cases hy
    exact ⟨by omega, by simpa using hk, by rw [e]; exact List.mem_map_of_mem (List.getElem_mem hk)⟩
  · exact h y i hy
set_option maxHeartbeats 16000000 in
theorem behind_calls (X : BS) (raw : List RuleS) (D : Nat) {w0 : World} {F : List Chunk} (w : World) (HX : Mem none_ w0 (X.mem F) w) (hR : Rules w0 X.RV raw) (haft : ∀ x, x ∈ X.nodes → x.nd.aft = []) (hD : ∀ r, r ∈ raw → r.src.length ≤ D)
    (hS : pre raw raw.length * (D + 1) ≤ 90000000) (hD2 : D ≤ 1000000) :
    Calls Try.prog 27 #[.pointer (some ⟨X.b, 0, none⟩)] w fun e w' => e = .returned (.tuple #[]) ∧ ∃ xs', AOk (X.nodes.map NX.nd) (pre raw raw.length * (D + 1)) xs' ∧ (Quiet raw → ∀ x, x ∈ xs' → x.nd.aft = []) ∧
      Mem none_ w0 (({ X with nodes := xs' } : BS).mem F) w' := by
  obtain ⟨s0, hs0⟩ : ∃ s, X.nodes.map NX.nd = s := ⟨_, rfl⟩
  have hA0 : Hid (AOk s0 0 X.nodes) := Lib.hid ⟨by rw [← hs0, List.map_map]; rfl, fun x hx y hy => (by rw [haft x hx] at hy; cases hy), fun x hx => (by rw [haft x hx]; exact Nat.le_refl _)⟩
  have hQ0 : Hid (Quiet raw → ∀ x, x ∈ X.nodes → x.nd.aft = []) := fun _ => haft
  have hsl := Lib.hid (show s0.length = X.nodes.length from by rw [← hs0, List.length_map])
  rw [hs0]
  have hs0 := Lib.hid hs0
  obtain ⟨AN, cN, eNV, _, uN⟩ : ∃ A c, X.NV = .slice A X.nodes.length c ∧ X.nodes.length ≤ c ∧ c ≤ maxLen := Row.any_ (HX.at_ 9 rfl)
  have eNV := Lib.hid eNV
  unfold maxLen at uN
  obtain ⟨AR, nR, cR, eRV⟩ : ∃ A n c, X.RV = .slice A n c := by
    obtain ⟨cells, ⟨A, c, e, _⟩, _⟩ := hR
    exact ⟨A, _, c, e⟩
  rw [eRV] at hR
  have eRV := Lib.hid eRV
  obtain ⟨rfl, g1, g2, g3⟩ := hR.get
  unfold maxLen at g2
  have hS := Lib.hid hS
  have hD := Lib.hid hD
  clear haft hR
  have HM1 := HX.box #[.pointer (some ⟨X.b, 0, none⟩)] 56
  have HM2 := MapC.made HM1 Value.string (Value.int .i64)
  have HM3 := HM2.box #[.map (some (w.heap.size + 1))] 65
  have eb1 : (w.alloc (.cells #[.pointer (some ⟨X.b, 0, none⟩)] 56)).heap.size = w.heap.size + 1 := by simp
  have eb2 : ((w.alloc (.cells #[.pointer (some ⟨X.b, 0, none⟩)] 56)).alloc (.map #[] 0)).heap.size = w.heap.size + 1 + 1 := by simp
  rw [eb1, eb2] at HM3
  have HM4 : Hid (Mem none_ w0 (LB X w.heap.size (w.heap.size + 1 + 1) (w.heap.size + 1) [] ++ X.mem F) _) := HM3.psel (L := [_, _, _]) [2, 0, 1] 3 rfl (by decide)
  have k9 : World.cell? _ ⟨X.b, 9, none⟩ = some X.NV := Blk.cell_ (HM4.out.at_ 3 rfl) 9
  rw [eNV.out] at k9
  have hmm := @run_makeMap Try.prog
  clear HX HM1 HM2 HM3 eb1 eb2
  go_enter Try.func27, Try.ntmps27
  go_wp2_with fail
  clear hmm k9
  generalize w.heap.size = bb at *
  generalize World.alloc _ _ = W1 at *
  generalize bb + 1 + 1 = ab at *
  generalize bb + 1 = atb at *
  have hm0 : Hid (AtOk s0 []) := fun y i h => by cases h
  go_loopw [21] (fun v21 wr => ∃ (k : Nat) (m : List (ByteArray × Int)), k ≤ X.nodes.length ∧ v21 = .int .i64 k ∧ Hid (AtOk s0 m) ∧ Mem none_ w0 (LB X bb ab atb m ++ X.mem F) wr) (fun v _ => X.nodes.length - (intOf v).toNat)
  case atStart => exact ⟨0, [], Nat.zero_le _, rfl, hm0, HM4.out⟩
  case round =>
    clear HM4 hm0
    obtain ⟨k, m, hk, rfl, hm, HM⟩ := hrel
    by_cases hlt : k < X.nodes.length
    · have hlt' : decide ((k : Int) < (X.nodes.length : Int)) = true := decide_eq_true (by omega)
      have hltN : decide (k < X.nodes.length) = true := decide_eq_true hlt
      have hrow : (NRow X.NV X.nodes).ok _ := HM.at_ 12 rfl
      rw [eNV.out] at hrow
      obtain ⟨nb, nc, e1, _, _⟩ := Row.at_ hrow (by omega)
      cases e1
      obtain ⟨⟨S1, z1, e1, _⟩, ⟨S2, z2, e2, _⟩, ⟨S3, z3, e3, _⟩⟩ : (∃ A c, X.nodes[k].SV = .slice A X.nodes[k].nd.src.length c ∧ _) ∧ (∃ A c, X.nodes[k].CV = .slice A X.nodes[k].nd.cmd.length c ∧ _) ∧ (∃ A c, X.nodes[k].AV = .slice A X.nodes[k].nd.aft.length c ∧ _) := by
        obtain ⟨a, b, c⟩ := nodes_own HM (List.getElem_mem hlt)
        exact ⟨Row.any_ a, Row.any_ b, Row.any_ c⟩
      have xg : ∀ j, j < 10 → wr.cell? ⟨nb, k * 10 + j, none⟩ = (X.nodes[k].cells)[j]? := fun j hj => by
        rw [Row.cell hrow ((flat_get NX.cells 10 NX.len X.nodes k hlt j hj).trans (List.getElem?_eq_getElem (by rw [NX.len]; exact hj)))]
        rw [List.getElem?_eq_getElem (by rw [NX.len]; exact hj)]
      have y0 : wr.cell? ⟨nb, k * 10, none⟩ = some (.string X.nodes[k].nd.name) := xg 0 (by decide)
      have y1 : wr.cell? ⟨nb, k * 10 + 1, none⟩ = some (.int .i64 X.nodes[k].nd.kind) := xg 1 (by decide)
      have y2 : wr.cell? ⟨nb, k * 10 + 2, none⟩ = some (X.nodes[k].SV) := xg 2 (by decide)
      have y3 : wr.cell? ⟨nb, k * 10 + 3, none⟩ = some (X.nodes[k].CV) := xg 3 (by decide)
      have y4 : wr.cell? ⟨nb, k * 10 + 4, none⟩ = some (X.nodes[k].AV) := xg 4 (by decide)
      have y5 : wr.cell? ⟨nb, k * 10 + 5, none⟩ = some (.string X.nodes[k].nd.impl) := xg 5 (by decide)
      have y6 : wr.cell? ⟨nb, k * 10 + 6, none⟩ = some (.bool X.nodes[k].nd.ph) := xg 6 (by decide)
      have y7 : wr.cell? ⟨nb, k * 10 + 7, none⟩ = some (.bool X.nodes[k].nd.pr) := xg 7 (by decide)
      have y8 : wr.cell? ⟨nb, k * 10 + 8, none⟩ = some (.bool X.nodes[k].nd.si) := xg 8 (by decide)
      have y9 : wr.cell? ⟨nb, k * 10 + 9, none⟩ = some (.bool X.nodes[k].nd.ig) := xg 9 (by decide)
      have hput := Lib.hid (show AtOk s0 (mput m X.nodes[k].nd.name (k : Int)) from by
        have h := atOk_put hm.out (k := k) (by rw [hsl.out]; exact hlt)
        have e : s0[k]'(by rw [hsl.out]; exact hlt) = X.nodes[k].nd := by simp only [← hs0.out, List.getElem_map]
        rw [e] at h
        exact h)
      clear xg hrow hm
      generalize X.nodes[k] = x at *
      obtain ⟨SVx, CVx, AVx, ⟨nm, kd, src, cmd, aft, im, ph, pr, si, ig⟩⟩ := x
      simp only at e1 e2 e3 y0 y1 y2 y3 y4 y5 y6 y7 y8 y9 hput
      subst e1 e2 e3
      have HM5 := Lib.hid (HM.box #[.string nm, .int .i64 kd, .slice S1 src.length z1, .slice S2 cmd.length z2, .slice S3 aft.length z3, .string im, .bool ph, .bool pr, .bool si, .bool ig] 38)
      have ka : World.cell? _ ⟨ab, 0, none⟩ = some (.map (some atb)) := Blk.cell_ (HM5.out.at_ 2 rfl) 0
      clear HM
      go_wp2_with (at_mapUpdate; refine wpList_put keyS Try.underlying65 rfl _ _ _ (.inl rfl) (HM5.out.psel (L := [_, _, _, _]) [3, 1, 2] 4 rfl (by decide)) rfl nm rfl (k : Int) rfl ?_; intro w5 hm5 hU5; have HM6 : Hid (Mem none_ w0 (LB X bb ab atb (mput m nm (k : Int)) ++ X.mem F) w5) := hm5.psel (L := [_, _, _]) [1, 2, 0] 3 rfl (by decide); clear hm5 hU5 HM5)
      go_roundw
      case rel => exact ⟨k + 1, _, by omega, by go_num, hput, HM6.out⟩
      case measure => simp [intOf]; omega
    · have hlt' : decide ((k : Int) < (X.nodes.length : Int)) = false := decide_eq_false (by omega)
      have hltN : decide (k < X.nodes.length) = false := decide_eq_false hlt
      have HM6 := Lib.hid HM
      have kb : wr.cell? ⟨bb, 0, none⟩ = some (.pointer (some ⟨X.b, 0, none⟩)) := Blk.cell_ (HM.at_ 0 rfl) 0
      have k0 : wr.cell? ⟨X.b, 0, none⟩ = some X.RV := Blk.cell_ (HM.at_ 3 rfl) 0
      rw [eRV.out] at k0
      clear HM hlt
      go_wp2_with fail
      clear kb k0 hlt' hltN hk
      go_loopw [37] (fun v37 wr => ∃ (k : Nat) (xs : List NX), k ≤ raw.length ∧ v37 = .int .i64 k ∧ Hid (AOk s0 (pre raw k * (D + 1)) xs) ∧ Hid (Quiet raw → ∀ x, x ∈ xs → x.nd.aft = []) ∧ Mem none_ w0 (LB X bb ab atb m ++ ({ X with nodes := xs } : BS).mem F) wr) (fun v _ => raw.length - (intOf v).toNat)
      case atStart => exact ⟨0, X.nodes, Nat.zero_le _, rfl, Lib.hid (hA0.out.mono (Nat.zero_le _)), hQ0, HM6.out⟩
      case round =>
        clear HM6 hA0 hQ0
        obtain ⟨k, xs, hk, rfl, hA, hQ, HM⟩ := hrel
        by_cases hlt : k < raw.length
        · have hlt' : decide ((k : Int) < (raw.length : Int)) = true := decide_eq_true (by omega)
          have hltN : decide (k < raw.length) = true := decide_eq_true hlt
          obtain ⟨b, o, rfl, hcells⟩ := g3.resolve_left (by omega)
          obtain ⟨TV, XV, CV, x0, x1, x2, x3, x4, t1, t2, t3⟩ := hcells k hlt
          have hrm := Lib.hid (List.getElem_mem hlt)
          have hpr := Lib.hid (pre_succ raw k hlt)
          have hpl := Lib.hid (Nat.mul_le_mul_right (D + 1) (pre_le raw (k + 1)))
          have hrD := Lib.hid (hD.out _ (List.getElem_mem hlt))
          clear hcells g3
          have x0 := Pure.cell HM.mu x0
          have x1 := Pure.cell HM.mu x1
          have x2 := Pure.cell HM.mu x2
          have x3 := Pure.cell HM.mu x3
          have x4 := Pure.cell HM.mu x4
          generalize raw[k] = r at *
          obtain ⟨A2, c2, e2, _, d2, _⟩ := id t2
          obtain ⟨A1, c1, e1, _, d1, _⟩ := id t1
          obtain ⟨A3, c3, e3, _, d3, _⟩ := id t3
          subst e1 e2 e3
          unfold maxLen at d1 d2 d3
          have HM2 := Lib.hid ((HM.box #[.slice A1 r.tg.length c1, .int .i64 r.kind, .slice A2 r.src.length c2, .slice A3 r.cmd.length c3, .int .i64 r.at_] 25))
          have hCF := contF_calls (mhas X.own) #[.pointer (some ⟨bb, 0, none⟩)] (.slice A1 r.tg.length c1) r.tg _ (t1.pure HM2.out.mu) (fun wx hp t _ => b2_calls ({ X with nodes := xs } : BS) bb t wx (L := _ :: LB X bb ab atb m) (HM2.out.keep hp) (Pure.cell hp (Blk.cell_ (HM2.out.at_ 1 rfl) 0)))
          obtain ⟨OWN, hOWN⟩ : ∃ b, r.tg.any (mhas X.own) = b := ⟨_, rfl⟩
          rw [hOWN] at hCF
          obtain ⟨ORD, hORD⟩ : ∃ b, mem r.tg ⟨#[46, 79, 82, 68, 69, 82]⟩ = b := ⟨_, rfl⟩
          have hordq : Hid (ORD = true → ¬ Quiet raw) := fun h hq => by rw [(hq r hrm.out).1] at hORD; rw [← hORD] at h; cases h
          have hwq : Hid (waitN ∈ r.src → ¬ Quiet raw) := fun h hq => by have := (hq r hrm.out).2; rw [(mem_iff _ _).2 h] at this; cases this
          clear hOWN HM
          go_wp2_with (first | (go_at_call 49; refine hCF.mono ?_; clear hCF; rintro e w3 ⟨rfl, hm3⟩; have HM3 := Lib.hid (HM2.out.got hm3); clear hm3 HM2; have hCo := contains_calls _ r.tg ⟨#[46, 79, 82, 68, 69, 82]⟩ w3 (t1.pure HM3.out.mu); rw [hORD] at hCo; have rk0 := (Blk.cell_ (HM3.out.at_ 0 rfl) 0).trans (show _ = some (Value.slice A1 r.tg.length c1) from rfl); have rk2 := (Blk.cell_ (HM3.out.at_ 0 rfl) 2).trans (show _ = some (Value.slice A2 r.src.length c2) from rfl)) | (go_at_call 41; refine hCo.mono ?_; clear hCo; rintro e w4 ⟨rfl, rfl⟩))
          have HM4 := Lib.hid (mem_tail (X := ({ X with nodes := xs } : BS)) (L := LB X bb ab atb m) HM3.out)
          clear HM3 rk0 rk2 x0 x1 x2 x3 x4
          generalize wr.heap.size = rb at *
          obtain ⟨FX, hFX⟩ : ∃ FX, F ++ [Blk rb 25 #[.slice A1 r.tg.length c1, .int .i64 r.kind, .slice A2 r.src.length c2, .slice A3 r.cmd.length c3, .int .i64 r.at_]] = FX := ⟨_, rfl⟩
          rw [hFX] at HM4
          have hFX := Lib.hid hFX
          have hrb : Hid (∀ wx xs', Mem none_ w0 (LB X bb ab atb m ++ ({ X with nodes := xs' } : BS).mem FX) wx → wx.cell? ⟨rb, 2, none⟩ = some (.slice A2 r.src.length c2)) := fun wx xs' hm => by
            rw [← hFX.out] at hm
            exact (Blk.cell_ (mem_head hm).head 2).trans rfl
          go_loopw [10, 51] (fun v10 v51 wr => ∃ (j : Nat) (la : Int) (xs : List NX), j ≤ r.src.length ∧ v51 = .int .i64 j ∧ v10 = .int .i64 la ∧ -1 ≤ la ∧ la < (j : Int) ∧ Hid (0 ≤ la → waitN ∈ r.src) ∧ Hid (AOk s0 ((pre raw k + j) * (D + 1)) xs) ∧ Hid (Quiet raw → ∀ x, x ∈ xs → x.nd.aft = []) ∧ Mem none_ w0 (LB X bb ab atb m ++ ({ X with nodes := xs } : BS).mem FX) wr) (fun _ v _ => r.src.length - (intOf v).toNat)
          case atStart => exact ⟨0, -1, xs, Nat.zero_le _, rfl, rfl, by omega, by omega, Lib.hid (fun h => by omega), Lib.hid (hA.out.mono (by rw [Nat.add_zero]; exact Nat.le_refl _)), hQ, HM4.out⟩
          case round =>
            clear HM4 hA hQ
            obtain ⟨j, la, xs, hj, rfl, rfl, hl1, hl2, hlw, hA, hQ, HM⟩ := hrel
            by_cases hjl : j < r.src.length
            · have hjl' : decide ((j : Int) < (r.src.length : Int)) = true := decide_eq_true (by omega)
              have hjlN : decide (j < r.src.length) = true := decide_eq_true hjl
              obtain ⟨A2', c2', e2', _, _, _, f2⟩ := id t2
              cases e2'
              obtain ⟨b2, o2, rfl, hc2⟩ := f2.resolve_left (by omega)
              have y0 : wr.cell? ⟨b2, o2 + j, none⟩ = some (.string r.src[j]) := Pure.cell HM.mu (hc2 _ _ (strs_get hjl))
              have hws : Hid (r.src[j] = waitN → waitN ∈ r.src) := fun h => by rw [← h]; exact List.getElem_mem hjl
              have rk2 := hrb.out wr xs HM
              have hKb : (pre raw k + j) * (D + 1) ≤ 90000000 := by
                have h1 : (pre raw k + j) * (D + 1) ≤ pre raw (k + 1) * (D + 1) := Nat.mul_le_mul_right _ (by have := hpr.out; omega)
                have := hpl.out; have := hS.out; omega
              have hKn : (pre raw k + (j + 1)) * (D + 1) = (pre raw k + j) * (D + 1) + (D + 1) := by rw [← Nat.add_assoc, Nat.add_mul (pre raw k + j) 1, Nat.one_mul]
              obtain ⟨K0, hK0⟩ : ∃ K0, (pre raw k + j) * (D + 1) = K0 := ⟨_, rfl⟩
              rw [hK0] at hKb hKn hA
              have hKn := Lib.hid hKn
              have hKb := Lib.hid hKb
              have hAd2 : Hid (∀ (xs1 : List NX) (K : Nat) (s : ByteArray) (ln : Nat) (wx : World), K ≤ 91000000 → ln ≤ r.src.length → Mem none_ w0 (LB X bb ab atb m ++ ({ X with nodes := xs1 } : BS).mem FX) wx → AOk s0 K xs1 → Calls Try.prog 48 #[.string s, .slice (some ⟨b2, o2, none⟩) ln c2, .pointer (some ⟨ab, 0, none⟩), .pointer (some ⟨bb, 0, none⟩)] wx
                  fun e w' => e = .returned (.tuple #[]) ∧ ∃ xs', AOk s0 (K + D) xs' ∧ Mem none_ w0 (LB X bb ab atb m ++ ({ X with nodes := xs' } : BS).mem FX) w') := fun xs1 K s ln wx hK hln hmx hax => by
                have hl : (r.src.take ln).length = ln := by rw [List.length_take]; omega
                have hrDo := hrD.out
                have h := add_calls ({ X with nodes := xs1 } : BS) s0 K bb ab atb m s (.slice (some ⟨b2, o2, none⟩) ln c2) (r.src.take ln) wx hmx hax hm.out (by rw [hl]; omega) (fun wy xs' hmy => strs_first (t2.pure hmy.mu) hln)
                refine h.mono ?_
                rintro e w' ⟨e1, xs', h1, h2⟩
                exact ⟨e1, xs', h1.mono (by rw [hl]; omega), h2⟩
              have HM5 := Lib.hid HM
              have hc2' := hc2
              clear hK0 f2 hc2 HM
              cases ORD with
              | false =>
                generalize r.src[j] = s at *
                by_cases hw : s = waitN
                · cases OWN with
                  | false =>
                    obtain ⟨q1, q2, q3⟩ := waitIs hw
                    have hwm := Lib.hid (hws.out hw)
                    clear hw hws
                    go_wp2_with fail
                    go_roundw
                    case rel => exact ⟨j + 1, ((j : Nat) : Int), xs, by omega, by go_num, rfl, by omega, by omega, Lib.hid (fun _ => hwm.out), Lib.hid (hA.out.mono (by rw [hKn.out]; simp; try omega)), hQ, HM5.out⟩
                    case measure => simp [intOf]; omega
                  | true =>
                    obtain ⟨q1, q2, q3⟩ := waitIs hw
                    have hwm := Lib.hid (hws.out hw)
                    clear hw hws
                    have hge : decide ((0 : Int) ≤ ((j : Nat) : Int)) = true := decide_eq_true (by omega)
                    have hlw2 := Lib.hid hwm.out
                    go_wp2_with (first | (go_at_call 48; refine (hAd2.out xs K0 s (j) _ (by have := hKb.out; simp; omega) (by omega) HM5.out hA.out).mono ?_; rintro e w6 ⟨rfl, xs2, hA2', hm6⟩; have HM7 := Lib.hid hm6; have hA2 := Lib.hid hA2'; clear hm6 hA2'))
                    go_roundw
                    case rel => exact ⟨j + 1, ((j : Nat) : Int), xs2, by omega, by go_num, rfl, by omega, by omega, Lib.hid (fun _ => hwm.out), Lib.hid (hA2.out.mono (by rw [hKn.out]; simp; try omega)), Lib.hid (fun hq => absurd hq (hwq.out hlw2.out)), HM7.out⟩
                    case measure => simp [intOf]; omega
                · cases OWN with
                  | false =>
                    obtain ⟨q1, q2, q3⟩ := waitNe hw
                    clear hw hws
                    go_wp2_with fail
                    go_roundw
                    case rel => exact ⟨j + 1, la, xs, by omega, by go_num, rfl, by omega, by omega, hlw, Lib.hid (hA.out.mono (by rw [hKn.out]; simp; try omega)), hQ, HM5.out⟩
                    case measure => simp [intOf]; omega
                  | true =>
                    by_cases hla : 0 ≤ la
                    ·
                      obtain ⟨q1, q2, q3⟩ := waitNe hw
                      clear hw hws
                      obtain ⟨ln, rfl⟩ : ∃ ln : Nat, la = (ln : Int) := ⟨la.toNat, by omega⟩
                      have hge : decide ((0 : Int) ≤ (ln : Int)) = true := decide_eq_true (by omega)
                      have hlw2 := Lib.hid (hlw.out (by omega))
                      go_wp2_with (first | (go_at_call 48; refine (hAd2.out xs K0 s (ln) _ (by have := hKb.out; simp; omega) (by omega) HM5.out hA.out).mono ?_; rintro e w6 ⟨rfl, xs2, hA2', hm6⟩; have HM7 := Lib.hid hm6; have hA2 := Lib.hid hA2'; clear hm6 hA2'))
                      go_roundw
                      case rel => exact ⟨j + 1, (ln : Int), xs2, by omega, by go_num, rfl, by omega, by omega, Lib.hid (fun _ => hlw2.out), Lib.hid (hA2.out.mono (by rw [hKn.out]; simp; try omega)), Lib.hid (fun hq => absurd hq (hwq.out hlw2.out)), HM7.out⟩
                      case measure => simp [intOf]; omega
                    ·
                      obtain ⟨q1, q2, q3⟩ := waitNe hw
                      clear hw hws
                      have hge : decide ((0 : Int) ≤ la) = false := decide_eq_false (by omega)
                      go_wp2_with fail
                      go_roundw
                      case rel => exact ⟨j + 1, la, xs, by omega, by go_num, rfl, by omega, by omega, hlw, Lib.hid (hA.out.mono (by rw [hKn.out]; simp; try omega)), hQ, HM5.out⟩
                      case measure => simp [intOf]; omega
              | true =>
                rcases Nat.eq_zero_or_pos j with hj0 | hj0
                · subst hj0
                  have y0 : wr.cell? ⟨b2, o2, none⟩ = some (.string r.src[0]) := y0
                  have hz1 : decide ((0 : Int) < (r.src.length : Int)) = true := decide_eq_true (by omega)
                  have hz2 : decide (0 < r.src.length) = true := decide_eq_true (by omega)
                  generalize r.src[0] = s at *
                  by_cases hw : s = waitN
                  · cases OWN with
                    | false =>
                      obtain ⟨q1, q2, q3⟩ := waitIs hw
                      have hwm := Lib.hid (hws.out hw)
                      clear hw hws
                      go_wp2_with fail
                      go_roundw
                      case rel => exact ⟨0 + 1, ((0 : Nat) : Int), xs, by omega, by go_num, rfl, by omega, by omega, Lib.hid (fun _ => hwm.out), Lib.hid (hA.out.mono (by rw [hKn.out]; simp; try omega)), hQ, HM5.out⟩
                      case measure => simp [intOf]; omega
                    | true =>
                      obtain ⟨q1, q2, q3⟩ := waitIs hw
                      have hwm := Lib.hid (hws.out hw)
                      clear hw hws
                      have hge : decide ((0 : Int) ≤ ((0 : Nat) : Int)) = true := decide_eq_true (by omega)
                      have hlw2 := Lib.hid hwm.out
                      go_wp2_with (first | (go_at_call 48; refine (hAd2.out xs K0 s (0) _ (by have := hKb.out; simp; omega) (by omega) HM5.out hA.out).mono ?_; rintro e w6 ⟨rfl, xs2, hA2', hm6⟩; have HM7 := Lib.hid hm6; have hA2 := Lib.hid hA2'; clear hm6 hA2'))
                      go_roundw
                      case rel => exact ⟨0 + 1, ((0 : Nat) : Int), xs2, by omega, by go_num, rfl, by omega, by omega, Lib.hid (fun _ => hwm.out), Lib.hid (hA2.out.mono (by rw [hKn.out]; simp; try omega)), Lib.hid (fun hq => absurd hq (hwq.out hlw2.out)), HM7.out⟩
                      case measure => simp [intOf]; omega
                  · cases OWN with
                    | false =>
                      obtain ⟨q1, q2, q3⟩ := waitNe hw
                      clear hw hws
                      go_wp2_with fail
                      go_roundw
                      case rel => exact ⟨0 + 1, la, xs, by omega, by go_num, rfl, by omega, by omega, hlw, Lib.hid (hA.out.mono (by rw [hKn.out]; simp; try omega)), hQ, HM5.out⟩
                      case measure => simp [intOf]; omega
                    | true =>
                      by_cases hla : 0 ≤ la
                      ·
                        exact absurd hla (by omega)
                      ·
                        obtain ⟨q1, q2, q3⟩ := waitNe hw
                        clear hw hws
                        have hge : decide ((0 : Int) ≤ la) = false := decide_eq_false (by omega)
                        go_wp2_with fail
                        go_roundw
                        case rel => exact ⟨0 + 1, la, xs, by omega, by go_num, rfl, by omega, by omega, hlw, Lib.hid (hA.out.mono (by rw [hKn.out]; simp; try omega)), hQ, HM5.out⟩
                        case measure => simp [intOf]; omega
                · obtain ⟨jp, rfl⟩ : ∃ jp, j = jp + 1 := ⟨j - 1, by omega⟩
                  have y1 : wr.cell? ⟨b2, o2 + jp, none⟩ = some (.string r.src[jp]) := Pure.cell HM5.out.mu (hc2' _ _ (strs_get (by omega)))
                  generalize r.src[jp + 1] = s at *
                  generalize r.src[jp] = pv at *
                  have hgt : decide ((0 : Int) < ((jp + 1 : Nat) : Int)) = true := decide_eq_true (by omega)
                  have hgtN : decide ((jp : Int) < (r.src.length : Int)) = true := decide_eq_true (by omega)
                  have hgtM : decide (jp < r.src.length) = true := decide_eq_true (by omega)
                  by_cases hw : s = waitN
                  · cases OWN with
                    | false =>
                      obtain ⟨q1, q2, q3⟩ := waitIs hw
                      have hwm := Lib.hid (hws.out hw)
                      clear hw hws
                      have hAd1 := add_calls ({ X with nodes := xs } : BS) s0 K0 bb ab atb m s (.slice (some ⟨wr.heap.size, 0, none⟩) 1 1) [pv] (F := FX ++ [StrRow (.slice (some ⟨wr.heap.size, 0, none⟩) 1 1) [pv]]) _ (mem_tail (X := ({ X with nodes := xs } : BS)) (L := LB X bb ab atb m) (HM5.out.lit1 pv)) hA.out hm.out (by have := hKb.out; simp; omega) (fun wy xs' hmy => Row.sl (mem_head hmy).head)
                      go_wp2_with (first | (go_at_call 48; refine hAd1.mono ?_; clear hAd1; rintro e w5 ⟨rfl, xs1, hA1', hm5⟩; have HM6 : Hid (Mem none_ w0 (LB X bb ab atb m ++ ({ X with nodes := xs1 } : BS).mem FX) w5) := (mem_head hm5).tail; have hA1 := Lib.hid hA1'; have rk5 := hrb.out w5 xs1 HM6.out; clear hm5 hA1'))
                      go_roundw
                      case rel => exact ⟨(jp + 1) + 1, (((jp + 1) : Nat) : Int), xs1, by omega, by go_num, rfl, by omega, by omega, Lib.hid (fun _ => hwm.out), Lib.hid (hA1.out.mono (by rw [hKn.out]; simp; try omega)), Lib.hid (fun hq => absurd hq (hordq.out (by trivial))), HM6.out⟩
                      case measure => simp [intOf]; omega
                    | true =>
                      obtain ⟨q1, q2, q3⟩ := waitIs hw
                      have hwm := Lib.hid (hws.out hw)
                      clear hw hws
                      have hge : decide ((0 : Int) ≤ (((jp + 1) : Nat) : Int)) = true := decide_eq_true (by omega)
                      have hlw2 := Lib.hid hwm.out
                      have hAd1 := add_calls ({ X with nodes := xs } : BS) s0 K0 bb ab atb m s (.slice (some ⟨wr.heap.size, 0, none⟩) 1 1) [pv] (F := FX ++ [StrRow (.slice (some ⟨wr.heap.size, 0, none⟩) 1 1) [pv]]) _ (mem_tail (X := ({ X with nodes := xs } : BS)) (L := LB X bb ab atb m) (HM5.out.lit1 pv)) hA.out hm.out (by have := hKb.out; simp; omega) (fun wy xs' hmy => Row.sl (mem_head hmy).head)
                      go_wp2_with (first | (go_at_call 48; refine hAd1.mono ?_; clear hAd1; rintro e w5 ⟨rfl, xs1, hA1', hm5⟩; have HM6 : Hid (Mem none_ w0 (LB X bb ab atb m ++ ({ X with nodes := xs1 } : BS).mem FX) w5) := (mem_head hm5).tail; have hA1 := Lib.hid hA1'; have rk5 := hrb.out w5 xs1 HM6.out; clear hm5 hA1') | (go_at_call 48; refine (hAd2.out xs1 (K0 + [pv].length) s ((jp + 1)) _ (by have := hKb.out; simp; omega) (by omega) HM6.out hA1.out).mono ?_; rintro e w6 ⟨rfl, xs2, hA2', hm6⟩; have HM7 := Lib.hid hm6; have hA2 := Lib.hid hA2'; clear hm6 hA2'))
                      go_roundw
                      case rel => exact ⟨(jp + 1) + 1, (((jp + 1) : Nat) : Int), xs2, by omega, by go_num, rfl, by omega, by omega, Lib.hid (fun _ => hwm.out), Lib.hid (hA2.out.mono (by rw [hKn.out]; simp; try omega)), Lib.hid (fun hq => absurd hq (hordq.out (by trivial))), HM7.out⟩
                      case measure => simp [intOf]; omega
                  · cases OWN with
                    | false =>
                      obtain ⟨q1, q2, q3⟩ := waitNe hw
                      clear hw hws
                      have hAd1 := add_calls ({ X with nodes := xs } : BS) s0 K0 bb ab atb m s (.slice (some ⟨wr.heap.size, 0, none⟩) 1 1) [pv] (F := FX ++ [StrRow (.slice (some ⟨wr.heap.size, 0, none⟩) 1 1) [pv]]) _ (mem_tail (X := ({ X with nodes := xs } : BS)) (L := LB X bb ab atb m) (HM5.out.lit1 pv)) hA.out hm.out (by have := hKb.out; simp; omega) (fun wy xs' hmy => Row.sl (mem_head hmy).head)
                      go_wp2_with (first | (go_at_call 48; refine hAd1.mono ?_; clear hAd1; rintro e w5 ⟨rfl, xs1, hA1', hm5⟩; have HM6 : Hid (Mem none_ w0 (LB X bb ab atb m ++ ({ X with nodes := xs1 } : BS).mem FX) w5) := (mem_head hm5).tail; have hA1 := Lib.hid hA1'; have rk5 := hrb.out w5 xs1 HM6.out; clear hm5 hA1'))
                      go_roundw
                      case rel => exact ⟨(jp + 1) + 1, la, xs1, by omega, by go_num, rfl, by omega, by omega, hlw, Lib.hid (hA1.out.mono (by rw [hKn.out]; simp; try omega)), Lib.hid (fun hq => absurd hq (hordq.out (by trivial))), HM6.out⟩
                      case measure => simp [intOf]; omega
                    | true =>
                      by_cases hla : 0 ≤ la
                      ·
                        obtain ⟨q1, q2, q3⟩ := waitNe hw
                        clear hw hws
                        obtain ⟨ln, rfl⟩ : ∃ ln : Nat, la = (ln : Int) := ⟨la.toNat, by omega⟩
                        have hge : decide ((0 : Int) ≤ (ln : Int)) = true := decide_eq_true (by omega)
                        have hlw2 := Lib.hid (hlw.out (by omega))
                        have hAd1 := add_calls ({ X with nodes := xs } : BS) s0 K0 bb ab atb m s (.slice (some ⟨wr.heap.size, 0, none⟩) 1 1) [pv] (F := FX ++ [StrRow (.slice (some ⟨wr.heap.size, 0, none⟩) 1 1) [pv]]) _ (mem_tail (X := ({ X with nodes := xs } : BS)) (L := LB X bb ab atb m) (HM5.out.lit1 pv)) hA.out hm.out (by have := hKb.out; simp; omega) (fun wy xs' hmy => Row.sl (mem_head hmy).head)
                        go_wp2_with (first | (go_at_call 48; refine hAd1.mono ?_; clear hAd1; rintro e w5 ⟨rfl, xs1, hA1', hm5⟩; have HM6 : Hid (Mem none_ w0 (LB X bb ab atb m ++ ({ X with nodes := xs1 } : BS).mem FX) w5) := (mem_head hm5).tail; have hA1 := Lib.hid hA1'; have rk5 := hrb.out w5 xs1 HM6.out; clear hm5 hA1') | (go_at_call 48; refine (hAd2.out xs1 (K0 + [pv].length) s (ln) _ (by have := hKb.out; simp; omega) (by omega) HM6.out hA1.out).mono ?_; rintro e w6 ⟨rfl, xs2, hA2', hm6⟩; have HM7 := Lib.hid hm6; have hA2 := Lib.hid hA2'; clear hm6 hA2'))
                        go_roundw
                        case rel => exact ⟨(jp + 1) + 1, (ln : Int), xs2, by omega, by go_num, rfl, by omega, by omega, Lib.hid (fun _ => hlw2.out), Lib.hid (hA2.out.mono (by rw [hKn.out]; simp; try omega)), Lib.hid (fun hq => absurd hq (hordq.out (by trivial))), HM7.out⟩
                        case measure => simp [intOf]; omega
                      ·
                        obtain ⟨q1, q2, q3⟩ := waitNe hw
                        clear hw hws
                        have hge : decide ((0 : Int) ≤ la) = false := decide_eq_false (by omega)
                        have hAd1 := add_calls ({ X with nodes := xs } : BS) s0 K0 bb ab atb m s (.slice (some ⟨wr.heap.size, 0, none⟩) 1 1) [pv] (F := FX ++ [StrRow (.slice (some ⟨wr.heap.size, 0, none⟩) 1 1) [pv]]) _ (mem_tail (X := ({ X with nodes := xs } : BS)) (L := LB X bb ab atb m) (HM5.out.lit1 pv)) hA.out hm.out (by have := hKb.out; simp; omega) (fun wy xs' hmy => Row.sl (mem_head hmy).head)
                        go_wp2_with (first | (go_at_call 48; refine hAd1.mono ?_; clear hAd1; rintro e w5 ⟨rfl, xs1, hA1', hm5⟩; have HM6 : Hid (Mem none_ w0 (LB X bb ab atb m ++ ({ X with nodes := xs1 } : BS).mem FX) w5) := (mem_head hm5).tail; have hA1 := Lib.hid hA1'; have rk5 := hrb.out w5 xs1 HM6.out; clear hm5 hA1'))
                        go_roundw
                        case rel => exact ⟨(jp + 1) + 1, la, xs1, by omega, by go_num, rfl, by omega, by omega, hlw, Lib.hid (hA1.out.mono (by rw [hKn.out]; simp; try omega)), Lib.hid (fun hq => absurd hq (hordq.out (by trivial))), HM6.out⟩
                        case measure => simp [intOf]; omega
            · have hjl' : decide ((j : Int) < (r.src.length : Int)) = false := decide_eq_false (by omega)
              have hjlN : decide (j < r.src.length) = false := decide_eq_false hjl
              have e : j = r.src.length := by omega
              subst e
              have hA2 := hA.out
              rw [← hpr.out] at hA2
              have hA2 := Lib.hid hA2
              rw [← hFX.out] at HM
              have HM5 := Lib.hid (mem_head HM).tail
              clear HM hA
              go_wp2_with fail
              go_roundw
              case rel => exact ⟨k + 1, xs, by omega, by go_num, hA2, hQ, HM5.out⟩
              case measure => simp [intOf]; omega
        · have hlt' : decide ((k : Int) < (raw.length : Int)) = false := decide_eq_false (by omega)
          have hltN : decide (k < raw.length) = false := decide_eq_false hlt
          have e : k = raw.length := by omega
          subst e
          have kb : wr.cell? ⟨bb, 0, none⟩ = some (.pointer (some ⟨X.b, 0, none⟩)) := Blk.cell_ (HM.at_ 0 rfl) 0
          have k9 : wr.cell? ⟨X.b, 9, none⟩ = some X.NV := Blk.cell_ (HM.at_ 3 rfl) 9
          rw [eNV.out] at k9
          have HM6 := Lib.hid HM
          clear HM
          go_wp2_with fail
          clear kb k9
          go_loopw [93] (fun v93 wr => ∃ (k : Nat) (xs : List NX), k ≤ X.nodes.length ∧ v93 = .int .i64 k ∧ Hid (AOk s0 (pre raw raw.length * (D + 1)) xs) ∧ Hid (Quiet raw → ∀ x, x ∈ xs → x.nd.aft = []) ∧ Mem none_ w0 (LB X bb ab atb m ++ ({ X with nodes := xs } : BS).mem F) wr) (fun v _ => X.nodes.length - (intOf v).toNat)
          case atStart => exact ⟨0, xs, Nat.zero_le _, rfl, hA, hQ, HM6.out⟩
          case round =>
            clear HM6 hA hQ
            obtain ⟨k, xs, hk, rfl, hA, hQ, HM⟩ := hrel
            by_cases hlt : k < X.nodes.length
            · have hlt' : decide ((k : Int) < (X.nodes.length : Int)) = true := decide_eq_true (by omega)
              have hltN : decide (k < X.nodes.length) = true := decide_eq_true hlt
              have hjx : k < xs.length := by rw [hA.out.size, hsl.out]; exact hlt
              have hjx := Lib.hid hjx
              have HM2 := Lib.hid (aft_out (X := ({ X with nodes := xs } : BS)) (L := LB X bb ab atb m) HM hjx.out)
              obtain ⟨nb, eAN, eNX⟩ : ∃ nb, AN = some ⟨nb, 0, none⟩ ∧ X.NV = .slice (some ⟨nb, 0, none⟩) X.nodes.length cN := by
                have hrow : (NRow X.NV xs).ok _ := HM.at_ 12 rfl
                obtain ⟨nb, nc, e1, _, _⟩ := Row.at_ hrow (Nat.lt_of_le_of_lt (Nat.zero_le _) hjx.out)
                have e2 := eNV.out
                rw [e1] at e2
                injection e2 with a1 a2 a3
                refine ⟨nb, a1.symm, ?_⟩
                rw [eNV.out, ← a1]
              subst eAN
              have eNX := Lib.hid eNX
              have hcell : ∀ (W : World), (NRow X.NV xs).ok W → W.cell? ⟨nb, k * 10 + 4, none⟩ = some xs[k].AV ∧ W.frozen? ⟨nb, k * 10 + 4, none⟩ = false := fun W h => by
                obtain ⟨nb', nc, e1, _, _⟩ := Row.at_ h (Nat.lt_of_le_of_lt (Nat.zero_le _) hjx.out)
                have e2 := eNX.out
                rw [e1] at e2
                injection e2 with a1 a2 a3
                injection a1 with a1
                injection a1 with a1
                subst a1
                rw [e1] at h
                exact ⟨Row.cell h ((flat_get NX.cells 10 NX.len xs k hjx.out 4 (by decide)).trans rfl), Row.frozen h _⟩
              have z4 := (hcell _ (HM.at_ 12 rfl)).1
              have hcell := Lib.hid hcell
              have kb : wr.cell? ⟨bb, 0, none⟩ = some (.pointer (some ⟨X.b, 0, none⟩)) := Blk.cell_ (HM.at_ 0 rfl) 0
              have k9 : wr.cell? ⟨X.b, 9, none⟩ = some X.NV := Blk.cell_ (HM.at_ 3 rfl) 9
              rw [eNX.out] at k9
              have hal := hA.out.len _ (List.getElem_mem hjx.out)
              have hin := Lib.hid (hA.out.in_ _ (List.getElem_mem hjx.out))
              have hqk := Lib.hid (fun hq => hQ.out hq _ (List.getElem_mem hjx.out))
              have hSo := sort_calls HM2.out (Nat.le_trans hal (Nat.le_trans hS.out (by decide)))
              have hal := Lib.hid hal
              clear HM
              generalize hxk : xs[k]'hjx.out = xk at *
              have hxk := Lib.hid hxk
              go_wp2_with (go_at_call 51; refine hSo.mono ?_; clear hSo; rintro e w2 ⟨rfl, l1, hp1, hm1⟩; have HM3 := Lib.hid hm1; have hp2 := Lib.hid hp1; clear hm1 hp1 HM2)
              have HM4 := Lib.hid HM3.out.drew
              have hS0 : Hid (World.cell? _ ⟨bb, 0, none⟩ = some (.pointer (some ⟨X.b, 0, none⟩)) ∧ World.cell? _ ⟨X.b, 9, none⟩ = some (.slice (some ⟨nb, 0, none⟩) X.nodes.length cN)) := Lib.hid ⟨Blk.cell_ (HM4.out.at_ 1 rfl) 0, by rw [← eNX.out]; exact Blk.cell_ (HM4.out.at_ 4 rfl) 9⟩
              refine wp_plan [9] (S := fun w' => Hid (w'.cell? ⟨bb, 0, none⟩ = some (.pointer (some ⟨X.b, 0, none⟩)) ∧ w'.cell? ⟨X.b, 9, none⟩ = some (.slice (some ⟨nb, 0, none⟩) X.nodes.length cN))) [(.load, 0), (.pure, 1), (.pure, 2), (.load, 3), (.pure, 4), (.pure, 5), (.eff, 6), (.pure, 7), (.pure, 8), (.tail, 9)] (by kernel_rfl) rfl (by kernel_rfl) rfl (fun _ _ _ _ _ h => h) hS0 ?_
              clear hS0 HM3 kb k9 z4
              generalize World.drew _ = W5 at *
              repeat (first | (refine plan_pure (v := ?_) (a' := ?_) rfl rfl rfl ?_ ?_ ?_; rotate_left 2; (focus (intro w'; go_simp; with_reducible rfl)); (focus (simp only [Act.put, List.setIfInBounds_toArray, List.set_cons_zero, List.set_cons_succ]; rfl))) | (refine plan_load (v := ?_) (a' := ?_) rfl rfl rfl ?_ ?_ ?_; rotate_left 2; (focus (intro w' hw'; obtain ⟨q0, q1⟩ := hw'.out; clear hw'; go_simp; with_reducible rfl)); (focus (simp only [Act.put, List.setIfInBounds_toArray, List.set_cons_zero, List.set_cons_succ]; rfl))) | (refine plan_skip rfl rfl (by decide +kernel) (by simp only [Act.put, List.setIfInBounds_toArray, List.set_cons_zero, List.set_cons_succ]; rfl) ?_))
              have hCp := compact_calls HM4.out
              refine plan_eff rfl (fun K hK => ?_)
              go_wp2_with (go_at_call 52; refine hCp.mono ?_; clear hCp; rintro e w3 ⟨v3, l2, rfl, hs2, hl2, hm3⟩)
              obtain ⟨B1, n5, d5, e5⟩ : ∃ A n c, v3 = .slice A n c := by
                obtain ⟨A, c, e, _⟩ := Row.any_ hm3.head
                exact ⟨A, _, c, e⟩
              subst e5
              refine hK _ _ (Lib.hid ⟨Blk.cell_ (hm3.at_ 1 rfl) 0, by rw [← eNX.out]; exact Blk.cell_ (hm3.at_ 4 rfl) 9⟩) ?_
              clear hK HM4
              repeat (first | (refine plan_pure (v := ?_) (a' := ?_) rfl rfl rfl ?_ ?_ ?_; rotate_left 2; (focus (intro w'; go_simp; with_reducible rfl)); (focus (simp only [Act.put, List.setIfInBounds_toArray, List.set_cons_zero, List.set_cons_succ]; rfl))) | (refine plan_load (v := ?_) (a' := ?_) rfl rfl rfl ?_ ?_ ?_; rotate_left 2; (focus (intro w' hw'; obtain ⟨q0, q1⟩ := hw'.out; clear hw'; go_simp; with_reducible rfl)); (focus (simp only [Act.put, List.setIfInBounds_toArray, List.set_cons_zero, List.set_cons_succ]; rfl))) | (refine plan_skip rfl rfl (by decide +kernel) (by simp only [Act.put, List.setIfInBounds_toArray, List.set_cons_zero, List.set_cons_succ]; rfl) ?_))
              have z4 := (hcell.out _ (hm3.at_ 13 rfl)).1
              have z5 := (hcell.out _ (hm3.at_ 13 rfl)).2
              have hin2 := Lib.hid (show ∀ y, y ∈ l2 → y ∈ s0.map NodeS.name from fun y hy => hin.out y (hp2.out.mem_iff.1 (hs2 y hy)))
              have hln2 := Lib.hid (show l2.length ≤ pre raw raw.length * (D + 1) from by have := hp2.out.length_eq; have := hal.out; omega)
              have hql2 : Hid (Quiet raw → l2 = []) := fun hq => by
                have h1 := hqk.out hq
                have h2 := hp2.out.length_eq
                rw [h1] at h2
                exact List.length_eq_zero_iff.1 (by have := h2; simp only [List.length_nil] at this; omega)
              have HM6 := Lib.hid (aft_in (X := ({ X with nodes := xs } : BS)) (L := LB X bb ab atb m) (F := F) hjx.out eNX.out (.slice B1 n5 d5) l2 (by
                have e : ({ X with nodes := xs } : BS).nodes[k]'hjx.out = xk := hxk.out
                rw [e]
                exact hm3))
              have hA6 := Lib.hid (hA.out.set (Nat.le_refl _) hjx.out (.slice B1 n5 d5) hin2.out hln2.out)
              have hQ6 : Hid (Quiet raw → ∀ x, x ∈ xs.set k ((xs[k]'hjx.out).aft (.slice B1 n5 d5) l2) → x.nd.aft = []) := fun hq x hx => by
                rcases List.mem_or_eq_of_mem_set hx with hx | rfl
                · exact hQ.out hq x hx
                · exact hql2.out hq
              clear hm3 hcell hs2 hl2
              refine plan_tail rfl (fun K4 hK4 => ?_)
              go_wp2_with fail
              refine plan_done ?_
              clear z4 z5
              go_wp2_with fail
              go_roundw
              case rel => exact ⟨k + 1, _, by omega, by go_num, hA6, hQ6, HM6.out⟩
              case measure => simp [intOf]; omega
            · have hlt' : decide ((k : Int) < (X.nodes.length : Int)) = false := decide_eq_false (by omega)
              have hltN : decide (k < X.nodes.length) = false := decide_eq_false hlt
              have HM6 := Lib.hid (HM.drop (cs := [_, _, _]))
              clear HM
              go_wp2_with fail
              go_end0
              exact ⟨rfl, xs, hA.out, hQ.out, HM6.out⟩
end Go.Proofs.Ytliglejbkpjamaa
