/-
  Layer 16 (graph): ContainsFunc with behind's second closure.
-/
import Derived.Test.YtliglejbkpjamaaGrQ1
set_option linter.unusedVariables false
set_option linter.unusedSimpArgs false
set_option maxRecDepth 100000
namespace Go.Proofs.Ytliglejbkpjamaa
open Go.RowKit

theorem anyt_take {α : Type} {p : α → Bool} {l : List α} {k : Nat} (h : k < l.length) (h0 : (l.take k).any p = false) : (l.take (k + 1)).any p = p l[k] := by
  rw [List.take_succ_eq_append_getElem h, List.any_append, h0]; simp
theorem anyt_hit {α : Type} {p : α → Bool} {l : List α} {k : Nat} (h : k < l.length) (hp : p l[k] = true) : l.any p = true :=
  List.any_eq_true.2 ⟨l[k], List.getElem_mem h, hp⟩
set_option maxHeartbeats 8000000 in
theorem b2_calls (X : BS) (bb : Nat) (t : ByteArray) {fp : Nat → Prop} {w0 : World} {L F : List Chunk} (w : World) (HX : Mem fp w0 (L ++ X.mem F) w) (hbb : w.cell? ⟨bb, 0, none⟩ = some (.pointer (some ⟨X.b, 0, none⟩))) :
    Calls Try.prog 50 #[.string t, .pointer (some ⟨bb, 0, none⟩)] w fun e w' => e = .returned (.bool (mhas X.own t)) ∧ Mem none_ w [] w' := by
  have HX2 : Mem fp w0 (X.mem (F ++ L)) w := mem_in HX
  have hor := own_reads X t HX2
  have hob : (MapC X.ob Value.string RX.val X.own).ok w := HX2.at_ 4 rfl
  have k4 : w.cell? ⟨X.b, 4, none⟩ = some (Value.map (some X.ob)) := Blk.cell_ (HX2.at_ 0 rfl) 4
  obtain ⟨x, hx⟩ : ∃ x, ownX X.own t = x := ⟨_, rfl⟩
  rw [hx] at hor
  have hlk : (if true = true then Value.tuple #[((mget X.own t).map RX.val).getD (.agg #[.slice none 0 0, .int .i64 0, .slice none 0 0, .slice none 0 0, .int .i64 0]), .bool (mhas X.own t)] else ((mget X.own t).map RX.val).getD (.agg #[.slice none 0 0, .int .i64 0, .slice none 0 0, .slice none 0 0, .int .i64 0])) = .tuple #[RX.val x, .bool (mhas X.own t)] := by
    rw [if_pos rfl, ← hx]
    unfold ownX
    cases mget X.own t <;> rfl
  obtain ⟨TV, SV, CV, r⟩ := x
  obtain ⟨⟨A1, c1, e1, _⟩, ⟨A2, c2, e2, _⟩, ⟨A3, c3, e3, _⟩⟩ := hor
  simp only at e1 e2 e3
  subst e1 e2 e3
  obtain ⟨ok, hok⟩ : ∃ b, mhas X.own t = b := ⟨_, rfl⟩
  have hlk := hlk.trans (show _ = Value.tuple #[.agg #[.slice A1 r.tg.length c1, .int .i64 r.kind, .slice A2 r.src.length c2, .slice A3 r.cmd.length c3, .int .i64 r.at_], .bool ok] from by rw [hok]; rfl)
  rw [hok]
  clear hok hx HX HX2
  have HM1 := (Mem.start (fp := none_) w).box #[.slice A1 r.tg.length c1, .int .i64 r.kind, .slice A2 r.src.length c2, .slice A3 r.cmd.length c3, .int .i64 r.at_] 25
  go_enter Try.func50, Try.ntmps50
  go_wp2_with (at_lookup; refine wpList_get keyS Try.underlying62 zeroR rfl _ _ true rfl hob rfl t rfl _ hlk ?_)
  go_ret
  exact ⟨rfl, HM1.tail⟩
set_option maxHeartbeats 8000000 in
theorem idxF_calls (q : ByteArray → Bool) (lb : Array Value) (V : Value) (L : List ByteArray) (w : World) (hV : Strs w V L)
    (hq : ∀ wx, Pure w wx → ∀ t, t ∈ L → Calls Try.prog 50 (#[.string t] ++ lb) wx fun e w' => e = .returned (.bool (q t)) ∧ Mem none_ wx [] w') :
    Calls Try.prog 68 #[V, .func (.func 50) #[] lb] w fun e w' => ∃ r : Int, e = .returned (.int .i64 r) ∧ decide (0 ≤ r) = L.any q ∧ Mem none_ w [] w' := by
  obtain ⟨A, c, rfl, g1, g2, g3, g4⟩ := hV
  unfold maxLen at g2
  have HQ := Lib.hid hq
  clear hq
  have HM0 := (Mem.start (fp := none_) w)
  go_enter Try.func68, Try.ntmps68
  go_wp2_with fail
  go_loopw [5, 8] (fun v5 v8 wr => ∃ i : Nat, i ≤ L.length ∧ v8 = .int .i64 i ∧ Hid ((L.take i).any q = false) ∧ Mem none_ w [] wr) (fun _ v _ => L.length - (intOf v).toNat)
  case atStart => exact ⟨0, Nat.zero_le _, rfl, rfl, HM0⟩
  case round =>
    clear HM0
    obtain ⟨i, hi, rfl, HN, HM⟩ := hrel
    by_cases hlt : i < L.length
    · have hlt' : decide ((i : Int) < (L.length : Int)) = true := decide_eq_true (by omega)
      have hltN : decide (i < L.length) = true := decide_eq_true hlt
      obtain ⟨b, o, rfl, hcells⟩ := g4.resolve_left (by omega)
      have x0 : wr.cell? ⟨b, o + i, none⟩ = some (.string L[i]) := Pure.cell HM.mu (hcells _ _ (strs_get hlt))
      have hq := HQ.out wr HM.mu L[i] (List.getElem_mem hlt)
      have HT := Lib.hid (anyt_take hlt HN.out)
      have HH : Hid (q L[i] = true → L.any q = true) := anyt_hit hlt
      clear hcells g4 HN
      generalize L[i] = x at *
      obtain ⟨G, hG⟩ : ∃ G, q x = G := ⟨_, rfl⟩
      rw [hG] at hq HT HH
      clear hG
      cases G with
      | true =>
        have HL : Hid (L.any q = true) := HH.out rfl
        clear HH
        go_wp2_with fail
        refine hq.mono ?_
        rintro e w3 ⟨rfl, HM1⟩
        have HMe := HM.got HM1
        go_wp2_with fail
        go_ret
        exact ⟨_, rfl, by rw [HL.out]; exact decide_eq_true (by omega), HMe⟩
      | false =>
        go_wp2_with fail
        refine hq.mono ?_
        rintro e w3 ⟨rfl, HM1⟩
        have HMe := HM.got HM1
        go_wp2_with fail
        go_roundw
        case rel => exact ⟨i + 1, by omega, by go_num, HT.out, HMe⟩
        case measure => simp [intOf]; omega
    · have hlt' : decide ((i : Int) < (L.length : Int)) = false := decide_eq_false (by omega)
      have hltN : decide (i < L.length) = false := decide_eq_false hlt
      have e : i = L.length := by omega
      subst e
      have HR2 := HN.out
      rw [List.take_length] at HR2
      have HR3 := Lib.hid HR2
      clear HR2
      go_wp2_with fail
      go_ret
      exact ⟨_, rfl, by rw [HR3.out]; rfl, HM⟩
set_option maxHeartbeats 8000000 in
theorem contF_calls (q : ByteArray → Bool) (lb : Array Value) (V : Value) (L : List ByteArray) (w : World) (hV : Strs w V L)
    (hq : ∀ wx, Pure w wx → ∀ t, t ∈ L → Calls Try.prog 50 (#[.string t] ++ lb) wx fun e w' => e = .returned (.bool (q t)) ∧ Mem none_ wx [] w') :
    Calls Try.prog 49 #[V, .func (.func 50) #[] lb] w fun e w' => e = .returned (.bool (L.any q)) ∧ Mem none_ w [] w' := by
  have hI := idxF_calls q lb V L w hV hq
  obtain ⟨A, c, rfl, _⟩ := hV
  obtain ⟨R, hR⟩ : ∃ R, L.any q = R := ⟨_, rfl⟩
  rw [hR] at hI ⊢
  clear hR hq
  go_enter Try.func49, Try.ntmps49
  go_wp2_with fail
  refine hI.mono ?_
  rintro e w1 ⟨r, rfl, hr, HM⟩
  clear hI
  go_wp2_with fail
  go_ret
  exact ⟨by first | rw [hr] | rfl, HM⟩
end Go.Proofs.Ytliglejbkpjamaa
