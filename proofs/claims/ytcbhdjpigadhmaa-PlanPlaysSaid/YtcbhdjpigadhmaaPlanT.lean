/-
  The walks of layer 19 (plan): theirs, alive.
-/
import Derived.Test.YtcbhdjpigadhmaaPlanS
set_option linter.unusedVariables false
set_option linter.unusedSimpArgs false
namespace Go.Proofs.Ytcbhdjpigadhmaa
open Go.RowKit

theorem nodE : Elem Try.prog 33 64 10 120 := Elem.of (z := .agg #[.string ⟨#[]⟩, .int .i64 0, .slice none 0 0, .slice none 0 0, .slice none 0 0, .string ⟨#[]⟩, .bool false, .bool false, .bool false, .bool false]) Try.underlying33 (by kernel_rfl) rfl (by decide) (by decide)

set_option maxHeartbeats 2000000 in
theorem theirs_calls (GA : Option Addr) (gn gc : Nat) (NV : Value) (g : List Nd) (w : World) (hG : Nodes w NV g) (hgl : g.length ≤ 1000000) :
    Calls Try.prog 12 #[.agg #[.slice GA gn gc, NV]] w fun e w' => ∃ v, e = .returned (.agg #[.slice GA gn gc, v]) ∧ Nodes w' v g ∧ Mem none_ w [] w' := by
  obtain ⟨A, c, rfl, nn1, nn2⟩ : ∃ A c, NV = .slice A g.length c ∧ g.length ≤ c ∧ c ≤ maxLen := by
    obtain ⟨cells, h, _⟩ := hG
    exact Sl.any_ h
  unfold maxLen at nn2
  have HM0 := (Mem.start (fp := none_) w).box #[.slice GA gn gc, .slice A g.length c] 25
  go_enter Try.func12, Try.ntmps12
  go_wp2
  have HM1 := ((HM0.box #[.slice none 0 0, .slice none 0 0] 35).box #[.slice GA gn gc, .slice none 0 0] 35)
  simp only [World.size_alloc] at HM1
  have HM2 := (Mem.new (d := Row 64 10 (.slice none 0 0) 0 []) HM1 (Mut.refl _ _) (by exact World.ownsRow_nil _ _ _ _) (by intro b hb; cases hb)).sel [0, 1, 2] (by decide)
  clear HM0 HM1
  generalize hrb : w.heap.size + 1 = rb at *
  have Hrb := Lib.hid hrb
  clear hrb
  generalize hob : rb + 1 = ob at *
  have Hob := Lib.hid hob
  clear hob
  go_loopw [12] (fun v12 wr => ∃ (k : Nat) (v : Value) (cells : List Value), k ≤ g.length ∧ v12 = .int .i64 k ∧ Hid (cells.length = k * 10 ∧ ∀ i (h : i < k) (h' : i < g.length), NodeR w g[i] ((cells.drop (i * 10)).take 10)) ∧
    Mem none_ w [Row 64 10 v k cells, Blk ob 35 #[.slice GA gn gc, v], Blk rb 35 #[.slice none 0 0, .slice none 0 0]] wr) (fun i _ => g.length - (intOf i).toNat)
  case atStart => exact ⟨0, _, [], Nat.zero_le _, rfl, Lib.hid ⟨rfl, fun i h => by omega⟩, HM2⟩
  case round =>
    clear HM2
    obtain ⟨k, v, cells, hk, rfl, HC, HM⟩ := hrel
    by_cases hlt : k < g.length
    · have hlt' : decide ((k : Int) < (g.length : Int)) = true := decide_eq_true (by omega)
      obtain ⟨gb, go, kd, sv, cA, cn, cc, av, im, ph, pr, si, ig, rfl, hsv, hav, hcell⟩ := (hG.pure HM.mu).cells hlt
      obtain ⟨_, _, _, sv0, _, _, _, av0, _, _, _, _, _, e0, hsv0, hav0, hcell0⟩ := hG.cells hlt
      cases e0
      have esv : sv0 = sv := by
        have h1 := HM.mu.cell (hcell0 2 _ rfl) (fun h => h)
        have h2 := hcell 2 _ rfl
        rw [h1] at h2; exact Option.some.inj h2
      have eav : av0 = av := by
        have h1 := HM.mu.cell (hcell0 4 _ rfl) (fun h => h)
        have h2 := hcell 4 _ rfl
        rw [h1] at h2; exact Option.some.inj h2
      subst esv
      subst eav
      obtain ⟨sA, sc, rfl, sl1, sl2⟩ := Sl.any_ hsv
      obtain ⟨aA, ac, rfl, al1, al2⟩ := Sl.any_ hav
      have x0 := hcell 0 _ rfl
      rw [Nat.add_zero] at x0
      have x1 := hcell 1 _ rfl
      have x2 := hcell 2 _ rfl
      have x3 := hcell 3 _ rfl
      have x4 := hcell 4 _ rfl
      have x5 := hcell 5 _ rfl
      have x6 := hcell 6 _ rfl
      have x7 := hcell 7 _ rfl
      have x8 := hcell 8 _ rfl
      have x9 := hcell 9 _ rfl
      have HMx := HM.box #[.string g[k].name, .int .i64 kd, .slice sA g[k].src.length sc, .slice cA cn cc, .slice aA g[k].aft.length ac, .string im, .bool ph, .bool pr, .bool si, .bool ig] 47
      have hob : (Blk ob 35 #[.slice GA gn gc, v]).ok (wr.alloc (.cells #[.string g[k].name, .int .i64 kd, .slice sA g[k].src.length sc, .slice cA cn cc, .slice aA g[k].aft.length ac, .string im, .bool ph, .bool pr, .bool si, .bool ig] 47)) := HMx.at_ 2 rfl
      have y1 := Blk.cell_ hob 1
      simp only [List.getElem?_toArray, List.getElem?_cons_succ, List.getElem?_cons_zero] at y1
      obtain ⟨hcl, hcn⟩ := HC.out
      have HC2 : Hid ((cells ++ [Value.string g[k].name, .int .i64 kd, .slice sA g[k].src.length sc, .slice none 0 0, .slice aA g[k].aft.length ac, .string ⟨#[]⟩, .bool false, .bool false, .bool false, .bool false]).length = (k + 1) * 10 ∧ ∀ i (h : i < k + 1) (h' : i < g.length), NodeR w g[i] (((cells ++ [Value.string g[k].name, .int .i64 kd, .slice sA g[k].src.length sc, .slice none 0 0, .slice aA g[k].aft.length ac, .string ⟨#[]⟩, .bool false, .bool false, .bool false, .bool false]).drop (i * 10)).take 10)) := by
        refine Lib.hid ⟨by rw [List.length_append, hcl]; simp; omega, fun i hi hi' => ?_⟩
        by_cases hik : i < k
        · rw [List.drop_append_of_le_length (by omega), List.take_append_of_le_length (by rw [List.length_drop]; omega)]
          exact hcn i hik hi'
        · have : i = k := by omega
          subst this
          rw [← hcl, List.drop_left]
          exact ⟨kd, _, none, 0, 0, _, ⟨#[]⟩, false, false, false, false, rfl, hsv0, hav0⟩
      have HMr : Mem none_ w [Row 64 10 v k cells, Blk ob 35 #[.slice GA gn gc, v], Blk rb 35 #[.slice none 0 0, .slice none 0 0]] _ := HMx.sel [1, 2, 3] (by decide)
      clear hcell hcell0 hsv hav hsv0 hav0 HC hcl hcn hob HM HMx
      generalize g[k] = x at *
      go_wp2_with (at_builtin; refine wpList_app1 nodE rfl _ _ rfl HMr rfl #[.string x.name, .int .i64 kd, .slice sA x.src.length sc, .slice none 0 0, .slice aA x.aft.length ac, .string ⟨#[]⟩, .bool false, .bool false, .bool false, .bool false] _ rfl ?hnb rfl ?h1 ?hb ?_; (case hnb => simp); (case h1 => simp [Value.oneCell']); (case hb => omega); intro v' w' HM3 HU3; obtain ⟨Av, cv, rfl, _, _⟩ := Row.any_ HM3.head; have hob2 : (Blk ob 35 #[.slice GA gn gc, v]).ok w' := HM3.at_ 1 rfl; have y3 := Blk.cell_ hob2 1; simp only [List.getElem?_toArray, List.getElem?_cons_succ, List.getElem?_cons_zero] at y3; have y4 := Blk.frozen hob2 1)
      have HM4 := ((HM3.front [_]).blkSet 1 (.slice Av (k + 1) cv)).back [_]
      go_roundw
      case rel => exact ⟨k + 1, .slice Av (k + 1) cv, _, by omega, by go_num, HC2, HM4⟩
      case measure => simp [intOf]; omega
    · have e : k = g.length := by omega
      subst e
      have hob : (Blk ob 35 #[.slice GA gn gc, v]).ok wr := HM.at_ 1 rfl
      have hrb : (Blk rb 35 #[.slice none 0 0, .slice none 0 0]).ok wr := HM.at_ 2 rfl
      have y0 : wr.cell? ⟨ob, 0, none⟩ = some (.slice GA gn gc) := by rw [Blk.cell_ hob]; rfl
      have y1 : wr.cell? ⟨ob, 1, none⟩ = some v := by rw [Blk.cell_ hob]; rfl
      have z0 : wr.cell? ⟨rb, 0, none⟩ = some (.slice none 0 0) := by rw [Blk.cell_ hrb]; rfl
      have z1 : wr.cell? ⟨rb, 1, none⟩ = some (.slice none 0 0) := by rw [Blk.cell_ hrb]; rfl
      have z2 := Blk.frozen hrb 0
      have z3 := Blk.frozen hrb 1
      have HMf := ((HM.front [_, _]).blkSet 0 (.slice GA gn gc)).blkSet 1 v
      obtain ⟨hcl, hcn⟩ := HC.out
      obtain ⟨Av, cv, rfl, _, _⟩ := Row.any_ HM.head
      have hN : Nodes _ (.slice Av g.length cv) g := ⟨cells, Row.sl (HMf.at_ 1 rfl), fun i hi => (hcn i hi hi).pure HMf.mu⟩
      have f0 := Blk.cell_ (HMf.head) 0
      have f1 := Blk.cell_ (HMf.head) 1
      have f2 : (Blk rb 35 ((#[.slice none 0 0, .slice none 0 0].setIfInBounds 0 (.slice GA gn gc)).setIfInBounds 1 (.slice Av g.length cv))).ok _ := HMf.head
      simp only [List.setIfInBounds_toArray, List.set_cons_zero, List.set_cons_succ, List.getElem?_toArray, List.getElem?_cons_succ, List.getElem?_cons_zero] at f0 f1
      have HN := Lib.hid hN
      have HMe := HMf.sel [] (by decide)
      have Hf := Lib.hid (And.intro f0 f1)
      clear HC hcl hcn hN hob hrb HM HMf f2 f0 f1
      go_wp2
      clear y0 y1 z0 z1 z2 z3
      generalize World.setCell _ _ _ = W at *
      obtain ⟨f0, f1⟩ := Hf.out
      exact bodyPost_ret (v := .agg #[.slice GA gn gc, .slice Av g.length cv]) (by simp [results, Try.results12, go_sem, f0, f1]) rfl ⟨_, rfl, HN.out, HMe⟩
end Go.Proofs.Ytcbhdjpigadhmaa
