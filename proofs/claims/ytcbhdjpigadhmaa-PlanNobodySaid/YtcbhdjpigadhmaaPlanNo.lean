/-
  The walk of PlanNobody.
-/
import Derived.Test.YtcbhdjpigadhmaaPlanU
import Derived.Test.YtcbhdjpigadhmaaPlanO
set_option linter.unusedVariables false
set_option linter.unusedSimpArgs false
namespace Go.Proofs.Ytcbhdjpigadhmaa
open Go.RowKit

/-- A plan that is none: the nil pointer, or one without a map. -/
def NoP (w : World) (p : Value) : Prop := p = .pointer none ∨ ∃ b, p = .pointer (some ⟨b, 0, none⟩) ∧ w.cell? ⟨b, 1, none⟩ = some (.map none)

theorem no_ok {w : World} {p : Value} (h : NoP w p) :
    Calls Try.prog 33 #[p] w fun e w' => e = .returned (.bool false) ∧ w = w' := by
  rcases h with rfl | ⟨b, rfl, y0⟩
  · go_enter Try.func33, Try.ntmps33
    go_wp2
    go_ret
    exact ⟨rfl, rfl⟩
  · have qT : ∀ (w : World) (r : Option Nat), (binOp .neq 57 (.map r) (.map none)).run Try.prog w = .ok (.bool (!r.isNone)) w := fun w r => run_neq_map_nil w _ _ _ r Try.underlying57
    go_enter Try.func33, Try.ntmps33
    go_wp2
    go_ret
    exact ⟨rfl, rfl⟩
theorem no_find {w : World} {p : Value} (x : ByteArray) (h : NoP w p) :
    Calls Try.prog 35 #[p, .string x] w fun e w' => e = .returned (.tuple #[.int .i64 0, .int .i64 2]) ∧ w = w' := by
  have hok := no_ok h
  go_enter Try.func35, Try.ntmps35
  go_wp2_with (go_at_call 33; refine hok.mono ?_; rintro e w' ⟨rfl, rfl⟩)
  go_ret2
  exact ⟨rfl, rfl⟩
theorem no_State {w : World} {p : Value} (x : ByteArray) (h : NoP w p) :
    Calls Try.prog 19 #[p, .string x] w fun e w' => e = .returned (.tuple #[.int .i64 0, .int .i64 2]) ∧ w = w' := by
  have hf := no_find x h
  go_enter Try.func19, Try.ntmps19
  go_wp2_with (go_at_call 35; refine hf.mono ?_; rintro e w' ⟨rfl, rfl⟩)
  go_ret2
  exact ⟨rfl, rfl⟩
theorem no_Start {w : World} {p : Value} (x : ByteArray) (h : NoP w p) :
    Calls Try.prog 16 #[p, .string x] w fun e w' => e = .returned (.int .i64 2) ∧ w = w' := by
  have hf := no_find x h
  go_enter Try.func16, Try.ntmps16
  go_wp2_with (go_at_call 35; refine hf.mono ?_; rintro e w' ⟨rfl, rfl⟩)
  go_ret
  exact ⟨rfl, rfl⟩
theorem no_Finish {w : World} {p : Value} (x : ByteArray) (ok : Bool) (h : NoP w p) :
    Calls Try.prog 15 #[p, .string x, .bool ok] w fun e w' => e = .returned (.int .i64 2) ∧ w = w' := by
  have hf := no_find x h
  go_enter Try.func15, Try.ntmps15
  go_wp2_with (go_at_call 35; refine hf.mono ?_; rintro e w' ⟨rfl, rfl⟩)
  go_ret
  exact ⟨rfl, rfl⟩
theorem no_Ready {w : World} {p : Value} (h : NoP w p) :
    Calls Try.prog 14 #[p] w fun e w' => e = .returned (.slice none 0 0) ∧ w = w' := by
  have hok := no_ok h
  go_enter Try.func14, Try.ntmps14
  go_wp2_with (go_at_call 33; refine hok.mono ?_; rintro e w' ⟨rfl, rfl⟩)
  go_ret
  exact ⟨rfl, rfl⟩
theorem no_Stop {w : World} {p : Value} (h : NoP w p) :
    Calls Try.prog 20 #[p] w fun e w' => e = .returned (.int .i64 0) ∧ w = w' := by
  have hok := no_ok h
  go_enter Try.func20, Try.ntmps20
  go_wp2_with (go_at_call 33; refine hok.mono ?_; rintro e w' ⟨rfl, rfl⟩)
  go_ret
  exact ⟨rfl, rfl⟩
theorem no_Count {w : World} {p : Value} (h : NoP w p) :
    Calls Try.prog 17 #[p, .int .i64 0] w fun e w' => e = .returned (.int .i64 0) ∧ w = w' := by
  have hok := no_ok h
  go_enter Try.func17, Try.ntmps17
  go_wp2_with (go_at_call 33; refine hok.mono ?_; rintro e w' ⟨rfl, rfl⟩)
  go_ret
  exact ⟨rfl, rfl⟩
theorem NoP.drew {w : World} {p : Value} (h : NoP w p) : NoP w.drew p := h
theorem no_Over {w : World} {p : Value} (h : NoP w p) :
    Calls Try.prog 13 #[p] w fun e w' => e = .returned (.bool true) ∧ w' = w.drew := by
  have hok := no_ok h.drew
  go_enter Try.func13, Try.ntmps13
  go_wp2
  refine wp_plan [] (S := fun w' => w' = World.drew w) [(.pure, 0), (.eff, 1), (.pure, 2), (.pure, 3), (.pure, 4), (.pure, 5), (.pure, 6), (.pure, 7), (.load, 8), (.pure, 9), (.pure, 10), (.pure, 11), (.pure, 12), (.load, 13), (.pure, 14), (.pure, 15), (.pure, 16), (.pure, 17)] (by kernel_rfl) rfl (by kernel_rfl) rfl (fun _ _ _ _ _ h => h) rfl ?_
  generalize hW : World.drew w = W at *
  repeat (first | (refine plan_pure (v := ?_) (a' := ?_) rfl rfl rfl ?_ ?_ ?_; rotate_left 2; (focus (intro w'; go_simp; with_reducible rfl)); (focus (simp only [Act.put, List.setIfInBounds_toArray, List.set_cons_zero, List.set_cons_succ]; rfl))) | (refine plan_load (v := ?_) (a' := ?_) rfl rfl rfl ?_ ?_ ?_; rotate_left 2; (focus (intro w' hw'; rw [hw']; go_simp; with_reducible rfl)); (focus (simp only [Act.put, List.setIfInBounds_toArray, List.set_cons_zero, List.set_cons_succ]; rfl))) | (refine plan_skip rfl rfl (by decide +kernel) (by simp only [Act.put, List.setIfInBounds_toArray, List.set_cons_zero, List.set_cons_succ]; rfl) ?_) | (refine plan_skip (a' := ?_) rfl rfl rfl ?_ ?_; rotate_left 1; (focus (simp only [Act.put, List.setIfInBounds_toArray, List.set_cons_zero, List.set_cons_succ]; rfl))) | (refine plan_skipL (a' := ?_) rfl rfl rfl ?_ ?_; rotate_left 1; (focus (simp only [Act.put, List.setIfInBounds_toArray, List.set_cons_zero, List.set_cons_succ]; rfl))))
  refine plan_eff rfl (fun K hK => ?_)
  go_wp2_with (go_at_call 33; refine hok.mono ?_; rintro e w' ⟨rfl, rfl⟩)
  refine hK _ _ rfl ?_
  repeat (first | (refine plan_pure (v := ?_) (a' := ?_) rfl rfl rfl ?_ ?_ ?_; rotate_left 2; (focus (intro w'; go_simp; with_reducible rfl)); (focus (simp only [Act.put, List.setIfInBounds_toArray, List.set_cons_zero, List.set_cons_succ]; rfl))) | (refine plan_load (v := ?_) (a' := ?_) rfl rfl rfl ?_ ?_ ?_; rotate_left 2; (focus (intro w' hw'; rw [hw']; go_simp; with_reducible rfl)); (focus (simp only [Act.put, List.setIfInBounds_toArray, List.set_cons_zero, List.set_cons_succ]; rfl))) | (refine plan_skip rfl rfl (by decide +kernel) (by simp only [Act.put, List.setIfInBounds_toArray, List.set_cons_zero, List.set_cons_succ]; rfl) ?_) | (refine plan_skip (a' := ?_) rfl rfl rfl ?_ ?_; rotate_left 1; (focus (simp only [Act.put, List.setIfInBounds_toArray, List.set_cons_zero, List.set_cons_succ]; rfl))) | (refine plan_skipL (a' := ?_) rfl rfl rfl ?_ ?_; rotate_left 1; (focus (simp only [Act.put, List.setIfInBounds_toArray, List.set_cons_zero, List.set_cons_succ]; rfl))))
  refine plan_done ?_
  go_wp2
  go_ret
  exact ⟨rfl, hW.symm⟩

def gNob : List Nd := [⟨sa, [], []⟩, ⟨sb, [sa], []⟩]
def pNob0 : PS := (buildOf gNob).getD ⟨[], [], [], [], [], [], []⟩
theorem nob_built : buildOf gNob = some pNob0 := by kernel_rfl
def pNob1 : PS := (startS pNob0 sa).1
theorem nob_a : startS pNob0 sa = (pNob1, 0) := by kernel_rfl
def pNob2 : PS := (finishS pNob1 sa true).1
theorem nob_f : finishS pNob1 sa true = (pNob2, 0) := by kernel_rfl
theorem nob_r2 : readyS pNob2 = [sb] := by kernel_rfl
def cNob (v : Value) : List Value := [.string sa, .int .i64 0, .slice none 0 0, .slice none 0 0, .slice none 0 0, .string ⟨#[]⟩, .bool false, .bool false, .bool false, .bool false,
  .string sb, .int .i64 0, v, .slice none 0 0, .slice none 0 0, .string ⟨#[]⟩, .bool false, .bool false, .bool false, .bool false]
theorem nob_nodes {fp : Nat → Prop} {w0 W : World} {c0 : Chunk} {v x : Value} (h : Mem fp w0 [c0, Row 64 10 v 2 (cNob x), StrRow x [sa]] W) : Nodes W v gNob := by
  refine ⟨_, Row.sl (h.at_ 1 rfl), fun i hi => ?_⟩
  match i, hi with
  | 0, _ => exact ⟨0, _, none, 0, 0, _, ⟨#[]⟩, false, false, false, false, rfl, strs_nil _, strs_nil _⟩
  | 1, _ => exact ⟨0, _, none, 0, 0, _, ⟨#[]⟩, false, false, false, false, rfl, Row.sl (h.at_ 2 rfl), strs_nil _⟩

set_option maxRecDepth 100000 in
set_option maxHeartbeats 8000000 in
theorem nobody_calls (kd pk : Int) (nm : ByteArray) (okk : Bool) (w : World) :
    Calls Try.prog 7 #[.agg #[.int .u8 kd, .string nm, .bool okk, .int .u8 pk]] w fun e w' => e = .returned (.bool true) ∧ Mem none_ w [] w' := by
  have HM0 := (((Mem.start (fp := none_) w).box #[.int .u8 kd, .string nm, .bool okk, .int .u8 pk] 54).box #[.slice none 0 0, .map none, .slice none 0 0, .slice none 0 0, .slice none 0 0, .slice none 0 0, .int .i64 0, .int .i64 0, .int .i64 0, .int .i64 0, .int .i64 0] 62).lit 29 1 2 [.pointer none, .pointer (some ⟨w.heap.size + 1, 0, none⟩)] rfl (by unfold maxLen; omega)
  simp only [World.size_alloc] at HM0
  go_enter Try.func7, Try.ntmps7
  go_wp2_with fail
  go_loopw [14] (fun v14 wr => ∃ k : Nat, k ≤ 2 ∧ v14 = .int .i64 k ∧ Mem none_ w [Row 29 1 (.slice (some ⟨w.heap.size + 1 + 1, 0, none⟩) 2 2) 2 [.pointer none, .pointer (some ⟨w.heap.size + 1, 0, none⟩)], Blk (w.heap.size + 1) 62 #[.slice none 0 0, .map none, .slice none 0 0, .slice none 0 0, .slice none 0 0, .slice none 0 0, .int .i64 0, .int .i64 0, .int .i64 0, .int .i64 0, .int .i64 0], Blk w.heap.size 54 #[.int .u8 kd, .string nm, .bool okk, .int .u8 pk]] wr) (fun v _ => 2 - (intOf v).toNat)
  case atStart => exact ⟨0, Nat.zero_le _, rfl, HM0⟩
  case round =>
    clear HM0
    obtain ⟨k, hk, rfl, HM⟩ := hrel
    by_cases hlt : k < 2
    · have hlt' : decide ((k : Int) < 2) = true := decide_eq_true (by omega)
      have hlt2 : (k : Int) < 2 := by omega
      have hab : (Blk w.heap.size 54 #[.int .u8 kd, .string nm, .bool okk, .int .u8 pk]).ok wr := HM.at_ 2 rfl
      have y1 : wr.cell? ⟨w.heap.size, 1, none⟩ = some (.string nm) := by rw [Blk.cell_ hab]; rfl
      have y2 : wr.cell? ⟨w.heap.size, 2, none⟩ = some (.bool okk) := by rw [Blk.cell_ hab]; rfl
      have hpb : (Blk (w.heap.size + 1) 62 #[.slice none 0 0, .map none, .slice none 0 0, .slice none 0 0, .slice none 0 0, .slice none 0 0, .int .i64 0, .int .i64 0, .int .i64 0, .int .i64 0, .int .i64 0]).ok wr := HM.at_ 1 rfl
      have y3 : wr.cell? ⟨w.heap.size + 1, 1, none⟩ = some (.map none) := by rw [Blk.cell_ hpb]; rfl
      obtain ⟨p, hp, hNo⟩ : ∃ p, wr.cell? ⟨w.heap.size + 1 + 1, k, none⟩ = some p ∧ NoP wr p := by
        rcases (by omega : k = 0 ∨ k = 1) with rfl | rfl
        · exact ⟨_, Row.cell (HM.at_ 0 rfl) (j := 0) rfl, .inl rfl⟩
        · exact ⟨_, Row.cell (HM.at_ 0 rfl) (j := 1) rfl, .inr ⟨_, rfl, y3⟩⟩
      have hp0 : wr.cell? ⟨w.heap.size + 1 + 1, 0 + k, none⟩ = some p := by rw [Nat.zero_add]; exact hp
      clear hab hpb y3
      go_wp2_with fail
      refine (no_State nm hNo).mono ?_
      rintro e w' ⟨rfl, rfl⟩
      go_wp2_with fail
      refine (no_Ready hNo).mono ?_
      rintro e w' ⟨rfl, rfl⟩
      go_wp2_with fail
      refine (no_Start nm hNo).mono ?_
      rintro e w' ⟨rfl, rfl⟩
      go_wp2_with fail
      refine (no_Finish nm okk hNo).mono ?_
      rintro e w' ⟨rfl, rfl⟩
      go_wp2_with fail
      refine (no_Stop hNo).mono ?_
      rintro e w' ⟨rfl, rfl⟩
      go_wp2_with fail
      refine (no_Count hNo).mono ?_
      rintro e w' ⟨rfl, rfl⟩
      go_wp2_with fail
      refine (no_Over hNo).mono ?_
      rintro e w' ⟨rfl, rfl⟩
      go_wp2_with fail
      go_roundw
      case rel => exact ⟨k + 1, by omega, by go_num, HM.drew⟩
      case measure => simp [intOf]; omega
    · have e : k = 2 := by omega
      subst e
      have HMa := (((HM.sel [] (by decide)).lit1 sa).lit 64 10 2 (cNob (.slice (some ⟨wr.heap.size, 0, none⟩) 1 1)) rfl (by unfold maxLen; omega)).box #[.slice none 0 0, .slice (some ⟨wr.heap.size + 1, 0, none⟩) 2 2] 35
      simp only [World.size_alloc] at HMa
      have hN := nob_nodes HMa
      have hnew := New_calls (.slice none 0 0) _ gNob _ hN (by decide) (by decide)
      simp only [cNob] at hnew HMa
      clear hN HM hlt hk
      go_wp2_with fail
      refine hnew.mono ?_
      rintro e w1 ⟨_, h1⟩
      obtain ⟨b, V, rfl, hO, HM1'⟩ := h1 _ nob_built
      have HM1 := HMa.got HM1'
      simp only [List.cons_append, List.nil_append] at HM1
      have hG0 := (build_good nob_built hO).1
      have hG1 : PG pNob1 := hG0.start sa
      have hG2 : PG pNob2 := hG1.finish sa true
      clear h1 hnew HMa HM1' hO
      generalize wr.heap.size = S at *
      have hgb := HM1.at_ 1 rfl
      have y1 : w1.cell? ⟨S + 1 + 1, 1, none⟩ = some (.slice (some ⟨S + 1, 0, none⟩) 2 2) := by rw [Blk.cell_ hgb]; rfl
      have y2 : w1.cell? ⟨S + 1, 12, none⟩ = some (.slice (some ⟨S, 0, none⟩) 1 1) := Row.cell (HM1.at_ 2 rfl) (j := 12) rfl
      have y3 : w1.cell? ⟨S, 0, none⟩ = some (.string sa) := Row.cell (HM1.at_ 3 rfl) (j := 0) rfl
      have y4 := Row.frozen (HM1.at_ 3 rfl) 0
      have HM2 := (HM1.front [_, _, _]).rowSet (j := 0) (by omega) (.string ⟨#[120]⟩)
      have hgb2 := HM2.at_ 2 rfl
      have z1 : (w1.setCell ⟨S, 0, none⟩ (.string ⟨#[120]⟩)).cell? ⟨S + 1 + 1, 1, none⟩ = some (.slice (some ⟨S + 1, 0, none⟩) 2 2) := by rw [Blk.cell_ hgb2]; rfl
      have z2 : (w1.setCell ⟨S, 0, none⟩ (.string ⟨#[120]⟩)).cell? ⟨S + 1, 0, none⟩ = some (.string sa) := Row.cell (HM2.at_ 3 rfl) (j := 0) rfl
      have z3 := Row.frozen (HM2.at_ 3 rfl) 0
      have HM3 := (HM2.front [_, _, _]).rowSet (j := 0) (by omega) (.string ⟨#[121]⟩)
      have HM4 : Mem none_ w [PlanC b V pNob0] _ := HM3.sel [2] (by decide)
      clear HM1 HM2 HM3 hgb hgb2
      go_wp2_with fail
      clear y1 y2 y3 y4 z1 z2 z3
      refine (Start_calls b V pNob0 sa _ (HM4.at_ 0 rfl) hG0).mono ?_
      rintro e w5 ⟨rfl, HM6'⟩
      rw [nob_a] at HM6' ⊢
      have HM6 : Mem none_ w [PlanC b V pNob1] w5 := HM4.call1 HM6'
      clear HM4 HM6'
      go_wp2_with fail
      refine (Finish_calls b V pNob1 sa true _ (HM6.at_ 0 rfl) hG1).mono ?_
      rintro e w6 ⟨rfl, HM7'⟩
      rw [nob_f] at HM7' ⊢
      have HM7 : Mem none_ w [PlanC b V pNob2] w6 := HM6.call1 HM7'
      clear HM6 HM7'
      go_wp2_with fail
      refine (Ready_calls b V pNob2 _ (HM7.at_ 0 rfl) hG2).mono ?_
      rintro e w7 ⟨v7, rfl, HM8'⟩
      have HM8 := HM7.got HM8'
      clear HM7 HM8'
      rw [nob_r2] at HM8
      have HM9 := HM8.lit1 sb
      go_wp2_with fail
      refine (same_calls _ _ [sb] [sb] _ (Row.sl (HM9.at_ 1 rfl)) (Row.sl (HM9.at_ 0 rfl))).mono ?_
      rintro e w8 ⟨rfl, HM10'⟩
      have HM10 : Mem none_ w [] w8 := (HM9.got HM10').sel [] (by decide)
      clear HM8 HM9 HM10'
      have e1 : same [sb] [sb] = true := decide_eq_true rfl
      rw [e1]
      go_wp2_with fail
      refine (alive_calls w8).mono ?_
      rintro e w9 ⟨rfl, HMz⟩
      have HMy : Mem none_ w [] w9 := (HM10.got HMz).sel [] (by decide)
      clear HMz HM10 e1
      go_wp2_with fail
      go_ret
      exact ⟨rfl, HMy⟩

open Go.ChangeShapes Go.WideShapes Go.ChangeAt in
theorem op_act1 {w : World} {H : Type} {enc : TypeId × Value → H} {d : DataW H} {ps : List MemPlace} {base : Nat} {v : Value} (h : DataW.Trod enc Try.prog w 0 (fun _ => true) true 54 v d ps) (hv : Value.okWide Try.prog w .any base 54 v) (hl : Light Try.prog 54 d) :
    ∃ a : Ac, v = .agg #[.int .u8 a.kind, .string a.name, .bool a.ok, .int .u8 a.pick] := by
  obtain ⟨fuel, hf⟩ := h
  obtain ⟨cs, rfl, hcs⟩ := okWide_struct Try.underlying54 hv
  obtain ⟨_, a, ha, _⟩ := op_act _ _ _ _ _ _ _ _ hf hl
  refine ⟨a, ?_⟩
  obtain ⟨l⟩ := cs
  have e : l = encA a := by simpa [Value.cells] using ha
  rw [e]
  rfl
end Go.Proofs.Ytcbhdjpigadhmaa
