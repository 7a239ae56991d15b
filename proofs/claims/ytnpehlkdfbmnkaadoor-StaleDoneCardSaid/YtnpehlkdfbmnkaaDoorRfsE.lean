/-
  The document's store: New.
-/
import Derived.Test.YtnpehlkdfbmnkaaDoorRfsD
set_option linter.unusedVariables false
set_option linter.unusedSimpArgs false
set_option maxRecDepth 20000
namespace Go.Proofs.YtnpehlkdfbmnkaaDoor
open Go.RowKit

set_option maxHeartbeats 2000000 in
theorem rnew_calls (room : Int) (w : World) (h0 : 0 ≤ room) (h1 : room ≤ 1048576) :
    Calls Tryd.prog 39 #[.int .i64 room] w fun e w' => ∃ lv, e = .returned (.tuple #[.agg #[.int .i64 room, .int .i64 0, lv, .bool false, .slice none 0 0], .int .i64 0]) ∧ Mem none_ w [FRow lv [(rootS, ⟨[], 0, true⟩)]] w' := by
  have d0 : decide (room < 0) = false := decide_eq_false (by omega)
  have d1 : decide (1048576 < room) = false := decide_eq_false (by omega)
  have HM0 := (Mem.start (fp := none_) w).box #[.int .i64 0, .int .i64 0, .slice none 0 0, .bool false, .slice none 0 0] 81
  have HM1 := HM0.lit 129 4 1 [.string ⟨#[47]⟩, .string ⟨#[]⟩, .int .i64 0, .bool true] rfl (by unfold maxLen; omega)
  simp only [World.size_alloc] at HM1
  have HM2 := HM1.sel [1, 0] (by decide)
  simp only [List.filterMap_cons, List.filterMap_nil, List.getElem?_cons_succ, List.getElem?_cons_zero] at HM2
  have HM2' := Lib.hid HM2
  have y0 := Blk.cell_ (HM2.at_ 0 rfl) 0
  have y1 := Blk.cell_ (HM2.at_ 0 rfl) 1
  have y2 := Blk.cell_ (HM2.at_ 0 rfl) 2
  have y3 := Blk.cell_ (HM2.at_ 0 rfl) 3
  have y4 := Blk.cell_ (HM2.at_ 0 rfl) 4
  have z0 := Blk.frozen (HM2.at_ 0 rfl) 0
  have z1 := Blk.frozen (HM2.at_ 0 rfl) 1
  have z2 := Blk.frozen (HM2.at_ 0 rfl) 2
  have z3 := Blk.frozen (HM2.at_ 0 rfl) 3
  have z4 := Blk.frozen (HM2.at_ 0 rfl) 4
  simp only [List.getElem?_toArray, List.getElem?_cons_succ, List.getElem?_cons_zero] at y0 y1 y2 y3 y4
  clear HM0 HM1 HM2
  go_enter Tryd.func39, Tryd.ntmps39
  go_wp2_with fail
  clear HM2' y0 y1 y2 y3 y4 z0 z1 z2 z3 z4
  have HM0 := (Mem.start (fp := none_) w).box #[.int .i64 room, .int .i64 0, .slice (some ⟨w.heap.size + 1, 0, none⟩) 1 1, .bool false, .slice none 0 0] 81
  have HM1 := HM0.lit 129 4 1 [.string ⟨#[47]⟩, .string ⟨#[]⟩, .int .i64 0, .bool true] rfl (by unfold maxLen; omega)
  simp only [World.size_alloc] at HM1
  have f0 := Blk.cell_ (HM1.at_ 1 rfl) 0
  have f1 := Blk.cell_ (HM1.at_ 1 rfl) 1
  have f2 := Blk.cell_ (HM1.at_ 1 rfl) 2
  have f3 := Blk.cell_ (HM1.at_ 1 rfl) 3
  have f4 := Blk.cell_ (HM1.at_ 1 rfl) 4
  simp only [List.getElem?_toArray, List.getElem?_cons_succ, List.getElem?_cons_zero] at f0 f1 f2 f3 f4
  have HM4 := HM1.sel [0] (by decide)
  clear HM0 HM1
  generalize hwb : w.heap.size = wb at *
  generalize World.alloc _ _ = W at *
  exact bodyPost_ret (v := .tuple #[.agg #[.int .i64 room, .int .i64 0, .slice (some ⟨wb + 1, 0, none⟩) 1 1, .bool false, .slice none 0 0], .int .i64 0]) (by simp [results, Tryd.results39, go_sem, f0, f1, f2, f3, f4]) rfl ⟨.slice (some ⟨wb + 1, 0, none⟩) 1 1, rfl, HM4⟩
end Go.Proofs.YtnpehlkdfbmnkaaDoor
