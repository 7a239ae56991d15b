/-
  Layer 18 (stale): a Builder's calls.
-/
import Derived.Test.YtnpehlkdfbmnkaaDoorPthSh
import Derived.Test.YtnpehlkdfbmnkaaDoorPthP
set_option linter.unusedVariables false
set_option linter.unusedSimpArgs false
namespace Go.Proofs
open Go.Shelf
def Tryd.lays167_ren : Go.Shelf.Ren := ⟨fun | 167 => 81 | 166 => 52 | 240 => 78 | 276 => 93 | n => n, fun | 9 => 9 | 3 => 3 | 4 => 4 | 0 => 0 | 20 => 20 | 72 => 110 | 70 => 107 | 37 => 108 | 75 => 112 | 80 => 116 | 164 => 149 | 5 => 5 | n => n, fun | n => n⟩
theorem Tryd.lays167 : Go.Proofs.Lays.n167 Tryd.prog Tryd.lays167_ren := {
  mixed := by kernel_rfl
  f167 := Tryd.func81.trans (congrArg some (by kernel_rfl))
  f240 := Tryd.func78.trans (congrArg some (by kernel_rfl))
  f276 := Tryd.func93.trans (congrArg some (by kernel_rfl))
  t0 := Tryd.underlying0
  a0 := Tryd.isAgg0
  z0 := Tryd.sizeOf0
  v0 := Tryd.zeroValue0
  t4 := Tryd.underlying4
  a4 := Tryd.isAgg4
  z4 := Tryd.sizeOf4
  v4 := Tryd.zeroValue4
  t5 := Tryd.underlying5
  a5 := Tryd.isAgg5
  z5 := Tryd.sizeOf5
  v5 := Tryd.zeroValue5
  t9 := Tryd.underlying9
  a9 := Tryd.isAgg9
  z9 := Tryd.sizeOf9
  v9 := Tryd.zeroValue9
  t20 := Tryd.underlying20
  a20 := Tryd.isAgg20
  z20 := Tryd.sizeOf20
  v20 := Tryd.zeroValue20
  t37 := Tryd.underlying108
  a37 := Tryd.isAgg108
  z37 := Tryd.sizeOf108
  v37 := Tryd.zeroValue108
  t70 := Tryd.underlying107
  a70 := Tryd.isAgg107
  z70 := Tryd.sizeOf107
  v70 := Tryd.zeroValue107
  t72 := Tryd.underlying110
  a72 := Tryd.isAgg110
  z72 := Tryd.sizeOf110
  v72 := Tryd.zeroValue110
  t75 := Tryd.underlying112
  a75 := Tryd.isAgg112
  z75 := Tryd.sizeOf112
  v75 := Tryd.zeroValue112
  t164 := Tryd.underlying149
  a164 := Tryd.isAgg149
  z164 := Tryd.sizeOf149
  v164 := Tryd.zeroValue149 }
theorem Tryd.Builder_Extra_167 : Builder.Extra Tryd.prog Tryd.lays167_ren := {
  sizeBuilder := by kernel_rfl
  liesBuilder := by kernel_rfl
  t5 := Tryd.underlying5
  a5 := Tryd.isAgg5
  z5 := Tryd.sizeOf5
  v5 := Tryd.zeroValue5
  infoByte := by kernel_rfl
  cellsByte := by kernel_rfl
  sizeByte := by kernel_rfl
  neB5 := by decide }
end Go.Proofs
namespace Go.Proofs.YtnpehlkdfbmnkaaDoor
open Go.RowKit

/-- A Builder in a block of its own, with bytes. -/
abbrev BldB (b : Nat) (l : List UInt8) (w : World) : Prop := Lib.IsBuilder 110 5 b b (Lib.byteCells l) w
theorem strCells_ofL (s : List UInt8) : Lib.strCells (ofL s) = Lib.byteCells s := by
  unfold Lib.strCells Lib.byteCells
  rfl
theorem byteCells_app (a b : List UInt8) : Lib.byteCells (a ++ b) = Lib.byteCells a ++ Lib.byteCells b := by simp [Lib.byteCells]
theorem bws_calls (b : Nat) (l s : List UInt8) (w : World) (h : BldB b l w) (hl : l.length + s.length ≤ 140737488355328) (hb : b ≤ w.heap.size) :
    Calls Tryd.prog 52 #[.pointer (some ⟨b, 0, none⟩), .string (ofL s)] w fun e w' => e = .returned (.tuple #[.int .i64 (s.length : Int), .nilIface]) ∧ BldB b (l ++ s) w' ∧ Below b w w' := by
  refine (Any.Builder_WriteString { Tryd.lays156 with } Tryd.Builder_Extra_156 b b (Lib.byteCells l) (ofL s) w h (by rw [Lib.byteCells_length, ofL_size]; exact hl) hb).mono ?_
  rintro e w' ⟨rfl, h1, h2⟩
  refine ⟨by rw [ofL_size], .inr ?_, h2⟩
  rw [byteCells_app, ← strCells_ofL s]
  exact h1
theorem bwb_calls (b : Nat) (l : List UInt8) (c : UInt8) (z : Int) (hz : z = (c.toNat : Int)) (w : World) (h : BldB b l w) (hl : l.length + 1 ≤ 140737488355328) (hb : b ≤ w.heap.size) :
    Calls Tryd.prog 81 #[.pointer (some ⟨b, 0, none⟩), .int .u8 z] w fun e w' => e = .returned .nilIface ∧ BldB b (l ++ [c]) w' ∧ Below b w w' := by
  subst hz
  refine (Any.Builder_WriteByte Tryd.lays167 Tryd.Builder_Extra_167 b b (Lib.byteCells l) (c.toNat : Int) w h (by rw [Lib.byteCells_length]; exact hl) hb).mono ?_
  rintro e w' ⟨rfl, h1, h2⟩
  refine ⟨rfl, .inr ?_, h2⟩
  rw [byteCells_app]
  exact h1
theorem bstr_calls (b : Nat) (l : List UInt8) (w : World) (h : BldB b l w) (hb : b ≤ w.heap.size) :
    Calls Tryd.prog 55 #[.pointer (some ⟨b, 0, none⟩)] w fun e w' => e = .returned (.string (ofL l)) ∧ Below b w w' :=
  Tryd.Builder_String_any b b l w h hb
theorem blen_calls (b : Nat) (l : List UInt8) (w : World) (h : BldB b l w) :
    Calls Tryd.prog 54 #[.pointer (some ⟨b, 0, none⟩)] w fun e w' => e = .returned (.int .i64 (l.length : Int)) ∧ w' = w := by
  refine (Tryd.Builder_Len b b (Lib.byteCells l) w h).mono ?_
  rintro e w' ⟨rfl, h1⟩
  exact ⟨by rw [Lib.byteCells_length], h1⟩
theorem bnew (w : World) : BldB w.heap.size [] (w.alloc (.cells #[.pointer none, .slice none 0 0] 110)) := Lib.fresh_isBuilder 110 5 w
end Go.Proofs.YtnpehlkdfbmnkaaDoor
