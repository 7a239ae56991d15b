/-
  The walks of layer 15 (suff): alive.
-/
import Derived.Test.YtbhhoibmccocmaaSuffG
set_option linter.unusedVariables false
set_option linter.unusedSimpArgs false
namespace Go.Proofs.Ytbhhoibmccocmaa
open Go.RowKit

def yS : List ByteArray := [⟨#[46, 121]⟩, ⟨#[46, 99]⟩, ⟨#[46, 111]⟩]
def yW : List (ByteArray × ByteArray) := [(⟨#[46, 121]⟩, ⟨#[46, 99]⟩), (⟨#[46, 99]⟩, ⟨#[46, 111]⟩)]
def xo : ByteArray := ⟨#[120, 46, 111]⟩
def xc : ByteArray := ⟨#[120, 46, 99]⟩
def xy : ByteArray := ⟨#[120, 46, 121]⟩
theorem y_right : rightOf yS yW = true := by decide +kernel
theorem y_hit : hit yW xo [xy] = true := by decide +kernel
theorem y_found : (walkOf yW xo [xy]).2 = xy := by decide +kernel
theorem y_up : up (walkOf yW xo [xy]).1.makes xo 10 (walkOf yW xo [xy]).2 = some [xc, xo] := by decide +kernel

theorem y_small : ∀ p, p ∈ yW → p.1.size ≤ 1000 := by decide +kernel
theorem y_chain (SV WV TV : Value) (w : World) (hS : Strs w SV yS) (hW : Prs w WV yW) (hT : Strs w TV [xy]) :
    Calls Try.prog 8 #[.agg #[SV, WV], .string xo, TV] w fun e w' => ∃ v, e = .returned (.tuple #[v, .bool true]) ∧ Mem none_ w [StrRow v [xy, xc, xo]] w' := by
  have h := chain_hit SV WV TV yS yW xo [xy] w hS hW hT y_right (by decide +kernel) y_small (by decide +kernel) y_hit 10 (by omega) [xc, xo] y_up
  rw [y_found] at h
  exact h

set_option maxHeartbeats 1000000 in
theorem alive_calls (w : World) : Calls Try.prog 7 #[] w fun e w' => e = .returned (.bool true) ∧ Mem none_ w [] w' := by
  have hr := y_right
  have hs : same [xy, xc, xo] [xy, xc, xo] = true := by decide +kernel
  go_enter Try.func7, Try.ntmps7
  go_wp2_with fail
  refine (yacc_calls _).mono ?_
  rintro e w1 ⟨SV, WV, rfl, hS1, hW1, HM1⟩
  go_wp2_with fail
  refine (theirs_calls _ _ _ _ _ hS1 hW1).mono ?_
  rintro e w2 ⟨rfl, HM2⟩
  have HM3 := HM1.got HM2
  go_wp2_with fail
  have HM4 := HM3.lit1 xy
  refine (y_chain _ _ _ _ ((hS1.pure HM2.mu).pure ((Mut.refl _ _).alloc _)) ((hW1.pure HM2.mu).pure ((Mut.refl _ _).alloc _)) (Row.sl HM4.head)).mono ?_
  rintro e w3 ⟨v, rfl, HM5⟩
  have HM6 := (HM4.got HM5).sel [0] (by decide)
  go_wp2_with fail
  have HM7 := HM6.lit 9 1 3 (strs [xy, xc, xo]) rfl (by unfold maxLen; omega)
  refine (same_calls _ _ [xy, xc, xo] [xy, xc, xo] _ (Row.sl HM7.tail.head) (Row.sl HM7.head)).mono ?_
  rintro e w4 ⟨rfl, HM8⟩
  have HM9 := (HM7.got HM8).sel [] (by decide)
  go_wp2_with fail
  refine (yacc_calls _).mono ?_
  rintro e w5 ⟨SV2, WV2, rfl, hS2, hW2, HM10⟩
  go_wp2_with fail
  refine (theirs_calls _ _ _ _ _ hS2 hW2).mono ?_
  rintro e w6 ⟨rfl, HM11⟩
  go_wp2_with fail
  refine (right_calls _ _ yS yW _ (hS2.pure HM11.mu) (hW2.pure HM11.mu)).mono ?_
  rintro e w7 ⟨rfl, HM12⟩
  go_wp2
  go_ret
  exact ⟨rfl, ((HM9.got HM10).got HM11).got HM12⟩
end Go.Proofs.Ytbhhoibmccocmaa
