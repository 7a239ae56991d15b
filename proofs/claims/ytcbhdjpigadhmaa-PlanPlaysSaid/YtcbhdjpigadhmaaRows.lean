/-
  No cell of these rows narrows 'for every input' (looked for: loops, veiled, ifaces, maps, wideKeys, modest, calm, conditions, laid).
  DERIVED. THE GIVEN ROWS OF THIS SEAT. 6 by the template 'for every input the law returns true; each argument reads behind the call as it read before'; 0 by the template 'total and deterministic' (their statements: YtcbhdjpigadhmaaTotals.lean).
  GIVEN WITH THE SEED: the statements are not yours to turn. If you find one false, say at which input.
  Laid BY PROGRAM, IN A SANDBOX (cutbox-rows.mjs): the forced cells as the released guide's own fill.sh prints them over the translation 524e779290faa4a6… (all of the seat's roots in one cut). By AI agents, Wed Nov 11 2026. No macro, syntax, notation, axiom, sorry.
-/
import Derived.Test.YtcbhdjpigadhmaaChecked
import GoSem.Claim
import GoSem.ClaimJoined
import GoSem.ClaimMapViews
import Derived.JoinedTies
import Derived.KernelRfl
namespace Go.Proofs.Ytcbhdjpigadhmaa
/- THE CELL 'sum', in the pinned program and in every row, IS THE sha256 OF THE DUMP (.gsa) THAT YtcbhdjpigadhmaaProg.lean LOADS. Nothing in Lean hashes anything: it is a label: what it is worth is what the hold of that sum in a sandbox is worth. -/
noncomputable def Try.pinned : Pinned := { name := "ytcbhdjpigadhmaa", sum := "524e779290faa4a6ce00d306e07611aca1e1cba293301a2b3b749e4fecc5d292", checked := Try.checked }
namespace Rows
def none {H : Type} : Left H := { results := [], args := [] }

/-- 'bobstaylaw19.PlanEnds': WHATEVER THE INPUT: true; the input reads as it did. -/
def planEndsSpec : ChangeSpec := { name := "planEnds", fn := fun _ => fun
  | [d1, d2] => { results := [.lit (.bool true)], args := [d1, d2] }
  | _ => none }
def planEndsRow : OpenClaim := { program := "ytcbhdjpigadhmaa", sum := "524e779290faa4a6ce00d306e07611aca1e1cba293301a2b3b749e4fecc5d292", func := "bobstay/bobstaylaw19.PlanEnds", spec := "planEnds", unfollowed := true, recurses := true, apart := false }
def PlanEndsSaid : Prop := planEndsRow.holds Try.pinned (OpenSpec.ofChange planEndsSpec)

/-- ITS FALSE NEIGHBOUR: 'it returns false'. Refute it at one input. -/
def planEndsWrong : ChangeSpec := { name := "planEnds", fn := fun _ => fun
  | [d1, d2] => { results := [.lit (.bool false)], args := [d1, d2] }
  | _ => none }
def PlanEndsWrongFalsely : Prop := planEndsRow.holds Try.pinned (OpenSpec.ofChange planEndsWrong)

/-- 'bobstaylaw19.PlanWell': WHATEVER THE INPUT: true; the input reads as it did. -/
def planWellSpec : ChangeSpec := { name := "planWell", fn := fun _ => fun
  | [d1, d2] => { results := [.lit (.bool true)], args := [d1, d2] }
  | _ => none }
def planWellRow : OpenClaim := { program := "ytcbhdjpigadhmaa", sum := "524e779290faa4a6ce00d306e07611aca1e1cba293301a2b3b749e4fecc5d292", func := "bobstay/bobstaylaw19.PlanWell", spec := "planWell", unfollowed := true, recurses := true, apart := false }
def PlanWellSaid : Prop := planWellRow.holds Try.pinned (OpenSpec.ofChange planWellSpec)

/-- ITS FALSE NEIGHBOUR: 'it returns false'. Refute it at one input. -/
def planWellWrong : ChangeSpec := { name := "planWell", fn := fun _ => fun
  | [d1, d2] => { results := [.lit (.bool false)], args := [d1, d2] }
  | _ => none }
def PlanWellWrongFalsely : Prop := planWellRow.holds Try.pinned (OpenSpec.ofChange planWellWrong)

/-- 'bobstaylaw19.PlanSkips': WHATEVER THE INPUT: true; the input reads as it did. -/
def planSkipsSpec : ChangeSpec := { name := "planSkips", fn := fun _ => fun
  | [d1, d2, d3] => { results := [.lit (.bool true)], args := [d1, d2, d3] }
  | _ => none }
def planSkipsRow : OpenClaim := { program := "ytcbhdjpigadhmaa", sum := "524e779290faa4a6ce00d306e07611aca1e1cba293301a2b3b749e4fecc5d292", func := "bobstay/bobstaylaw19.PlanSkips", spec := "planSkips", unfollowed := true, recurses := true, apart := false }
def PlanSkipsSaid : Prop := planSkipsRow.holds Try.pinned (OpenSpec.ofChange planSkipsSpec)

/-- ITS FALSE NEIGHBOUR: 'it returns false'. Refute it at one input. -/
def planSkipsWrong : ChangeSpec := { name := "planSkips", fn := fun _ => fun
  | [d1, d2, d3] => { results := [.lit (.bool false)], args := [d1, d2, d3] }
  | _ => none }
def PlanSkipsWrongFalsely : Prop := planSkipsRow.holds Try.pinned (OpenSpec.ofChange planSkipsWrong)

/-- 'bobstaylaw19.PlanOrder': WHATEVER THE INPUT: true; the input reads as it did. -/
def planOrderSpec : ChangeSpec := { name := "planOrder", fn := fun _ => fun
  | [d1, d2] => { results := [.lit (.bool true)], args := [d1, d2] }
  | _ => none }
def planOrderRow : OpenClaim := { program := "ytcbhdjpigadhmaa", sum := "524e779290faa4a6ce00d306e07611aca1e1cba293301a2b3b749e4fecc5d292", func := "bobstay/bobstaylaw19.PlanOrder", spec := "planOrder", unfollowed := true, recurses := true, apart := false }
def PlanOrderSaid : Prop := planOrderRow.holds Try.pinned (OpenSpec.ofChange planOrderSpec)

/-- ITS FALSE NEIGHBOUR: 'it returns false'. Refute it at one input. -/
def planOrderWrong : ChangeSpec := { name := "planOrder", fn := fun _ => fun
  | [d1, d2] => { results := [.lit (.bool false)], args := [d1, d2] }
  | _ => none }
def PlanOrderWrongFalsely : Prop := planOrderRow.holds Try.pinned (OpenSpec.ofChange planOrderWrong)

/-- 'bobstaylaw19.PlanNobody': WHATEVER THE INPUT: true; the input reads as it did. -/
def planNobodySpec : ChangeSpec := { name := "planNobody", fn := fun _ => fun
  | [d] => { results := [.lit (.bool true)], args := [d] }
  | _ => none }
def planNobodyRow : OpenClaim := { program := "ytcbhdjpigadhmaa", sum := "524e779290faa4a6ce00d306e07611aca1e1cba293301a2b3b749e4fecc5d292", func := "bobstay/bobstaylaw19.PlanNobody", spec := "planNobody", unfollowed := true, recurses := true, apart := false }
def PlanNobodySaid : Prop := planNobodyRow.holds Try.pinned (OpenSpec.ofChange planNobodySpec)

/-- ITS FALSE NEIGHBOUR: 'it returns false'. Refute it at one input. -/
def planNobodyWrong : ChangeSpec := { name := "planNobody", fn := fun _ => fun
  | [d] => { results := [.lit (.bool false)], args := [d] }
  | _ => none }
def PlanNobodyWrongFalsely : Prop := planNobodyRow.holds Try.pinned (OpenSpec.ofChange planNobodyWrong)

/-- 'bobstaylaw19.PlanPlays': WHATEVER THE INPUT: true; the input reads as it did. -/
def planPlaysSpec : ChangeSpec := { name := "planPlays", fn := fun _ => fun
  | [d1, d2] => { results := [.lit (.bool true)], args := [d1, d2] }
  | _ => none }
def planPlaysRow : OpenClaim := { program := "ytcbhdjpigadhmaa", sum := "524e779290faa4a6ce00d306e07611aca1e1cba293301a2b3b749e4fecc5d292", func := "bobstay/bobstaylaw19.PlanPlays", spec := "planPlays", unfollowed := true, recurses := true, apart := false }
def PlanPlaysSaid : Prop := planPlaysRow.holds Try.pinned (OpenSpec.ofChange planPlaysSpec)

/-- ITS FALSE NEIGHBOUR: 'it returns false'. Refute it at one input. -/
def planPlaysWrong : ChangeSpec := { name := "planPlays", fn := fun _ => fun
  | [d1, d2] => { results := [.lit (.bool false)], args := [d1, d2] }
  | _ => none }
def PlanPlaysWrongFalsely : Prop := planPlaysRow.holds Try.pinned (OpenSpec.ofChange planPlaysWrong)

/- THE SECOND FORM. 'bulk': how many values and letters a reading holds, each counted each time it is reached (what is shared counts as often as it is met; a slice's spare places count too). A statement '..UptoSaid' is the law's where the arguments, and the package variables that the reading takes, are together of bulk at most 1048576: NARROWER than '..Said'. Prove '..Said' where nothing that the law and all that it calls make is longer than what came in: it says more and counts as full. Else prove '..UptoSaid'. A law counts once. -/
mutual
def uptoBulk {H : Type} : DataW H → Nat
  | .lit (.string bytes) => bytes.length + 1
  | .lit _ => 1
  | .nil => 1
  | .ptr d => uptoBulk d + 1
  | .slice elems spare => uptoBulkAll elems + uptoBulkAll spare + 1
  | .agg parts => uptoBulkAll parts + 1
  | .iface _ d => uptoBulk d + 1
  | .map entries => uptoBulkEntries entries + 1
  | .held _ => 1
def uptoBulkAll {H : Type} : List (DataW H) → Nat
  | [] => 0
  | d :: r => uptoBulk d + uptoBulkAll r
def uptoBulkEntries {H : Type} : List (Lit × DataW H) → Nat
  | [] => 0
  | x :: r => uptoBulkEntry x + uptoBulkEntries r
def uptoBulkEntry {H : Type} : Lit × DataW H → Nat
  | (.string bytes, d) => bytes.length + uptoBulk d + 1
  | (_, d) => uptoBulk d + 1
 end
def uptoSmall : (H : Type) → List (DataW H) → Bool := fun _ ds => decide (uptoBulkAll ds ≤ 1048576)
def OpenSpec.upto (s : _root_.Go.ChangeSpec) : _root_.Go.OpenSpec := { _root_.Go.OpenSpec.ofChange s with cond := some uptoSmall }

/-- 'bobstaylaw19.PlanEnds', WHERE WHAT IT READS IS OF BULK AT MOST 1048576: true; the input reads as it did. -/
def planEndsUptoRow : OpenClaim := { program := "ytcbhdjpigadhmaa", sum := "524e779290faa4a6ce00d306e07611aca1e1cba293301a2b3b749e4fecc5d292", func := "bobstay/bobstaylaw19.PlanEnds", spec := "planEnds", unfollowed := true, recurses := true, apart := false, narrowed := true }
def PlanEndsUptoSaid : Prop := planEndsUptoRow.holds Try.pinned (OpenSpec.upto planEndsSpec)

/-- 'bobstaylaw19.PlanWell', WHERE WHAT IT READS IS OF BULK AT MOST 1048576: true; the input reads as it did. -/
def planWellUptoRow : OpenClaim := { program := "ytcbhdjpigadhmaa", sum := "524e779290faa4a6ce00d306e07611aca1e1cba293301a2b3b749e4fecc5d292", func := "bobstay/bobstaylaw19.PlanWell", spec := "planWell", unfollowed := true, recurses := true, apart := false, narrowed := true }
def PlanWellUptoSaid : Prop := planWellUptoRow.holds Try.pinned (OpenSpec.upto planWellSpec)

/-- 'bobstaylaw19.PlanSkips', WHERE WHAT IT READS IS OF BULK AT MOST 1048576: true; the input reads as it did. -/
def planSkipsUptoRow : OpenClaim := { program := "ytcbhdjpigadhmaa", sum := "524e779290faa4a6ce00d306e07611aca1e1cba293301a2b3b749e4fecc5d292", func := "bobstay/bobstaylaw19.PlanSkips", spec := "planSkips", unfollowed := true, recurses := true, apart := false, narrowed := true }
def PlanSkipsUptoSaid : Prop := planSkipsUptoRow.holds Try.pinned (OpenSpec.upto planSkipsSpec)

/-- 'bobstaylaw19.PlanOrder', WHERE WHAT IT READS IS OF BULK AT MOST 1048576: true; the input reads as it did. -/
def planOrderUptoRow : OpenClaim := { program := "ytcbhdjpigadhmaa", sum := "524e779290faa4a6ce00d306e07611aca1e1cba293301a2b3b749e4fecc5d292", func := "bobstay/bobstaylaw19.PlanOrder", spec := "planOrder", unfollowed := true, recurses := true, apart := false, narrowed := true }
def PlanOrderUptoSaid : Prop := planOrderUptoRow.holds Try.pinned (OpenSpec.upto planOrderSpec)

/-- 'bobstaylaw19.PlanNobody', WHERE WHAT IT READS IS OF BULK AT MOST 1048576: true; the input reads as it did. -/
def planNobodyUptoRow : OpenClaim := { program := "ytcbhdjpigadhmaa", sum := "524e779290faa4a6ce00d306e07611aca1e1cba293301a2b3b749e4fecc5d292", func := "bobstay/bobstaylaw19.PlanNobody", spec := "planNobody", unfollowed := true, recurses := true, apart := false, narrowed := true }
def PlanNobodyUptoSaid : Prop := planNobodyUptoRow.holds Try.pinned (OpenSpec.upto planNobodySpec)

/-- 'bobstaylaw19.PlanPlays', WHERE WHAT IT READS IS OF BULK AT MOST 1048576: true; the input reads as it did. -/
def planPlaysUptoRow : OpenClaim := { program := "ytcbhdjpigadhmaa", sum := "524e779290faa4a6ce00d306e07611aca1e1cba293301a2b3b749e4fecc5d292", func := "bobstay/bobstaylaw19.PlanPlays", spec := "planPlays", unfollowed := true, recurses := true, apart := false, narrowed := true }
def PlanPlaysUptoSaid : Prop := planPlaysUptoRow.holds Try.pinned (OpenSpec.upto planPlaysSpec)

end Rows
end Go.Proofs.Ytcbhdjpigadhmaa
