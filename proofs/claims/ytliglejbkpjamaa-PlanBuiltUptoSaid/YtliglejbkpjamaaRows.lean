/-
  No cell of these rows narrows 'for every input' (looked for: loops, veiled, ifaces, maps, wideKeys, modest, calm, conditions, laid).
  DERIVED. THE GIVEN ROWS OF THIS SEAT. 5 by the template 'for every input the law returns true; each argument reads behind the call as it read before'; 0 by the template 'total and deterministic' (their statements: YtliglejbkpjamaaTotals.lean).
  GIVEN WITH THE SEED: the statements are not yours to turn. If you find one false, say at which input.
  Laid BY PROGRAM, IN A SANDBOX (cutbox-rows.mjs): the forced cells as the released guide's own fill.sh prints them over the translation c7e306e8da778ae6… (all of the seat's roots in one cut). By AI agents, Wed Nov 11 2026. No macro, syntax, notation, axiom, sorry.
-/
import Derived.Test.YtliglejbkpjamaaChecked
import GoSem.Claim
import GoSem.ClaimJoined
import GoSem.ClaimMapViews
import Derived.JoinedTies
import Derived.KernelRfl
namespace Go.Proofs.Ytliglejbkpjamaa
/- THE CELL 'sum', in the pinned program and in every row, IS THE sha256 OF THE DUMP (.gsa) THAT YtliglejbkpjamaaProg.lean LOADS. Nothing in Lean hashes anything: it is a label: what it is worth is what the hold of that sum in a sandbox is worth. -/
noncomputable def Try.pinned : Pinned := { name := "ytliglejbkpjamaa", sum := "c7e306e8da778ae619e76ecc4ee2f0952ed5d2a48ba53b0dbb39c5845e9c732e", checked := Try.checked }
namespace Rows
def none {H : Type} : Left H := { results := [], args := [] }

/-- 'bobstaylaw19.PlanBuilt': WHATEVER THE INPUT: true; the input reads as it did. -/
def planBuiltSpec : ChangeSpec := { name := "planBuilt", fn := fun _ => fun
  | [d1, d2, d3] => { results := [.lit (.bool true)], args := [d1, d2, d3] }
  | _ => none }
def planBuiltRow : OpenClaim := { program := "ytliglejbkpjamaa", sum := "c7e306e8da778ae619e76ecc4ee2f0952ed5d2a48ba53b0dbb39c5845e9c732e", func := "bobstay/bobstaylaw19.PlanBuilt", spec := "planBuilt", inPlace := ["internal/bytealg.IndexByteString", "internal/bytealg.IndexString", "slices.overlaps[string]"], unfollowed := true, recurses := true, named := ["internal/bytealg.MaxLen"], plainKeys := false, apart := false }
def PlanBuiltSaid : Prop := planBuiltRow.holds Try.pinned (OpenSpec.ofChange planBuiltSpec)

/-- ITS FALSE NEIGHBOUR: 'it returns false'. Refute it at one input. -/
def planBuiltWrong : ChangeSpec := { name := "planBuilt", fn := fun _ => fun
  | [d1, d2, d3] => { results := [.lit (.bool false)], args := [d1, d2, d3] }
  | _ => none }
def PlanBuiltWrongFalsely : Prop := planBuiltRow.holds Try.pinned (OpenSpec.ofChange planBuiltWrong)

/-- 'bobstaylaw16.GraphOrder': WHATEVER THE INPUT: true; the input reads as it did. -/
def graphOrderSpec : ChangeSpec := { name := "graphOrder", fn := fun _ => fun
  | [d1, d2, d3] => { results := [.lit (.bool true)], args := [d1, d2, d3] }
  | _ => none }
def graphOrderRow : OpenClaim := { program := "ytliglejbkpjamaa", sum := "c7e306e8da778ae619e76ecc4ee2f0952ed5d2a48ba53b0dbb39c5845e9c732e", func := "bobstay/bobstaylaw16.GraphOrder", spec := "graphOrder", inPlace := ["internal/bytealg.IndexByteString", "internal/bytealg.IndexString", "slices.overlaps[string]"], unfollowed := true, recurses := true, named := ["internal/bytealg.MaxLen"], plainKeys := false, apart := false }
def GraphOrderSaid : Prop := graphOrderRow.holds Try.pinned (OpenSpec.ofChange graphOrderSpec)

/-- ITS FALSE NEIGHBOUR: 'it returns false'. Refute it at one input. -/
def graphOrderWrong : ChangeSpec := { name := "graphOrder", fn := fun _ => fun
  | [d1, d2, d3] => { results := [.lit (.bool false)], args := [d1, d2, d3] }
  | _ => none }
def GraphOrderWrongFalsely : Prop := graphOrderRow.holds Try.pinned (OpenSpec.ofChange graphOrderWrong)

/-- 'bobstaylaw16.GraphNoLoop': WHATEVER THE INPUT: true; the input reads as it did. -/
def graphNoLoopSpec : ChangeSpec := { name := "graphNoLoop", fn := fun _ => fun
  | [d1, d2, d3] => { results := [.lit (.bool true)], args := [d1, d2, d3] }
  | _ => none }
def graphNoLoopRow : OpenClaim := { program := "ytliglejbkpjamaa", sum := "c7e306e8da778ae619e76ecc4ee2f0952ed5d2a48ba53b0dbb39c5845e9c732e", func := "bobstay/bobstaylaw16.GraphNoLoop", spec := "graphNoLoop", inPlace := ["internal/bytealg.IndexByteString", "internal/bytealg.IndexString", "slices.overlaps[string]"], unfollowed := true, recurses := true, named := ["internal/bytealg.MaxLen"], plainKeys := false, apart := false }
def GraphNoLoopSaid : Prop := graphNoLoopRow.holds Try.pinned (OpenSpec.ofChange graphNoLoopSpec)

/-- ITS FALSE NEIGHBOUR: 'it returns false'. Refute it at one input. -/
def graphNoLoopWrong : ChangeSpec := { name := "graphNoLoop", fn := fun _ => fun
  | [d1, d2, d3] => { results := [.lit (.bool false)], args := [d1, d2, d3] }
  | _ => none }
def GraphNoLoopWrongFalsely : Prop := graphNoLoopRow.holds Try.pinned (OpenSpec.ofChange graphNoLoopWrong)

/-- 'bobstaylaw16.GraphSelf': WHATEVER THE INPUT: true; the input reads as it did. -/
def graphSelfSpec : ChangeSpec := { name := "graphSelf", fn := fun _ => fun
  | [d1, d2] => { results := [.lit (.bool true)], args := [d1, d2] }
  | _ => none }
def graphSelfRow : OpenClaim := { program := "ytliglejbkpjamaa", sum := "c7e306e8da778ae619e76ecc4ee2f0952ed5d2a48ba53b0dbb39c5845e9c732e", func := "bobstay/bobstaylaw16.GraphSelf", spec := "graphSelf", inPlace := ["internal/bytealg.IndexByteString", "internal/bytealg.IndexString", "slices.overlaps[string]"], unfollowed := true, recurses := true, named := ["internal/bytealg.MaxLen"], plainKeys := false, apart := false }
def GraphSelfSaid : Prop := graphSelfRow.holds Try.pinned (OpenSpec.ofChange graphSelfSpec)

/-- ITS FALSE NEIGHBOUR: 'it returns false'. Refute it at one input. -/
def graphSelfWrong : ChangeSpec := { name := "graphSelf", fn := fun _ => fun
  | [d1, d2] => { results := [.lit (.bool false)], args := [d1, d2] }
  | _ => none }
def GraphSelfWrongFalsely : Prop := graphSelfRow.holds Try.pinned (OpenSpec.ofChange graphSelfWrong)

/-- 'bobstaylaw16.GraphReached': WHATEVER THE INPUT: true; the input reads as it did. -/
def graphReachedSpec : ChangeSpec := { name := "graphReached", fn := fun _ => fun
  | [d1, d2, d3] => { results := [.lit (.bool true)], args := [d1, d2, d3] }
  | _ => none }
def graphReachedRow : OpenClaim := { program := "ytliglejbkpjamaa", sum := "c7e306e8da778ae619e76ecc4ee2f0952ed5d2a48ba53b0dbb39c5845e9c732e", func := "bobstay/bobstaylaw16.GraphReached", spec := "graphReached", inPlace := ["internal/bytealg.IndexByteString", "internal/bytealg.IndexString", "slices.overlaps[string]"], unfollowed := true, recurses := true, named := ["internal/bytealg.MaxLen"], plainKeys := false, apart := false }
def GraphReachedSaid : Prop := graphReachedRow.holds Try.pinned (OpenSpec.ofChange graphReachedSpec)

/-- ITS FALSE NEIGHBOUR: 'it returns false'. Refute it at one input. -/
def graphReachedWrong : ChangeSpec := { name := "graphReached", fn := fun _ => fun
  | [d1, d2, d3] => { results := [.lit (.bool false)], args := [d1, d2, d3] }
  | _ => none }
def GraphReachedWrongFalsely : Prop := graphReachedRow.holds Try.pinned (OpenSpec.ofChange graphReachedWrong)

/- THE SECOND FORM. 'bulk': how many values and letters a reading holds, each counted each time it is reached (what is shared counts as often as it is met; a slice's spare places count too). A statement '..UptoSaid' is the law's where the arguments, and the package variables that the reading takes, are together of bulk at most 1048576: NARROWER than '..Said'. Prove '..Said' where nothing that the law and all that it calls make is longer than what came in: it says more and counts as full. Else prove '..UptoSaid'. A law counts once. -/
mutual
def uptoBulk {H : Type} : DataW H → Nat
  | .lit (.string bytes) => bytes.length + 1
  | .lit _ => 1
  | .nil => 1
  | .ptr d => uptoBulk d + 1
  | .slice elems spare => uptoBulkAll elems + uptoBulkAll spare + 1
  | .agg parts => uptoBulkAll parts + 1
  | .iface _ d => uptoBulk d + 1
  | .map entries => uptoBulkEntries entries + 1
  | .held _ => 1
def uptoBulkAll {H : Type} : List (DataW H) → Nat
  | [] => 0
  | d :: r => uptoBulk d + uptoBulkAll r
def uptoBulkEntries {H : Type} : List (Lit × DataW H) → Nat
  | [] => 0
  | x :: r => uptoBulkEntry x + uptoBulkEntries r
def uptoBulkEntry {H : Type} : Lit × DataW H → Nat
  | (.string bytes, d) => bytes.length + uptoBulk d + 1
  | (_, d) => uptoBulk d + 1
 end
def uptoSmall : (H : Type) → List (DataW H) → Bool := fun _ ds => decide (uptoBulkAll ds ≤ 1048576)
def OpenSpec.upto (s : _root_.Go.ChangeSpec) : _root_.Go.OpenSpec := { _root_.Go.OpenSpec.ofChange s with cond := some uptoSmall }

/-- 'bobstaylaw19.PlanBuilt', WHERE WHAT IT READS IS OF BULK AT MOST 1048576: true; the input reads as it did. -/
def planBuiltUptoRow : OpenClaim := { program := "ytliglejbkpjamaa", sum := "c7e306e8da778ae619e76ecc4ee2f0952ed5d2a48ba53b0dbb39c5845e9c732e", func := "bobstay/bobstaylaw19.PlanBuilt", spec := "planBuilt", inPlace := ["internal/bytealg.IndexByteString", "internal/bytealg.IndexString", "slices.overlaps[string]"], unfollowed := true, recurses := true, named := ["internal/bytealg.MaxLen"], plainKeys := false, apart := false, narrowed := true }
def PlanBuiltUptoSaid : Prop := planBuiltUptoRow.holds Try.pinned (OpenSpec.upto planBuiltSpec)

/-- 'bobstaylaw16.GraphOrder', WHERE WHAT IT READS IS OF BULK AT MOST 1048576: true; the input reads as it did. -/
def graphOrderUptoRow : OpenClaim := { program := "ytliglejbkpjamaa", sum := "c7e306e8da778ae619e76ecc4ee2f0952ed5d2a48ba53b0dbb39c5845e9c732e", func := "bobstay/bobstaylaw16.GraphOrder", spec := "graphOrder", inPlace := ["internal/bytealg.IndexByteString", "internal/bytealg.IndexString", "slices.overlaps[string]"], unfollowed := true, recurses := true, named := ["internal/bytealg.MaxLen"], plainKeys := false, apart := false, narrowed := true }
def GraphOrderUptoSaid : Prop := graphOrderUptoRow.holds Try.pinned (OpenSpec.upto graphOrderSpec)

/-- 'bobstaylaw16.GraphNoLoop', WHERE WHAT IT READS IS OF BULK AT MOST 1048576: true; the input reads as it did. -/
def graphNoLoopUptoRow : OpenClaim := { program := "ytliglejbkpjamaa", sum := "c7e306e8da778ae619e76ecc4ee2f0952ed5d2a48ba53b0dbb39c5845e9c732e", func := "bobstay/bobstaylaw16.GraphNoLoop", spec := "graphNoLoop", inPlace := ["internal/bytealg.IndexByteString", "internal/bytealg.IndexString", "slices.overlaps[string]"], unfollowed := true, recurses := true, named := ["internal/bytealg.MaxLen"], plainKeys := false, apart := false, narrowed := true }
def GraphNoLoopUptoSaid : Prop := graphNoLoopUptoRow.holds Try.pinned (OpenSpec.upto graphNoLoopSpec)

/-- 'bobstaylaw16.GraphSelf', WHERE WHAT IT READS IS OF BULK AT MOST 1048576: true; the input reads as it did. -/
def graphSelfUptoRow : OpenClaim := { program := "ytliglejbkpjamaa", sum := "c7e306e8da778ae619e76ecc4ee2f0952ed5d2a48ba53b0dbb39c5845e9c732e", func := "bobstay/bobstaylaw16.GraphSelf", spec := "graphSelf", inPlace := ["internal/bytealg.IndexByteString", "internal/bytealg.IndexString", "slices.overlaps[string]"], unfollowed := true, recurses := true, named := ["internal/bytealg.MaxLen"], plainKeys := false, apart := false, narrowed := true }
def GraphSelfUptoSaid : Prop := graphSelfUptoRow.holds Try.pinned (OpenSpec.upto graphSelfSpec)

/-- 'bobstaylaw16.GraphReached', WHERE WHAT IT READS IS OF BULK AT MOST 1048576: true; the input reads as it did. -/
def graphReachedUptoRow : OpenClaim := { program := "ytliglejbkpjamaa", sum := "c7e306e8da778ae619e76ecc4ee2f0952ed5d2a48ba53b0dbb39c5845e9c732e", func := "bobstay/bobstaylaw16.GraphReached", spec := "graphReached", inPlace := ["internal/bytealg.IndexByteString", "internal/bytealg.IndexString", "slices.overlaps[string]"], unfollowed := true, recurses := true, named := ["internal/bytealg.MaxLen"], plainKeys := false, apart := false, narrowed := true }
def GraphReachedUptoSaid : Prop := graphReachedUptoRow.holds Try.pinned (OpenSpec.upto graphReachedSpec)

end Rows
end Go.Proofs.Ytliglejbkpjamaa
