/-
  NARROWER THAN 'FOR EVERY INPUT', by the rows' own cells (each row's printed sentence says how): VfsYoung: laid · VfsReads: laid · VfsRefused: laid · VfsCopies: laid.
  DERIVED. THE GIVEN ROWS OF THIS SEAT. 4 by the template 'for every input the law returns true; each argument reads behind the call as it read before'; 0 by the template 'total and deterministic' (their statements: YtjhcabjlhnhkbaaDoorTotals.lean).
  GIVEN WITH THE SEED: the statements are not yours to turn. If you find one false, say at which input.
  Laid BY PROGRAM, IN A SANDBOX (cutbox-rows.mjs): the forced cells as the released guide's own fill.sh prints them over the translation 7b120e68e98123c6… (all of the seat's roots in one cut). By AI agents, Wed Nov 11 2026. No macro, syntax, notation, axiom, sorry.
-/
import Derived.Test.YtjhcabjlhnhkbaaDoorChecked
import GoSem.PinnedTables
import GoSem.Claim
import GoSem.ClaimJoined
import GoSem.ClaimMapViews
import Derived.JoinedTies
import Derived.KernelRfl
namespace Go.Proofs.YtjhcabjlhnhkbaaDoor
/- THE CELL 'sum', in the pinned program and in every row, IS THE sha256 OF THE DUMP (.gsa) THAT YtjhcabjlhnhkbaaDoorProg.lean LOADS. Nothing in Lean hashes anything: it is a label: what it is worth is what the hold of that sum in a sandbox is worth. -/
noncomputable def Tryd.pinned : Pinned := { name := "ytjhcabjlhnhkbaadoor", sum := "7b120e68e98123c6d4759fc27f18235a49e494447f344e12255232e22ec7ca41", checked := Tryd.checked }
namespace Rows
def none {H : Type} : Left H := { results := [], args := [] }

/- WHAT THE LISTED PACKAGE-LEVEL VARIABLES READ AS WHEN THE CALL BEGINS. Each datum BY PROGRAM (the guide's laid-datum.mjs) off the statement by which the dump's own 'gosem.cut.vars' lays the variable. In a bare row this is a premise. The card (YtjhcabjlhnhkbaaDoorCards.lean) ties it to the program's text. -/
def laid_unicode_utf8_acceptRanges {H : Type} : DataW H := .agg [.agg [.lit (.int .u8 128), .lit (.int .u8 191)], .agg [.lit (.int .u8 160), .lit (.int .u8 191)], .agg [.lit (.int .u8 128), .lit (.int .u8 159)], .agg [.lit (.int .u8 144), .lit (.int .u8 191)], .agg [.lit (.int .u8 128), .lit (.int .u8 143)], .agg [.lit (.int .u8 0), .lit (.int .u8 0)], .agg [.lit (.int .u8 0), .lit (.int .u8 0)], .agg [.lit (.int .u8 0), .lit (.int .u8 0)], .agg [.lit (.int .u8 0), .lit (.int .u8 0)], .agg [.lit (.int .u8 0), .lit (.int .u8 0)], .agg [.lit (.int .u8 0), .lit (.int .u8 0)], .agg [.lit (.int .u8 0), .lit (.int .u8 0)], .agg [.lit (.int .u8 0), .lit (.int .u8 0)], .agg [.lit (.int .u8 0), .lit (.int .u8 0)], .agg [.lit (.int .u8 0), .lit (.int .u8 0)], .agg [.lit (.int .u8 0), .lit (.int .u8 0)]]
/-- One of Go's own tables, pinned by name: the form's constant. -/
def laid_unicode_utf8_first : DataW Unit := Go.Pinned.utf8First

/-- 'bobstaylaw03.VfsYoung': WHATEVER THE INPUT: true; the input reads as it did. -/
def vfsYoungSpec : ChangeSpec := { name := "vfsYoung", fn := fun _ => fun
  | [d1, d2] => { results := [.lit (.bool true)], args := [d1, d2] }
  | _ => none }
def vfsYoungRow : OpenClaim := { program := "ytjhcabjlhnhkbaadoor", sum := "7b120e68e98123c6d4759fc27f18235a49e494447f344e12255232e22ec7ca41", func := "bobstay/bobstaylaw03.VfsYoung", spec := "vfsYoung", inPlace := ["internal/bytealg.IndexByteString", "internal/bytealg.IndexString", "internal/abi.NoEscape", "internal/bytealg.MakeNoZero", "sync/atomic.AddInt64", "sync/atomic.LoadInt64"], unfollowed := true, recurses := true, named := ["unicode/utf8.first", "unicode/utf8.acceptRanges", "internal/bytealg.MaxLen"], apart := false, laid := [("unicode/utf8.acceptRanges", laid_unicode_utf8_acceptRanges), ("unicode/utf8.first", laid_unicode_utf8_first)] }
def VfsYoungSaid : Prop := vfsYoungRow.holds Tryd.pinned (OpenSpec.ofChange vfsYoungSpec)

/-- ITS FALSE NEIGHBOUR: 'it returns false'. Refute it at one input. -/
def vfsYoungWrong : ChangeSpec := { name := "vfsYoung", fn := fun _ => fun
  | [d1, d2] => { results := [.lit (.bool false)], args := [d1, d2] }
  | _ => none }
def VfsYoungWrongFalsely : Prop := vfsYoungRow.holds Tryd.pinned (OpenSpec.ofChange vfsYoungWrong)

/-- 'bobstaylaw03.VfsReads': WHATEVER THE INPUT: true; the input reads as it did. -/
def vfsReadsSpec : ChangeSpec := { name := "vfsReads", fn := fun _ => fun
  | [d1, d2, d3] => { results := [.lit (.bool true)], args := [d1, d2, d3] }
  | _ => none }
def vfsReadsRow : OpenClaim := { program := "ytjhcabjlhnhkbaadoor", sum := "7b120e68e98123c6d4759fc27f18235a49e494447f344e12255232e22ec7ca41", func := "bobstay/bobstaylaw03.VfsReads", spec := "vfsReads", inPlace := ["internal/bytealg.IndexByteString", "internal/bytealg.IndexString", "internal/abi.NoEscape", "internal/bytealg.MakeNoZero", "sync/atomic.AddInt64", "sync/atomic.LoadInt64", "maps.clone", "sync/atomic.StoreInt64"], unfollowed := true, recurses := true, named := ["unicode/utf8.first", "unicode/utf8.acceptRanges", "internal/bytealg.MaxLen"], apart := false, laid := [("unicode/utf8.acceptRanges", laid_unicode_utf8_acceptRanges), ("unicode/utf8.first", laid_unicode_utf8_first)] }
def VfsReadsSaid : Prop := vfsReadsRow.holds Tryd.pinned (OpenSpec.ofChange vfsReadsSpec)

/-- ITS FALSE NEIGHBOUR: 'it returns false'. Refute it at one input. -/
def vfsReadsWrong : ChangeSpec := { name := "vfsReads", fn := fun _ => fun
  | [d1, d2, d3] => { results := [.lit (.bool false)], args := [d1, d2, d3] }
  | _ => none }
def VfsReadsWrongFalsely : Prop := vfsReadsRow.holds Tryd.pinned (OpenSpec.ofChange vfsReadsWrong)

/-- 'bobstaylaw03.VfsRefused': WHATEVER THE INPUT: true; the input reads as it did. -/
def vfsRefusedSpec : ChangeSpec := { name := "vfsRefused", fn := fun _ => fun
  | [d1, d2, d3] => { results := [.lit (.bool true)], args := [d1, d2, d3] }
  | _ => none }
def vfsRefusedRow : OpenClaim := { program := "ytjhcabjlhnhkbaadoor", sum := "7b120e68e98123c6d4759fc27f18235a49e494447f344e12255232e22ec7ca41", func := "bobstay/bobstaylaw03.VfsRefused", spec := "vfsRefused", inPlace := ["internal/bytealg.IndexByteString", "internal/bytealg.IndexString", "internal/abi.NoEscape", "internal/bytealg.MakeNoZero", "sync/atomic.AddInt64", "sync/atomic.LoadInt64", "maps.clone", "sync/atomic.StoreInt64"], unfollowed := true, recurses := true, named := ["unicode/utf8.first", "unicode/utf8.acceptRanges", "internal/bytealg.MaxLen"], apart := false, laid := [("unicode/utf8.acceptRanges", laid_unicode_utf8_acceptRanges), ("unicode/utf8.first", laid_unicode_utf8_first)] }
def VfsRefusedSaid : Prop := vfsRefusedRow.holds Tryd.pinned (OpenSpec.ofChange vfsRefusedSpec)

/-- ITS FALSE NEIGHBOUR: 'it returns false'. Refute it at one input. -/
def vfsRefusedWrong : ChangeSpec := { name := "vfsRefused", fn := fun _ => fun
  | [d1, d2, d3] => { results := [.lit (.bool false)], args := [d1, d2, d3] }
  | _ => none }
def VfsRefusedWrongFalsely : Prop := vfsRefusedRow.holds Tryd.pinned (OpenSpec.ofChange vfsRefusedWrong)

/-- 'bobstaylaw03.VfsCopies': WHATEVER THE INPUT: true; the input reads as it did. -/
def vfsCopiesSpec : ChangeSpec := { name := "vfsCopies", fn := fun _ => fun
  | [d1, d2, d3] => { results := [.lit (.bool true)], args := [d1, d2, d3] }
  | _ => none }
def vfsCopiesRow : OpenClaim := { program := "ytjhcabjlhnhkbaadoor", sum := "7b120e68e98123c6d4759fc27f18235a49e494447f344e12255232e22ec7ca41", func := "bobstay/bobstaylaw03.VfsCopies", spec := "vfsCopies", inPlace := ["internal/bytealg.IndexByteString", "internal/bytealg.IndexString", "internal/abi.NoEscape", "internal/bytealg.MakeNoZero", "sync/atomic.AddInt64", "sync/atomic.LoadInt64", "maps.clone", "sync/atomic.StoreInt64"], unfollowed := true, recurses := true, named := ["unicode/utf8.first", "unicode/utf8.acceptRanges", "internal/bytealg.MaxLen"], apart := false, laid := [("unicode/utf8.acceptRanges", laid_unicode_utf8_acceptRanges), ("unicode/utf8.first", laid_unicode_utf8_first)] }
def VfsCopiesSaid : Prop := vfsCopiesRow.holds Tryd.pinned (OpenSpec.ofChange vfsCopiesSpec)

/-- ITS FALSE NEIGHBOUR: 'it returns false'. Refute it at one input. -/
def vfsCopiesWrong : ChangeSpec := { name := "vfsCopies", fn := fun _ => fun
  | [d1, d2, d3] => { results := [.lit (.bool false)], args := [d1, d2, d3] }
  | _ => none }
def VfsCopiesWrongFalsely : Prop := vfsCopiesRow.holds Tryd.pinned (OpenSpec.ofChange vfsCopiesWrong)

/- THE SECOND FORM. 'bulk': how many values and letters a reading holds, each counted each time it is reached (what is shared counts as often as it is met; a slice's spare places count too). A statement '..UptoSaid' is the law's where the arguments, and the package variables that the reading takes, are together of bulk at most 1048576: NARROWER than '..Said'. Prove '..Said' where nothing that the law and all that it calls make is longer than what came in: it says more and counts as full. Else prove '..UptoSaid'. A law counts once. -/
mutual
def uptoBulk {H : Type} : DataW H → Nat
  | .lit (.string bytes) => bytes.length + 1
  | .lit _ => 1
  | .nil => 1
  | .ptr d => uptoBulk d + 1
  | .slice elems spare => uptoBulkAll elems + uptoBulkAll spare + 1
  | .agg parts => uptoBulkAll parts + 1
  | .iface _ d => uptoBulk d + 1
  | .map entries => uptoBulkEntries entries + 1
  | .held _ => 1
def uptoBulkAll {H : Type} : List (DataW H) → Nat
  | [] => 0
  | d :: r => uptoBulk d + uptoBulkAll r
def uptoBulkEntries {H : Type} : List (Lit × DataW H) → Nat
  | [] => 0
  | x :: r => uptoBulkEntry x + uptoBulkEntries r
def uptoBulkEntry {H : Type} : Lit × DataW H → Nat
  | (.string bytes, d) => bytes.length + uptoBulk d + 1
  | (_, d) => uptoBulk d + 1
 end
def uptoSmall : (H : Type) → List (DataW H) → Bool := fun _ ds => decide (uptoBulkAll ds ≤ 1048576)
def OpenSpec.upto (s : _root_.Go.ChangeSpec) : _root_.Go.OpenSpec := { _root_.Go.OpenSpec.ofChange s with cond := some uptoSmall }

/-- 'bobstaylaw03.VfsYoung', WHERE WHAT IT READS IS OF BULK AT MOST 1048576: true; the input reads as it did. -/
def vfsYoungUptoRow : OpenClaim := { program := "ytjhcabjlhnhkbaadoor", sum := "7b120e68e98123c6d4759fc27f18235a49e494447f344e12255232e22ec7ca41", func := "bobstay/bobstaylaw03.VfsYoung", spec := "vfsYoung", inPlace := ["internal/bytealg.IndexByteString", "internal/bytealg.IndexString", "internal/abi.NoEscape", "internal/bytealg.MakeNoZero", "sync/atomic.AddInt64", "sync/atomic.LoadInt64"], unfollowed := true, recurses := true, named := ["unicode/utf8.first", "unicode/utf8.acceptRanges", "internal/bytealg.MaxLen"], apart := false, laid := [("unicode/utf8.acceptRanges", laid_unicode_utf8_acceptRanges), ("unicode/utf8.first", laid_unicode_utf8_first)], narrowed := true }
def VfsYoungUptoSaid : Prop := vfsYoungUptoRow.holds Tryd.pinned (OpenSpec.upto vfsYoungSpec)

/-- 'bobstaylaw03.VfsReads', WHERE WHAT IT READS IS OF BULK AT MOST 1048576: true; the input reads as it did. -/
def vfsReadsUptoRow : OpenClaim := { program := "ytjhcabjlhnhkbaadoor", sum := "7b120e68e98123c6d4759fc27f18235a49e494447f344e12255232e22ec7ca41", func := "bobstay/bobstaylaw03.VfsReads", spec := "vfsReads", inPlace := ["internal/bytealg.IndexByteString", "internal/bytealg.IndexString", "internal/abi.NoEscape", "internal/bytealg.MakeNoZero", "sync/atomic.AddInt64", "sync/atomic.LoadInt64", "maps.clone", "sync/atomic.StoreInt64"], unfollowed := true, recurses := true, named := ["unicode/utf8.first", "unicode/utf8.acceptRanges", "internal/bytealg.MaxLen"], apart := false, laid := [("unicode/utf8.acceptRanges", laid_unicode_utf8_acceptRanges), ("unicode/utf8.first", laid_unicode_utf8_first)], narrowed := true }
def VfsReadsUptoSaid : Prop := vfsReadsUptoRow.holds Tryd.pinned (OpenSpec.upto vfsReadsSpec)

/-- 'bobstaylaw03.VfsRefused', WHERE WHAT IT READS IS OF BULK AT MOST 1048576: true; the input reads as it did. -/
def vfsRefusedUptoRow : OpenClaim := { program := "ytjhcabjlhnhkbaadoor", sum := "7b120e68e98123c6d4759fc27f18235a49e494447f344e12255232e22ec7ca41", func := "bobstay/bobstaylaw03.VfsRefused", spec := "vfsRefused", inPlace := ["internal/bytealg.IndexByteString", "internal/bytealg.IndexString", "internal/abi.NoEscape", "internal/bytealg.MakeNoZero", "sync/atomic.AddInt64", "sync/atomic.LoadInt64", "maps.clone", "sync/atomic.StoreInt64"], unfollowed := true, recurses := true, named := ["unicode/utf8.first", "unicode/utf8.acceptRanges", "internal/bytealg.MaxLen"], apart := false, laid := [("unicode/utf8.acceptRanges", laid_unicode_utf8_acceptRanges), ("unicode/utf8.first", laid_unicode_utf8_first)], narrowed := true }
def VfsRefusedUptoSaid : Prop := vfsRefusedUptoRow.holds Tryd.pinned (OpenSpec.upto vfsRefusedSpec)

/-- 'bobstaylaw03.VfsCopies', WHERE WHAT IT READS IS OF BULK AT MOST 1048576: true; the input reads as it did. -/
def vfsCopiesUptoRow : OpenClaim := { program := "ytjhcabjlhnhkbaadoor", sum := "7b120e68e98123c6d4759fc27f18235a49e494447f344e12255232e22ec7ca41", func := "bobstay/bobstaylaw03.VfsCopies", spec := "vfsCopies", inPlace := ["internal/bytealg.IndexByteString", "internal/bytealg.IndexString", "internal/abi.NoEscape", "internal/bytealg.MakeNoZero", "sync/atomic.AddInt64", "sync/atomic.LoadInt64", "maps.clone", "sync/atomic.StoreInt64"], unfollowed := true, recurses := true, named := ["unicode/utf8.first", "unicode/utf8.acceptRanges", "internal/bytealg.MaxLen"], apart := false, laid := [("unicode/utf8.acceptRanges", laid_unicode_utf8_acceptRanges), ("unicode/utf8.first", laid_unicode_utf8_first)], narrowed := true }
def VfsCopiesUptoSaid : Prop := vfsCopiesUptoRow.holds Tryd.pinned (OpenSpec.upto vfsCopiesSpec)

end Rows
end Go.Proofs.YtjhcabjlhnhkbaaDoor
