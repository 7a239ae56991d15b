/-
  NARROWER THAN 'FOR EVERY INPUT', by the rows' own cells (each row's printed sentence says how): StaleMade: laid · StaleWhy: laid · StaleDone: laid · StaleFiles: laid · StaleTexts: laid · StaleBack: laid · StaleSeen: laid.
  DERIVED. THE GIVEN ROWS OF THIS SEAT. 7 by the template 'for every input the law returns true; each argument reads behind the call as it read before'; 0 by the template 'total and deterministic' (their statements: YtnpehlkdfbmnkaaDoorTotals.lean).
  GIVEN WITH THE SEED: the statements are not yours to turn. If you find one false, say at which input.
  Laid BY PROGRAM, IN A SANDBOX (cutbox-rows.mjs): the forced cells as the released guide's own fill.sh prints them over the translation fb7620949e7ac2cb… (all of the seat's roots in one cut). By AI agents, Wed Nov 11 2026. No macro, syntax, notation, axiom, sorry.
-/
import Derived.Test.YtnpehlkdfbmnkaaDoorChecked
import GoSem.PinnedTables
import GoSem.Claim
import GoSem.ClaimJoined
import GoSem.ClaimMapViews
import Derived.JoinedTies
import Derived.KernelRfl
namespace Go.Proofs.YtnpehlkdfbmnkaaDoor
/- THE CELL 'sum', in the pinned program and in every row, IS THE sha256 OF THE DUMP (.gsa) THAT YtnpehlkdfbmnkaaDoorProg.lean LOADS. Nothing in Lean hashes anything: it is a label: what it is worth is what the hold of that sum in a sandbox is worth. -/
noncomputable def Tryd.pinned : Pinned := { name := "ytnpehlkdfbmnkaadoor", sum := "fb7620949e7ac2cba942bf3ee3afe7e216641f2254a7920333df84c44fefe95a", checked := Tryd.checked }
namespace Rows
def none {H : Type} : Left H := { results := [], args := [] }

/- WHAT THE LISTED PACKAGE-LEVEL VARIABLES READ AS WHEN THE CALL BEGINS. Each datum BY PROGRAM (the guide's laid-datum.mjs) off the statement by which the dump's own 'gosem.cut.vars' lays the variable. In a bare row this is a premise. The card (YtnpehlkdfbmnkaaDoorCards.lean) ties it to the program's text. -/
def laid_unicode_utf8_acceptRanges {H : Type} : DataW H := .agg [.agg [.lit (.int .u8 128), .lit (.int .u8 191)], .agg [.lit (.int .u8 160), .lit (.int .u8 191)], .agg [.lit (.int .u8 128), .lit (.int .u8 159)], .agg [.lit (.int .u8 144), .lit (.int .u8 191)], .agg [.lit (.int .u8 128), .lit (.int .u8 143)], .agg [.lit (.int .u8 0), .lit (.int .u8 0)], .agg [.lit (.int .u8 0), .lit (.int .u8 0)], .agg [.lit (.int .u8 0), .lit (.int .u8 0)], .agg [.lit (.int .u8 0), .lit (.int .u8 0)], .agg [.lit (.int .u8 0), .lit (.int .u8 0)], .agg [.lit (.int .u8 0), .lit (.int .u8 0)], .agg [.lit (.int .u8 0), .lit (.int .u8 0)], .agg [.lit (.int .u8 0), .lit (.int .u8 0)], .agg [.lit (.int .u8 0), .lit (.int .u8 0)], .agg [.lit (.int .u8 0), .lit (.int .u8 0)], .agg [.lit (.int .u8 0), .lit (.int .u8 0)]]
/-- One of Go's own tables, pinned by name: the form's constant. -/
def laid_unicode_utf8_first : DataW Unit := Go.Pinned.utf8First

/-- 'bobstaylaw18.StaleMade': WHATEVER THE INPUT: true; the input reads as it did. -/
def staleMadeSpec : ChangeSpec := { name := "staleMade", fn := fun _ => fun
  | [d1, d2, d3] => { results := [.lit (.bool true)], args := [d1, d2, d3] }
  | _ => none }
def staleMadeRow : OpenClaim := { program := "ytnpehlkdfbmnkaadoor", sum := "fb7620949e7ac2cba942bf3ee3afe7e216641f2254a7920333df84c44fefe95a", func := "bobstay/bobstaylaw18.StaleMade", spec := "staleMade", inPlace := ["internal/bytealg.IndexByteString", "internal/bytealg.IndexString", "internal/abi.NoEscape", "internal/bytealg.MakeNoZero", "sync/atomic.AddInt64"], unfollowed := true, recurses := true, named := ["unicode/utf8.first", "unicode/utf8.acceptRanges", "internal/bytealg.MaxLen"], apart := false, laid := [("unicode/utf8.acceptRanges", laid_unicode_utf8_acceptRanges), ("unicode/utf8.first", laid_unicode_utf8_first)] }
def StaleMadeSaid : Prop := staleMadeRow.holds Tryd.pinned (OpenSpec.ofChange staleMadeSpec)

/-- ITS FALSE NEIGHBOUR: 'it returns false'. Refute it at one input. -/
def staleMadeWrong : ChangeSpec := { name := "staleMade", fn := fun _ => fun
  | [d1, d2, d3] => { results := [.lit (.bool false)], args := [d1, d2, d3] }
  | _ => none }
def StaleMadeWrongFalsely : Prop := staleMadeRow.holds Tryd.pinned (OpenSpec.ofChange staleMadeWrong)

/-- 'bobstaylaw18.StaleWhy': WHATEVER THE INPUT: true; the input reads as it did. -/
def staleWhySpec : ChangeSpec := { name := "staleWhy", fn := fun _ => fun
  | [d1, d2, d3] => { results := [.lit (.bool true)], args := [d1, d2, d3] }
  | _ => none }
def staleWhyRow : OpenClaim := { program := "ytnpehlkdfbmnkaadoor", sum := "fb7620949e7ac2cba942bf3ee3afe7e216641f2254a7920333df84c44fefe95a", func := "bobstay/bobstaylaw18.StaleWhy", spec := "staleWhy", inPlace := ["internal/bytealg.IndexByteString", "internal/bytealg.IndexString", "internal/abi.NoEscape", "internal/bytealg.MakeNoZero", "sync/atomic.AddInt64"], unfollowed := true, recurses := true, named := ["unicode/utf8.first", "unicode/utf8.acceptRanges", "internal/bytealg.MaxLen"], apart := false, laid := [("unicode/utf8.acceptRanges", laid_unicode_utf8_acceptRanges), ("unicode/utf8.first", laid_unicode_utf8_first)] }
def StaleWhySaid : Prop := staleWhyRow.holds Tryd.pinned (OpenSpec.ofChange staleWhySpec)

/-- ITS FALSE NEIGHBOUR: 'it returns false'. Refute it at one input. -/
def staleWhyWrong : ChangeSpec := { name := "staleWhy", fn := fun _ => fun
  | [d1, d2, d3] => { results := [.lit (.bool false)], args := [d1, d2, d3] }
  | _ => none }
def StaleWhyWrongFalsely : Prop := staleWhyRow.holds Tryd.pinned (OpenSpec.ofChange staleWhyWrong)

/-- 'bobstaylaw18.StaleDone': WHATEVER THE INPUT: true; the input reads as it did. -/
def staleDoneSpec : ChangeSpec := { name := "staleDone", fn := fun _ => fun
  | [d1, d2] => { results := [.lit (.bool true)], args := [d1, d2] }
  | _ => none }
def staleDoneRow : OpenClaim := { program := "ytnpehlkdfbmnkaadoor", sum := "fb7620949e7ac2cba942bf3ee3afe7e216641f2254a7920333df84c44fefe95a", func := "bobstay/bobstaylaw18.StaleDone", spec := "staleDone", inPlace := ["internal/bytealg.IndexByteString", "internal/bytealg.IndexString", "internal/abi.NoEscape", "internal/bytealg.MakeNoZero", "sync/atomic.AddInt64"], unfollowed := true, recurses := true, named := ["unicode/utf8.first", "unicode/utf8.acceptRanges", "internal/bytealg.MaxLen"], apart := false, laid := [("unicode/utf8.acceptRanges", laid_unicode_utf8_acceptRanges), ("unicode/utf8.first", laid_unicode_utf8_first)] }
def StaleDoneSaid : Prop := staleDoneRow.holds Tryd.pinned (OpenSpec.ofChange staleDoneSpec)

/-- ITS FALSE NEIGHBOUR: 'it returns false'. Refute it at one input. -/
def staleDoneWrong : ChangeSpec := { name := "staleDone", fn := fun _ => fun
  | [d1, d2] => { results := [.lit (.bool false)], args := [d1, d2] }
  | _ => none }
def StaleDoneWrongFalsely : Prop := staleDoneRow.holds Tryd.pinned (OpenSpec.ofChange staleDoneWrong)

/-- 'bobstaylaw18.StaleFiles': WHATEVER THE INPUT: true; the input reads as it did. -/
def staleFilesSpec : ChangeSpec := { name := "staleFiles", fn := fun _ => fun
  | [d1, d2] => { results := [.lit (.bool true)], args := [d1, d2] }
  | _ => none }
def staleFilesRow : OpenClaim := { program := "ytnpehlkdfbmnkaadoor", sum := "fb7620949e7ac2cba942bf3ee3afe7e216641f2254a7920333df84c44fefe95a", func := "bobstay/bobstaylaw18.StaleFiles", spec := "staleFiles", inPlace := ["internal/bytealg.IndexByteString", "internal/bytealg.IndexString", "internal/abi.NoEscape", "internal/bytealg.MakeNoZero", "sync/atomic.AddInt64", "internal/bytealg.CountString"], unfollowed := true, recurses := true, named := ["unicode/utf8.first", "unicode/utf8.acceptRanges", "internal/bytealg.MaxLen"], apart := false, laid := [("unicode/utf8.acceptRanges", laid_unicode_utf8_acceptRanges), ("unicode/utf8.first", laid_unicode_utf8_first)] }
def StaleFilesSaid : Prop := staleFilesRow.holds Tryd.pinned (OpenSpec.ofChange staleFilesSpec)

/-- ITS FALSE NEIGHBOUR: 'it returns false'. Refute it at one input. -/
def staleFilesWrong : ChangeSpec := { name := "staleFiles", fn := fun _ => fun
  | [d1, d2] => { results := [.lit (.bool false)], args := [d1, d2] }
  | _ => none }
def StaleFilesWrongFalsely : Prop := staleFilesRow.holds Tryd.pinned (OpenSpec.ofChange staleFilesWrong)

/-- 'bobstaylaw18.StaleTexts': WHATEVER THE INPUT: true; the input reads as it did. -/
def staleTextsSpec : ChangeSpec := { name := "staleTexts", fn := fun _ => fun
  | [d1, d2] => { results := [.lit (.bool true)], args := [d1, d2] }
  | _ => none }
def staleTextsRow : OpenClaim := { program := "ytnpehlkdfbmnkaadoor", sum := "fb7620949e7ac2cba942bf3ee3afe7e216641f2254a7920333df84c44fefe95a", func := "bobstay/bobstaylaw18.StaleTexts", spec := "staleTexts", inPlace := ["internal/bytealg.IndexByteString", "internal/bytealg.IndexString", "internal/abi.NoEscape", "internal/bytealg.MakeNoZero", "sync/atomic.AddInt64", "internal/bytealg.CountString"], unfollowed := true, recurses := true, named := ["unicode/utf8.first", "unicode/utf8.acceptRanges", "internal/bytealg.MaxLen"], apart := false, laid := [("unicode/utf8.acceptRanges", laid_unicode_utf8_acceptRanges), ("unicode/utf8.first", laid_unicode_utf8_first)] }
def StaleTextsSaid : Prop := staleTextsRow.holds Tryd.pinned (OpenSpec.ofChange staleTextsSpec)

/-- ITS FALSE NEIGHBOUR: 'it returns false'. Refute it at one input. -/
def staleTextsWrong : ChangeSpec := { name := "staleTexts", fn := fun _ => fun
  | [d1, d2] => { results := [.lit (.bool false)], args := [d1, d2] }
  | _ => none }
def StaleTextsWrongFalsely : Prop := staleTextsRow.holds Tryd.pinned (OpenSpec.ofChange staleTextsWrong)

/-- 'bobstaylaw18.StaleBack': WHATEVER THE INPUT: true; the input reads as it did. -/
def staleBackSpec : ChangeSpec := { name := "staleBack", fn := fun _ => fun
  | [d] => { results := [.lit (.bool true)], args := [d] }
  | _ => none }
def staleBackRow : OpenClaim := { program := "ytnpehlkdfbmnkaadoor", sum := "fb7620949e7ac2cba942bf3ee3afe7e216641f2254a7920333df84c44fefe95a", func := "bobstay/bobstaylaw18.StaleBack", spec := "staleBack", inPlace := ["internal/bytealg.IndexByteString", "internal/bytealg.IndexString", "internal/abi.NoEscape", "internal/bytealg.MakeNoZero", "sync/atomic.AddInt64", "internal/bytealg.CountString"], unfollowed := true, recurses := true, named := ["unicode/utf8.first", "unicode/utf8.acceptRanges", "internal/bytealg.MaxLen"], apart := false, laid := [("unicode/utf8.acceptRanges", laid_unicode_utf8_acceptRanges), ("unicode/utf8.first", laid_unicode_utf8_first)] }
def StaleBackSaid : Prop := staleBackRow.holds Tryd.pinned (OpenSpec.ofChange staleBackSpec)

/-- ITS FALSE NEIGHBOUR: 'it returns false'. Refute it at one input. -/
def staleBackWrong : ChangeSpec := { name := "staleBack", fn := fun _ => fun
  | [d] => { results := [.lit (.bool false)], args := [d] }
  | _ => none }
def StaleBackWrongFalsely : Prop := staleBackRow.holds Tryd.pinned (OpenSpec.ofChange staleBackWrong)

/-- 'bobstaylaw18.StaleSeen': WHATEVER THE INPUT: true; the input reads as it did. -/
def staleSeenSpec : ChangeSpec := { name := "staleSeen", fn := fun _ => fun
  | [d1, d2, d3] => { results := [.lit (.bool true)], args := [d1, d2, d3] }
  | _ => none }
def staleSeenRow : OpenClaim := { program := "ytnpehlkdfbmnkaadoor", sum := "fb7620949e7ac2cba942bf3ee3afe7e216641f2254a7920333df84c44fefe95a", func := "bobstay/bobstaylaw18.StaleSeen", spec := "staleSeen", inPlace := ["internal/bytealg.IndexByteString", "internal/bytealg.IndexString", "internal/abi.NoEscape", "internal/bytealg.MakeNoZero", "sync/atomic.AddInt64", "internal/bytealg.CountString"], unfollowed := true, recurses := true, named := ["unicode/utf8.first", "unicode/utf8.acceptRanges", "internal/bytealg.MaxLen"], apart := false, laid := [("unicode/utf8.acceptRanges", laid_unicode_utf8_acceptRanges), ("unicode/utf8.first", laid_unicode_utf8_first)] }
def StaleSeenSaid : Prop := staleSeenRow.holds Tryd.pinned (OpenSpec.ofChange staleSeenSpec)

/-- ITS FALSE NEIGHBOUR: 'it returns false'. Refute it at one input. -/
def staleSeenWrong : ChangeSpec := { name := "staleSeen", fn := fun _ => fun
  | [d1, d2, d3] => { results := [.lit (.bool false)], args := [d1, d2, d3] }
  | _ => none }
def StaleSeenWrongFalsely : Prop := staleSeenRow.holds Tryd.pinned (OpenSpec.ofChange staleSeenWrong)

/- THE SECOND FORM. 'bulk': how many values and letters a reading holds, each counted each time it is reached (what is shared counts as often as it is met; a slice's spare places count too). A statement '..UptoSaid' is the law's where the arguments, and the package variables that the reading takes, are together of bulk at most 1048576: NARROWER than '..Said'. Prove '..Said' where nothing that the law and all that it calls make is longer than what came in: it says more and counts as full. Else prove '..UptoSaid'. A law counts once. -/
mutual
def uptoBulk {H : Type} : DataW H → Nat
  | .lit (.string bytes) => bytes.length + 1
  | .lit _ => 1
  | .nil => 1
  | .ptr d => uptoBulk d + 1
  | .slice elems spare => uptoBulkAll elems + uptoBulkAll spare + 1
  | .agg parts => uptoBulkAll parts + 1
  | .iface _ d => uptoBulk d + 1
  | .map entries => uptoBulkEntries entries + 1
  | .held _ => 1
def uptoBulkAll {H : Type} : List (DataW H) → Nat
  | [] => 0
  | d :: r => uptoBulk d + uptoBulkAll r
def uptoBulkEntries {H : Type} : List (Lit × DataW H) → Nat
  | [] => 0
  | x :: r => uptoBulkEntry x + uptoBulkEntries r
def uptoBulkEntry {H : Type} : Lit × DataW H → Nat
  | (.string bytes, d) => bytes.length + uptoBulk d + 1
  | (_, d) => uptoBulk d + 1
 end
def uptoSmall : (H : Type) → List (DataW H) → Bool := fun _ ds => decide (uptoBulkAll ds ≤ 1048576)
def OpenSpec.upto (s : _root_.Go.ChangeSpec) : _root_.Go.OpenSpec := { _root_.Go.OpenSpec.ofChange s with cond := some uptoSmall }

/-- 'bobstaylaw18.StaleMade', WHERE WHAT IT READS IS OF BULK AT MOST 1048576: true; the input reads as it did. -/
def staleMadeUptoRow : OpenClaim := { program := "ytnpehlkdfbmnkaadoor", sum := "fb7620949e7ac2cba942bf3ee3afe7e216641f2254a7920333df84c44fefe95a", func := "bobstay/bobstaylaw18.StaleMade", spec := "staleMade", inPlace := ["internal/bytealg.IndexByteString", "internal/bytealg.IndexString", "internal/abi.NoEscape", "internal/bytealg.MakeNoZero", "sync/atomic.AddInt64"], unfollowed := true, recurses := true, named := ["unicode/utf8.first", "unicode/utf8.acceptRanges", "internal/bytealg.MaxLen"], apart := false, laid := [("unicode/utf8.acceptRanges", laid_unicode_utf8_acceptRanges), ("unicode/utf8.first", laid_unicode_utf8_first)], narrowed := true }
def StaleMadeUptoSaid : Prop := staleMadeUptoRow.holds Tryd.pinned (OpenSpec.upto staleMadeSpec)

/-- 'bobstaylaw18.StaleWhy', WHERE WHAT IT READS IS OF BULK AT MOST 1048576: true; the input reads as it did. -/
def staleWhyUptoRow : OpenClaim := { program := "ytnpehlkdfbmnkaadoor", sum := "fb7620949e7ac2cba942bf3ee3afe7e216641f2254a7920333df84c44fefe95a", func := "bobstay/bobstaylaw18.StaleWhy", spec := "staleWhy", inPlace := ["internal/bytealg.IndexByteString", "internal/bytealg.IndexString", "internal/abi.NoEscape", "internal/bytealg.MakeNoZero", "sync/atomic.AddInt64"], unfollowed := true, recurses := true, named := ["unicode/utf8.first", "unicode/utf8.acceptRanges", "internal/bytealg.MaxLen"], apart := false, laid := [("unicode/utf8.acceptRanges", laid_unicode_utf8_acceptRanges), ("unicode/utf8.first", laid_unicode_utf8_first)], narrowed := true }
def StaleWhyUptoSaid : Prop := staleWhyUptoRow.holds Tryd.pinned (OpenSpec.upto staleWhySpec)

/-- 'bobstaylaw18.StaleDone', WHERE WHAT IT READS IS OF BULK AT MOST 1048576: true; the input reads as it did. -/
def staleDoneUptoRow : OpenClaim := { program := "ytnpehlkdfbmnkaadoor", sum := "fb7620949e7ac2cba942bf3ee3afe7e216641f2254a7920333df84c44fefe95a", func := "bobstay/bobstaylaw18.StaleDone", spec := "staleDone", inPlace := ["internal/bytealg.IndexByteString", "internal/bytealg.IndexString", "internal/abi.NoEscape", "internal/bytealg.MakeNoZero", "sync/atomic.AddInt64"], unfollowed := true, recurses := true, named := ["unicode/utf8.first", "unicode/utf8.acceptRanges", "internal/bytealg.MaxLen"], apart := false, laid := [("unicode/utf8.acceptRanges", laid_unicode_utf8_acceptRanges), ("unicode/utf8.first", laid_unicode_utf8_first)], narrowed := true }
def StaleDoneUptoSaid : Prop := staleDoneUptoRow.holds Tryd.pinned (OpenSpec.upto staleDoneSpec)

/-- 'bobstaylaw18.StaleFiles', WHERE WHAT IT READS IS OF BULK AT MOST 1048576: true; the input reads as it did. -/
def staleFilesUptoRow : OpenClaim := { program := "ytnpehlkdfbmnkaadoor", sum := "fb7620949e7ac2cba942bf3ee3afe7e216641f2254a7920333df84c44fefe95a", func := "bobstay/bobstaylaw18.StaleFiles", spec := "staleFiles", inPlace := ["internal/bytealg.IndexByteString", "internal/bytealg.IndexString", "internal/abi.NoEscape", "internal/bytealg.MakeNoZero", "sync/atomic.AddInt64", "internal/bytealg.CountString"], unfollowed := true, recurses := true, named := ["unicode/utf8.first", "unicode/utf8.acceptRanges", "internal/bytealg.MaxLen"], apart := false, laid := [("unicode/utf8.acceptRanges", laid_unicode_utf8_acceptRanges), ("unicode/utf8.first", laid_unicode_utf8_first)], narrowed := true }
def StaleFilesUptoSaid : Prop := staleFilesUptoRow.holds Tryd.pinned (OpenSpec.upto staleFilesSpec)

/-- 'bobstaylaw18.StaleTexts', WHERE WHAT IT READS IS OF BULK AT MOST 1048576: true; the input reads as it did. -/
def staleTextsUptoRow : OpenClaim := { program := "ytnpehlkdfbmnkaadoor", sum := "fb7620949e7ac2cba942bf3ee3afe7e216641f2254a7920333df84c44fefe95a", func := "bobstay/bobstaylaw18.StaleTexts", spec := "staleTexts", inPlace := ["internal/bytealg.IndexByteString", "internal/bytealg.IndexString", "internal/abi.NoEscape", "internal/bytealg.MakeNoZero", "sync/atomic.AddInt64", "internal/bytealg.CountString"], unfollowed := true, recurses := true, named := ["unicode/utf8.first", "unicode/utf8.acceptRanges", "internal/bytealg.MaxLen"], apart := false, laid := [("unicode/utf8.acceptRanges", laid_unicode_utf8_acceptRanges), ("unicode/utf8.first", laid_unicode_utf8_first)], narrowed := true }
def StaleTextsUptoSaid : Prop := staleTextsUptoRow.holds Tryd.pinned (OpenSpec.upto staleTextsSpec)

/-- 'bobstaylaw18.StaleBack', WHERE WHAT IT READS IS OF BULK AT MOST 1048576: true; the input reads as it did. -/
def staleBackUptoRow : OpenClaim := { program := "ytnpehlkdfbmnkaadoor", sum := "fb7620949e7ac2cba942bf3ee3afe7e216641f2254a7920333df84c44fefe95a", func := "bobstay/bobstaylaw18.StaleBack", spec := "staleBack", inPlace := ["internal/bytealg.IndexByteString", "internal/bytealg.IndexString", "internal/abi.NoEscape", "internal/bytealg.MakeNoZero", "sync/atomic.AddInt64", "internal/bytealg.CountString"], unfollowed := true, recurses := true, named := ["unicode/utf8.first", "unicode/utf8.acceptRanges", "internal/bytealg.MaxLen"], apart := false, laid := [("unicode/utf8.acceptRanges", laid_unicode_utf8_acceptRanges), ("unicode/utf8.first", laid_unicode_utf8_first)], narrowed := true }
def StaleBackUptoSaid : Prop := staleBackUptoRow.holds Tryd.pinned (OpenSpec.upto staleBackSpec)

/-- 'bobstaylaw18.StaleSeen', WHERE WHAT IT READS IS OF BULK AT MOST 1048576: true; the input reads as it did. -/
def staleSeenUptoRow : OpenClaim := { program := "ytnpehlkdfbmnkaadoor", sum := "fb7620949e7ac2cba942bf3ee3afe7e216641f2254a7920333df84c44fefe95a", func := "bobstay/bobstaylaw18.StaleSeen", spec := "staleSeen", inPlace := ["internal/bytealg.IndexByteString", "internal/bytealg.IndexString", "internal/abi.NoEscape", "internal/bytealg.MakeNoZero", "sync/atomic.AddInt64", "internal/bytealg.CountString"], unfollowed := true, recurses := true, named := ["unicode/utf8.first", "unicode/utf8.acceptRanges", "internal/bytealg.MaxLen"], apart := false, laid := [("unicode/utf8.acceptRanges", laid_unicode_utf8_acceptRanges), ("unicode/utf8.first", laid_unicode_utf8_first)], narrowed := true }
def StaleSeenUptoSaid : Prop := staleSeenUptoRow.holds Tryd.pinned (OpenSpec.upto staleSeenSpec)

end Rows
end Go.Proofs.YtnpehlkdfbmnkaaDoor
