/-
  DERIVED. GIVEN WITH THE SEED: THE CARDS: each row of YtclpbifcngohmaaDoorRows.lean that lists a variable, with what it lists TIED to the program's text (the seventh form; the later family's looks); each row that meets fmt, with fmt's text TOLD by the authors' own Lean function (tested against real Go, not proved from fmt's source: count such statements apart). THE CARD IS WHAT COUNTS. Prove the row's statement (the work); the ties are given (YtclpbifcngohmaaDoorTie.lean); close each card by the builder's one call (the guide's Derived/Test/ToyasCard.lean, 'card_holds'). Laid BY PROGRAM, IN A SANDBOX (cutbox-door.mjs). By AI agents, Wed Nov 11 2026. No macro, syntax, notation, axiom, sorry.
-/
import Derived.Test.YtclpbifcngohmaaDoorRows
import GoSem.ClaimSeven
namespace Go.Proofs.YtclpbifcngohmaaDoor
namespace Rows

/-- THE TIED CARD OF 'bobstaylaw02.PathCleans'. -/
def pathCleansCard : Claim7 := { stood := { row := pathCleansRow, standIns := [], harness := (true, "a07fcb2618e3912c5ca31b50aeab67952bd50aaa3282602df0a83d9154248b74"), looks := false }, kinds := [], alts := [], laidByText := true, laidKinds := [.data, .pinned], laidTests := true, laidLooks := .later }
def PathCleansCardSaid : Prop := Claim7.holds Tryd.pinned (.plain (OpenSpec.ofChange pathCleansSpec)) pathCleansCard

/-- THE TIED CARD OF 'bobstaylaw02.PathStays'. -/
def pathStaysCard : Claim7 := { stood := { row := pathStaysRow, standIns := [], harness := (true, "a07fcb2618e3912c5ca31b50aeab67952bd50aaa3282602df0a83d9154248b74"), looks := false }, kinds := [], alts := [], laidByText := true, laidKinds := [.data, .pinned], laidTests := true, laidLooks := .later }
def PathStaysCardSaid : Prop := Claim7.holds Tryd.pinned (.plain (OpenSpec.ofChange pathStaysSpec)) pathStaysCard

/-- THE TIED CARD OF 'bobstaylaw02.PathBack'. -/
def pathBackCard : Claim7 := { stood := { row := pathBackRow, standIns := [], harness := (true, "a07fcb2618e3912c5ca31b50aeab67952bd50aaa3282602df0a83d9154248b74"), looks := false }, kinds := [], alts := [], laidByText := true, laidKinds := [.data, .pinned], laidTests := true, laidLooks := .later }
def PathBackCardSaid : Prop := Claim7.holds Tryd.pinned (.plain (OpenSpec.ofChange pathBackSpec)) pathBackCard

/-- THE TIED CARD OF 'bobstaylaw02.PathWhole'. -/
def pathWholeCard : Claim7 := { stood := { row := pathWholeRow, standIns := [], harness := (true, "a07fcb2618e3912c5ca31b50aeab67952bd50aaa3282602df0a83d9154248b74"), looks := false }, kinds := [], alts := [], laidByText := true, laidKinds := [.data, .pinned], laidTests := true, laidLooks := .later }
def PathWholeCardSaid : Prop := Claim7.holds Tryd.pinned (.plain (OpenSpec.ofChange pathWholeSpec)) pathWholeCard

/-- THE TIED CARD OF 'bobstaylaw02.PathCuts'. -/
def pathCutsCard : Claim7 := { stood := { row := pathCutsRow, standIns := [], harness := (true, "a07fcb2618e3912c5ca31b50aeab67952bd50aaa3282602df0a83d9154248b74"), looks := false }, kinds := [], alts := [], laidByText := true, laidKinds := [.data, .pinned], laidTests := true, laidLooks := .later }
def PathCutsCardSaid : Prop := Claim7.holds Tryd.pinned (.plain (OpenSpec.ofChange pathCutsSpec)) pathCutsCard

/-- THE TIED CARD OF 'bobstaylaw02.PathBelow'. -/
def pathBelowCard : Claim7 := { stood := { row := pathBelowRow, standIns := [], harness := (true, "a07fcb2618e3912c5ca31b50aeab67952bd50aaa3282602df0a83d9154248b74"), looks := false }, kinds := [], alts := [], laidByText := true, laidKinds := [.data, .pinned], laidTests := true, laidLooks := .later }
def PathBelowCardSaid : Prop := Claim7.holds Tryd.pinned (.plain (OpenSpec.ofChange pathBelowSpec)) pathBelowCard

/-- THE SECOND FORM's CARD OF 'bobstaylaw02.PathCleans'. -/
def pathCleansUptoCard : Claim7 := { stood := { row := pathCleansUptoRow, standIns := [], harness := (true, "a07fcb2618e3912c5ca31b50aeab67952bd50aaa3282602df0a83d9154248b74"), looks := false }, kinds := [], alts := [], laidByText := true, laidKinds := [.data, .pinned], laidTests := true, laidLooks := .later }
def PathCleansUptoCardSaid : Prop := Claim7.holds Tryd.pinned (.plain (OpenSpec.upto pathCleansSpec)) pathCleansUptoCard

/-- THE SECOND FORM's CARD OF 'bobstaylaw02.PathStays'. -/
def pathStaysUptoCard : Claim7 := { stood := { row := pathStaysUptoRow, standIns := [], harness := (true, "a07fcb2618e3912c5ca31b50aeab67952bd50aaa3282602df0a83d9154248b74"), looks := false }, kinds := [], alts := [], laidByText := true, laidKinds := [.data, .pinned], laidTests := true, laidLooks := .later }
def PathStaysUptoCardSaid : Prop := Claim7.holds Tryd.pinned (.plain (OpenSpec.upto pathStaysSpec)) pathStaysUptoCard

/-- THE SECOND FORM's CARD OF 'bobstaylaw02.PathBack'. -/
def pathBackUptoCard : Claim7 := { stood := { row := pathBackUptoRow, standIns := [], harness := (true, "a07fcb2618e3912c5ca31b50aeab67952bd50aaa3282602df0a83d9154248b74"), looks := false }, kinds := [], alts := [], laidByText := true, laidKinds := [.data, .pinned], laidTests := true, laidLooks := .later }
def PathBackUptoCardSaid : Prop := Claim7.holds Tryd.pinned (.plain (OpenSpec.upto pathBackSpec)) pathBackUptoCard

/-- THE SECOND FORM's CARD OF 'bobstaylaw02.PathWhole'. -/
def pathWholeUptoCard : Claim7 := { stood := { row := pathWholeUptoRow, standIns := [], harness := (true, "a07fcb2618e3912c5ca31b50aeab67952bd50aaa3282602df0a83d9154248b74"), looks := false }, kinds := [], alts := [], laidByText := true, laidKinds := [.data, .pinned], laidTests := true, laidLooks := .later }
def PathWholeUptoCardSaid : Prop := Claim7.holds Tryd.pinned (.plain (OpenSpec.upto pathWholeSpec)) pathWholeUptoCard

/-- THE SECOND FORM's CARD OF 'bobstaylaw02.PathCuts'. -/
def pathCutsUptoCard : Claim7 := { stood := { row := pathCutsUptoRow, standIns := [], harness := (true, "a07fcb2618e3912c5ca31b50aeab67952bd50aaa3282602df0a83d9154248b74"), looks := false }, kinds := [], alts := [], laidByText := true, laidKinds := [.data, .pinned], laidTests := true, laidLooks := .later }
def PathCutsUptoCardSaid : Prop := Claim7.holds Tryd.pinned (.plain (OpenSpec.upto pathCutsSpec)) pathCutsUptoCard

/-- THE SECOND FORM's CARD OF 'bobstaylaw02.PathBelow'. -/
def pathBelowUptoCard : Claim7 := { stood := { row := pathBelowUptoRow, standIns := [], harness := (true, "a07fcb2618e3912c5ca31b50aeab67952bd50aaa3282602df0a83d9154248b74"), looks := false }, kinds := [], alts := [], laidByText := true, laidKinds := [.data, .pinned], laidTests := true, laidLooks := .later }
def PathBelowUptoCardSaid : Prop := Claim7.holds Tryd.pinned (.plain (OpenSpec.upto pathBelowSpec)) pathBelowUptoCard
end Rows
end Go.Proofs.YtclpbifcngohmaaDoor
