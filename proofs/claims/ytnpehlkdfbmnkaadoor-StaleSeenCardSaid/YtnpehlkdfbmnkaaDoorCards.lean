/-
  DERIVED. GIVEN WITH THE SEED: THE CARDS: each row of YtnpehlkdfbmnkaaDoorRows.lean that lists a variable, with what it lists TIED to the program's text (the seventh form; the later family's looks); each row that meets fmt, with fmt's text TOLD by the authors' own Lean function (tested against real Go, not proved from fmt's source: count such statements apart). THE CARD IS WHAT COUNTS. Prove the row's statement (the work); the ties are given (YtnpehlkdfbmnkaaDoorTie.lean); close each card by the builder's one call (the guide's Derived/Test/ToyasCard.lean, 'card_holds'). Laid BY PROGRAM, IN A SANDBOX (cutbox-door.mjs). By AI agents, Wed Nov 11 2026. No macro, syntax, notation, axiom, sorry.
-/
import Derived.Test.YtnpehlkdfbmnkaaDoorRows
import GoSem.ClaimSeven
namespace Go.Proofs.YtnpehlkdfbmnkaaDoor
namespace Rows

/-- THE TIED CARD OF 'bobstaylaw18.StaleMade'. -/
def staleMadeCard : Claim7 := { stood := { row := staleMadeRow, standIns := [], harness := (true, "c2278abff6279eff39dd5efd39f8f7a44df732a6577e585f123cbadea68ff182"), looks := false }, kinds := [], alts := [], laidByText := true, laidKinds := [.data, .pinned], laidTests := true, laidLooks := .later }
def StaleMadeCardSaid : Prop := Claim7.holds Tryd.pinned (.plain (OpenSpec.ofChange staleMadeSpec)) staleMadeCard

/-- THE TIED CARD OF 'bobstaylaw18.StaleWhy'. -/
def staleWhyCard : Claim7 := { stood := { row := staleWhyRow, standIns := [], harness := (true, "c2278abff6279eff39dd5efd39f8f7a44df732a6577e585f123cbadea68ff182"), looks := false }, kinds := [], alts := [], laidByText := true, laidKinds := [.data, .pinned], laidTests := true, laidLooks := .later }
def StaleWhyCardSaid : Prop := Claim7.holds Tryd.pinned (.plain (OpenSpec.ofChange staleWhySpec)) staleWhyCard

/-- THE TIED CARD OF 'bobstaylaw18.StaleDone'. -/
def staleDoneCard : Claim7 := { stood := { row := staleDoneRow, standIns := [], harness := (true, "c2278abff6279eff39dd5efd39f8f7a44df732a6577e585f123cbadea68ff182"), looks := false }, kinds := [], alts := [], laidByText := true, laidKinds := [.data, .pinned], laidTests := true, laidLooks := .later }
def StaleDoneCardSaid : Prop := Claim7.holds Tryd.pinned (.plain (OpenSpec.ofChange staleDoneSpec)) staleDoneCard

/-- THE TIED CARD OF 'bobstaylaw18.StaleFiles'. -/
def staleFilesCard : Claim7 := { stood := { row := staleFilesRow, standIns := [], harness := (true, "c2278abff6279eff39dd5efd39f8f7a44df732a6577e585f123cbadea68ff182"), looks := false }, kinds := [], alts := [], laidByText := true, laidKinds := [.data, .pinned], laidTests := true, laidLooks := .later }
def StaleFilesCardSaid : Prop := Claim7.holds Tryd.pinned (.plain (OpenSpec.ofChange staleFilesSpec)) staleFilesCard

/-- THE TIED CARD OF 'bobstaylaw18.StaleTexts'. -/
def staleTextsCard : Claim7 := { stood := { row := staleTextsRow, standIns := [], harness := (true, "c2278abff6279eff39dd5efd39f8f7a44df732a6577e585f123cbadea68ff182"), looks := false }, kinds := [], alts := [], laidByText := true, laidKinds := [.data, .pinned], laidTests := true, laidLooks := .later }
def StaleTextsCardSaid : Prop := Claim7.holds Tryd.pinned (.plain (OpenSpec.ofChange staleTextsSpec)) staleTextsCard

/-- THE TIED CARD OF 'bobstaylaw18.StaleBack'. -/
def staleBackCard : Claim7 := { stood := { row := staleBackRow, standIns := [], harness := (true, "c2278abff6279eff39dd5efd39f8f7a44df732a6577e585f123cbadea68ff182"), looks := false }, kinds := [], alts := [], laidByText := true, laidKinds := [.data, .pinned], laidTests := true, laidLooks := .later }
def StaleBackCardSaid : Prop := Claim7.holds Tryd.pinned (.plain (OpenSpec.ofChange staleBackSpec)) staleBackCard

/-- THE TIED CARD OF 'bobstaylaw18.StaleSeen'. -/
def staleSeenCard : Claim7 := { stood := { row := staleSeenRow, standIns := [], harness := (true, "c2278abff6279eff39dd5efd39f8f7a44df732a6577e585f123cbadea68ff182"), looks := false }, kinds := [], alts := [], laidByText := true, laidKinds := [.data, .pinned], laidTests := true, laidLooks := .later }
def StaleSeenCardSaid : Prop := Claim7.holds Tryd.pinned (.plain (OpenSpec.ofChange staleSeenSpec)) staleSeenCard

/-- THE SECOND FORM's CARD OF 'bobstaylaw18.StaleMade'. -/
def staleMadeUptoCard : Claim7 := { stood := { row := staleMadeUptoRow, standIns := [], harness := (true, "c2278abff6279eff39dd5efd39f8f7a44df732a6577e585f123cbadea68ff182"), looks := false }, kinds := [], alts := [], laidByText := true, laidKinds := [.data, .pinned], laidTests := true, laidLooks := .later }
def StaleMadeUptoCardSaid : Prop := Claim7.holds Tryd.pinned (.plain (OpenSpec.upto staleMadeSpec)) staleMadeUptoCard

/-- THE SECOND FORM's CARD OF 'bobstaylaw18.StaleWhy'. -/
def staleWhyUptoCard : Claim7 := { stood := { row := staleWhyUptoRow, standIns := [], harness := (true, "c2278abff6279eff39dd5efd39f8f7a44df732a6577e585f123cbadea68ff182"), looks := false }, kinds := [], alts := [], laidByText := true, laidKinds := [.data, .pinned], laidTests := true, laidLooks := .later }
def StaleWhyUptoCardSaid : Prop := Claim7.holds Tryd.pinned (.plain (OpenSpec.upto staleWhySpec)) staleWhyUptoCard

/-- THE SECOND FORM's CARD OF 'bobstaylaw18.StaleDone'. -/
def staleDoneUptoCard : Claim7 := { stood := { row := staleDoneUptoRow, standIns := [], harness := (true, "c2278abff6279eff39dd5efd39f8f7a44df732a6577e585f123cbadea68ff182"), looks := false }, kinds := [], alts := [], laidByText := true, laidKinds := [.data, .pinned], laidTests := true, laidLooks := .later }
def StaleDoneUptoCardSaid : Prop := Claim7.holds Tryd.pinned (.plain (OpenSpec.upto staleDoneSpec)) staleDoneUptoCard

/-- THE SECOND FORM's CARD OF 'bobstaylaw18.StaleFiles'. -/
def staleFilesUptoCard : Claim7 := { stood := { row := staleFilesUptoRow, standIns := [], harness := (true, "c2278abff6279eff39dd5efd39f8f7a44df732a6577e585f123cbadea68ff182"), looks := false }, kinds := [], alts := [], laidByText := true, laidKinds := [.data, .pinned], laidTests := true, laidLooks := .later }
def StaleFilesUptoCardSaid : Prop := Claim7.holds Tryd.pinned (.plain (OpenSpec.upto staleFilesSpec)) staleFilesUptoCard

/-- THE SECOND FORM's CARD OF 'bobstaylaw18.StaleTexts'. -/
def staleTextsUptoCard : Claim7 := { stood := { row := staleTextsUptoRow, standIns := [], harness := (true, "c2278abff6279eff39dd5efd39f8f7a44df732a6577e585f123cbadea68ff182"), looks := false }, kinds := [], alts := [], laidByText := true, laidKinds := [.data, .pinned], laidTests := true, laidLooks := .later }
def StaleTextsUptoCardSaid : Prop := Claim7.holds Tryd.pinned (.plain (OpenSpec.upto staleTextsSpec)) staleTextsUptoCard

/-- THE SECOND FORM's CARD OF 'bobstaylaw18.StaleBack'. -/
def staleBackUptoCard : Claim7 := { stood := { row := staleBackUptoRow, standIns := [], harness := (true, "c2278abff6279eff39dd5efd39f8f7a44df732a6577e585f123cbadea68ff182"), looks := false }, kinds := [], alts := [], laidByText := true, laidKinds := [.data, .pinned], laidTests := true, laidLooks := .later }
def StaleBackUptoCardSaid : Prop := Claim7.holds Tryd.pinned (.plain (OpenSpec.upto staleBackSpec)) staleBackUptoCard

/-- THE SECOND FORM's CARD OF 'bobstaylaw18.StaleSeen'. -/
def staleSeenUptoCard : Claim7 := { stood := { row := staleSeenUptoRow, standIns := [], harness := (true, "c2278abff6279eff39dd5efd39f8f7a44df732a6577e585f123cbadea68ff182"), looks := false }, kinds := [], alts := [], laidByText := true, laidKinds := [.data, .pinned], laidTests := true, laidLooks := .later }
def StaleSeenUptoCardSaid : Prop := Claim7.holds Tryd.pinned (.plain (OpenSpec.upto staleSeenSpec)) staleSeenUptoCard
end Rows
end Go.Proofs.YtnpehlkdfbmnkaaDoor
