/-
  DERIVED. GIVEN WITH THE SEED: THE CARDS: each row of YtjhcabjlhnhkbaaDoorRows.lean that lists a variable, with what it lists TIED to the program's text (the seventh form; the later family's looks); each row that meets fmt, with fmt's text TOLD by the authors' own Lean function (tested against real Go, not proved from fmt's source: count such statements apart). THE CARD IS WHAT COUNTS. Prove the row's statement (the work); the ties are given (YtjhcabjlhnhkbaaDoorTie.lean); close each card by the builder's one call (the guide's Derived/Test/ToyasCard.lean, 'card_holds'). Laid BY PROGRAM, IN A SANDBOX (cutbox-door.mjs). By AI agents, Wed Nov 11 2026. No macro, syntax, notation, axiom, sorry.
-/
import Derived.Test.YtjhcabjlhnhkbaaDoorRows
import GoSem.ClaimSeven
namespace Go.Proofs.YtjhcabjlhnhkbaaDoor
namespace Rows

/-- THE TIED CARD OF 'bobstaylaw03.VfsYoung'. -/
def vfsYoungCard : Claim7 := { stood := { row := vfsYoungRow, standIns := [], harness := (true, "9bf80911bec7f0a885e6ce98bc0101518af0915e2fb5188ae038a62ccaeababd"), looks := true }, kinds := [], alts := [], laidByText := true, laidKinds := [.data, .pinned], laidTests := true, laidLooks := .later }
def VfsYoungCardSaid : Prop := Claim7.holds Tryd.pinned (.plain (OpenSpec.ofChange vfsYoungSpec)) vfsYoungCard

/-- THE TIED CARD OF 'bobstaylaw03.VfsReads'. -/
def vfsReadsCard : Claim7 := { stood := { row := vfsReadsRow, standIns := [], harness := (true, "9bf80911bec7f0a885e6ce98bc0101518af0915e2fb5188ae038a62ccaeababd"), looks := true }, kinds := [], alts := [], laidByText := true, laidKinds := [.data, .pinned], laidTests := true, laidLooks := .later }
def VfsReadsCardSaid : Prop := Claim7.holds Tryd.pinned (.plain (OpenSpec.ofChange vfsReadsSpec)) vfsReadsCard

/-- THE TIED CARD OF 'bobstaylaw03.VfsRefused'. -/
def vfsRefusedCard : Claim7 := { stood := { row := vfsRefusedRow, standIns := [], harness := (true, "9bf80911bec7f0a885e6ce98bc0101518af0915e2fb5188ae038a62ccaeababd"), looks := true }, kinds := [], alts := [], laidByText := true, laidKinds := [.data, .pinned], laidTests := true, laidLooks := .later }
def VfsRefusedCardSaid : Prop := Claim7.holds Tryd.pinned (.plain (OpenSpec.ofChange vfsRefusedSpec)) vfsRefusedCard

/-- THE TIED CARD OF 'bobstaylaw03.VfsCopies'. -/
def vfsCopiesCard : Claim7 := { stood := { row := vfsCopiesRow, standIns := [], harness := (true, "9bf80911bec7f0a885e6ce98bc0101518af0915e2fb5188ae038a62ccaeababd"), looks := true }, kinds := [], alts := [], laidByText := true, laidKinds := [.data, .pinned], laidTests := true, laidLooks := .later }
def VfsCopiesCardSaid : Prop := Claim7.holds Tryd.pinned (.plain (OpenSpec.ofChange vfsCopiesSpec)) vfsCopiesCard

/-- THE SECOND FORM's CARD OF 'bobstaylaw03.VfsYoung'. -/
def vfsYoungUptoCard : Claim7 := { stood := { row := vfsYoungUptoRow, standIns := [], harness := (true, "9bf80911bec7f0a885e6ce98bc0101518af0915e2fb5188ae038a62ccaeababd"), looks := true }, kinds := [], alts := [], laidByText := true, laidKinds := [.data, .pinned], laidTests := true, laidLooks := .later }
def VfsYoungUptoCardSaid : Prop := Claim7.holds Tryd.pinned (.plain (OpenSpec.upto vfsYoungSpec)) vfsYoungUptoCard

/-- THE SECOND FORM's CARD OF 'bobstaylaw03.VfsReads'. -/
def vfsReadsUptoCard : Claim7 := { stood := { row := vfsReadsUptoRow, standIns := [], harness := (true, "9bf80911bec7f0a885e6ce98bc0101518af0915e2fb5188ae038a62ccaeababd"), looks := true }, kinds := [], alts := [], laidByText := true, laidKinds := [.data, .pinned], laidTests := true, laidLooks := .later }
def VfsReadsUptoCardSaid : Prop := Claim7.holds Tryd.pinned (.plain (OpenSpec.upto vfsReadsSpec)) vfsReadsUptoCard

/-- THE SECOND FORM's CARD OF 'bobstaylaw03.VfsRefused'. -/
def vfsRefusedUptoCard : Claim7 := { stood := { row := vfsRefusedUptoRow, standIns := [], harness := (true, "9bf80911bec7f0a885e6ce98bc0101518af0915e2fb5188ae038a62ccaeababd"), looks := true }, kinds := [], alts := [], laidByText := true, laidKinds := [.data, .pinned], laidTests := true, laidLooks := .later }
def VfsRefusedUptoCardSaid : Prop := Claim7.holds Tryd.pinned (.plain (OpenSpec.upto vfsRefusedSpec)) vfsRefusedUptoCard

/-- THE SECOND FORM's CARD OF 'bobstaylaw03.VfsCopies'. -/
def vfsCopiesUptoCard : Claim7 := { stood := { row := vfsCopiesUptoRow, standIns := [], harness := (true, "9bf80911bec7f0a885e6ce98bc0101518af0915e2fb5188ae038a62ccaeababd"), looks := true }, kinds := [], alts := [], laidByText := true, laidKinds := [.data, .pinned], laidTests := true, laidLooks := .later }
def VfsCopiesUptoCardSaid : Prop := Claim7.holds Tryd.pinned (.plain (OpenSpec.upto vfsCopiesSpec)) vfsCopiesUptoCard
end Rows
end Go.Proofs.YtjhcabjlhnhkbaaDoor
