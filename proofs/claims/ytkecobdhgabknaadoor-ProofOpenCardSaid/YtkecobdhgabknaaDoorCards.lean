/-
  DERIVED. GIVEN WITH THE SEED: THE CARDS: each row of YtkecobdhgabknaaDoorRows.lean that lists a variable, with what it lists TIED to the program's text (the seventh form; the later family's looks); each row that meets fmt, with fmt's text TOLD by the authors' own Lean function (tested against real Go, not proved from fmt's source: count such statements apart). THE CARD IS WHAT COUNTS. Prove the row's statement (the work); the ties are given (YtkecobdhgabknaaDoorTie.lean); close each card by the builder's one call (the guide's Derived/Test/ToyasCard.lean, 'card_holds'). Laid BY PROGRAM, IN A SANDBOX (cutbox-door.mjs). By AI agents, Wed Nov 11 2026. No macro, syntax, notation, axiom, sorry.
-/
import Derived.Test.YtkecobdhgabknaaDoorRows
import GoSem.ClaimSeven
namespace Go.Proofs.YtkecobdhgabknaaDoor
namespace Rows

/-- THE TIED CARD OF 'sequiturlaw38.ProofRight'. -/
def proofRightCard : Claim7 := { stood := { row := proofRightRow, standIns := [], harness := (true, "847b985bc96fd40f322b909e9d8c26677f49ba184f75d8d3a3697d15bdb1b72e"), looks := false }, kinds := [], alts := [], laidByText := true, laidKinds := [.data], laidTests := true, laidLooks := .later }
def ProofRightCardSaid : Prop := Claim7.holds Tryd.pinned (.plain (OpenSpec.ofChange proofRightSpec)) proofRightCard

/-- THE TIED CARD OF 'sequiturlaw38.ProofCopies'. -/
def proofCopiesCard : Claim7 := { stood := { row := proofCopiesRow, standIns := [], harness := (true, "847b985bc96fd40f322b909e9d8c26677f49ba184f75d8d3a3697d15bdb1b72e"), looks := false }, kinds := [], alts := [], laidByText := true, laidKinds := [.data], laidTests := true, laidLooks := .later }
def ProofCopiesCardSaid : Prop := Claim7.holds Tryd.pinned (.plain (OpenSpec.ofChange proofCopiesSpec)) proofCopiesCard

/-- THE TIED CARD OF 'sequiturlaw38.ProofOpen'. -/
def proofOpenCard : Claim7 := { stood := { row := proofOpenRow, standIns := [], harness := (true, "847b985bc96fd40f322b909e9d8c26677f49ba184f75d8d3a3697d15bdb1b72e"), looks := false }, kinds := [], alts := [], laidByText := true, laidKinds := [.data], laidTests := true, laidLooks := .later }
def ProofOpenCardSaid : Prop := Claim7.holds Tryd.pinned (.plain (OpenSpec.ofChange proofOpenSpec)) proofOpenCard

/-- THE TIED CARD OF 'sequiturlaw38.ProofPuts'. -/
def proofPutsCard : Claim7 := { stood := { row := proofPutsRow, standIns := [], harness := (true, "847b985bc96fd40f322b909e9d8c26677f49ba184f75d8d3a3697d15bdb1b72e"), looks := false }, kinds := [], alts := [], laidByText := true, laidKinds := [.data], laidTests := true, laidLooks := .later }
def ProofPutsCardSaid : Prop := Claim7.holds Tryd.pinned (.plain (OpenSpec.ofChange proofPutsSpec)) proofPutsCard

/-- THE TIED CARD OF 'sequiturlaw38.ProofStays'. -/
def proofStaysCard : Claim7 := { stood := { row := proofStaysRow, standIns := [], harness := (true, "847b985bc96fd40f322b909e9d8c26677f49ba184f75d8d3a3697d15bdb1b72e"), looks := false }, kinds := [], alts := [], laidByText := true, laidKinds := [.data], laidTests := true, laidLooks := .later }
def ProofStaysCardSaid : Prop := Claim7.holds Tryd.pinned (.plain (OpenSpec.ofChange proofStaysSpec)) proofStaysCard

/-- THE SECOND FORM's CARD OF 'sequiturlaw38.ProofRight'. -/
def proofRightUptoCard : Claim7 := { stood := { row := proofRightUptoRow, standIns := [], harness := (true, "847b985bc96fd40f322b909e9d8c26677f49ba184f75d8d3a3697d15bdb1b72e"), looks := false }, kinds := [], alts := [], laidByText := true, laidKinds := [.data], laidTests := true, laidLooks := .later }
def ProofRightUptoCardSaid : Prop := Claim7.holds Tryd.pinned (.plain (OpenSpec.upto proofRightSpec)) proofRightUptoCard

/-- THE SECOND FORM's CARD OF 'sequiturlaw38.ProofCopies'. -/
def proofCopiesUptoCard : Claim7 := { stood := { row := proofCopiesUptoRow, standIns := [], harness := (true, "847b985bc96fd40f322b909e9d8c26677f49ba184f75d8d3a3697d15bdb1b72e"), looks := false }, kinds := [], alts := [], laidByText := true, laidKinds := [.data], laidTests := true, laidLooks := .later }
def ProofCopiesUptoCardSaid : Prop := Claim7.holds Tryd.pinned (.plain (OpenSpec.upto proofCopiesSpec)) proofCopiesUptoCard

/-- THE SECOND FORM's CARD OF 'sequiturlaw38.ProofOpen'. -/
def proofOpenUptoCard : Claim7 := { stood := { row := proofOpenUptoRow, standIns := [], harness := (true, "847b985bc96fd40f322b909e9d8c26677f49ba184f75d8d3a3697d15bdb1b72e"), looks := false }, kinds := [], alts := [], laidByText := true, laidKinds := [.data], laidTests := true, laidLooks := .later }
def ProofOpenUptoCardSaid : Prop := Claim7.holds Tryd.pinned (.plain (OpenSpec.upto proofOpenSpec)) proofOpenUptoCard

/-- THE SECOND FORM's CARD OF 'sequiturlaw38.ProofPuts'. -/
def proofPutsUptoCard : Claim7 := { stood := { row := proofPutsUptoRow, standIns := [], harness := (true, "847b985bc96fd40f322b909e9d8c26677f49ba184f75d8d3a3697d15bdb1b72e"), looks := false }, kinds := [], alts := [], laidByText := true, laidKinds := [.data], laidTests := true, laidLooks := .later }
def ProofPutsUptoCardSaid : Prop := Claim7.holds Tryd.pinned (.plain (OpenSpec.upto proofPutsSpec)) proofPutsUptoCard

/-- THE SECOND FORM's CARD OF 'sequiturlaw38.ProofStays'. -/
def proofStaysUptoCard : Claim7 := { stood := { row := proofStaysUptoRow, standIns := [], harness := (true, "847b985bc96fd40f322b909e9d8c26677f49ba184f75d8d3a3697d15bdb1b72e"), looks := false }, kinds := [], alts := [], laidByText := true, laidKinds := [.data], laidTests := true, laidLooks := .later }
def ProofStaysUptoCardSaid : Prop := Claim7.holds Tryd.pinned (.plain (OpenSpec.upto proofStaysSpec)) proofStaysUptoCard
end Rows
end Go.Proofs.YtkecobdhgabknaaDoor
