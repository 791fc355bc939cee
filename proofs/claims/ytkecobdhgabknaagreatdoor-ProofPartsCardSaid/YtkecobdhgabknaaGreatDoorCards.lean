/-
  DERIVED. GIVEN WITH THE SEED: THE CARDS: each row of YtkecobdhgabknaaGreatDoorRows.lean that lists a variable, with what it lists TIED to the program's text (the seventh form; the later family's looks); each row that meets fmt, with fmt's text TOLD by the authors' own Lean function (tested against real Go, not proved from fmt's source: count such statements apart). THE CARD IS WHAT COUNTS. Prove the row's statement (the work); the ties are given (YtkecobdhgabknaaGreatDoorTie.lean); close each card by the builder's one call (the guide's Derived/Test/ToyasCard.lean, 'card_holds'). Laid BY PROGRAM, IN A SANDBOX (cutbox-door.mjs). By AI agents, Wed Nov 11 2026. No macro, syntax, notation, axiom, sorry.
-/
import Derived.Test.YtkecobdhgabknaaGreatDoorRows
import GoSem.ClaimSeven
namespace Go.Proofs.YtkecobdhgabknaaGreatDoor
namespace Rows

/-- THE TIED CARD OF 'sequiturlaw38.ProofParts'. -/
def proofPartsCard : Claim7 := { stood := { row := proofPartsRow, standIns := [], harness := (true, "05d48c6f37d4ccd9bfbbfff030547782f244e1be06fd59dda39f6d66883c3768"), looks := false }, kinds := [], alts := [], laidByText := true, laidKinds := [.data], laidTests := true, laidLooks := .later }
def ProofPartsCardSaid : Prop := Claim7.holds Tryz.pinned (.plain (OpenSpec.ofChange proofPartsSpec)) proofPartsCard

/-- THE SECOND FORM's CARD OF 'sequiturlaw38.ProofParts'. -/
def proofPartsUptoCard : Claim7 := { stood := { row := proofPartsUptoRow, standIns := [], harness := (true, "05d48c6f37d4ccd9bfbbfff030547782f244e1be06fd59dda39f6d66883c3768"), looks := false }, kinds := [], alts := [], laidByText := true, laidKinds := [.data], laidTests := true, laidLooks := .later }
def ProofPartsUptoCardSaid : Prop := Claim7.holds Tryz.pinned (.plain (OpenSpec.upto proofPartsSpec)) proofPartsUptoCard
end Rows
end Go.Proofs.YtkecobdhgabknaaGreatDoor
