/-
  DERIVED. GIVEN WITH THE SEED: THE CARDS: each row of YtcoonnbkmklenaaDoorRows.lean that lists a variable, with what it lists TIED to the program's text (the seventh form; the later family's looks); each row that meets fmt, with fmt's text TOLD by the authors' own Lean function (tested against real Go, not proved from fmt's source: count such statements apart). THE CARD IS WHAT COUNTS. Prove the row's statement (the work); the ties are given (YtcoonnbkmklenaaDoorTie.lean); close each card by the builder's one call (the guide's Derived/Test/ToyasCard.lean, 'card_holds'). Laid BY PROGRAM, IN A SANDBOX (cutbox-door.mjs). By AI agents, Wed Nov 11 2026. No macro, syntax, notation, axiom, sorry.
-/
import Derived.Test.YtcoonnbkmklenaaDoorRows
import GoSem.ClaimSeven
namespace Go.Proofs.YtcoonnbkmklenaaDoor
namespace Rows

/-- THE TIED CARD OF 'sequiturlaw07.TermRights'. -/
def termRightsCard : Claim7 := { stood := { row := termRightsRow, standIns := [], harness := (true, "fbdd78f209d695638ab224ed76bca1ca1d596a92b10c9f7f4928aadce8f2ef1e"), looks := false }, kinds := [], alts := [], laidByText := true, laidKinds := [.data], laidTests := true, laidLooks := .later }
def TermRightsCardSaid : Prop := Claim7.holds Tryd.pinned (.plain (OpenSpec.ofChange termRightsSpec)) termRightsCard

/-- THE SECOND FORM's CARD OF 'sequiturlaw07.TermRights'. -/
def termRightsUptoCard : Claim7 := { stood := { row := termRightsUptoRow, standIns := [], harness := (true, "fbdd78f209d695638ab224ed76bca1ca1d596a92b10c9f7f4928aadce8f2ef1e"), looks := false }, kinds := [], alts := [], laidByText := true, laidKinds := [.data], laidTests := true, laidLooks := .later }
def TermRightsUptoCardSaid : Prop := Claim7.holds Tryd.pinned (.plain (OpenSpec.upto termRightsSpec)) termRightsUptoCard
end Rows
end Go.Proofs.YtcoonnbkmklenaaDoor
