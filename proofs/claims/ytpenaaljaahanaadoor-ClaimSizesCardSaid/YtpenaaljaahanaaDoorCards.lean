/-
  DERIVED. GIVEN WITH THE SEED: THE CARDS: each row of YtpenaaljaahanaaDoorRows.lean that lists a variable, with what it lists TIED to the program's text (the seventh form; the later family's looks); each row that meets fmt, with fmt's text TOLD by the authors' own Lean function (tested against real Go, not proved from fmt's source: count such statements apart). THE CARD IS WHAT COUNTS. Prove the row's statement (the work); the ties are given (YtpenaaljaahanaaDoorTie.lean); close each card by the builder's one call (the guide's Derived/Test/ToyasCard.lean, 'card_holds'). Laid BY PROGRAM, IN A SANDBOX (cutbox-door.mjs). By AI agents, Wed Nov 11 2026. No macro, syntax, notation, axiom, sorry.
-/
import Derived.Test.YtpenaaljaahanaaDoorRows
import GoSem.ClaimSeven
namespace Go.Proofs.YtpenaaljaahanaaDoor
namespace Rows

/-- THE TIED CARD OF 'sequiturlaw08.ClaimRight'. -/
def claimRightCard : Claim7 := { stood := { row := claimRightRow, standIns := [], harness := (true, "31b0d736534ccf1091c20332f7cf96859698d54a17071bb982b8fd4369c236de"), looks := false }, kinds := [], alts := [], laidByText := true, laidKinds := [.data], laidTests := true, laidLooks := .later }
def ClaimRightCardSaid : Prop := Claim7.holds Tryd.pinned (.plain (OpenSpec.ofChange claimRightSpec)) claimRightCard

/-- THE TIED CARD OF 'sequiturlaw08.ClaimSizes'. -/
def claimSizesCard : Claim7 := { stood := { row := claimSizesRow, standIns := [], harness := (true, "31b0d736534ccf1091c20332f7cf96859698d54a17071bb982b8fd4369c236de"), looks := false }, kinds := [], alts := [], laidByText := true, laidKinds := [.data], laidTests := true, laidLooks := .later }
def ClaimSizesCardSaid : Prop := Claim7.holds Tryd.pinned (.plain (OpenSpec.ofChange claimSizesSpec)) claimSizesCard

/-- THE SECOND FORM's CARD OF 'sequiturlaw08.ClaimRight'. -/
def claimRightUptoCard : Claim7 := { stood := { row := claimRightUptoRow, standIns := [], harness := (true, "31b0d736534ccf1091c20332f7cf96859698d54a17071bb982b8fd4369c236de"), looks := false }, kinds := [], alts := [], laidByText := true, laidKinds := [.data], laidTests := true, laidLooks := .later }
def ClaimRightUptoCardSaid : Prop := Claim7.holds Tryd.pinned (.plain (OpenSpec.upto claimRightSpec)) claimRightUptoCard

/-- THE SECOND FORM's CARD OF 'sequiturlaw08.ClaimSizes'. -/
def claimSizesUptoCard : Claim7 := { stood := { row := claimSizesUptoRow, standIns := [], harness := (true, "31b0d736534ccf1091c20332f7cf96859698d54a17071bb982b8fd4369c236de"), looks := false }, kinds := [], alts := [], laidByText := true, laidKinds := [.data], laidTests := true, laidLooks := .later }
def ClaimSizesUptoCardSaid : Prop := Claim7.holds Tryd.pinned (.plain (OpenSpec.upto claimSizesSpec)) claimSizesUptoCard
end Rows
end Go.Proofs.YtpenaaljaahanaaDoor
