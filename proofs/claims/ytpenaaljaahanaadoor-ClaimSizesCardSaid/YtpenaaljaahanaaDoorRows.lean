/-
  NARROWER THAN 'FOR EVERY INPUT', by the rows' own cells (each row's printed sentence says how): ClaimRight: loops, laid · ClaimSizes: loops, laid.
  DERIVED. THE GIVEN ROWS OF THIS SEAT. 2 by the template 'for every input the law returns true; each argument reads behind the call as it read before'; 0 by the template 'total and deterministic' (their statements: YtpenaaljaahanaaDoorTotals.lean).
  GIVEN WITH THE SEED: the statements are not yours to turn. If you find one false, say at which input.
  Laid BY PROGRAM, IN A SANDBOX (cutbox-rows.mjs): the forced cells as the released guide's own fill.sh prints them over the translation 9889978d2e7cf8ba… (all of the seat's roots in one cut). By AI agents, Wed Nov 11 2026. No macro, syntax, notation, axiom, sorry.
-/
import Derived.Test.YtpenaaljaahanaaDoorChecked
import GoSem.Claim
import GoSem.ClaimJoined
import GoSem.ClaimMapViews
import Derived.JoinedTies
import Derived.KernelRfl
namespace Go.Proofs.YtpenaaljaahanaaDoor
/- THE CELL 'sum', in the pinned program and in every row, IS THE sha256 OF THE DUMP (.gsa) THAT YtpenaaljaahanaaDoorProg.lean LOADS. Nothing in Lean hashes anything: it is a label: what it is worth is what the hold of that sum in a sandbox is worth. -/
noncomputable def Tryd.pinned : Pinned := { name := "ytpenaaljaahanaadoor", sum := "9889978d2e7cf8ba05e4577e713c983e3eb6271975f1c7e1e67162c7970bc92b", checked := Tryd.checked }
namespace Rows
def none {H : Type} : Left H := { results := [], args := [] }

/- WHAT THE LISTED PACKAGE-LEVEL VARIABLES READ AS WHEN THE CALL BEGINS. Each datum BY PROGRAM (the guide's laid-datum.mjs) off the statement by which the dump's own 'gosem.cut.vars' lays the variable. In a bare row this is a premise. The card (YtpenaaljaahanaaDoorCards.lean) ties it to the program's text. -/
def laid_sequitur_term_needs {H : Type} : DataW H := .agg [.lit (.int .i64 0), .lit (.int .i64 0), .lit (.int .i64 0), .lit (.int .i64 8), .lit (.int .i64 0), .lit (.int .i64 2), .lit (.int .i64 2), .lit (.int .i64 1), .lit (.int .i64 1)]

/-- 'sequiturlaw08.ClaimRight': WHATEVER THE INPUT: true; the input reads as it did. -/
def claimRightSpec : ChangeSpec := { name := "claimRight", fn := fun _ => fun
  | [d] => { results := [.lit (.bool true)], args := [d] }
  | _ => none }
def claimRightRow : OpenClaim := { program := "ytpenaaljaahanaadoor", sum := "9889978d2e7cf8ba05e4577e713c983e3eb6271975f1c7e1e67162c7970bc92b", func := "sequitur/sequiturlaw08.ClaimRight", spec := "claimRight", unfollowed := true, recurses := true, named := ["sequitur/term.needs"], loops := true, apart := false, laid := [("sequitur/term.needs", laid_sequitur_term_needs)] }
def ClaimRightSaid : Prop := claimRightRow.holds Tryd.pinned (OpenSpec.ofChange claimRightSpec)

/-- ITS FALSE NEIGHBOUR: 'it returns false'. Refute it at one input. -/
def claimRightWrong : ChangeSpec := { name := "claimRight", fn := fun _ => fun
  | [d] => { results := [.lit (.bool false)], args := [d] }
  | _ => none }
def ClaimRightWrongFalsely : Prop := claimRightRow.holds Tryd.pinned (OpenSpec.ofChange claimRightWrong)

/-- 'sequiturlaw08.ClaimSizes': WHATEVER THE INPUT: true; the input reads as it did. -/
def claimSizesSpec : ChangeSpec := { name := "claimSizes", fn := fun _ => fun
  | [d1, d2] => { results := [.lit (.bool true)], args := [d1, d2] }
  | _ => none }
def claimSizesRow : OpenClaim := { program := "ytpenaaljaahanaadoor", sum := "9889978d2e7cf8ba05e4577e713c983e3eb6271975f1c7e1e67162c7970bc92b", func := "sequitur/sequiturlaw08.ClaimSizes", spec := "claimSizes", unfollowed := true, recurses := true, named := ["sequitur/term.needs"], loops := true, apart := false, laid := [("sequitur/term.needs", laid_sequitur_term_needs)] }
def ClaimSizesSaid : Prop := claimSizesRow.holds Tryd.pinned (OpenSpec.ofChange claimSizesSpec)

/-- ITS FALSE NEIGHBOUR: 'it returns false'. Refute it at one input. -/
def claimSizesWrong : ChangeSpec := { name := "claimSizes", fn := fun _ => fun
  | [d1, d2] => { results := [.lit (.bool false)], args := [d1, d2] }
  | _ => none }
def ClaimSizesWrongFalsely : Prop := claimSizesRow.holds Tryd.pinned (OpenSpec.ofChange claimSizesWrong)

/- THE SECOND FORM. 'bulk': how many values and letters a reading holds, each counted each time it is reached (what is shared counts as often as it is met; a slice's spare places count too). A statement '..UptoSaid' is the law's where the arguments, and the package variables that the reading takes, are together of bulk at most 1048576: NARROWER than '..Said'. Prove '..Said' where nothing that the law and all that it calls make is longer than what came in: it says more and counts as full. Else prove '..UptoSaid'. A law counts once. -/
mutual
def uptoBulk {H : Type} : DataW H → Nat
  | .lit (.string bytes) => bytes.length + 1
  | .lit _ => 1
  | .nil => 1
  | .ptr d => uptoBulk d + 1
  | .slice elems spare => uptoBulkAll elems + uptoBulkAll spare + 1
  | .agg parts => uptoBulkAll parts + 1
  | .iface _ d => uptoBulk d + 1
  | .map entries => uptoBulkEntries entries + 1
  | .held _ => 1
def uptoBulkAll {H : Type} : List (DataW H) → Nat
  | [] => 0
  | d :: r => uptoBulk d + uptoBulkAll r
def uptoBulkEntries {H : Type} : List (Lit × DataW H) → Nat
  | [] => 0
  | x :: r => uptoBulkEntry x + uptoBulkEntries r
def uptoBulkEntry {H : Type} : Lit × DataW H → Nat
  | (.string bytes, d) => bytes.length + uptoBulk d + 1
  | (_, d) => uptoBulk d + 1
 end
def uptoSmall : (H : Type) → List (DataW H) → Bool := fun _ ds => decide (uptoBulkAll ds ≤ 1048576)
def OpenSpec.upto (s : _root_.Go.ChangeSpec) : _root_.Go.OpenSpec := { _root_.Go.OpenSpec.ofChange s with cond := some uptoSmall }

/-- 'sequiturlaw08.ClaimRight', WHERE WHAT IT READS IS OF BULK AT MOST 1048576: true; the input reads as it did. -/
def claimRightUptoRow : OpenClaim := { program := "ytpenaaljaahanaadoor", sum := "9889978d2e7cf8ba05e4577e713c983e3eb6271975f1c7e1e67162c7970bc92b", func := "sequitur/sequiturlaw08.ClaimRight", spec := "claimRight", unfollowed := true, recurses := true, named := ["sequitur/term.needs"], loops := true, apart := false, laid := [("sequitur/term.needs", laid_sequitur_term_needs)], narrowed := true }
def ClaimRightUptoSaid : Prop := claimRightUptoRow.holds Tryd.pinned (OpenSpec.upto claimRightSpec)

/-- 'sequiturlaw08.ClaimSizes', WHERE WHAT IT READS IS OF BULK AT MOST 1048576: true; the input reads as it did. -/
def claimSizesUptoRow : OpenClaim := { program := "ytpenaaljaahanaadoor", sum := "9889978d2e7cf8ba05e4577e713c983e3eb6271975f1c7e1e67162c7970bc92b", func := "sequitur/sequiturlaw08.ClaimSizes", spec := "claimSizes", unfollowed := true, recurses := true, named := ["sequitur/term.needs"], loops := true, apart := false, laid := [("sequitur/term.needs", laid_sequitur_term_needs)], narrowed := true }
def ClaimSizesUptoSaid : Prop := claimSizesUptoRow.holds Tryd.pinned (OpenSpec.upto claimSizesSpec)

end Rows
end Go.Proofs.YtpenaaljaahanaaDoor
