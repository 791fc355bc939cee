/-
  NARROWER THAN 'FOR EVERY INPUT', by the rows' own cells (each row's printed sentence says how): ProofRight: loops, laid · ProofCopies: loops, laid · ProofOpen: loops, laid · ProofPuts: loops, laid · ProofStays: loops, laid.
  DERIVED. THE GIVEN ROWS OF THIS SEAT. 5 by the template 'for every input the law returns true; each argument reads behind the call as it read before'; 0 by the template 'total and deterministic' (their statements: YtkecobdhgabknaaDoorTotals.lean).
  GIVEN WITH THE SEED: the statements are not yours to turn. If you find one false, say at which input.
  Laid BY PROGRAM, IN A SANDBOX (cutbox-rows.mjs): the forced cells as the released guide's own fill.sh prints them over the translation 7aa5d7429dcd64ad… (all of the seat's roots in one cut). By AI agents, Wed Nov 11 2026. No macro, syntax, notation, axiom, sorry.
-/
import Derived.Test.YtkecobdhgabknaaDoorChecked
import GoSem.Claim
import GoSem.ClaimJoined
import GoSem.ClaimMapViews
import Derived.JoinedTies
import Derived.KernelRfl
namespace Go.Proofs.YtkecobdhgabknaaDoor
/- THE CELL 'sum', in the pinned program and in every row, IS THE sha256 OF THE DUMP (.gsa) THAT YtkecobdhgabknaaDoorProg.lean LOADS. Nothing in Lean hashes anything: it is a label: what it is worth is what the hold of that sum in a sandbox is worth. -/
noncomputable def Tryd.pinned : Pinned := { name := "ytkecobdhgabknaadoor", sum := "7aa5d7429dcd64adce86690ea8550c9c67100832e7771cc427e9a26a9a76cd8c", checked := Tryd.checked }
namespace Rows
def none {H : Type} : Left H := { results := [], args := [] }

/- WHAT THE LISTED PACKAGE-LEVEL VARIABLES READ AS WHEN THE CALL BEGINS. Each datum BY PROGRAM (the guide's laid-datum.mjs) off the statement by which the dump's own 'gosem.cut.vars' lays the variable. In a bare row this is a premise. The card (YtkecobdhgabknaaDoorCards.lean) ties it to the program's text. -/
def laid_sequitur_proof_shapes {H : Type} : DataW H := .agg [.agg [.lit (.int .i64 0), .lit (.int .i64 0)], .agg [.lit (.int .i64 1), .lit (.int .i64 0)], .agg [.lit (.int .i64 0), .lit (.int .i64 0)], .agg [.lit (.int .i64 1), .lit (.int .i64 0)], .agg [.lit (.int .i64 0), .lit (.int .i64 2)], .agg [.lit (.int .i64 7), .lit (.int .i64 1)], .agg [.lit (.int .i64 0), .lit (.int .i64 1)], .agg [.lit (.int .i64 0), .lit (.int .i64 1)], .agg [.lit (.int .i64 3), .lit (.int .i64 2)], .agg [.lit (.int .i64 2), .lit (.int .i64 1)], .agg [.lit (.int .i64 3), .lit (.int .i64 2)], .agg [.lit (.int .i64 2), .lit (.int .i64 1)], .agg [.lit (.int .i64 1), .lit (.int .i64 1)], .agg [.lit (.int .i64 0), .lit (.int .i64 2)], .agg [.lit (.int .i64 7), .lit (.int .i64 1)], .agg [.lit (.int .i64 4), .lit (.int .i64 1)], .agg [.lit (.int .i64 19), .lit (.int .i64 1)], .agg [.lit (.int .i64 16), .lit (.int .i64 1)], .agg [.lit (.int .i64 7), .lit (.int .i64 1)], .agg [.lit (.int .i64 2), .lit (.int .i64 1)], .agg [.lit (.int .i64 34), .lit (.int .i64 2)], .agg [.lit (.int .i64 1), .lit (.int .i64 1)], .agg [.lit (.int .i64 0), .lit (.int .i64 0)], .agg [.lit (.int .i64 41), .lit (.int .i64 1)], .agg [.lit (.int .i64 3), .lit (.int .i64 1)], .agg [.lit (.int .i64 64), .lit (.int .i64 0)], .agg [.lit (.int .i64 256), .lit (.int .i64 0)], .agg [.lit (.int .i64 192), .lit (.int .i64 0)]]

/-- 'sequiturlaw38.ProofRight': WHATEVER THE INPUT: true; the input reads as it did. -/
def proofRightSpec : ChangeSpec := { name := "proofRight", fn := fun _ => fun
  | [d] => { results := [.lit (.bool true)], args := [d] }
  | _ => none }
def proofRightRow : OpenClaim := { program := "ytkecobdhgabknaadoor", sum := "7aa5d7429dcd64adce86690ea8550c9c67100832e7771cc427e9a26a9a76cd8c", func := "sequitur/sequiturlaw38.ProofRight", spec := "proofRight", unfollowed := true, recurses := true, named := ["sequitur/proof.shapes"], loops := true, apart := false, laid := [("sequitur/proof.shapes", laid_sequitur_proof_shapes)] }
def ProofRightSaid : Prop := proofRightRow.holds Tryd.pinned (OpenSpec.ofChange proofRightSpec)

/-- ITS FALSE NEIGHBOUR: 'it returns false'. Refute it at one input. -/
def proofRightWrong : ChangeSpec := { name := "proofRight", fn := fun _ => fun
  | [d] => { results := [.lit (.bool false)], args := [d] }
  | _ => none }
def ProofRightWrongFalsely : Prop := proofRightRow.holds Tryd.pinned (OpenSpec.ofChange proofRightWrong)

/-- 'sequiturlaw38.ProofCopies': WHATEVER THE INPUT: true; the input reads as it did. -/
def proofCopiesSpec : ChangeSpec := { name := "proofCopies", fn := fun _ => fun
  | [d] => { results := [.lit (.bool true)], args := [d] }
  | _ => none }
def proofCopiesRow : OpenClaim := { program := "ytkecobdhgabknaadoor", sum := "7aa5d7429dcd64adce86690ea8550c9c67100832e7771cc427e9a26a9a76cd8c", func := "sequitur/sequiturlaw38.ProofCopies", spec := "proofCopies", unfollowed := true, recurses := true, named := ["sequitur/proof.shapes"], loops := true, apart := false, laid := [("sequitur/proof.shapes", laid_sequitur_proof_shapes)] }
def ProofCopiesSaid : Prop := proofCopiesRow.holds Tryd.pinned (OpenSpec.ofChange proofCopiesSpec)

/-- ITS FALSE NEIGHBOUR: 'it returns false'. Refute it at one input. -/
def proofCopiesWrong : ChangeSpec := { name := "proofCopies", fn := fun _ => fun
  | [d] => { results := [.lit (.bool false)], args := [d] }
  | _ => none }
def ProofCopiesWrongFalsely : Prop := proofCopiesRow.holds Tryd.pinned (OpenSpec.ofChange proofCopiesWrong)

/-- 'sequiturlaw38.ProofOpen': WHATEVER THE INPUT: true; the input reads as it did. -/
def proofOpenSpec : ChangeSpec := { name := "proofOpen", fn := fun _ => fun
  | [d1, d2, d3] => { results := [.lit (.bool true)], args := [d1, d2, d3] }
  | _ => none }
def proofOpenRow : OpenClaim := { program := "ytkecobdhgabknaadoor", sum := "7aa5d7429dcd64adce86690ea8550c9c67100832e7771cc427e9a26a9a76cd8c", func := "sequitur/sequiturlaw38.ProofOpen", spec := "proofOpen", unfollowed := true, recurses := true, named := ["sequitur/proof.shapes"], loops := true, apart := false, laid := [("sequitur/proof.shapes", laid_sequitur_proof_shapes)] }
def ProofOpenSaid : Prop := proofOpenRow.holds Tryd.pinned (OpenSpec.ofChange proofOpenSpec)

/-- ITS FALSE NEIGHBOUR: 'it returns false'. Refute it at one input. -/
def proofOpenWrong : ChangeSpec := { name := "proofOpen", fn := fun _ => fun
  | [d1, d2, d3] => { results := [.lit (.bool false)], args := [d1, d2, d3] }
  | _ => none }
def ProofOpenWrongFalsely : Prop := proofOpenRow.holds Tryd.pinned (OpenSpec.ofChange proofOpenWrong)

/-- 'sequiturlaw38.ProofPuts': WHATEVER THE INPUT: true; the input reads as it did. -/
def proofPutsSpec : ChangeSpec := { name := "proofPuts", fn := fun _ => fun
  | [d1, d2, d3] => { results := [.lit (.bool true)], args := [d1, d2, d3] }
  | _ => none }
def proofPutsRow : OpenClaim := { program := "ytkecobdhgabknaadoor", sum := "7aa5d7429dcd64adce86690ea8550c9c67100832e7771cc427e9a26a9a76cd8c", func := "sequitur/sequiturlaw38.ProofPuts", spec := "proofPuts", unfollowed := true, recurses := true, named := ["sequitur/proof.shapes"], loops := true, apart := false, laid := [("sequitur/proof.shapes", laid_sequitur_proof_shapes)] }
def ProofPutsSaid : Prop := proofPutsRow.holds Tryd.pinned (OpenSpec.ofChange proofPutsSpec)

/-- ITS FALSE NEIGHBOUR: 'it returns false'. Refute it at one input. -/
def proofPutsWrong : ChangeSpec := { name := "proofPuts", fn := fun _ => fun
  | [d1, d2, d3] => { results := [.lit (.bool false)], args := [d1, d2, d3] }
  | _ => none }
def ProofPutsWrongFalsely : Prop := proofPutsRow.holds Tryd.pinned (OpenSpec.ofChange proofPutsWrong)

/-- 'sequiturlaw38.ProofStays': WHATEVER THE INPUT: true; the input reads as it did. -/
def proofStaysSpec : ChangeSpec := { name := "proofStays", fn := fun _ => fun
  | [d1, d2, d3, d4] => { results := [.lit (.bool true)], args := [d1, d2, d3, d4] }
  | _ => none }
def proofStaysRow : OpenClaim := { program := "ytkecobdhgabknaadoor", sum := "7aa5d7429dcd64adce86690ea8550c9c67100832e7771cc427e9a26a9a76cd8c", func := "sequitur/sequiturlaw38.ProofStays", spec := "proofStays", unfollowed := true, recurses := true, named := ["sequitur/proof.shapes"], loops := true, apart := false, laid := [("sequitur/proof.shapes", laid_sequitur_proof_shapes)] }
def ProofStaysSaid : Prop := proofStaysRow.holds Tryd.pinned (OpenSpec.ofChange proofStaysSpec)

/-- ITS FALSE NEIGHBOUR: 'it returns false'. Refute it at one input. -/
def proofStaysWrong : ChangeSpec := { name := "proofStays", fn := fun _ => fun
  | [d1, d2, d3, d4] => { results := [.lit (.bool false)], args := [d1, d2, d3, d4] }
  | _ => none }
def ProofStaysWrongFalsely : Prop := proofStaysRow.holds Tryd.pinned (OpenSpec.ofChange proofStaysWrong)

/- THE SECOND FORM. 'bulk': how many values and letters a reading holds, each counted each time it is reached (what is shared counts as often as it is met; a slice's spare places count too). A statement '..UptoSaid' is the law's where the arguments, and the package variables that the reading takes, are together of bulk at most 1048576: NARROWER than '..Said'. Prove '..Said' where nothing that the law and all that it calls make is longer than what came in: it says more and counts as full. Else prove '..UptoSaid'. A law counts once. -/
mutual
def uptoBulk {H : Type} : DataW H → Nat
  | .lit (.string bytes) => bytes.length + 1
  | .lit _ => 1
  | .nil => 1
  | .ptr d => uptoBulk d + 1
  | .slice elems spare => uptoBulkAll elems + uptoBulkAll spare + 1
  | .agg parts => uptoBulkAll parts + 1
  | .iface _ d => uptoBulk d + 1
  | .map entries => uptoBulkEntries entries + 1
  | .held _ => 1
def uptoBulkAll {H : Type} : List (DataW H) → Nat
  | [] => 0
  | d :: r => uptoBulk d + uptoBulkAll r
def uptoBulkEntries {H : Type} : List (Lit × DataW H) → Nat
  | [] => 0
  | x :: r => uptoBulkEntry x + uptoBulkEntries r
def uptoBulkEntry {H : Type} : Lit × DataW H → Nat
  | (.string bytes, d) => bytes.length + uptoBulk d + 1
  | (_, d) => uptoBulk d + 1
 end
def uptoSmall : (H : Type) → List (DataW H) → Bool := fun _ ds => decide (uptoBulkAll ds ≤ 1048576)
def OpenSpec.upto (s : _root_.Go.ChangeSpec) : _root_.Go.OpenSpec := { _root_.Go.OpenSpec.ofChange s with cond := some uptoSmall }

/-- 'sequiturlaw38.ProofRight', WHERE WHAT IT READS IS OF BULK AT MOST 1048576: true; the input reads as it did. -/
def proofRightUptoRow : OpenClaim := { program := "ytkecobdhgabknaadoor", sum := "7aa5d7429dcd64adce86690ea8550c9c67100832e7771cc427e9a26a9a76cd8c", func := "sequitur/sequiturlaw38.ProofRight", spec := "proofRight", unfollowed := true, recurses := true, named := ["sequitur/proof.shapes"], loops := true, apart := false, laid := [("sequitur/proof.shapes", laid_sequitur_proof_shapes)], narrowed := true }
def ProofRightUptoSaid : Prop := proofRightUptoRow.holds Tryd.pinned (OpenSpec.upto proofRightSpec)

/-- 'sequiturlaw38.ProofCopies', WHERE WHAT IT READS IS OF BULK AT MOST 1048576: true; the input reads as it did. -/
def proofCopiesUptoRow : OpenClaim := { program := "ytkecobdhgabknaadoor", sum := "7aa5d7429dcd64adce86690ea8550c9c67100832e7771cc427e9a26a9a76cd8c", func := "sequitur/sequiturlaw38.ProofCopies", spec := "proofCopies", unfollowed := true, recurses := true, named := ["sequitur/proof.shapes"], loops := true, apart := false, laid := [("sequitur/proof.shapes", laid_sequitur_proof_shapes)], narrowed := true }
def ProofCopiesUptoSaid : Prop := proofCopiesUptoRow.holds Tryd.pinned (OpenSpec.upto proofCopiesSpec)

/-- 'sequiturlaw38.ProofOpen', WHERE WHAT IT READS IS OF BULK AT MOST 1048576: true; the input reads as it did. -/
def proofOpenUptoRow : OpenClaim := { program := "ytkecobdhgabknaadoor", sum := "7aa5d7429dcd64adce86690ea8550c9c67100832e7771cc427e9a26a9a76cd8c", func := "sequitur/sequiturlaw38.ProofOpen", spec := "proofOpen", unfollowed := true, recurses := true, named := ["sequitur/proof.shapes"], loops := true, apart := false, laid := [("sequitur/proof.shapes", laid_sequitur_proof_shapes)], narrowed := true }
def ProofOpenUptoSaid : Prop := proofOpenUptoRow.holds Tryd.pinned (OpenSpec.upto proofOpenSpec)

/-- 'sequiturlaw38.ProofPuts', WHERE WHAT IT READS IS OF BULK AT MOST 1048576: true; the input reads as it did. -/
def proofPutsUptoRow : OpenClaim := { program := "ytkecobdhgabknaadoor", sum := "7aa5d7429dcd64adce86690ea8550c9c67100832e7771cc427e9a26a9a76cd8c", func := "sequitur/sequiturlaw38.ProofPuts", spec := "proofPuts", unfollowed := true, recurses := true, named := ["sequitur/proof.shapes"], loops := true, apart := false, laid := [("sequitur/proof.shapes", laid_sequitur_proof_shapes)], narrowed := true }
def ProofPutsUptoSaid : Prop := proofPutsUptoRow.holds Tryd.pinned (OpenSpec.upto proofPutsSpec)

/-- 'sequiturlaw38.ProofStays', WHERE WHAT IT READS IS OF BULK AT MOST 1048576: true; the input reads as it did. -/
def proofStaysUptoRow : OpenClaim := { program := "ytkecobdhgabknaadoor", sum := "7aa5d7429dcd64adce86690ea8550c9c67100832e7771cc427e9a26a9a76cd8c", func := "sequitur/sequiturlaw38.ProofStays", spec := "proofStays", unfollowed := true, recurses := true, named := ["sequitur/proof.shapes"], loops := true, apart := false, laid := [("sequitur/proof.shapes", laid_sequitur_proof_shapes)], narrowed := true }
def ProofStaysUptoSaid : Prop := proofStaysUptoRow.holds Tryd.pinned (OpenSpec.upto proofStaysSpec)

end Rows
end Go.Proofs.YtkecobdhgabknaaDoor
