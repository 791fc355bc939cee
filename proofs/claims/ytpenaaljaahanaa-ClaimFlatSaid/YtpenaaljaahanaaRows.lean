/-
  NARROWER THAN 'FOR EVERY INPUT', by the rows' own cells (each row's printed sentence says how): ClaimCompares: loops · ClaimBuilds: loops · ClaimOrder: loops · ClaimCopies: loops · ClaimFlat: loops · ClaimGathers: loops.
  DERIVED. THE GIVEN ROWS OF THIS SEAT. 6 by the template 'for every input the law returns true; each argument reads behind the call as it read before'; 0 by the template 'total and deterministic' (their statements: YtpenaaljaahanaaTotals.lean).
  GIVEN WITH THE SEED: the statements are not yours to turn. If you find one false, say at which input.
  Laid BY PROGRAM, IN A SANDBOX (cutbox-rows.mjs): the forced cells as the released guide's own fill.sh prints them over the translation 9bbf0230129f1db1… (all of the seat's roots in one cut). By AI agents, Wed Nov 11 2026. No macro, syntax, notation, axiom, sorry.
-/
import Derived.Test.YtpenaaljaahanaaChecked
import GoSem.Claim
import GoSem.ClaimJoined
import GoSem.ClaimMapViews
import Derived.JoinedTies
import Derived.KernelRfl
namespace Go.Proofs.Ytpenaaljaahanaa
/- THE CELL 'sum', in the pinned program and in every row, IS THE sha256 OF THE DUMP (.gsa) THAT YtpenaaljaahanaaProg.lean LOADS. Nothing in Lean hashes anything: it is a label: what it is worth is what the hold of that sum in a sandbox is worth. -/
noncomputable def Try.pinned : Pinned := { name := "ytpenaaljaahanaa", sum := "9bbf0230129f1db1b264bfb3fdee8413ad2186d62a89edc31901dbb96fb4da6a", checked := Try.checked }
namespace Rows
def none {H : Type} : Left H := { results := [], args := [] }

/-- 'sequiturlaw08.ClaimCompares': WHATEVER THE INPUT: true; the input reads as it did. -/
def claimComparesSpec : ChangeSpec := { name := "claimCompares", fn := fun _ => fun
  | [d1, d2] => { results := [.lit (.bool true)], args := [d1, d2] }
  | _ => none }
def claimComparesRow : OpenClaim := { program := "ytpenaaljaahanaa", sum := "9bbf0230129f1db1b264bfb3fdee8413ad2186d62a89edc31901dbb96fb4da6a", func := "sequitur/sequiturlaw08.ClaimCompares", spec := "claimCompares", unfollowed := true, recurses := true, loops := true, apart := false }
def ClaimComparesSaid : Prop := claimComparesRow.holds Try.pinned (OpenSpec.ofChange claimComparesSpec)

/-- ITS FALSE NEIGHBOUR: 'it returns false'. Refute it at one input. -/
def claimComparesWrong : ChangeSpec := { name := "claimCompares", fn := fun _ => fun
  | [d1, d2] => { results := [.lit (.bool false)], args := [d1, d2] }
  | _ => none }
def ClaimComparesWrongFalsely : Prop := claimComparesRow.holds Try.pinned (OpenSpec.ofChange claimComparesWrong)

/-- 'sequiturlaw08.ClaimBuilds': WHATEVER THE INPUT: true; the input reads as it did. -/
def claimBuildsSpec : ChangeSpec := { name := "claimBuilds", fn := fun _ => fun
  | [d1, d2, d3] => { results := [.lit (.bool true)], args := [d1, d2, d3] }
  | _ => none }
def claimBuildsRow : OpenClaim := { program := "ytpenaaljaahanaa", sum := "9bbf0230129f1db1b264bfb3fdee8413ad2186d62a89edc31901dbb96fb4da6a", func := "sequitur/sequiturlaw08.ClaimBuilds", spec := "claimBuilds", unfollowed := true, recurses := true, loops := true, apart := false }
def ClaimBuildsSaid : Prop := claimBuildsRow.holds Try.pinned (OpenSpec.ofChange claimBuildsSpec)

/-- ITS FALSE NEIGHBOUR: 'it returns false'. Refute it at one input. -/
def claimBuildsWrong : ChangeSpec := { name := "claimBuilds", fn := fun _ => fun
  | [d1, d2, d3] => { results := [.lit (.bool false)], args := [d1, d2, d3] }
  | _ => none }
def ClaimBuildsWrongFalsely : Prop := claimBuildsRow.holds Try.pinned (OpenSpec.ofChange claimBuildsWrong)

/-- 'sequiturlaw08.ClaimOrder': WHATEVER THE INPUT: true; the input reads as it did. -/
def claimOrderSpec : ChangeSpec := { name := "claimOrder", fn := fun _ => fun
  | [d1, d2, d3, d4] => { results := [.lit (.bool true)], args := [d1, d2, d3, d4] }
  | _ => none }
def claimOrderRow : OpenClaim := { program := "ytpenaaljaahanaa", sum := "9bbf0230129f1db1b264bfb3fdee8413ad2186d62a89edc31901dbb96fb4da6a", func := "sequitur/sequiturlaw08.ClaimOrder", spec := "claimOrder", unfollowed := true, recurses := true, loops := true, apart := false }
def ClaimOrderSaid : Prop := claimOrderRow.holds Try.pinned (OpenSpec.ofChange claimOrderSpec)

/-- ITS FALSE NEIGHBOUR: 'it returns false'. Refute it at one input. -/
def claimOrderWrong : ChangeSpec := { name := "claimOrder", fn := fun _ => fun
  | [d1, d2, d3, d4] => { results := [.lit (.bool false)], args := [d1, d2, d3, d4] }
  | _ => none }
def ClaimOrderWrongFalsely : Prop := claimOrderRow.holds Try.pinned (OpenSpec.ofChange claimOrderWrong)

/-- 'sequiturlaw08.ClaimCopies': WHATEVER THE INPUT: true; the input reads as it did. -/
def claimCopiesSpec : ChangeSpec := { name := "claimCopies", fn := fun _ => fun
  | [d] => { results := [.lit (.bool true)], args := [d] }
  | _ => none }
def claimCopiesRow : OpenClaim := { program := "ytpenaaljaahanaa", sum := "9bbf0230129f1db1b264bfb3fdee8413ad2186d62a89edc31901dbb96fb4da6a", func := "sequitur/sequiturlaw08.ClaimCopies", spec := "claimCopies", unfollowed := true, recurses := true, loops := true, apart := false }
def ClaimCopiesSaid : Prop := claimCopiesRow.holds Try.pinned (OpenSpec.ofChange claimCopiesSpec)

/-- ITS FALSE NEIGHBOUR: 'it returns false'. Refute it at one input. -/
def claimCopiesWrong : ChangeSpec := { name := "claimCopies", fn := fun _ => fun
  | [d] => { results := [.lit (.bool false)], args := [d] }
  | _ => none }
def ClaimCopiesWrongFalsely : Prop := claimCopiesRow.holds Try.pinned (OpenSpec.ofChange claimCopiesWrong)

/-- 'sequiturlaw08.ClaimFlat': WHATEVER THE INPUT: true; the input reads as it did. -/
def claimFlatSpec : ChangeSpec := { name := "claimFlat", fn := fun _ => fun
  | [d] => { results := [.lit (.bool true)], args := [d] }
  | _ => none }
def claimFlatRow : OpenClaim := { program := "ytpenaaljaahanaa", sum := "9bbf0230129f1db1b264bfb3fdee8413ad2186d62a89edc31901dbb96fb4da6a", func := "sequitur/sequiturlaw08.ClaimFlat", spec := "claimFlat", unfollowed := true, recurses := true, loops := true, apart := false }
def ClaimFlatSaid : Prop := claimFlatRow.holds Try.pinned (OpenSpec.ofChange claimFlatSpec)

/-- ITS FALSE NEIGHBOUR: 'it returns false'. Refute it at one input. -/
def claimFlatWrong : ChangeSpec := { name := "claimFlat", fn := fun _ => fun
  | [d] => { results := [.lit (.bool false)], args := [d] }
  | _ => none }
def ClaimFlatWrongFalsely : Prop := claimFlatRow.holds Try.pinned (OpenSpec.ofChange claimFlatWrong)

/-- 'sequiturlaw08.ClaimGathers': WHATEVER THE INPUT: true; the input reads as it did. -/
def claimGathersSpec : ChangeSpec := { name := "claimGathers", fn := fun _ => fun
  | [d] => { results := [.lit (.bool true)], args := [d] }
  | _ => none }
def claimGathersRow : OpenClaim := { program := "ytpenaaljaahanaa", sum := "9bbf0230129f1db1b264bfb3fdee8413ad2186d62a89edc31901dbb96fb4da6a", func := "sequitur/sequiturlaw08.ClaimGathers", spec := "claimGathers", unfollowed := true, recurses := true, loops := true, apart := false }
def ClaimGathersSaid : Prop := claimGathersRow.holds Try.pinned (OpenSpec.ofChange claimGathersSpec)

/-- ITS FALSE NEIGHBOUR: 'it returns false'. Refute it at one input. -/
def claimGathersWrong : ChangeSpec := { name := "claimGathers", fn := fun _ => fun
  | [d] => { results := [.lit (.bool false)], args := [d] }
  | _ => none }
def ClaimGathersWrongFalsely : Prop := claimGathersRow.holds Try.pinned (OpenSpec.ofChange claimGathersWrong)

/- THE SECOND FORM. 'bulk': how many values and letters a reading holds, each counted each time it is reached (what is shared counts as often as it is met; a slice's spare places count too). A statement '..UptoSaid' is the law's where the arguments, and the package variables that the reading takes, are together of bulk at most 1048576: NARROWER than '..Said'. Prove '..Said' where nothing that the law and all that it calls make is longer than what came in: it says more and counts as full. Else prove '..UptoSaid'. A law counts once. -/
mutual
def uptoBulk {H : Type} : DataW H → Nat
  | .lit (.string bytes) => bytes.length + 1
  | .lit _ => 1
  | .nil => 1
  | .ptr d => uptoBulk d + 1
  | .slice elems spare => uptoBulkAll elems + uptoBulkAll spare + 1
  | .agg parts => uptoBulkAll parts + 1
  | .iface _ d => uptoBulk d + 1
  | .map entries => uptoBulkEntries entries + 1
  | .held _ => 1
def uptoBulkAll {H : Type} : List (DataW H) → Nat
  | [] => 0
  | d :: r => uptoBulk d + uptoBulkAll r
def uptoBulkEntries {H : Type} : List (Lit × DataW H) → Nat
  | [] => 0
  | x :: r => uptoBulkEntry x + uptoBulkEntries r
def uptoBulkEntry {H : Type} : Lit × DataW H → Nat
  | (.string bytes, d) => bytes.length + uptoBulk d + 1
  | (_, d) => uptoBulk d + 1
 end
def uptoSmall : (H : Type) → List (DataW H) → Bool := fun _ ds => decide (uptoBulkAll ds ≤ 1048576)
def OpenSpec.upto (s : _root_.Go.ChangeSpec) : _root_.Go.OpenSpec := { _root_.Go.OpenSpec.ofChange s with cond := some uptoSmall }

/-- 'sequiturlaw08.ClaimCompares', WHERE WHAT IT READS IS OF BULK AT MOST 1048576: true; the input reads as it did. -/
def claimComparesUptoRow : OpenClaim := { program := "ytpenaaljaahanaa", sum := "9bbf0230129f1db1b264bfb3fdee8413ad2186d62a89edc31901dbb96fb4da6a", func := "sequitur/sequiturlaw08.ClaimCompares", spec := "claimCompares", unfollowed := true, recurses := true, loops := true, apart := false, narrowed := true }
def ClaimComparesUptoSaid : Prop := claimComparesUptoRow.holds Try.pinned (OpenSpec.upto claimComparesSpec)

/-- 'sequiturlaw08.ClaimBuilds', WHERE WHAT IT READS IS OF BULK AT MOST 1048576: true; the input reads as it did. -/
def claimBuildsUptoRow : OpenClaim := { program := "ytpenaaljaahanaa", sum := "9bbf0230129f1db1b264bfb3fdee8413ad2186d62a89edc31901dbb96fb4da6a", func := "sequitur/sequiturlaw08.ClaimBuilds", spec := "claimBuilds", unfollowed := true, recurses := true, loops := true, apart := false, narrowed := true }
def ClaimBuildsUptoSaid : Prop := claimBuildsUptoRow.holds Try.pinned (OpenSpec.upto claimBuildsSpec)

/-- 'sequiturlaw08.ClaimOrder', WHERE WHAT IT READS IS OF BULK AT MOST 1048576: true; the input reads as it did. -/
def claimOrderUptoRow : OpenClaim := { program := "ytpenaaljaahanaa", sum := "9bbf0230129f1db1b264bfb3fdee8413ad2186d62a89edc31901dbb96fb4da6a", func := "sequitur/sequiturlaw08.ClaimOrder", spec := "claimOrder", unfollowed := true, recurses := true, loops := true, apart := false, narrowed := true }
def ClaimOrderUptoSaid : Prop := claimOrderUptoRow.holds Try.pinned (OpenSpec.upto claimOrderSpec)

/-- 'sequiturlaw08.ClaimCopies', WHERE WHAT IT READS IS OF BULK AT MOST 1048576: true; the input reads as it did. -/
def claimCopiesUptoRow : OpenClaim := { program := "ytpenaaljaahanaa", sum := "9bbf0230129f1db1b264bfb3fdee8413ad2186d62a89edc31901dbb96fb4da6a", func := "sequitur/sequiturlaw08.ClaimCopies", spec := "claimCopies", unfollowed := true, recurses := true, loops := true, apart := false, narrowed := true }
def ClaimCopiesUptoSaid : Prop := claimCopiesUptoRow.holds Try.pinned (OpenSpec.upto claimCopiesSpec)

/-- 'sequiturlaw08.ClaimFlat', WHERE WHAT IT READS IS OF BULK AT MOST 1048576: true; the input reads as it did. -/
def claimFlatUptoRow : OpenClaim := { program := "ytpenaaljaahanaa", sum := "9bbf0230129f1db1b264bfb3fdee8413ad2186d62a89edc31901dbb96fb4da6a", func := "sequitur/sequiturlaw08.ClaimFlat", spec := "claimFlat", unfollowed := true, recurses := true, loops := true, apart := false, narrowed := true }
def ClaimFlatUptoSaid : Prop := claimFlatUptoRow.holds Try.pinned (OpenSpec.upto claimFlatSpec)

/-- 'sequiturlaw08.ClaimGathers', WHERE WHAT IT READS IS OF BULK AT MOST 1048576: true; the input reads as it did. -/
def claimGathersUptoRow : OpenClaim := { program := "ytpenaaljaahanaa", sum := "9bbf0230129f1db1b264bfb3fdee8413ad2186d62a89edc31901dbb96fb4da6a", func := "sequitur/sequiturlaw08.ClaimGathers", spec := "claimGathers", unfollowed := true, recurses := true, loops := true, apart := false, narrowed := true }
def ClaimGathersUptoSaid : Prop := claimGathersUptoRow.holds Try.pinned (OpenSpec.upto claimGathersSpec)

end Rows
end Go.Proofs.Ytpenaaljaahanaa
