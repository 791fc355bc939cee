/-
  NARROWER THAN 'FOR EVERY INPUT', by the rows' own cells (each row's printed sentence says how): CutsRights: loops · CutsChecks: loops · CutsMore: loops · CutsSound: loops · CutsBuilds: loops.
  DERIVED. THE GIVEN ROWS OF THIS SEAT. 6 by the template 'for every input the law returns true; each argument reads behind the call as it read before'; 0 by the template 'total and deterministic' (their statements: YtgabnhmjlhhojaaTotals.lean).
  GIVEN WITH THE SEED: the statements are not yours to turn. If you find one false, say at which input.
  Laid BY PROGRAM, IN A SANDBOX (cutbox-rows.mjs): the forced cells as the released guide's own fill.sh prints them over the translation 6e3d3ba6ca30549e… (all of the seat's roots in one cut). By AI agents, Wed Nov 11 2026. No macro, syntax, notation, axiom, sorry.
-/
import Derived.Test.YtgabnhmjlhhojaaChecked
import GoSem.Claim
import GoSem.ClaimJoined
import GoSem.ClaimMapViews
import Derived.JoinedTies
import Derived.KernelRfl
namespace Go.Proofs.Ytgabnhmjlhhojaa
/- THE CELL 'sum', in the pinned program and in every row, IS THE sha256 OF THE DUMP (.gsa) THAT YtgabnhmjlhhojaaProg.lean LOADS. Nothing in Lean hashes anything: it is a label: what it is worth is what the hold of that sum in a sandbox is worth. -/
noncomputable def Try.pinned : Pinned := { name := "ytgabnhmjlhhojaa", sum := "6e3d3ba6ca30549e1a73cc38b8b7815e9c0c985f5cf0ce101f3246c78626c671", checked := Try.checked }
namespace Rows
def none {H : Type} : Left H := { results := [], args := [] }

/-- 'sequiturlaw31.CutsRights': WHATEVER THE INPUT: true; the input reads as it did. -/
def cutsRightsSpec : ChangeSpec := { name := "cutsRights", fn := fun _ => fun
  | [d] => { results := [.lit (.bool true)], args := [d] }
  | _ => none }
def cutsRightsRow : OpenClaim := { program := "ytgabnhmjlhhojaa", sum := "6e3d3ba6ca30549e1a73cc38b8b7815e9c0c985f5cf0ce101f3246c78626c671", func := "sequitur/sequiturlaw31.CutsRights", spec := "cutsRights", inPlace := ["math/bits.Add64"], unfollowed := true, recurses := true, loops := true, apart := false }
def CutsRightsSaid : Prop := cutsRightsRow.holds Try.pinned (OpenSpec.ofChange cutsRightsSpec)

/-- ITS FALSE NEIGHBOUR: 'it returns false'. Refute it at one input. -/
def cutsRightsWrong : ChangeSpec := { name := "cutsRights", fn := fun _ => fun
  | [d] => { results := [.lit (.bool false)], args := [d] }
  | _ => none }
def CutsRightsWrongFalsely : Prop := cutsRightsRow.holds Try.pinned (OpenSpec.ofChange cutsRightsWrong)

/-- 'sequiturlaw31.CutsChecks': WHATEVER THE INPUT: true; the input reads as it did. -/
def cutsChecksSpec : ChangeSpec := { name := "cutsChecks", fn := fun _ => fun
  | [d1, d2] => { results := [.lit (.bool true)], args := [d1, d2] }
  | _ => none }
def cutsChecksRow : OpenClaim := { program := "ytgabnhmjlhhojaa", sum := "6e3d3ba6ca30549e1a73cc38b8b7815e9c0c985f5cf0ce101f3246c78626c671", func := "sequitur/sequiturlaw31.CutsChecks", spec := "cutsChecks", inPlace := ["math/bits.Add64"], unfollowed := true, recurses := true, loops := true, apart := false }
def CutsChecksSaid : Prop := cutsChecksRow.holds Try.pinned (OpenSpec.ofChange cutsChecksSpec)

/-- ITS FALSE NEIGHBOUR: 'it returns false'. Refute it at one input. -/
def cutsChecksWrong : ChangeSpec := { name := "cutsChecks", fn := fun _ => fun
  | [d1, d2] => { results := [.lit (.bool false)], args := [d1, d2] }
  | _ => none }
def CutsChecksWrongFalsely : Prop := cutsChecksRow.holds Try.pinned (OpenSpec.ofChange cutsChecksWrong)

/-- 'sequiturlaw31.CutsMany': WHATEVER THE INPUT: true; the input reads as it did. -/
def cutsManySpec : ChangeSpec := { name := "cutsMany", fn := fun _ => fun
  | [d1, d2] => { results := [.lit (.bool true)], args := [d1, d2] }
  | _ => none }
def cutsManyRow : OpenClaim := { program := "ytgabnhmjlhhojaa", sum := "6e3d3ba6ca30549e1a73cc38b8b7815e9c0c985f5cf0ce101f3246c78626c671", func := "sequitur/sequiturlaw31.CutsMany", spec := "cutsMany", inPlace := ["math/bits.Add64"], unfollowed := true, recurses := true, apart := false }
def CutsManySaid : Prop := cutsManyRow.holds Try.pinned (OpenSpec.ofChange cutsManySpec)

/-- ITS FALSE NEIGHBOUR: 'it returns false'. Refute it at one input. -/
def cutsManyWrong : ChangeSpec := { name := "cutsMany", fn := fun _ => fun
  | [d1, d2] => { results := [.lit (.bool false)], args := [d1, d2] }
  | _ => none }
def CutsManyWrongFalsely : Prop := cutsManyRow.holds Try.pinned (OpenSpec.ofChange cutsManyWrong)

/-- 'sequiturlaw31.CutsMore': WHATEVER THE INPUT: true; the input reads as it did. -/
def cutsMoreSpec : ChangeSpec := { name := "cutsMore", fn := fun _ => fun
  | [d1, d2, d3] => { results := [.lit (.bool true)], args := [d1, d2, d3] }
  | _ => none }
def cutsMoreRow : OpenClaim := { program := "ytgabnhmjlhhojaa", sum := "6e3d3ba6ca30549e1a73cc38b8b7815e9c0c985f5cf0ce101f3246c78626c671", func := "sequitur/sequiturlaw31.CutsMore", spec := "cutsMore", inPlace := ["math/bits.Add64"], unfollowed := true, recurses := true, loops := true, apart := false }
def CutsMoreSaid : Prop := cutsMoreRow.holds Try.pinned (OpenSpec.ofChange cutsMoreSpec)

/-- ITS FALSE NEIGHBOUR: 'it returns false'. Refute it at one input. -/
def cutsMoreWrong : ChangeSpec := { name := "cutsMore", fn := fun _ => fun
  | [d1, d2, d3] => { results := [.lit (.bool false)], args := [d1, d2, d3] }
  | _ => none }
def CutsMoreWrongFalsely : Prop := cutsMoreRow.holds Try.pinned (OpenSpec.ofChange cutsMoreWrong)

/-- 'sequiturlaw31.CutsSound': WHATEVER THE INPUT: true; the input reads as it did. -/
def cutsSoundSpec : ChangeSpec := { name := "cutsSound", fn := fun _ => fun
  | [d1, d2, d3] => { results := [.lit (.bool true)], args := [d1, d2, d3] }
  | _ => none }
def cutsSoundRow : OpenClaim := { program := "ytgabnhmjlhhojaa", sum := "6e3d3ba6ca30549e1a73cc38b8b7815e9c0c985f5cf0ce101f3246c78626c671", func := "sequitur/sequiturlaw31.CutsSound", spec := "cutsSound", inPlace := ["math/bits.Add64"], unfollowed := true, recurses := true, loops := true, apart := false }
def CutsSoundSaid : Prop := cutsSoundRow.holds Try.pinned (OpenSpec.ofChange cutsSoundSpec)

/-- ITS FALSE NEIGHBOUR: 'it returns false'. Refute it at one input. -/
def cutsSoundWrong : ChangeSpec := { name := "cutsSound", fn := fun _ => fun
  | [d1, d2, d3] => { results := [.lit (.bool false)], args := [d1, d2, d3] }
  | _ => none }
def CutsSoundWrongFalsely : Prop := cutsSoundRow.holds Try.pinned (OpenSpec.ofChange cutsSoundWrong)

/-- 'sequiturlaw31.CutsBuilds': WHATEVER THE INPUT: true; the input reads as it did. -/
def cutsBuildsSpec : ChangeSpec := { name := "cutsBuilds", fn := fun _ => fun
  | [d1, d2, d3, d4, d5, d6, d7] => { results := [.lit (.bool true)], args := [d1, d2, d3, d4, d5, d6, d7] }
  | _ => none }
def cutsBuildsRow : OpenClaim := { program := "ytgabnhmjlhhojaa", sum := "6e3d3ba6ca30549e1a73cc38b8b7815e9c0c985f5cf0ce101f3246c78626c671", func := "sequitur/sequiturlaw31.CutsBuilds", spec := "cutsBuilds", inPlace := ["math/bits.Add64"], unfollowed := true, recurses := true, loops := true, apart := false }
def CutsBuildsSaid : Prop := cutsBuildsRow.holds Try.pinned (OpenSpec.ofChange cutsBuildsSpec)

/-- ITS FALSE NEIGHBOUR: 'it returns false'. Refute it at one input. -/
def cutsBuildsWrong : ChangeSpec := { name := "cutsBuilds", fn := fun _ => fun
  | [d1, d2, d3, d4, d5, d6, d7] => { results := [.lit (.bool false)], args := [d1, d2, d3, d4, d5, d6, d7] }
  | _ => none }
def CutsBuildsWrongFalsely : Prop := cutsBuildsRow.holds Try.pinned (OpenSpec.ofChange cutsBuildsWrong)

/- THE SECOND FORM. 'bulk': how many values and letters a reading holds, each counted each time it is reached (what is shared counts as often as it is met; a slice's spare places count too). A statement '..UptoSaid' is the law's where the arguments, and the package variables that the reading takes, are together of bulk at most 1048576: NARROWER than '..Said'. Prove '..Said' where nothing that the law and all that it calls make is longer than what came in: it says more and counts as full. Else prove '..UptoSaid'. A law counts once. -/
mutual
def uptoBulk {H : Type} : DataW H → Nat
  | .lit (.string bytes) => bytes.length + 1
  | .lit _ => 1
  | .nil => 1
  | .ptr d => uptoBulk d + 1
  | .slice elems spare => uptoBulkAll elems + uptoBulkAll spare + 1
  | .agg parts => uptoBulkAll parts + 1
  | .iface _ d => uptoBulk d + 1
  | .map entries => uptoBulkEntries entries + 1
  | .held _ => 1
def uptoBulkAll {H : Type} : List (DataW H) → Nat
  | [] => 0
  | d :: r => uptoBulk d + uptoBulkAll r
def uptoBulkEntries {H : Type} : List (Lit × DataW H) → Nat
  | [] => 0
  | x :: r => uptoBulkEntry x + uptoBulkEntries r
def uptoBulkEntry {H : Type} : Lit × DataW H → Nat
  | (.string bytes, d) => bytes.length + uptoBulk d + 1
  | (_, d) => uptoBulk d + 1
 end
def uptoSmall : (H : Type) → List (DataW H) → Bool := fun _ ds => decide (uptoBulkAll ds ≤ 1048576)
def OpenSpec.upto (s : _root_.Go.ChangeSpec) : _root_.Go.OpenSpec := { _root_.Go.OpenSpec.ofChange s with cond := some uptoSmall }

/-- 'sequiturlaw31.CutsRights', WHERE WHAT IT READS IS OF BULK AT MOST 1048576: true; the input reads as it did. -/
def cutsRightsUptoRow : OpenClaim := { program := "ytgabnhmjlhhojaa", sum := "6e3d3ba6ca30549e1a73cc38b8b7815e9c0c985f5cf0ce101f3246c78626c671", func := "sequitur/sequiturlaw31.CutsRights", spec := "cutsRights", inPlace := ["math/bits.Add64"], unfollowed := true, recurses := true, loops := true, apart := false, narrowed := true }
def CutsRightsUptoSaid : Prop := cutsRightsUptoRow.holds Try.pinned (OpenSpec.upto cutsRightsSpec)

/-- 'sequiturlaw31.CutsChecks', WHERE WHAT IT READS IS OF BULK AT MOST 1048576: true; the input reads as it did. -/
def cutsChecksUptoRow : OpenClaim := { program := "ytgabnhmjlhhojaa", sum := "6e3d3ba6ca30549e1a73cc38b8b7815e9c0c985f5cf0ce101f3246c78626c671", func := "sequitur/sequiturlaw31.CutsChecks", spec := "cutsChecks", inPlace := ["math/bits.Add64"], unfollowed := true, recurses := true, loops := true, apart := false, narrowed := true }
def CutsChecksUptoSaid : Prop := cutsChecksUptoRow.holds Try.pinned (OpenSpec.upto cutsChecksSpec)

/-- 'sequiturlaw31.CutsMany', WHERE WHAT IT READS IS OF BULK AT MOST 1048576: true; the input reads as it did. -/
def cutsManyUptoRow : OpenClaim := { program := "ytgabnhmjlhhojaa", sum := "6e3d3ba6ca30549e1a73cc38b8b7815e9c0c985f5cf0ce101f3246c78626c671", func := "sequitur/sequiturlaw31.CutsMany", spec := "cutsMany", inPlace := ["math/bits.Add64"], unfollowed := true, recurses := true, apart := false, narrowed := true }
def CutsManyUptoSaid : Prop := cutsManyUptoRow.holds Try.pinned (OpenSpec.upto cutsManySpec)

/-- 'sequiturlaw31.CutsMore', WHERE WHAT IT READS IS OF BULK AT MOST 1048576: true; the input reads as it did. -/
def cutsMoreUptoRow : OpenClaim := { program := "ytgabnhmjlhhojaa", sum := "6e3d3ba6ca30549e1a73cc38b8b7815e9c0c985f5cf0ce101f3246c78626c671", func := "sequitur/sequiturlaw31.CutsMore", spec := "cutsMore", inPlace := ["math/bits.Add64"], unfollowed := true, recurses := true, loops := true, apart := false, narrowed := true }
def CutsMoreUptoSaid : Prop := cutsMoreUptoRow.holds Try.pinned (OpenSpec.upto cutsMoreSpec)

/-- 'sequiturlaw31.CutsSound', WHERE WHAT IT READS IS OF BULK AT MOST 1048576: true; the input reads as it did. -/
def cutsSoundUptoRow : OpenClaim := { program := "ytgabnhmjlhhojaa", sum := "6e3d3ba6ca30549e1a73cc38b8b7815e9c0c985f5cf0ce101f3246c78626c671", func := "sequitur/sequiturlaw31.CutsSound", spec := "cutsSound", inPlace := ["math/bits.Add64"], unfollowed := true, recurses := true, loops := true, apart := false, narrowed := true }
def CutsSoundUptoSaid : Prop := cutsSoundUptoRow.holds Try.pinned (OpenSpec.upto cutsSoundSpec)

/-- 'sequiturlaw31.CutsBuilds', WHERE WHAT IT READS IS OF BULK AT MOST 1048576: true; the input reads as it did. -/
def cutsBuildsUptoRow : OpenClaim := { program := "ytgabnhmjlhhojaa", sum := "6e3d3ba6ca30549e1a73cc38b8b7815e9c0c985f5cf0ce101f3246c78626c671", func := "sequitur/sequiturlaw31.CutsBuilds", spec := "cutsBuilds", inPlace := ["math/bits.Add64"], unfollowed := true, recurses := true, loops := true, apart := false, narrowed := true }
def CutsBuildsUptoSaid : Prop := cutsBuildsUptoRow.holds Try.pinned (OpenSpec.upto cutsBuildsSpec)

end Rows
end Go.Proofs.Ytgabnhmjlhhojaa
