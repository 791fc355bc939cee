/-
  NARROWER THAN 'FOR EVERY INPUT', by the rows' own cells (each row's printed sentence says how): TermCompares: loops · TermOrders: loops · TermParts: loops · TermCopies: loops · TermReplaces: loops · TermGone: loops · TermNames: loops.
  DERIVED. THE GIVEN ROWS OF THIS SEAT. 7 by the template 'for every input the law returns true; each argument reads behind the call as it read before'; 0 by the template 'total and deterministic' (their statements: YtcoonnbkmklenaaTotals.lean).
  GIVEN WITH THE SEED: the statements are not yours to turn. If you find one false, say at which input.
  Laid BY PROGRAM, IN A SANDBOX (cutbox-rows.mjs): the forced cells as the released guide's own fill.sh prints them over the translation ee63819b51cc6f9c… (all of the seat's roots in one cut). By AI agents, Wed Nov 11 2026. No macro, syntax, notation, axiom, sorry.
-/
import Derived.Test.YtcoonnbkmklenaaChecked
import GoSem.Claim
import GoSem.ClaimJoined
import GoSem.ClaimMapViews
import Derived.JoinedTies
import Derived.KernelRfl
namespace Go.Proofs.Ytcoonnbkmklenaa
/- THE CELL 'sum', in the pinned program and in every row, IS THE sha256 OF THE DUMP (.gsa) THAT YtcoonnbkmklenaaProg.lean LOADS. Nothing in Lean hashes anything: it is a label: what it is worth is what the hold of that sum in a sandbox is worth. -/
noncomputable def Try.pinned : Pinned := { name := "ytcoonnbkmklenaa", sum := "ee63819b51cc6f9c7a3aa67ad190b97449cafc73eb4ff8dd06c2df23cf1ecef4", checked := Try.checked }
namespace Rows
def none {H : Type} : Left H := { results := [], args := [] }

/-- 'sequiturlaw07.TermCompares': WHATEVER THE INPUT: true; the input reads as it did. -/
def termComparesSpec : ChangeSpec := { name := "termCompares", fn := fun _ => fun
  | [d1, d2] => { results := [.lit (.bool true)], args := [d1, d2] }
  | _ => none }
def termComparesRow : OpenClaim := { program := "ytcoonnbkmklenaa", sum := "ee63819b51cc6f9c7a3aa67ad190b97449cafc73eb4ff8dd06c2df23cf1ecef4", func := "sequitur/sequiturlaw07.TermCompares", spec := "termCompares", unfollowed := true, recurses := true, loops := true, apart := false }
def TermComparesSaid : Prop := termComparesRow.holds Try.pinned (OpenSpec.ofChange termComparesSpec)

/-- ITS FALSE NEIGHBOUR: 'it returns false'. Refute it at one input. -/
def termComparesWrong : ChangeSpec := { name := "termCompares", fn := fun _ => fun
  | [d1, d2] => { results := [.lit (.bool false)], args := [d1, d2] }
  | _ => none }
def TermComparesWrongFalsely : Prop := termComparesRow.holds Try.pinned (OpenSpec.ofChange termComparesWrong)

/-- 'sequiturlaw07.TermOrders': WHATEVER THE INPUT: true; the input reads as it did. -/
def termOrdersSpec : ChangeSpec := { name := "termOrders", fn := fun _ => fun
  | [d1, d2, d3] => { results := [.lit (.bool true)], args := [d1, d2, d3] }
  | _ => none }
def termOrdersRow : OpenClaim := { program := "ytcoonnbkmklenaa", sum := "ee63819b51cc6f9c7a3aa67ad190b97449cafc73eb4ff8dd06c2df23cf1ecef4", func := "sequitur/sequiturlaw07.TermOrders", spec := "termOrders", unfollowed := true, recurses := true, loops := true, apart := false }
def TermOrdersSaid : Prop := termOrdersRow.holds Try.pinned (OpenSpec.ofChange termOrdersSpec)

/-- ITS FALSE NEIGHBOUR: 'it returns false'. Refute it at one input. -/
def termOrdersWrong : ChangeSpec := { name := "termOrders", fn := fun _ => fun
  | [d1, d2, d3] => { results := [.lit (.bool false)], args := [d1, d2, d3] }
  | _ => none }
def TermOrdersWrongFalsely : Prop := termOrdersRow.holds Try.pinned (OpenSpec.ofChange termOrdersWrong)

/-- 'sequiturlaw07.TermParts': WHATEVER THE INPUT: true; the input reads as it did. -/
def termPartsSpec : ChangeSpec := { name := "termParts", fn := fun _ => fun
  | [d1, d2] => { results := [.lit (.bool true)], args := [d1, d2] }
  | _ => none }
def termPartsRow : OpenClaim := { program := "ytcoonnbkmklenaa", sum := "ee63819b51cc6f9c7a3aa67ad190b97449cafc73eb4ff8dd06c2df23cf1ecef4", func := "sequitur/sequiturlaw07.TermParts", spec := "termParts", unfollowed := true, recurses := true, loops := true, apart := false }
def TermPartsSaid : Prop := termPartsRow.holds Try.pinned (OpenSpec.ofChange termPartsSpec)

/-- ITS FALSE NEIGHBOUR: 'it returns false'. Refute it at one input. -/
def termPartsWrong : ChangeSpec := { name := "termParts", fn := fun _ => fun
  | [d1, d2] => { results := [.lit (.bool false)], args := [d1, d2] }
  | _ => none }
def TermPartsWrongFalsely : Prop := termPartsRow.holds Try.pinned (OpenSpec.ofChange termPartsWrong)

/-- 'sequiturlaw07.TermCopies': WHATEVER THE INPUT: true; the input reads as it did. -/
def termCopiesSpec : ChangeSpec := { name := "termCopies", fn := fun _ => fun
  | [d] => { results := [.lit (.bool true)], args := [d] }
  | _ => none }
def termCopiesRow : OpenClaim := { program := "ytcoonnbkmklenaa", sum := "ee63819b51cc6f9c7a3aa67ad190b97449cafc73eb4ff8dd06c2df23cf1ecef4", func := "sequitur/sequiturlaw07.TermCopies", spec := "termCopies", unfollowed := true, recurses := true, loops := true, apart := false }
def TermCopiesSaid : Prop := termCopiesRow.holds Try.pinned (OpenSpec.ofChange termCopiesSpec)

/-- ITS FALSE NEIGHBOUR: 'it returns false'. Refute it at one input. -/
def termCopiesWrong : ChangeSpec := { name := "termCopies", fn := fun _ => fun
  | [d] => { results := [.lit (.bool false)], args := [d] }
  | _ => none }
def TermCopiesWrongFalsely : Prop := termCopiesRow.holds Try.pinned (OpenSpec.ofChange termCopiesWrong)

/-- 'sequiturlaw07.TermReplaces': WHATEVER THE INPUT: true; the input reads as it did. -/
def termReplacesSpec : ChangeSpec := { name := "termReplaces", fn := fun _ => fun
  | [d1, d2, d3] => { results := [.lit (.bool true)], args := [d1, d2, d3] }
  | _ => none }
def termReplacesRow : OpenClaim := { program := "ytcoonnbkmklenaa", sum := "ee63819b51cc6f9c7a3aa67ad190b97449cafc73eb4ff8dd06c2df23cf1ecef4", func := "sequitur/sequiturlaw07.TermReplaces", spec := "termReplaces", unfollowed := true, recurses := true, loops := true, apart := false }
def TermReplacesSaid : Prop := termReplacesRow.holds Try.pinned (OpenSpec.ofChange termReplacesSpec)

/-- ITS FALSE NEIGHBOUR: 'it returns false'. Refute it at one input. -/
def termReplacesWrong : ChangeSpec := { name := "termReplaces", fn := fun _ => fun
  | [d1, d2, d3] => { results := [.lit (.bool false)], args := [d1, d2, d3] }
  | _ => none }
def TermReplacesWrongFalsely : Prop := termReplacesRow.holds Try.pinned (OpenSpec.ofChange termReplacesWrong)

/-- 'sequiturlaw07.TermGone': WHATEVER THE INPUT: true; the input reads as it did. -/
def termGoneSpec : ChangeSpec := { name := "termGone", fn := fun _ => fun
  | [d1, d2, d3] => { results := [.lit (.bool true)], args := [d1, d2, d3] }
  | _ => none }
def termGoneRow : OpenClaim := { program := "ytcoonnbkmklenaa", sum := "ee63819b51cc6f9c7a3aa67ad190b97449cafc73eb4ff8dd06c2df23cf1ecef4", func := "sequitur/sequiturlaw07.TermGone", spec := "termGone", unfollowed := true, recurses := true, loops := true, apart := false }
def TermGoneSaid : Prop := termGoneRow.holds Try.pinned (OpenSpec.ofChange termGoneSpec)

/-- ITS FALSE NEIGHBOUR: 'it returns false'. Refute it at one input. -/
def termGoneWrong : ChangeSpec := { name := "termGone", fn := fun _ => fun
  | [d1, d2, d3] => { results := [.lit (.bool false)], args := [d1, d2, d3] }
  | _ => none }
def TermGoneWrongFalsely : Prop := termGoneRow.holds Try.pinned (OpenSpec.ofChange termGoneWrong)

/-- 'sequiturlaw07.TermNames': WHATEVER THE INPUT: true; the input reads as it did. -/
def termNamesSpec : ChangeSpec := { name := "termNames", fn := fun _ => fun
  | [d] => { results := [.lit (.bool true)], args := [d] }
  | _ => none }
def termNamesRow : OpenClaim := { program := "ytcoonnbkmklenaa", sum := "ee63819b51cc6f9c7a3aa67ad190b97449cafc73eb4ff8dd06c2df23cf1ecef4", func := "sequitur/sequiturlaw07.TermNames", spec := "termNames", unfollowed := true, recurses := true, loops := true, apart := false }
def TermNamesSaid : Prop := termNamesRow.holds Try.pinned (OpenSpec.ofChange termNamesSpec)

/-- ITS FALSE NEIGHBOUR: 'it returns false'. Refute it at one input. -/
def termNamesWrong : ChangeSpec := { name := "termNames", fn := fun _ => fun
  | [d] => { results := [.lit (.bool false)], args := [d] }
  | _ => none }
def TermNamesWrongFalsely : Prop := termNamesRow.holds Try.pinned (OpenSpec.ofChange termNamesWrong)

/- THE SECOND FORM. 'bulk': how many values and letters a reading holds, each counted each time it is reached (what is shared counts as often as it is met; a slice's spare places count too). A statement '..UptoSaid' is the law's where the arguments, and the package variables that the reading takes, are together of bulk at most 1048576: NARROWER than '..Said'. Prove '..Said' where nothing that the law and all that it calls make is longer than what came in: it says more and counts as full. Else prove '..UptoSaid'. A law counts once. -/
mutual
def uptoBulk {H : Type} : DataW H → Nat
  | .lit (.string bytes) => bytes.length + 1
  | .lit _ => 1
  | .nil => 1
  | .ptr d => uptoBulk d + 1
  | .slice elems spare => uptoBulkAll elems + uptoBulkAll spare + 1
  | .agg parts => uptoBulkAll parts + 1
  | .iface _ d => uptoBulk d + 1
  | .map entries => uptoBulkEntries entries + 1
  | .held _ => 1
def uptoBulkAll {H : Type} : List (DataW H) → Nat
  | [] => 0
  | d :: r => uptoBulk d + uptoBulkAll r
def uptoBulkEntries {H : Type} : List (Lit × DataW H) → Nat
  | [] => 0
  | x :: r => uptoBulkEntry x + uptoBulkEntries r
def uptoBulkEntry {H : Type} : Lit × DataW H → Nat
  | (.string bytes, d) => bytes.length + uptoBulk d + 1
  | (_, d) => uptoBulk d + 1
 end
def uptoSmall : (H : Type) → List (DataW H) → Bool := fun _ ds => decide (uptoBulkAll ds ≤ 1048576)
def OpenSpec.upto (s : _root_.Go.ChangeSpec) : _root_.Go.OpenSpec := { _root_.Go.OpenSpec.ofChange s with cond := some uptoSmall }

/-- 'sequiturlaw07.TermCompares', WHERE WHAT IT READS IS OF BULK AT MOST 1048576: true; the input reads as it did. -/
def termComparesUptoRow : OpenClaim := { program := "ytcoonnbkmklenaa", sum := "ee63819b51cc6f9c7a3aa67ad190b97449cafc73eb4ff8dd06c2df23cf1ecef4", func := "sequitur/sequiturlaw07.TermCompares", spec := "termCompares", unfollowed := true, recurses := true, loops := true, apart := false, narrowed := true }
def TermComparesUptoSaid : Prop := termComparesUptoRow.holds Try.pinned (OpenSpec.upto termComparesSpec)

/-- 'sequiturlaw07.TermOrders', WHERE WHAT IT READS IS OF BULK AT MOST 1048576: true; the input reads as it did. -/
def termOrdersUptoRow : OpenClaim := { program := "ytcoonnbkmklenaa", sum := "ee63819b51cc6f9c7a3aa67ad190b97449cafc73eb4ff8dd06c2df23cf1ecef4", func := "sequitur/sequiturlaw07.TermOrders", spec := "termOrders", unfollowed := true, recurses := true, loops := true, apart := false, narrowed := true }
def TermOrdersUptoSaid : Prop := termOrdersUptoRow.holds Try.pinned (OpenSpec.upto termOrdersSpec)

/-- 'sequiturlaw07.TermParts', WHERE WHAT IT READS IS OF BULK AT MOST 1048576: true; the input reads as it did. -/
def termPartsUptoRow : OpenClaim := { program := "ytcoonnbkmklenaa", sum := "ee63819b51cc6f9c7a3aa67ad190b97449cafc73eb4ff8dd06c2df23cf1ecef4", func := "sequitur/sequiturlaw07.TermParts", spec := "termParts", unfollowed := true, recurses := true, loops := true, apart := false, narrowed := true }
def TermPartsUptoSaid : Prop := termPartsUptoRow.holds Try.pinned (OpenSpec.upto termPartsSpec)

/-- 'sequiturlaw07.TermCopies', WHERE WHAT IT READS IS OF BULK AT MOST 1048576: true; the input reads as it did. -/
def termCopiesUptoRow : OpenClaim := { program := "ytcoonnbkmklenaa", sum := "ee63819b51cc6f9c7a3aa67ad190b97449cafc73eb4ff8dd06c2df23cf1ecef4", func := "sequitur/sequiturlaw07.TermCopies", spec := "termCopies", unfollowed := true, recurses := true, loops := true, apart := false, narrowed := true }
def TermCopiesUptoSaid : Prop := termCopiesUptoRow.holds Try.pinned (OpenSpec.upto termCopiesSpec)

/-- 'sequiturlaw07.TermReplaces', WHERE WHAT IT READS IS OF BULK AT MOST 1048576: true; the input reads as it did. -/
def termReplacesUptoRow : OpenClaim := { program := "ytcoonnbkmklenaa", sum := "ee63819b51cc6f9c7a3aa67ad190b97449cafc73eb4ff8dd06c2df23cf1ecef4", func := "sequitur/sequiturlaw07.TermReplaces", spec := "termReplaces", unfollowed := true, recurses := true, loops := true, apart := false, narrowed := true }
def TermReplacesUptoSaid : Prop := termReplacesUptoRow.holds Try.pinned (OpenSpec.upto termReplacesSpec)

/-- 'sequiturlaw07.TermGone', WHERE WHAT IT READS IS OF BULK AT MOST 1048576: true; the input reads as it did. -/
def termGoneUptoRow : OpenClaim := { program := "ytcoonnbkmklenaa", sum := "ee63819b51cc6f9c7a3aa67ad190b97449cafc73eb4ff8dd06c2df23cf1ecef4", func := "sequitur/sequiturlaw07.TermGone", spec := "termGone", unfollowed := true, recurses := true, loops := true, apart := false, narrowed := true }
def TermGoneUptoSaid : Prop := termGoneUptoRow.holds Try.pinned (OpenSpec.upto termGoneSpec)

/-- 'sequiturlaw07.TermNames', WHERE WHAT IT READS IS OF BULK AT MOST 1048576: true; the input reads as it did. -/
def termNamesUptoRow : OpenClaim := { program := "ytcoonnbkmklenaa", sum := "ee63819b51cc6f9c7a3aa67ad190b97449cafc73eb4ff8dd06c2df23cf1ecef4", func := "sequitur/sequiturlaw07.TermNames", spec := "termNames", unfollowed := true, recurses := true, loops := true, apart := false, narrowed := true }
def TermNamesUptoSaid : Prop := termNamesUptoRow.holds Try.pinned (OpenSpec.upto termNamesSpec)

end Rows
end Go.Proofs.Ytcoonnbkmklenaa
