/-
  NARROWER THAN 'FOR EVERY INPUT', by the rows' own cells (each row's printed sentence says how): BindOpens: loops · BindBack: loops · BindLess: loops · BindLifts: loops · BindCloses: loops · BindLoose: loops.
  DERIVED. THE GIVEN ROWS OF THIS SEAT. 6 by the template 'for every input the law returns true; each argument reads behind the call as it read before'; 0 by the template 'total and deterministic' (their statements: YtjmhkbnhfpgciaaTotals.lean).
  GIVEN WITH THE SEED: the statements are not yours to turn. If you find one false, say at which input.
  Laid BY PROGRAM, IN A SANDBOX (cutbox-rows.mjs): the forced cells as the released guide's own fill.sh prints them over the translation ef982a88c05e7bce… (all of the seat's roots in one cut). By AI agents, Wed Nov 11 2026. No macro, syntax, notation, axiom, sorry.
-/
import Derived.Test.YtjmhkbnhfpgciaaChecked
import GoSem.Claim
import GoSem.ClaimJoined
import GoSem.ClaimMapViews
import Derived.JoinedTies
import Derived.KernelRfl
namespace Go.Proofs.Ytjmhkbnhfpgciaa
/- THE CELL 'sum', in the pinned program and in every row, IS THE sha256 OF THE DUMP (.gsa) THAT YtjmhkbnhfpgciaaProg.lean LOADS. Nothing in Lean hashes anything: it is a label: what it is worth is what the hold of that sum in a sandbox is worth. -/
noncomputable def Try.pinned : Pinned := { name := "ytjmhkbnhfpgciaa", sum := "ef982a88c05e7bceb42cc6c85d38da05d45cabe5dd81d169dff11d13cc6e17a9", checked := Try.checked }
namespace Rows
def none {H : Type} : Left H := { results := [], args := [] }

/-- 'sequiturlaw09.BindOpens': WHATEVER THE INPUT: true; the input reads as it did. -/
def bindOpensSpec : ChangeSpec := { name := "bindOpens", fn := fun _ => fun
  | [d1, d2] => { results := [.lit (.bool true)], args := [d1, d2] }
  | _ => none }
def bindOpensRow : OpenClaim := { program := "ytjmhkbnhfpgciaa", sum := "ef982a88c05e7bceb42cc6c85d38da05d45cabe5dd81d169dff11d13cc6e17a9", func := "sequitur/sequiturlaw09.BindOpens", spec := "bindOpens", unfollowed := true, recurses := true, loops := true, apart := false }
def BindOpensSaid : Prop := bindOpensRow.holds Try.pinned (OpenSpec.ofChange bindOpensSpec)

/-- ITS FALSE NEIGHBOUR: 'it returns false'. Refute it at one input. -/
def bindOpensWrong : ChangeSpec := { name := "bindOpens", fn := fun _ => fun
  | [d1, d2] => { results := [.lit (.bool false)], args := [d1, d2] }
  | _ => none }
def BindOpensWrongFalsely : Prop := bindOpensRow.holds Try.pinned (OpenSpec.ofChange bindOpensWrong)

/-- 'sequiturlaw09.BindBack': WHATEVER THE INPUT: true; the input reads as it did. -/
def bindBackSpec : ChangeSpec := { name := "bindBack", fn := fun _ => fun
  | [d1, d2] => { results := [.lit (.bool true)], args := [d1, d2] }
  | _ => none }
def bindBackRow : OpenClaim := { program := "ytjmhkbnhfpgciaa", sum := "ef982a88c05e7bceb42cc6c85d38da05d45cabe5dd81d169dff11d13cc6e17a9", func := "sequitur/sequiturlaw09.BindBack", spec := "bindBack", unfollowed := true, recurses := true, loops := true, apart := false }
def BindBackSaid : Prop := bindBackRow.holds Try.pinned (OpenSpec.ofChange bindBackSpec)

/-- ITS FALSE NEIGHBOUR: 'it returns false'. Refute it at one input. -/
def bindBackWrong : ChangeSpec := { name := "bindBack", fn := fun _ => fun
  | [d1, d2] => { results := [.lit (.bool false)], args := [d1, d2] }
  | _ => none }
def BindBackWrongFalsely : Prop := bindBackRow.holds Try.pinned (OpenSpec.ofChange bindBackWrong)

/-- 'sequiturlaw09.BindLess': WHATEVER THE INPUT: true; the input reads as it did. -/
def bindLessSpec : ChangeSpec := { name := "bindLess", fn := fun _ => fun
  | [d1, d2] => { results := [.lit (.bool true)], args := [d1, d2] }
  | _ => none }
def bindLessRow : OpenClaim := { program := "ytjmhkbnhfpgciaa", sum := "ef982a88c05e7bceb42cc6c85d38da05d45cabe5dd81d169dff11d13cc6e17a9", func := "sequitur/sequiturlaw09.BindLess", spec := "bindLess", unfollowed := true, recurses := true, loops := true, apart := false }
def BindLessSaid : Prop := bindLessRow.holds Try.pinned (OpenSpec.ofChange bindLessSpec)

/-- ITS FALSE NEIGHBOUR: 'it returns false'. Refute it at one input. -/
def bindLessWrong : ChangeSpec := { name := "bindLess", fn := fun _ => fun
  | [d1, d2] => { results := [.lit (.bool false)], args := [d1, d2] }
  | _ => none }
def BindLessWrongFalsely : Prop := bindLessRow.holds Try.pinned (OpenSpec.ofChange bindLessWrong)

/-- 'sequiturlaw09.BindLifts': WHATEVER THE INPUT: true; the input reads as it did. -/
def bindLiftsSpec : ChangeSpec := { name := "bindLifts", fn := fun _ => fun
  | [d1, d2, d3] => { results := [.lit (.bool true)], args := [d1, d2, d3] }
  | _ => none }
def bindLiftsRow : OpenClaim := { program := "ytjmhkbnhfpgciaa", sum := "ef982a88c05e7bceb42cc6c85d38da05d45cabe5dd81d169dff11d13cc6e17a9", func := "sequitur/sequiturlaw09.BindLifts", spec := "bindLifts", unfollowed := true, recurses := true, loops := true, apart := false }
def BindLiftsSaid : Prop := bindLiftsRow.holds Try.pinned (OpenSpec.ofChange bindLiftsSpec)

/-- ITS FALSE NEIGHBOUR: 'it returns false'. Refute it at one input. -/
def bindLiftsWrong : ChangeSpec := { name := "bindLifts", fn := fun _ => fun
  | [d1, d2, d3] => { results := [.lit (.bool false)], args := [d1, d2, d3] }
  | _ => none }
def BindLiftsWrongFalsely : Prop := bindLiftsRow.holds Try.pinned (OpenSpec.ofChange bindLiftsWrong)

/-- 'sequiturlaw09.BindCloses': WHATEVER THE INPUT: true; the input reads as it did. -/
def bindClosesSpec : ChangeSpec := { name := "bindCloses", fn := fun _ => fun
  | [d1, d2, d3] => { results := [.lit (.bool true)], args := [d1, d2, d3] }
  | _ => none }
def bindClosesRow : OpenClaim := { program := "ytjmhkbnhfpgciaa", sum := "ef982a88c05e7bceb42cc6c85d38da05d45cabe5dd81d169dff11d13cc6e17a9", func := "sequitur/sequiturlaw09.BindCloses", spec := "bindCloses", unfollowed := true, recurses := true, loops := true, apart := false }
def BindClosesSaid : Prop := bindClosesRow.holds Try.pinned (OpenSpec.ofChange bindClosesSpec)

/-- ITS FALSE NEIGHBOUR: 'it returns false'. Refute it at one input. -/
def bindClosesWrong : ChangeSpec := { name := "bindCloses", fn := fun _ => fun
  | [d1, d2, d3] => { results := [.lit (.bool false)], args := [d1, d2, d3] }
  | _ => none }
def BindClosesWrongFalsely : Prop := bindClosesRow.holds Try.pinned (OpenSpec.ofChange bindClosesWrong)

/-- 'sequiturlaw09.BindLoose': WHATEVER THE INPUT: true; the input reads as it did. -/
def bindLooseSpec : ChangeSpec := { name := "bindLoose", fn := fun _ => fun
  | [d1, d2] => { results := [.lit (.bool true)], args := [d1, d2] }
  | _ => none }
def bindLooseRow : OpenClaim := { program := "ytjmhkbnhfpgciaa", sum := "ef982a88c05e7bceb42cc6c85d38da05d45cabe5dd81d169dff11d13cc6e17a9", func := "sequitur/sequiturlaw09.BindLoose", spec := "bindLoose", unfollowed := true, recurses := true, loops := true, apart := false }
def BindLooseSaid : Prop := bindLooseRow.holds Try.pinned (OpenSpec.ofChange bindLooseSpec)

/-- ITS FALSE NEIGHBOUR: 'it returns false'. Refute it at one input. -/
def bindLooseWrong : ChangeSpec := { name := "bindLoose", fn := fun _ => fun
  | [d1, d2] => { results := [.lit (.bool false)], args := [d1, d2] }
  | _ => none }
def BindLooseWrongFalsely : Prop := bindLooseRow.holds Try.pinned (OpenSpec.ofChange bindLooseWrong)

/- THE SECOND FORM. 'bulk': how many values and letters a reading holds, each counted each time it is reached (what is shared counts as often as it is met; a slice's spare places count too). A statement '..UptoSaid' is the law's where the arguments, and the package variables that the reading takes, are together of bulk at most 1048576: NARROWER than '..Said'. Prove '..Said' where nothing that the law and all that it calls make is longer than what came in: it says more and counts as full. Else prove '..UptoSaid'. A law counts once. -/
mutual
def uptoBulk {H : Type} : DataW H → Nat
  | .lit (.string bytes) => bytes.length + 1
  | .lit _ => 1
  | .nil => 1
  | .ptr d => uptoBulk d + 1
  | .slice elems spare => uptoBulkAll elems + uptoBulkAll spare + 1
  | .agg parts => uptoBulkAll parts + 1
  | .iface _ d => uptoBulk d + 1
  | .map entries => uptoBulkEntries entries + 1
  | .held _ => 1
def uptoBulkAll {H : Type} : List (DataW H) → Nat
  | [] => 0
  | d :: r => uptoBulk d + uptoBulkAll r
def uptoBulkEntries {H : Type} : List (Lit × DataW H) → Nat
  | [] => 0
  | x :: r => uptoBulkEntry x + uptoBulkEntries r
def uptoBulkEntry {H : Type} : Lit × DataW H → Nat
  | (.string bytes, d) => bytes.length + uptoBulk d + 1
  | (_, d) => uptoBulk d + 1
 end
def uptoSmall : (H : Type) → List (DataW H) → Bool := fun _ ds => decide (uptoBulkAll ds ≤ 1048576)
def OpenSpec.upto (s : _root_.Go.ChangeSpec) : _root_.Go.OpenSpec := { _root_.Go.OpenSpec.ofChange s with cond := some uptoSmall }

/-- 'sequiturlaw09.BindOpens', WHERE WHAT IT READS IS OF BULK AT MOST 1048576: true; the input reads as it did. -/
def bindOpensUptoRow : OpenClaim := { program := "ytjmhkbnhfpgciaa", sum := "ef982a88c05e7bceb42cc6c85d38da05d45cabe5dd81d169dff11d13cc6e17a9", func := "sequitur/sequiturlaw09.BindOpens", spec := "bindOpens", unfollowed := true, recurses := true, loops := true, apart := false, narrowed := true }
def BindOpensUptoSaid : Prop := bindOpensUptoRow.holds Try.pinned (OpenSpec.upto bindOpensSpec)

/-- 'sequiturlaw09.BindBack', WHERE WHAT IT READS IS OF BULK AT MOST 1048576: true; the input reads as it did. -/
def bindBackUptoRow : OpenClaim := { program := "ytjmhkbnhfpgciaa", sum := "ef982a88c05e7bceb42cc6c85d38da05d45cabe5dd81d169dff11d13cc6e17a9", func := "sequitur/sequiturlaw09.BindBack", spec := "bindBack", unfollowed := true, recurses := true, loops := true, apart := false, narrowed := true }
def BindBackUptoSaid : Prop := bindBackUptoRow.holds Try.pinned (OpenSpec.upto bindBackSpec)

/-- 'sequiturlaw09.BindLess', WHERE WHAT IT READS IS OF BULK AT MOST 1048576: true; the input reads as it did. -/
def bindLessUptoRow : OpenClaim := { program := "ytjmhkbnhfpgciaa", sum := "ef982a88c05e7bceb42cc6c85d38da05d45cabe5dd81d169dff11d13cc6e17a9", func := "sequitur/sequiturlaw09.BindLess", spec := "bindLess", unfollowed := true, recurses := true, loops := true, apart := false, narrowed := true }
def BindLessUptoSaid : Prop := bindLessUptoRow.holds Try.pinned (OpenSpec.upto bindLessSpec)

/-- 'sequiturlaw09.BindLifts', WHERE WHAT IT READS IS OF BULK AT MOST 1048576: true; the input reads as it did. -/
def bindLiftsUptoRow : OpenClaim := { program := "ytjmhkbnhfpgciaa", sum := "ef982a88c05e7bceb42cc6c85d38da05d45cabe5dd81d169dff11d13cc6e17a9", func := "sequitur/sequiturlaw09.BindLifts", spec := "bindLifts", unfollowed := true, recurses := true, loops := true, apart := false, narrowed := true }
def BindLiftsUptoSaid : Prop := bindLiftsUptoRow.holds Try.pinned (OpenSpec.upto bindLiftsSpec)

/-- 'sequiturlaw09.BindCloses', WHERE WHAT IT READS IS OF BULK AT MOST 1048576: true; the input reads as it did. -/
def bindClosesUptoRow : OpenClaim := { program := "ytjmhkbnhfpgciaa", sum := "ef982a88c05e7bceb42cc6c85d38da05d45cabe5dd81d169dff11d13cc6e17a9", func := "sequitur/sequiturlaw09.BindCloses", spec := "bindCloses", unfollowed := true, recurses := true, loops := true, apart := false, narrowed := true }
def BindClosesUptoSaid : Prop := bindClosesUptoRow.holds Try.pinned (OpenSpec.upto bindClosesSpec)

/-- 'sequiturlaw09.BindLoose', WHERE WHAT IT READS IS OF BULK AT MOST 1048576: true; the input reads as it did. -/
def bindLooseUptoRow : OpenClaim := { program := "ytjmhkbnhfpgciaa", sum := "ef982a88c05e7bceb42cc6c85d38da05d45cabe5dd81d169dff11d13cc6e17a9", func := "sequitur/sequiturlaw09.BindLoose", spec := "bindLoose", unfollowed := true, recurses := true, loops := true, apart := false, narrowed := true }
def BindLooseUptoSaid : Prop := bindLooseUptoRow.holds Try.pinned (OpenSpec.upto bindLooseSpec)

end Rows
end Go.Proofs.Ytjmhkbnhfpgciaa
