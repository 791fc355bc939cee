/- TermCopies answers true for any term, and its arguments read as before. No condition beyond the given statement's. -/
import Derived.Test.YtcoonnbkmklenaaVLawCopies
import Derived.Test.YtcoonnbkmklenaaVRowBase
namespace Go.Proofs.Ytcoonnbkmklenaa.A
open Go Go.ChangeShapes Go.WideShapes Go.RowKit
set_option linter.unusedVariables false

set_option maxRecDepth 100000 in
theorem liftedCopies (os : Os) (started : os.Started) (H : Type) (enc : TypeId × Value → H) :
    ReturnsInHanded {} Try.checked os 6 .any (Rows.termCopiesSpec.pre6 enc Try.prog Try.f6 Rows.termCopiesRow.domain false) (Rows.termCopiesSpec.post enc Try.prog Try.f6 false true false false) := by
  refine returnsInHanded_of_change (C := Try.checked) own started (by kernel_rfl) Try.func6
    (ChangeSpec.witness6 (enc := enc) (C := Try.checked) false ⟨#[], #[zeroTerm], []⟩ 8 (by kernel_rfl) (by kernel_rfl) (by kernel_rfl) (by kernel_rfl)) ?_
  intro W base args ds gs before hval hW _ _
  refine contract_terms 1 rfl rfl rfl (fun H ds hd => ?_) (fun ts hl hok => ?_) H enc W base args ds gs before hval hW (fun g cs h => by cases h)
  · match ds, hd with
    | [_], _ => rfl
  · match ts, hl, hok with
    | [a], _, hok => exact law_copies a (hok a (by simp))

theorem copies_holds : Rows.TermCopiesSaid :=
  OpenClaim.holds_of_wide 6 Try.f6 rfl rfl rfl rfl rfl rfl rfl ⟨rfl, rfl, rfl, rfl, rfl⟩ rfl rfl rfl rfl rfl (by kernel_rfl) Try.func6 (by kernel_rfl)
    (of_decide_eq_true (by kernel_rfl)) (by unfold Func.isWrapper; rw [if_neg (by decide +kernel)]; exact ⟨rfl, rfl⟩)
    (fun os started H enc _ => liftedCopies os started H enc)

end Go.Proofs.Ytcoonnbkmklenaa.A
