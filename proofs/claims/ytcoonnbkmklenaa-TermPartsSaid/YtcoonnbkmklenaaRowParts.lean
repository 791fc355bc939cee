/- TermParts answers true for any two terms, and its arguments read as before. No condition beyond the given statement's. -/
import Derived.Test.YtcoonnbkmklenaaLawParts
import Derived.Test.YtcoonnbkmklenaaRowBase
namespace Go.Proofs.Ytcoonnbkmklenaa.A
open Go Go.ChangeShapes Go.WideShapes Go.RowKit
set_option linter.unusedVariables false

set_option maxRecDepth 100000 in
theorem liftedParts (os : Os) (started : os.Started) (H : Type) (enc : TypeId × Value → H) :
    ReturnsInHanded {} Try.checked os 5 .any (Rows.termPartsSpec.pre6 enc Try.prog Try.f5 Rows.termPartsRow.domain false) (Rows.termPartsSpec.post enc Try.prog Try.f5 false true false false) := by
  refine returnsInHanded_of_change (C := Try.checked) own started (by kernel_rfl) Try.func5
    (ChangeSpec.witness6 (enc := enc) (C := Try.checked) false ⟨#[], #[zeroTerm, zeroTerm], []⟩ 8 (by kernel_rfl) (by kernel_rfl) (by kernel_rfl) (by kernel_rfl)) ?_
  intro W base args ds gs before hval hW _ _
  refine contract_terms 2 rfl rfl rfl (fun H ds hd => ?_) (fun ts hl hok => ?_) H enc W base args ds gs before hval hW
  · match ds, hd with
    | [_, _], _ => rfl
  · match ts, hl, hok with
    | [a, b], _, hok => exact ⟨_, law_parts a b (hok a (by simp)) (hok b (by simp))⟩

theorem parts_holds : Rows.TermPartsSaid :=
  OpenClaim.holds_of_wide 5 Try.f5 rfl rfl rfl rfl rfl rfl rfl ⟨rfl, rfl, rfl, rfl, rfl⟩ rfl rfl rfl rfl rfl (by kernel_rfl) Try.func5 (by kernel_rfl)
    (of_decide_eq_true (by kernel_rfl)) (by unfold Func.isWrapper; rw [if_neg (by decide +kernel)]; exact ⟨rfl, rfl⟩)
    (fun os started H enc _ => liftedParts os started H enc)

end Go.Proofs.Ytcoonnbkmklenaa.A
