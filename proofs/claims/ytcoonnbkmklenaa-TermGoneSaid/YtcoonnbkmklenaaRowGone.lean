/- TermGone answers true for any three terms, and its arguments read as before. No condition beyond the given statement's. -/
import Derived.Test.YtcoonnbkmklenaaLawGone
import Derived.Test.YtcoonnbkmklenaaRowBase
namespace Go.Proofs.Ytcoonnbkmklenaa.A
open Go Go.ChangeShapes Go.WideShapes Go.RowKit
set_option linter.unusedVariables false

set_option maxRecDepth 100000 in
theorem liftedGone (os : Os) (started : os.Started) (H : Type) (enc : TypeId × Value → H) :
    ReturnsInHanded {} Try.checked os 8 .any (Rows.termGoneSpec.pre6 enc Try.prog Try.f8 Rows.termGoneRow.domain false) (Rows.termGoneSpec.post enc Try.prog Try.f8 false true false false) := by
  refine returnsInHanded_of_change (C := Try.checked) own started (by kernel_rfl) Try.func8
    (ChangeSpec.witness6 (enc := enc) (C := Try.checked) false ⟨#[], #[zeroTerm, zeroTerm, zeroTerm], []⟩ 8 (by kernel_rfl) (by kernel_rfl) (by kernel_rfl) (by kernel_rfl)) ?_
  intro W base args ds gs before hval hW _ _
  refine contract_terms 3 rfl rfl rfl (fun H ds hd => ?_) (fun ts hl hok => ?_) H enc W base args ds gs before hval hW
  · match ds, hd with
    | [_, _, _], _ => rfl
  · match ts, hl, hok with
    | [a, b, c], _, hok => exact ⟨_, law_gone a b c (hok a (by simp)) (hok b (by simp)) (hok c (by simp))⟩

theorem gone_holds : Rows.TermGoneSaid :=
  OpenClaim.holds_of_wide 8 Try.f8 rfl rfl rfl rfl rfl rfl rfl ⟨rfl, rfl, rfl, rfl, rfl⟩ rfl rfl rfl rfl rfl (by kernel_rfl) Try.func8 (by kernel_rfl)
    (of_decide_eq_true (by kernel_rfl)) (by unfold Func.isWrapper; rw [if_neg (by decide +kernel)]; exact ⟨rfl, rfl⟩)
    (fun os started H enc _ => liftedGone os started H enc)

end Go.Proofs.Ytcoonnbkmklenaa.A
