/- TermNames answers true for any such input, and its arguments read as before. No condition beyond the given statement's. -/
import Derived.Test.YtcoonnbkmklenaaLawNames
import Derived.Test.YtcoonnbkmklenaaRowBaseT
namespace Go.Proofs.Ytcoonnbkmklenaa.A
open Go Go.ChangeShapes Go.WideShapes Go.RowKit
set_option linter.unusedVariables false

set_option maxRecDepth 100000 in
theorem liftedTermNames (os : Os) (started : os.Started) (H : Type) (enc : TypeId × Value → H) :
    ReturnsInHanded {} Try.checked os 9 .any (Rows.termNamesSpec.pre6 enc Try.prog Try.f9 Rows.termNamesRow.domain false) (Rows.termNamesSpec.post enc Try.prog Try.f9 false true false false) := by
  refine returnsInHanded_of_change (C := Try.checked) own started (by kernel_rfl) Try.func9
    (ChangeSpec.witness6 (enc := enc) (C := Try.checked) false ⟨#[], #[zeroSlice], []⟩ 8 (by kernel_rfl) (by kernel_rfl) (by kernel_rfl) (by kernel_rfl)) ?_
  intro W base args ds gs before hval hW _ _
  refine contract_args tabOk mixed laid [(22, ATms)] ?_ ?_ rfl rfl Try.underlying4 rfl (fun H ds hd => ?_) (fun avs hf => ?_) H enc W base args ds gs before hval hW (fun g cs h => by cases h)
  · intro q hq
    simp only [List.mem_cons, List.not_mem_nil, or_false] at hq
    rcases hq with rfl
    · exact aTerms
  · intro q hq
    simp only [List.mem_cons, List.not_mem_nil, or_false] at hq
    rcases hq with rfl
    · exact rdTerms
  · match ds, hd with
    | [_], _ => rfl
  · obtain ⟨_, _, rfl, ⟨c0, k0, m0, e0⟩, hf⟩ := fits_cons hf
    obtain rfl := fits_nil hf
    subst e0
    exact ⟨_, law_names c0 k0 m0⟩

theorem termNames_holds : Rows.TermNamesSaid :=
  OpenClaim.holds_of_wide 9 Try.f9 rfl rfl rfl rfl rfl rfl rfl ⟨rfl, rfl, rfl, rfl, rfl⟩ rfl rfl rfl rfl rfl (by kernel_rfl) Try.func9 (by kernel_rfl)
    (of_decide_eq_true (by kernel_rfl)) (by unfold Func.isWrapper; rw [if_neg (by decide +kernel)]; exact ⟨rfl, rfl⟩)
    (fun os started H enc _ => liftedTermNames os started H enc)

end Go.Proofs.Ytcoonnbkmklenaa.A
