/- ClaimCompares answers true for any such input, and its arguments read as before. No condition beyond the given statement's. -/
import Derived.Test.YtpenaaljaahanaaLawClaimCompares
import Derived.Test.YtpenaaljaahanaaRowBaseC
namespace Go.Proofs.Ytpenaaljaahanaa.A
open Go Go.ChangeShapes Go.WideShapes Go.RowKit
set_option linter.unusedVariables false

set_option maxRecDepth 100000 in
theorem liftedClaimCompares (os : Os) (started : os.Started) (H : Type) (enc : TypeId × Value → H) :
    ReturnsInHanded {} Try.checked os 3 .any (Rows.claimComparesSpec.pre6 enc Try.prog Try.f3 Rows.claimComparesRow.domain false) (Rows.claimComparesSpec.post enc Try.prog Try.f3 false true false false) := by
  refine returnsInHanded_of_change (C := Try.checked) own started (by kernel_rfl) Try.func3
    (ChangeSpec.witness6 (enc := enc) (C := Try.checked) false ⟨#[], #[zeroClaim, zeroClaim], []⟩ 8 (by kernel_rfl) (by kernel_rfl) (by kernel_rfl) (by kernel_rfl)) ?_
  intro W base args ds gs before hval hW _ _
  refine contract_args tabOk mixed laid [(25, ACl), (25, ACl)] ?_ ?_ rfl rfl Try.underlying4 rfl (fun H ds hd => ?_) (fun avs hf => ?_) H enc W base args ds gs before hval hW (fun g cs h => by cases h)
  · intro q hq
    simp only [List.mem_cons, List.not_mem_nil, or_false] at hq
    rcases hq with rfl | rfl
    · exact aClaim
    · exact aClaim
  · intro q hq
    simp only [List.mem_cons, List.not_mem_nil, or_false] at hq
    rcases hq with rfl | rfl
    · exact rdClaim
    · exact rdClaim
  · match ds, hd with
    | [_, _], _ => rfl
  · match avs, hf with
    | [x0, x1], hf =>
    obtain ⟨⟨c0, k0, e0⟩, ⟨c1, k1, e1⟩, _⟩ := hf
    subst e0
    subst e1
    exact ⟨_, law_ccompares c0 c1 k0 k1⟩

theorem claimCompares_holds : Rows.ClaimComparesSaid :=
  OpenClaim.holds_of_wide 3 Try.f3 rfl rfl rfl rfl rfl rfl rfl ⟨rfl, rfl, rfl, rfl, rfl⟩ rfl rfl rfl rfl rfl (by kernel_rfl) Try.func3 (by kernel_rfl)
    (of_decide_eq_true (by kernel_rfl)) (by unfold Func.isWrapper; rw [if_neg (by decide +kernel)]; exact ⟨rfl, rfl⟩)
    (fun os started H enc _ => liftedClaimCompares os started H enc)

end Go.Proofs.Ytpenaaljaahanaa.A
