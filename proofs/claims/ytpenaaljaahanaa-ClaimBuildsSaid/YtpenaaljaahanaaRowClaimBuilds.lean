/- ClaimBuilds answers true for any such input, and its arguments read as before. No condition beyond the given statement's. -/
import Derived.Test.YtpenaaljaahanaaLawClaimBuilds
import Derived.Test.YtpenaaljaahanaaRowBaseC
namespace Go.Proofs.Ytpenaaljaahanaa.A
open Go Go.ChangeShapes Go.WideShapes Go.RowKit
set_option linter.unusedVariables false

set_option maxRecDepth 100000 in
theorem liftedClaimBuilds (os : Os) (started : os.Started) (H : Type) (enc : TypeId × Value → H) :
    ReturnsInHanded {} Try.checked os 4 .any (Rows.claimBuildsSpec.pre6 enc Try.prog Try.f4 Rows.claimBuildsRow.domain false) (Rows.claimBuildsSpec.post enc Try.prog Try.f4 false true false false) := by
  refine returnsInHanded_of_change (C := Try.checked) own started (by kernel_rfl) Try.func4
    (ChangeSpec.witness6 (enc := enc) (C := Try.checked) false ⟨#[], #[zeroSlice, zeroClaim, zeroInt], []⟩ 8 (by kernel_rfl) (by kernel_rfl) (by kernel_rfl) (by kernel_rfl)) ?_
  intro W base args ds gs before hval hW _ _
  refine contract_args tabOk mixed laid [(23, ACls), (25, ACl), (3, AInt)] ?_ ?_ rfl rfl Try.underlying4 rfl (fun H ds hd => ?_) (fun avs hf => ?_) H enc W base args ds gs before hval hW (fun g cs h => by cases h)
  · intro q hq
    simp only [List.mem_cons, List.not_mem_nil, or_false] at hq
    rcases hq with rfl | rfl | rfl
    · exact aClaims
    · exact aClaim
    · exact aInt
  · intro q hq
    simp only [List.mem_cons, List.not_mem_nil, or_false] at hq
    rcases hq with rfl | rfl | rfl
    · exact rdClaims
    · exact rdClaim
    · exact rdInt
  · match ds, hd with
    | [_, _, _], _ => rfl
  · obtain ⟨_, _, rfl, ⟨c0, k0, m0, e0⟩, hf⟩ := fits_cons hf
    obtain ⟨_, _, rfl, ⟨c1, k1, e1⟩, hf⟩ := fits_cons hf
    obtain ⟨_, _, rfl, ⟨c2, e2, k2, m2⟩, hf⟩ := fits_cons hf
    obtain rfl := fits_nil hf
    subst e0
    subst e1
    subst e2
    exact ⟨_, law_cbuilds c0 c1 c2 k0 m0 k1 k2 m2⟩

theorem claimBuilds_holds : Rows.ClaimBuildsSaid :=
  OpenClaim.holds_of_wide 4 Try.f4 rfl rfl rfl rfl rfl rfl rfl ⟨rfl, rfl, rfl, rfl, rfl⟩ rfl rfl rfl rfl rfl (by kernel_rfl) Try.func4 (by kernel_rfl)
    (of_decide_eq_true (by kernel_rfl)) (by unfold Func.isWrapper; rw [if_neg (by decide +kernel)]; exact ⟨rfl, rfl⟩)
    (fun os started H enc _ => liftedClaimBuilds os started H enc)

end Go.Proofs.Ytpenaaljaahanaa.A
