/- ClaimFlat answers true for any such input, and its arguments read as before. No condition beyond the given statement's. -/
import Derived.Test.YtpenaaljaahanaaLawClaimFlat
import Derived.Test.YtpenaaljaahanaaRowBaseC
namespace Go.Proofs.Ytpenaaljaahanaa.A
open Go Go.ChangeShapes Go.WideShapes Go.RowKit
set_option linter.unusedVariables false

set_option maxRecDepth 100000 in
theorem liftedClaimFlat (os : Os) (started : os.Started) (H : Type) (enc : TypeId × Value → H) :
    ReturnsInHanded {} Try.checked os 7 .any (Rows.claimFlatSpec.pre6 enc Try.prog Try.f7 Rows.claimFlatRow.domain false) (Rows.claimFlatSpec.post enc Try.prog Try.f7 false true false false) := by
  refine returnsInHanded_of_change (C := Try.checked) own started (by kernel_rfl) Try.func7
    (ChangeSpec.witness6 (enc := enc) (C := Try.checked) false ⟨#[], #[zeroSlice], []⟩ 8 (by kernel_rfl) (by kernel_rfl) (by kernel_rfl) (by kernel_rfl)) ?_
  intro W base args ds gs before hval hW _ _
  refine contract_args tabOk mixed laid [(23, ACls)] ?_ ?_ rfl rfl Try.underlying4 rfl (fun H ds hd => ?_) (fun avs hf => ?_) H enc W base args ds gs before hval hW (fun g cs h => by cases h)
  · intro q hq
    simp only [List.mem_cons, List.not_mem_nil, or_false] at hq
    rcases hq with rfl
    · exact aClaims
  · intro q hq
    simp only [List.mem_cons, List.not_mem_nil, or_false] at hq
    rcases hq with rfl
    · exact rdClaims
  · match ds, hd with
    | [_], _ => rfl
  · obtain ⟨_, _, rfl, ⟨c0, k0, m0, e0⟩, hf⟩ := fits_cons hf
    obtain rfl := fits_nil hf
    subst e0
    exact ⟨_, law_cflat c0 k0 m0⟩

theorem claimFlat_holds : Rows.ClaimFlatSaid :=
  OpenClaim.holds_of_wide 7 Try.f7 rfl rfl rfl rfl rfl rfl rfl ⟨rfl, rfl, rfl, rfl, rfl⟩ rfl rfl rfl rfl rfl (by kernel_rfl) Try.func7 (by kernel_rfl)
    (of_decide_eq_true (by kernel_rfl)) (by unfold Func.isWrapper; rw [if_neg (by decide +kernel)]; exact ⟨rfl, rfl⟩)
    (fun os started H enc _ => liftedClaimFlat os started H enc)

end Go.Proofs.Ytpenaaljaahanaa.A
