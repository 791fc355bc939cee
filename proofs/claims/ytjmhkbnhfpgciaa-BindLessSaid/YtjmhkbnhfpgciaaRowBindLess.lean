/- BindLess answers true for any such input, and its arguments read as before. No condition beyond the given statement's. -/
import Derived.Test.YtjmhkbnhfpgciaaLawBindLess
import Derived.Test.YtjmhkbnhfpgciaaRowBase9
namespace Go.Proofs.Ytjmhkbnhfpgciaa.A
open Go Go.ChangeShapes Go.WideShapes Go.RowKit
set_option linter.unusedVariables false

set_option maxRecDepth 100000 in
theorem liftedBindLess (os : Os) (started : os.Started) (H : Type) (enc : TypeId × Value → H) :
    ReturnsInHanded {} Try.checked os 5 .any (Rows.bindLessSpec.pre6 enc Try.prog Try.f5 Rows.bindLessRow.domain false) (Rows.bindLessSpec.post enc Try.prog Try.f5 false true false false) := by
  refine returnsInHanded_of_change (C := Try.checked) own started (by kernel_rfl) Try.func5
    (ChangeSpec.witness6 (enc := enc) (C := Try.checked) false ⟨#[], #[zeroClaim, zeroTerm], []⟩ 8 (by kernel_rfl) (by kernel_rfl) (by kernel_rfl) (by kernel_rfl)) ?_
  intro W base args ds gs before hval hW _ _
  refine contract_args tabOk mixed laid [(25, ACl), (27, ATm)] ?_ ?_ rfl rfl Try.underlying4 rfl (fun H ds hd => ?_) (fun avs hf => ?_) H enc W base args ds gs before hval hW (fun g cs h => by cases h)
  · intro q hq
    simp only [List.mem_cons, List.not_mem_nil, or_false] at hq
    rcases hq with rfl | rfl
    · exact aClaim
    · exact aTerm
  · intro q hq
    simp only [List.mem_cons, List.not_mem_nil, or_false] at hq
    rcases hq with rfl | rfl
    · exact rdClaim
    · exact rdTerm
  · match ds, hd with
    | [_, _], _ => rfl
  · obtain ⟨_, _, rfl, ⟨c0, k0, e0⟩, hf⟩ := fits_cons hf
    obtain ⟨_, _, rfl, ⟨c1, k1, e1⟩, hf⟩ := fits_cons hf
    obtain rfl := fits_nil hf
    subst e0
    subst e1
    exact ⟨_, law_less c0 c1 k0 k1⟩

theorem bindLess_holds : Rows.BindLessSaid :=
  OpenClaim.holds_of_wide 5 Try.f5 rfl rfl rfl rfl rfl rfl rfl ⟨rfl, rfl, rfl, rfl, rfl⟩ rfl rfl rfl rfl rfl (by kernel_rfl) Try.func5 (by kernel_rfl)
    (of_decide_eq_true (by kernel_rfl)) (by unfold Func.isWrapper; rw [if_neg (by decide +kernel)]; exact ⟨rfl, rfl⟩)
    (fun os started H enc _ => liftedBindLess os started H enc)

end Go.Proofs.Ytjmhkbnhfpgciaa.A
