/- CutsBuilds answers true for any such input, and its arguments read as before. No condition beyond the given statement's. -/
import Derived.Test.YtgabnhmjlhhojaaLawCutsBuilds
import Derived.Test.YtgabnhmjlhhojaaRowBaseZI
namespace Go.Proofs.Ytgabnhmjlhhojaa.A
open Go Go.ChangeShapes Go.WideShapes Go.RowKit
set_option linter.unusedVariables false

set_option maxRecDepth 100000 in
theorem liftedCutsBuilds (os : Os) (started : os.Started) (H : Type) (enc : TypeId × Value → H) :
    ReturnsInHanded {} Try.checked os 8 .any (Rows.cutsBuildsSpec.pre6 enc Try.prog Try.f8 Rows.cutsBuildsRow.domain false) (Rows.cutsBuildsSpec.post enc Try.prog Try.f8 false true false false) := by
  refine handed_sized (C := Try.checked) own started (by kernel_rfl) Try.func8
    (ChangeSpec.witness6 (enc := enc) (C := Try.checked) false ⟨#[], #[zeroCut, zeroCut, zeroSlice, zeroSlice, zeroInt, zeroLin, zeroInt], []⟩ 8 (by kernel_rfl) (by kernel_rfl) (by kernel_rfl) (by kernel_rfl)) ?_
  intro W base args ds gs before hval hW _ hS _
  refine contract_argsH tabOk mixed laid [(29, ACu), (29, ACu), (22, AInts), (23, AInts), (2, AInt1), (26, ALn), (3, AInt1)] ?_ ?_ rfl rfl Try.underlying4 rfl (fun H ds hd => ?_) (fun avs hf => ?_) H enc W base args ds gs before hval hW rfl hS (fun g cs h => by cases h)
  · intro q hq
    simp only [List.mem_cons, List.not_mem_nil, or_false] at hq
    rcases hq with rfl | rfl | rfl | rfl | rfl | rfl | rfl
    · exact aCut
    · exact aCut
    · exact aInts
    · exact aI64s
    · exact aI64
    · exact aLin
    · exact aInt
  · intro q hq
    simp only [List.mem_cons, List.not_mem_nil, or_false] at hq
    rcases hq with rfl | rfl | rfl | rfl | rfl | rfl | rfl
    · exact rdCut
    · exact rdCut
    · exact rdInts
    · exact rdI64s
    · exact rdI64
    · exact rdLin
    · exact rdInt
  · match ds, hd with
    | [_, _, _, _, _, _, _], _ => rfl
  · obtain ⟨_, _, rfl, ⟨c0, k0, e0⟩, hf⟩ := fits_cons hf
    obtain ⟨_, _, rfl, ⟨c1, k1, e1⟩, hf⟩ := fits_cons hf
    obtain ⟨_, _, rfl, ⟨c2, k2, e2⟩, hf⟩ := fits_cons hf
    obtain ⟨_, _, rfl, ⟨c3, k3, e3⟩, hf⟩ := fits_cons hf
    obtain ⟨_, _, rfl, ⟨c4, k4, e4⟩, hf⟩ := fits_cons hf
    obtain ⟨_, _, rfl, ⟨c5, k5, e5⟩, hf⟩ := fits_cons hf
    obtain ⟨_, _, rfl, ⟨c6, k6, e6⟩, hf⟩ := fits_cons hf
    obtain rfl := fits_nil hf
    subst e0
    subst e1
    subst e2
    subst e3
    subst e4
    subst e5
    subst e6
    exact ⟨_, law_builds31 c0 c1 c2 c3 c4 c5 c6 k0 k1 k2 k3 k4 k5 k6⟩

theorem cutsBuilds_holds : Rows.CutsBuildsSaid :=
  OpenClaim.holds_of_wide 8 Try.f8 rfl rfl rfl rfl rfl rfl rfl ⟨rfl, rfl, rfl, rfl, rfl⟩ rfl rfl rfl rfl rfl (by kernel_rfl) Try.func8 (by kernel_rfl)
    (of_decide_eq_true (by kernel_rfl)) (by unfold Func.isWrapper; rw [if_neg (by decide +kernel)]; exact ⟨rfl, rfl⟩)
    (fun os started H enc _ => liftedCutsBuilds os started H enc)

end Go.Proofs.Ytgabnhmjlhhojaa.A
