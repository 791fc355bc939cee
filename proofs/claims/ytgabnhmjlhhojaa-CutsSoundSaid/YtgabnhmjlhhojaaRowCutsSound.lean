/- CutsSound answers true for any such input, and its arguments read as before. No condition beyond the given statement's. -/
import Derived.Test.YtgabnhmjlhhojaaLawCutsSound
import Derived.Test.YtgabnhmjlhhojaaRowBaseZQ
namespace Go.Proofs.Ytgabnhmjlhhojaa.A
open Go Go.ChangeShapes Go.WideShapes Go.RowKit
set_option linter.unusedVariables false

set_option maxRecDepth 100000 in
theorem liftedCutsSound (os : Os) (started : os.Started) (H : Type) (enc : TypeId × Value → H) :
    ReturnsInHanded {} Try.checked os 7 .any (Rows.cutsSoundSpec.pre6 enc Try.prog Try.f7 Rows.cutsSoundRow.domain false) (Rows.cutsSoundSpec.post enc Try.prog Try.f7 false true false false) := by
  refine handed_sized (C := Try.checked) own started (by kernel_rfl) Try.func7
    (ChangeSpec.witness6 (enc := enc) (C := Try.checked) false ⟨#[], #[zeroSlice, zeroCut, zeroSlice], []⟩ 8 (by kernel_rfl) (by kernel_rfl) (by kernel_rfl) (by kernel_rfl)) ?_
  intro W base args ds gs before hval hW _ hS _
  refine contract_argsH tabOk mixed laid [(36, AIqs), (29, ACu), (23, AInts)] ?_ ?_ rfl rfl Try.underlying4 rfl (fun H ds hd => ?_) (fun avs hf => ?_) H enc W base args ds gs before hval hW rfl hS (fun g cs h => by cases h)
  · intro q hq
    simp only [List.mem_cons, List.not_mem_nil, or_false] at hq
    rcases hq with rfl | rfl | rfl
    · exact aIqs
    · exact aCut
    · exact aI64s
  · intro q hq
    simp only [List.mem_cons, List.not_mem_nil, or_false] at hq
    rcases hq with rfl | rfl | rfl
    · exact rdIqs
    · exact rdCut
    · exact rdI64s
  · match ds, hd with
    | [_, _, _], _ => rfl
  · obtain ⟨_, _, rfl, ⟨c0, k0, e0⟩, hf⟩ := fits_cons hf
    obtain ⟨_, _, rfl, ⟨c1, k1, e1⟩, hf⟩ := fits_cons hf
    obtain ⟨_, _, rfl, ⟨c2, k2, e2⟩, hf⟩ := fits_cons hf
    obtain rfl := fits_nil hf
    subst e0
    subst e1
    subst e2
    exact ⟨_, law_sound31 c0 c1 c2 k0 k1 k2⟩

theorem cutsSound_holds : Rows.CutsSoundSaid :=
  OpenClaim.holds_of_wide 7 Try.f7 rfl rfl rfl rfl rfl rfl rfl ⟨rfl, rfl, rfl, rfl, rfl⟩ rfl rfl rfl rfl rfl (by kernel_rfl) Try.func7 (by kernel_rfl)
    (of_decide_eq_true (by kernel_rfl)) (by unfold Func.isWrapper; rw [if_neg (by decide +kernel)]; exact ⟨rfl, rfl⟩)
    (fun os started H enc _ => liftedCutsSound os started H enc)

end Go.Proofs.Ytgabnhmjlhhojaa.A
