/- ProofRight, its card: for any such input the law answers true, and its arguments read as before; proof.shapes is tied to the program's text. No condition beyond the given statement's. -/
import Derived.Test.YtcfhomdkchhigaaDoorLawProofRight
import Derived.Test.YtcfhomdkchhigaaDoorRowBaseP
import Derived.Test.YtcfhomdkchhigaaDoorCards
import Derived.Test.YtcfhomdkchhigaaDoorTie
import Derived.SevenTiedAt
namespace Go.Proofs.YtcfhomdkchhigaaDoor.A
open Go Go.ChangeShapes Go.WideShapes Go.RowKit
set_option linter.unusedVariables false

set_option maxRecDepth 100000 in
theorem liftedProofRight (os : Os) (started : os.Started) (H : Type) (enc : TypeId × Value → H) :
    ReturnsInHanded {} Tryd.checked os 3 .any (fun w args => (Rows.proofRightSpec.pre enc Tryd.prog Tryd.f3 [] false w args ∧ laidMetH Tryd.prog laidN w) ∧ sizedMet enc Tryd.prog Tryd.f3 (OpenSpec.ofChange Rows.proofRightSpec) false w args)
      (Rows.proofRightSpec.post enc Tryd.prog Tryd.f3 false true false false) := by
  refine returnsInHanded_of_change_and (C := Tryd.checked) (X := fun w _ => laidMetH Tryd.prog laidN w) (fun _ _ _ hh h => h.of_heap hh) own started (by kernel_rfl) Tryd.func3
    (ChangeSpec.witness_shaped (enc := enc) (C := Tryd.checked) (os := os) (X := fun w _ => laidMetH Tryd.prog laidN w) false (World.doorLaid Tryd.prog 400 os) #[zeroProof] 8 rfl (World.shaped_of_RefB (by kernel_rfl) (by kernel_rfl)) (by kernel_rfl) (by kernel_rfl) (by kernel_rfl) (door_met os _)) ?_
  intro W base args ds gs before hval hW _ hS hL _
  refine contract_argsH tabOk mixed laid [(42, APf)] ?_ ?_ rfl rfl Tryd.underlying4 rfl (fun H ds hd => ?_) (fun avs hf => ?_) H enc W base args ds gs before hval hW rfl hS (globOk hL)
  · intro q hq
    simp only [List.mem_cons, List.not_mem_nil, or_false] at hq
    rcases hq with rfl
    · exact aProof
  · intro q hq
    simp only [List.mem_cons, List.not_mem_nil, or_false] at hq
    rcases hq with rfl
    · exact rdProof
  · match ds, hd with
    | [_], _ => rfl
  · obtain ⟨_, _, rfl, ⟨c0, k0, e0⟩, hf⟩ := fits_cons hf
    obtain rfl := fits_nil hf
    subst e0
    exact ⟨_, law_right38 c0 k0⟩

theorem proofRight_row : Rows.ProofRightSaid :=
  OpenClaim.holds_of_wide 3 Tryd.f3 rfl rfl rfl rfl rfl rfl rfl ⟨rfl, rfl, rfl, rfl, rfl⟩ rfl rfl rfl rfl rfl (by kernel_rfl) Tryd.func3 (by kernel_rfl)
    (of_decide_eq_true (by kernel_rfl)) (by unfold Func.isWrapper; rw [if_neg (by decide +kernel)]; exact ⟨rfl, rfl⟩)
    (fun os started H enc _ => liftedProofRight os started H enc)

theorem proofRight_holds : Rows.ProofRightCardSaid :=
  Claim7.holds_tied_plain_at .later [] [.data] true (true, "847b985bc96fd40f322b909e9d8c26677f49ba184f75d8d3a3697d15bdb1b72e") false
    proofRight_row (fun _ h => by cases h) (by kernel_rfl) (fun _ h => by cases h) proofRight_row_tie rfl ⟨rfl, rfl⟩ (by kernel_rfl) rfl
    (fun f fn hf hfn => by
      obtain rfl : f = 3 := Option.some.inj ((show Tryd.prog.funcNamed "sequitur/sequiturlaw38.ProofRight" = some 3 by kernel_rfl).symm.trans hf) |>.symm
      obtain rfl : fn = Tryd.f3 := (Option.some.inj (Tryd.func3.symm.trans hfn)).symm
      exact ⟨by kernel_rfl, fun j t ht => by
        rw [show Tryd.f3.params = #[42] from rfl] at ht
        have hm : t ∈ [42] := by simpa using Array.mem_of_getElem? ht
        have hall : ([42].all fun u => !Tryd.prog.wantsStandIn u) = true := by kernel_rfl
        exact (show Tryd.prog.wantsStandIn t = false by simpa using List.all_eq_true.1 hall t hm)⟩)
    (by kernel_rfl)

end Go.Proofs.YtcfhomdkchhigaaDoor.A
