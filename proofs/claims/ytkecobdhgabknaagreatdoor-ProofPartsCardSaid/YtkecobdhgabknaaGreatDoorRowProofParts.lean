/- ProofParts, its card: for any such input the law answers true, and its arguments read as before; proof.shapes is tied to the program's text. No condition beyond the given statement's. -/
import Derived.Test.YtkecobdhgabknaaGreatDoorShelf
import Derived.Test.YtkecobdhgabknaaGreatDoorRowBaseI
import Derived.Test.YtkecobdhgabknaaGreatDoorCards
import Derived.Test.YtkecobdhgabknaaGreatDoorTie
import Derived.SevenTiedAt
namespace Go.Proofs.YtkecobdhgabknaaGreatDoor.A
open Go Go.ChangeShapes Go.WideShapes Go.RowKit
set_option linter.unusedVariables false

set_option maxRecDepth 100000 in
theorem liftedProofParts (os : Os) (started : os.Started) (H : Type) (enc : TypeId × Value → H) :
    ReturnsInHanded {} Tryz.checked os 3 .any (fun w args => (Rows.proofPartsSpec.pre enc Tryz.prog Tryz.f3 [] false w args ∧ laidMetH Tryz.prog laidN w) ∧ sizedMet enc Tryz.prog Tryz.f3 (OpenSpec.ofChange Rows.proofPartsSpec) false w args)
      (Rows.proofPartsSpec.post enc Tryz.prog Tryz.f3 false true false false) := by
  refine returnsInHanded_of_change_and (C := Tryz.checked) (X := fun w _ => laidMetH Tryz.prog laidN w) (fun _ _ _ hh h => h.of_heap hh) own started (by kernel_rfl) Tryz.func3
    (ChangeSpec.witness_shaped (enc := enc) (C := Tryz.checked) (os := os) (X := fun w _ => laidMetH Tryz.prog laidN w) false (World.doorLaid Tryz.prog 400 os) #[zeroProof, zeroSlice, zeroInt] 8 rfl (World.shaped_of_RefB (by kernel_rfl) (by kernel_rfl)) (by kernel_rfl) (by kernel_rfl) (by kernel_rfl) (door_met os _)) ?_
  intro W base args ds gs before hval hW _ hS hL _
  refine contract_argsH tabOk mixed laid [(42, APf), (30, AInts), (3, AInt1)] ?_ ?_ rfl rfl Tryz.underlying4 rfl (fun H ds hd => ?_) (fun avs hf => ?_) H enc W base args ds gs before hval hW rfl hS (globOk hL)
  · intro q hq
    simp only [List.mem_cons, List.not_mem_nil, or_false] at hq
    rcases hq with rfl | rfl | rfl
    · exact aProof
    · exact aInts
    · exact aInt
  · intro q hq
    simp only [List.mem_cons, List.not_mem_nil, or_false] at hq
    rcases hq with rfl | rfl | rfl
    · exact rdProof
    · exact rdInts
    · exact rdInt
  · match ds, hd with
    | [_, _, _], _ => rfl
  · obtain ⟨_, _, rfl, ⟨c0, k0, e0⟩, hf⟩ := fits_cons hf
    obtain ⟨_, _, rfl, ⟨c1, k1, e1⟩, hf⟩ := fits_cons hf
    obtain ⟨_, _, rfl, ⟨c2, k2, e2⟩, hf⟩ := fits_cons hf
    obtain rfl := fits_nil hf
    subst e0
    subst e1
    subst e2
    exact ⟨_, law_parts38 c0 c1 c2 k0 k1.2⟩

theorem proofParts_row : Rows.ProofPartsSaid :=
  OpenClaim.holds_of_wide 3 Tryz.f3 rfl rfl rfl rfl rfl rfl rfl ⟨rfl, rfl, rfl, rfl, rfl⟩ rfl rfl rfl rfl rfl (by kernel_rfl) Tryz.func3 (by kernel_rfl)
    (of_decide_eq_true (by kernel_rfl)) (by unfold Func.isWrapper; rw [if_neg (by decide +kernel)]; exact ⟨rfl, rfl⟩)
    (fun os started H enc _ => liftedProofParts os started H enc)

theorem proofParts_holds : Rows.ProofPartsCardSaid :=
  Claim7.holds_tied_plain_at .later [] [.data] true (true, "05d48c6f37d4ccd9bfbbfff030547782f244e1be06fd59dda39f6d66883c3768") false
    proofParts_row (fun _ h => by cases h) (by kernel_rfl) (fun _ h => by cases h) proofParts_row_tie rfl ⟨rfl, rfl⟩ (by kernel_rfl) rfl
    (fun f fn hf hfn => by
      obtain rfl : f = 3 := Option.some.inj ((show Tryz.prog.funcNamed "sequitur/sequiturlaw38.ProofParts" = some 3 by kernel_rfl).symm.trans hf) |>.symm
      obtain rfl : fn = Tryz.f3 := (Option.some.inj (Tryz.func3.symm.trans hfn)).symm
      exact ⟨by kernel_rfl, fun j t ht => by
        rw [show Tryz.f3.params = #[42, 30, 3] from rfl] at ht
        have hm : t ∈ [42, 30, 3] := by simpa using Array.mem_of_getElem? ht
        have hall : ([42, 30, 3].all fun u => !Tryz.prog.wantsStandIn u) = true := by kernel_rfl
        exact (show Tryz.prog.wantsStandIn t = false by simpa using List.all_eq_true.1 hall t hm)⟩)
    (by kernel_rfl)

end Go.Proofs.YtkecobdhgabknaaGreatDoor.A
