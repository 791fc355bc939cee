/- ProofOpen, its card: for any such input the law answers true, and its arguments read as before; proof.shapes is tied to the program's text. No condition beyond the given statement's. -/
import Derived.Test.YtkecobdhgabknaaDoorRowBaseU
import Derived.Test.YtkecobdhgabknaaDoorCards
import Derived.Test.YtkecobdhgabknaaDoorTie
import Derived.SevenTiedAt
namespace Go.Proofs.YtkecobdhgabknaaDoor.A
open Go Go.ChangeShapes Go.WideShapes Go.RowKit
set_option linter.unusedVariables false

set_option maxRecDepth 100000 in
theorem liftedProofOpen (os : Os) (started : os.Started) (H : Type) (enc : TypeId × Value → H) :
    ReturnsInHanded {} Tryd.checked os 5 .any (fun w args => (Rows.proofOpenSpec.pre enc Tryd.prog Tryd.f5 [] false w args ∧ laidMetH Tryd.prog laidN w) ∧ sizedMet enc Tryd.prog Tryd.f5 (OpenSpec.ofChange Rows.proofOpenSpec) false w args)
      (Rows.proofOpenSpec.post enc Tryd.prog Tryd.f5 false true false false) := by
  refine returnsInHanded_of_change_and (C := Tryd.checked) (X := fun w _ => laidMetH Tryd.prog laidN w) (fun _ _ _ hh h => h.of_heap hh) own started (by kernel_rfl) Tryd.func5
    (ChangeSpec.witness_shaped (enc := enc) (C := Tryd.checked) (os := os) (X := fun w _ => laidMetH Tryd.prog laidN w) false (World.doorLaid Tryd.prog 400 os) #[zeroProof, zeroProof, zeroUint] 8 rfl (World.shaped_of_RefB (by kernel_rfl) (by kernel_rfl)) (by kernel_rfl) (by kernel_rfl) (by kernel_rfl) (door_met os _)) ?_
  intro W base args ds gs before hval hW _ hS hL _
  refine contract_argsH tabOk mixed laid [(42, APf), (42, APf), (54, AUint)] ?_ ?_ rfl rfl Tryd.underlying4 rfl (fun H ds hd => ?_) (fun avs hf => ?_) H enc W base args ds gs before hval hW rfl hS (globOk hL)
  · intro q hq
    simp only [List.mem_cons, List.not_mem_nil, or_false] at hq
    rcases hq with rfl | rfl | rfl
    · exact aProof
    · exact aProof
    · exact aUint
  · intro q hq
    simp only [List.mem_cons, List.not_mem_nil, or_false] at hq
    rcases hq with rfl | rfl | rfl
    · exact rdProof
    · exact rdProof
    · exact rdUint
  · match ds, hd with
    | [_, _, _], _ => rfl
  · obtain ⟨_, _, rfl, ⟨c0, k0, e0⟩, hf⟩ := fits_cons hf
    obtain ⟨_, _, rfl, ⟨c1, k1, e1⟩, hf⟩ := fits_cons hf
    obtain ⟨_, _, rfl, ⟨c2, k2, e2⟩, hf⟩ := fits_cons hf
    obtain rfl := fits_nil hf
    subst e0
    subst e1
    subst e2
    exact ⟨_, law_open38 c0 c1 c2 k0 k1 k2⟩

theorem proofOpen_row : Rows.ProofOpenSaid :=
  OpenClaim.holds_of_wide 5 Tryd.f5 rfl rfl rfl rfl rfl rfl rfl ⟨rfl, rfl, rfl, rfl, rfl⟩ rfl rfl rfl rfl rfl (by kernel_rfl) Tryd.func5 (by kernel_rfl)
    (of_decide_eq_true (by kernel_rfl)) (by unfold Func.isWrapper; rw [if_neg (by decide +kernel)]; exact ⟨rfl, rfl⟩)
    (fun os started H enc _ => liftedProofOpen os started H enc)

theorem proofOpen_holds : Rows.ProofOpenCardSaid :=
  Claim7.holds_tied_plain_at .later [] [.data] true (true, "847b985bc96fd40f322b909e9d8c26677f49ba184f75d8d3a3697d15bdb1b72e") false
    proofOpen_row (fun _ h => by cases h) (by kernel_rfl) (fun _ h => by cases h) proofOpen_row_tie rfl ⟨rfl, rfl⟩ (by kernel_rfl) rfl
    (fun f fn hf hfn => by
      obtain rfl : f = 5 := Option.some.inj ((show Tryd.prog.funcNamed "sequitur/sequiturlaw38.ProofOpen" = some 5 by kernel_rfl).symm.trans hf) |>.symm
      obtain rfl : fn = Tryd.f5 := (Option.some.inj (Tryd.func5.symm.trans hfn)).symm
      exact ⟨by kernel_rfl, fun j t ht => by
        rw [show Tryd.f5.params = #[42, 42, 54] from rfl] at ht
        have hm : t ∈ [42, 42, 54] := by simpa using Array.mem_of_getElem? ht
        have hall : ([42, 42, 54].all fun u => !Tryd.prog.wantsStandIn u) = true := by kernel_rfl
        exact (show Tryd.prog.wantsStandIn t = false by simpa using List.all_eq_true.1 hall t hm)⟩)
    (by kernel_rfl)

end Go.Proofs.YtkecobdhgabknaaDoor.A
