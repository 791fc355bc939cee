/- CutsMore answers true for any such input of bulk at most 1048576, and its arguments read as before. No condition beyond the given statement's. -/
import Derived.Test.YtgabnhmjlhhojaaLawCutsMore
import Derived.Test.YtgabnhmjlhhojaaRowBaseZB
namespace Go.Proofs.Ytgabnhmjlhhojaa.A
open Go Go.ChangeShapes Go.WideShapes Go.RowKit
set_option linter.unusedVariables false

set_option maxRecDepth 100000 in
theorem liftedCutsMore (os : Os) (started : os.Started) (H : Type) (enc : TypeId × Value → H) (F : Stop.Interp) :
    ReturnsInHanded {} Try.checked os 6 .any ((Rows.OpenSpec.upto Rows.cutsMoreSpec).pre6 enc Try.prog Try.f6 Rows.cutsMoreUptoRow.domain false) (((Rows.OpenSpec.upto Rows.cutsMoreSpec).at F).post enc Try.prog Try.f6 false true false false) := by
  refine returnsInHanded_of_cond_sized (C := Try.checked) (s := Rows.OpenSpec.upto Rows.cutsMoreSpec) (k := Rows.uptoSmall) rfl own started (by kernel_rfl) Try.func6
    (OpenSpec.witness (enc := enc) (C := Try.checked) (s := Rows.OpenSpec.upto Rows.cutsMoreSpec) (k := Rows.uptoSmall) rfl false ⟨#[], #[zeroSlice, zeroSlice, zeroCut], []⟩ 8 (by kernel_rfl) (by kernel_rfl) (by kernel_rfl)
      (x := ([.nil, .nil, .agg [.lit (.int .i64 0), .nil, .nil, .lit (.int .i64 0), .agg [.lit (.int .i64 0), .nil], .nil]], [], [])) (by kernel_rfl) rfl (by kernel_rfl)) ?_
  intro W base args ds gs before hval hW _ hk hS _
  refine contract_argsB (s := Rows.cutsMoreSpec) tabOk mixed laid [(36, AIqs), (36, AIqs), (29, ACu)] ?_ ?_ ?_ rfl rfl Try.underlying4 rfl (fun H ds hd => ?_) (fun avs hf hbd => ?_) H enc W base args ds gs before hval hW hk rfl hS (fun g cs h => by cases h)
  · intro q hq
    simp only [List.mem_cons, List.not_mem_nil, or_false] at hq
    rcases hq with rfl | rfl | rfl
    · exact aIqs
    · exact aIqs
    · exact aCut
  · intro q hq
    simp only [List.mem_cons, List.not_mem_nil, or_false] at hq
    rcases hq with rfl | rfl | rfl
    · exact .inl ⟨_, Try.underlying36⟩
    · exact .inl ⟨_, Try.underlying36⟩
    · exact .inr fun a ⟨c, _, e⟩ sz es h => by rw [e] at h; cases h
  · intro q hq
    simp only [List.mem_cons, List.not_mem_nil, or_false] at hq
    rcases hq with rfl | rfl | rfl
    · exact rdIqs
    · exact rdIqs
    · exact rdCut
  · match ds, hd with
    | [_, _, _], _ => rfl
  · obtain ⟨_, _, rfl, ⟨c0, k0, e0⟩, hf⟩ := fits_cons hf
    obtain ⟨_, _, rfl, ⟨c1, k1, e1⟩, hf⟩ := fits_cons hf
    obtain ⟨_, _, rfl, ⟨c2, k2, e2⟩, hf⟩ := fits_cons hf
    obtain rfl := fits_nil hf
    subst e0
    subst e1
    subst e2
    have b0 := hbd _ (by simp) 3 (c0.map iqA) rfl
    have b1 := hbd (.sl 3 (c1.map iqA)) (by simp) 3 (c1.map iqA) rfl
    exact ⟨_, law_more31 c0 c1 c2 k0 k1 k2 (by simpa using b0) (by simpa using b1)⟩

theorem cutsMore_holds : Rows.CutsMoreUptoSaid :=
  OpenClaim.holds_of_cond 6 Try.f6 rfl rfl rfl rfl rfl rfl rfl ⟨rfl, rfl, rfl, rfl, rfl⟩ rfl rfl rfl rfl rfl (by kernel_rfl) Try.func6 (by kernel_rfl)
    (of_decide_eq_true (by kernel_rfl)) (by unfold Func.isWrapper; rw [if_neg (by decide +kernel)]; exact ⟨rfl, rfl⟩)
    (fun os started H enc _ F => liftedCutsMore os started H enc F)

end Go.Proofs.Ytgabnhmjlhhojaa.A
