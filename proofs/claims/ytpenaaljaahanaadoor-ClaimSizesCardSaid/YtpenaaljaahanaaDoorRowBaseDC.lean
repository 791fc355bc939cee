/- What the rows over claims and a package's variable share. -/
import Derived.Test.YtpenaaljaahanaaDoorRowBaseD
namespace Go.Proofs.YtpenaaljaahanaaDoor.A
open Go Go.ChangeShapes Go.WideShapes Go.RowKit
set_option linter.unusedVariables false

theorem claimT : ClaimT Tryd.prog 25 23 42 22 3 2 9 :=
  ⟨termT, ⟨_, Tryd.underlying25, rfl⟩, Tryd.underlying23, by kernel_rfl, by kernel_rfl⟩
theorem rdClaim : Tryd.prog.readableRec 25 = true ∧ 25 < Tryd.prog.types.size := ⟨by kernel_rfl, of_decide_eq_true (by kernel_rfl)⟩
theorem aClaim : ArgRd Tryd.prog 25 ACl := arg_claim claimT
def zeroClaim : Value := .agg #[.int .i64 0, .string ⟨#[]⟩, .string ⟨#[]⟩, .slice none 0 0, .slice none 0 0]

end Go.Proofs.YtpenaaljaahanaaDoor.A
