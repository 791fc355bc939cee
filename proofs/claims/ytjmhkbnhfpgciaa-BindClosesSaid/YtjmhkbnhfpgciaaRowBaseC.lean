/- What the rows over claims share. -/
import Derived.Test.YtjmhkbnhfpgciaaTab
import Derived.Test.YtjmhkbnhfpgciaaRead
namespace Go.Proofs.Ytjmhkbnhfpgciaa.A
open Go Go.ChangeShapes Go.WideShapes Go.RowKit
set_option linter.unusedVariables false

theorem own : ownKnob Try.prog.godebug = none := by kernel_rfl
theorem laid : laidOutB Try.prog = true := by kernel_rfl
theorem mixed : Try.prog.follows .mixedOrders = true := by kernel_rfl
theorem termT : TermT Try.prog 27 22 3 2 9 :=
  ⟨⟨_, _, _, _, Try.underlying27, rfl, rfl, rfl, rfl, rfl, rfl, rfl, rfl⟩, Try.underlying22, Try.underlying3, Try.underlying2, Try.underlying9, by kernel_rfl, by kernel_rfl, by kernel_rfl, by kernel_rfl, by kernel_rfl⟩
theorem claimT : ClaimT Try.prog 25 23 27 22 3 2 9 :=
  ⟨termT, ⟨_, Try.underlying25, rfl⟩, Try.underlying23, by kernel_rfl, by kernel_rfl⟩
theorem rdClaim : Try.prog.readableRec 25 = true ∧ 25 < Try.prog.types.size := ⟨by kernel_rfl, of_decide_eq_true (by kernel_rfl)⟩
theorem rdClaims : Try.prog.readableRec 23 = true ∧ 23 < Try.prog.types.size := ⟨by kernel_rfl, of_decide_eq_true (by kernel_rfl)⟩
theorem rdInt : Try.prog.readableRec 3 = true ∧ 3 < Try.prog.types.size := ⟨by kernel_rfl, of_decide_eq_true (by kernel_rfl)⟩
theorem rdStr : Try.prog.readableRec 9 = true ∧ 9 < Try.prog.types.size := ⟨by kernel_rfl, of_decide_eq_true (by kernel_rfl)⟩
theorem aClaim : ArgRd Try.prog 25 ACl := arg_claim claimT
theorem aClaims : ArgRd Try.prog 23 ACls := arg_claims claimT
theorem aInt : ArgRd Try.prog 3 AInt := arg_int Try.underlying3
theorem aStr : ArgRd Try.prog 9 AStr := arg_str Try.underlying9

theorem fits_cons {q : TypeId × (AV → Prop)} {ps : List (TypeId × (AV → Prop))} {avs : List AV} (h : Fits (q :: ps) avs) : ∃ a l, avs = a :: l ∧ q.2 a ∧ Fits ps l := by
  cases avs with
  | nil => exact h.elim
  | cons a l => exact ⟨a, l, rfl, h.1, h.2⟩
theorem fits_nil {avs : List AV} (h : Fits [] avs) : avs = [] := by
  cases avs with
  | nil => rfl
  | cons a l => exact h.elim

def zeroClaim : Value := .agg #[.int .i64 0, .string ⟨#[]⟩, .string ⟨#[]⟩, .slice none 0 0, .slice none 0 0]
def zeroSlice : Value := .slice none 0 0
def zeroInt : Value := .int .i64 0
def zeroStr : Value := .string ⟨#[]⟩

end Go.Proofs.Ytjmhkbnhfpgciaa.A
