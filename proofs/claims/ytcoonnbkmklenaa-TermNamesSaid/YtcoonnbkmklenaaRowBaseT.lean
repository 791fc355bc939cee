/- What the rows over terms and lists of terms share. -/
import Derived.Test.YtcoonnbkmklenaaRowBase
namespace Go.Proofs.Ytcoonnbkmklenaa.A
open Go Go.ChangeShapes Go.WideShapes Go.RowKit
set_option linter.unusedVariables false

theorem rdTerm : Try.prog.readableRec 24 = true ∧ 24 < Try.prog.types.size := ⟨by kernel_rfl, of_decide_eq_true (by kernel_rfl)⟩
theorem rdTerms : Try.prog.readableRec 22 = true ∧ 22 < Try.prog.types.size := ⟨by kernel_rfl, of_decide_eq_true (by kernel_rfl)⟩
theorem aTerm : ArgRd Try.prog 24 ATm := arg_term termT
theorem aTerms : ArgRd Try.prog 22 ATms := arg_terms termT

theorem fits_cons {q : TypeId × (AV → Prop)} {ps : List (TypeId × (AV → Prop))} {avs : List AV} (h : Fits (q :: ps) avs) : ∃ a l, avs = a :: l ∧ q.2 a ∧ Fits ps l := by
  cases avs with
  | nil => exact h.elim
  | cons a l => exact ⟨a, l, rfl, h.1, h.2⟩
theorem fits_nil {avs : List AV} (h : Fits [] avs) : avs = [] := by
  cases avs with
  | nil => rfl
  | cons a l => exact h.elim

def zeroSlice : Value := .slice none 0 0

end Go.Proofs.Ytcoonnbkmklenaa.A
