/- How lists of numbers, numbers and linear terms are read as arguments. -/
import Derived.Test.YtgabnhmjlhhojaaRowBaseZ
namespace Go.Proofs.Ytgabnhmjlhhojaa.A
open Go Go.ChangeShapes Go.WideShapes Go.RowKit
set_option linter.unusedVariables false

theorem rdInts : Try.prog.readableRec 22 = true ∧ 22 < Try.prog.types.size := ⟨by kernel_rfl, of_decide_eq_true (by kernel_rfl)⟩
theorem aInts : ArgRdW Try.prog 22 AInts := arg_ints Try.underlying22 Try.underlying3 (by kernel_rfl) (of_decide_eq_true (by kernel_rfl))
theorem rdI64s : Try.prog.readableRec 23 = true ∧ 23 < Try.prog.types.size := ⟨by kernel_rfl, of_decide_eq_true (by kernel_rfl)⟩
theorem aI64s : ArgRdW Try.prog 23 AInts := arg_ints Try.underlying23 Try.underlying2 (by kernel_rfl) (of_decide_eq_true (by kernel_rfl))
def zeroSlice : Value := .slice none 0 0
def AInt1 (a : AV) : Prop := ∃ n : Int, inI n ∧ a = .int .i64 n
theorem rdInt : Try.prog.readableRec 3 = true ∧ 3 < Try.prog.types.size := ⟨by kernel_rfl, of_decide_eq_true (by kernel_rfl)⟩
theorem aInt : ArgRdW Try.prog 3 AInt1 := (arg_int Try.underlying3).w.imp fun a ⟨n, h1, h2, h3⟩ => ⟨n, ⟨h2, h3⟩, h1⟩
theorem rdI64 : Try.prog.readableRec 2 = true ∧ 2 < Try.prog.types.size := ⟨by kernel_rfl, of_decide_eq_true (by kernel_rfl)⟩
theorem aI64 : ArgRdW Try.prog 2 AInt1 := (arg_int Try.underlying2).w.imp fun a ⟨n, h1, h2, h3⟩ => ⟨n, ⟨h2, h3⟩, h1⟩
def zeroInt : Value := .int .i64 0
def ALn (a : AV) : Prop := ∃ l : Int × List (Int × Int), (inI l.1 ∧ moL l.2) ∧ a = .agg [.int .i64 l.1, .sl 2 (moA l.2)]
section
variable {P : Program} {tQ tQL tM tML tN tI tIL tJ tJL : TypeId}
theorem arg_lin (K : CutT P tQ tQL tM tML tN tI tIL tJ tJL) : ArgRdW P tN ALn := by
  obtain ⟨_, h, _⟩ := K.stN
  exact (argw_struct h (rd_lin K)).imp fun a ⟨_, h1, k, ms, h2, h3, h4⟩ => ⟨(k, ms), ⟨h2, h3⟩, by rw [h1, h4]⟩
end
theorem rdLin : Try.prog.readableRec 26 = true ∧ 26 < Try.prog.types.size := ⟨by kernel_rfl, of_decide_eq_true (by kernel_rfl)⟩
theorem aLin : ArgRdW Try.prog 26 ALn := arg_lin cutT
def zeroLin : Value := .agg #[.int .i64 0, .slice none 0 0]

end Go.Proofs.Ytgabnhmjlhhojaa.A
