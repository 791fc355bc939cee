/- How numbers of 16 bits are read as arguments. -/
import Derived.Test.YtgabnhmjlhhojaaRowBaseZ
namespace Go.Proofs.Ytgabnhmjlhhojaa.A
open Go Go.ChangeShapes Go.WideShapes Go.RowKit
set_option linter.unusedVariables false

section
variable {P : Program} {H : Type}
theorem rd_u16 {t : TypeId} {k : Nat} (ht : P.underlying t = some (.int .u16)) : RdAt P k t 1 (fun a => ∃ n : Nat, (n : Int) ≤ 65535 ∧ a = [.int .u16 (n : Int)]) := fun H enc W cs x hx => by
  obtain ⟨n, rfl, h1, h2⟩ := read_int ht hx
  have h1' : 0 ≤ n := h1
  have h2' : n ≤ 65535 := h2
  obtain ⟨m, rfl⟩ : ∃ m : Nat, n = (m : Int) := ⟨n.toNat, by omega⟩
  exact ⟨_, ⟨m, h2', rfl⟩, ⟨rfl, fun j y v hy hv => by cases j with | zero => simp at hy hv; subst hy hv; exact .int _ _ | succ j => simp at hy⟩, rfl, by simp [Value.oneCell']⟩
end
theorem rdU16 : Try.prog.readableRec 45 = true ∧ 45 < Try.prog.types.size := ⟨by kernel_rfl, of_decide_eq_true (by kernel_rfl)⟩
def AU16 (a : AV) : Prop := ∃ n : Nat, (n : Int) ≤ 65535 ∧ a = .int .u16 (n : Int)
theorem aU16 : ArgRdW Try.prog 45 AU16 := ((arg_one Try.underlying45 rfl fun _ => rd_u16 Try.underlying45).imp fun a ⟨n, h1, h2⟩ => ⟨n, h1, by simpa using h2⟩).w
def zeroU16 : Value := .int .u16 0

end Go.Proofs.Ytgabnhmjlhhojaa.A
