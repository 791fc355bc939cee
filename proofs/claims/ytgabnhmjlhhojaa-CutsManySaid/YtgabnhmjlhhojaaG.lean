/- The page's example, in whatever store. -/
import Derived.Test.YtgabnhmjlhhojaaGa
namespace Go.Proofs.Ytgabnhmjlhhojaa.A
open Go

theorem goes_k : (orc T 100).call 10 [] ⟨[], 0, []⟩ = some (.bool true, ⟨[], 0, []⟩) := by kernel_rfl
theorem goes_any (o : List Obj) (ro : Nat) (df : List Nat) : (D T).call 10 [] ⟨o, ro, df⟩ = some (.bool true, ⟨o, ro, df⟩) :=
  call_any shTab shGlobs (by exact rfl) rfl (fun _ => rfl) goes_k o ro df

end Go.Proofs.Ytgabnhmjlhhojaa.A
