/- The page's example, in whatever store. -/
import Derived.Test.YtgabnhmjlhhojaaShift3
import Derived.Test.YtgabnhmjlhhojaaCode
import Derived.KernelRfl
namespace Go.Proofs.Ytgabnhmjlhhojaa.A
open Go

theorem shTab : ∀ n f F, T f = some F → shF n F = F := by
  intro n f F h
  unfold T at h
  split at h
  all_goals first | (cases h; done) | (obtain rfl := Option.some.inj h; rfl)

theorem shGlobs : ∀ g cs n, globs g = some cs → shL n cs = cs := by
  intro g cs n h
  cases h

end Go.Proofs.Ytgabnhmjlhhojaa.A
/- The page's example, in whatever store. -/
namespace Go.Proofs.Ytgabnhmjlhhojaa.A
open Go

theorem goes_k : (orc T 100).call 10 [] ⟨[], 0, []⟩ = some (.bool true, ⟨[], 0, []⟩) := by kernel_rfl
theorem goes_any (o : List Obj) (ro : Nat) (df : List Nat) : (D T).call 10 [] ⟨o, ro, df⟩ = some (.bool true, ⟨o, ro, df⟩) :=
  call_any shTab shGlobs (by exact rfl) rfl (fun _ => rfl) goes_k o ro df

end Go.Proofs.Ytgabnhmjlhhojaa.A
