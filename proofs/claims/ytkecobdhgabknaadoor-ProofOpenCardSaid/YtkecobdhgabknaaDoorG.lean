/- The page's example, in whatever store. -/
import Derived.Test.YtkecobdhgabknaaDoorShift3
import Derived.Test.YtkecobdhgabknaaDoorCode
import Derived.KernelRfl
namespace Go.Proofs.YtkecobdhgabknaaDoor.A
open Go

theorem shTab : ∀ n f F, T f = some F → shF n F = F := by
  intro n f F h
  unfold T at h
  split at h
  all_goals first | (cases h; done) | (obtain rfl := Option.some.inj h; rfl)

theorem shGlobs : ∀ g cs n, globs g = some cs → shL n cs = cs := by
  intro g cs n h
  unfold globs at h
  split at h
  · obtain rfl := Option.some.inj h; rfl
  · cases h

end Go.Proofs.YtkecobdhgabknaaDoor.A
/- The chapter's examples, in whatever store. -/
namespace Go.Proofs.YtkecobdhgabknaaDoor.A
open Go

theorem alive_k : (orc T 60).call 9 [] ⟨[], 0, []⟩ = some (.bool true, ⟨[], 0, []⟩) := by kernel_rfl
theorem alive_any (o : List Obj) (ro : Nat) (df : List Nat) : (D T).call 9 [] ⟨o, ro, df⟩ = some (.bool true, ⟨o, ro, df⟩) :=
  call_any shTab shGlobs (by exact rfl) rfl (fun _ => rfl) alive_k o ro df

end Go.Proofs.YtkecobdhgabknaaDoor.A
