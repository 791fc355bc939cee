/- The page's example, in whatever store. -/
import Derived.Test.YtgabnhmjlhhojaaShift3
import Derived.Test.YtgabnhmjlhhojaaCode
import Derived.KernelRfl
namespace Go.Proofs.Ytgabnhmjlhhojaa.A
open Go

theorem shTab : ∀ n f F, T f = some F → shF n F = F := by
  intro n f F h
  unfold T at h
  split at h
  all_goals first | (cases h; done) | (obtain rfl := Option.some.inj h; rfl)

theorem shGlobs : ∀ g cs n, globs g = some cs → shL n cs = cs := by
  intro g cs n h
  cases h

end Go.Proofs.Ytgabnhmjlhhojaa.A
