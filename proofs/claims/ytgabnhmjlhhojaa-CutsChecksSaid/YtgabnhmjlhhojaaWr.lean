/- Numbers that fit are not wrapped. -/
import Derived.Test.YtgabnhmjlhhojaaWp
namespace Go.Proofs.Ytgabnhmjlhhojaa.A
open Go

theorem wrap_id {x : Int} (h1 : -9223372036854775808 ≤ x) (h2 : x ≤ 9223372036854775807) : IntKind.i64.wrap x = x := by
  simp [IntKind.wrap, IntKind.signed, IntKind.bits]
  omega

end Go.Proofs.Ytgabnhmjlhhojaa.A
