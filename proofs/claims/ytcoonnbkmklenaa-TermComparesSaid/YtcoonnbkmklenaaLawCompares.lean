/- TermCompares: for any two terms the law's function answers true, and its arguments read as before. No condition beyond the given statement's. -/
import Derived.Test.YtcoonnbkmklenaaS4
import Derived.Test.YtcoonnbkmklenaaP1
import Derived.Test.YtcoonnbkmklenaaG07
import Derived.Test.YtcoonnbkmklenaaTab07
namespace Go.Proofs.Ytcoonnbkmklenaa.A
open Go Go.ChangeShapes Go.WideShapes Go.RowKit
set_option maxRecDepth 10000
set_option linter.unusedSimpArgs false
attribute [-simp] List.all_eq_true

theorem law_compares (a b : Tm) (ha : a.ok) (hb : b.ok) : (D T).call 3 [a.av, b.av] st0 = some (.bool true, st0) := by
  have sa := fun st => size_eq a ha 2000 st (by omega) (by omega)
  have sb := fun st => size_eq b hb 2000 st (by omega) (by omega)
  have hc := fun st => cm_eq a ha b hb st
  have hr := fun st => rc_eq a ha b hb st
  have hs := fun st => same_eq a b ha hb st
  have he := fun st => tm_eq a ha b hb st
  simp only [Tm.av] at sa sb hc hr hs he
  have e1 : rc a b = cm a b := rc_cm a b
  have e2 : tmEq a b = (cm a b == 0) := by
    rw [Bool.eq_iff_iff, beq_iff_eq]
    exact (cm_tm a b).symm
  apply call_eq (by exact rfl : T 3 = some _) (by simp)
  by_cases h1 : 2000 < sz a 2000
  · simp -implicitDefEqProofs [Tm.av, st0, sa, sb, hc, hr, hs, he, h1, e1, e2, goes2]
  · by_cases h2 : 2000 < sz b 2000
    · simp -implicitDefEqProofs [Tm.av, st0, sa, sb, hc, hr, hs, he, h1, h2, e1, e2, goes2]
    · simp -implicitDefEqProofs [Tm.av, st0, sa, sb, hc, hr, hs, he, h1, h2, e1, e2, goes2]

end Go.Proofs.Ytcoonnbkmklenaa.A
