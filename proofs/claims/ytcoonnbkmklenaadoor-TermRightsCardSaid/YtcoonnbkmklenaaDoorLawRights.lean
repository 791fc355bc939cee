/- TermRights: for any term the law's function answers true, and its argument reads as before, where term.needs reads as the program's text lays it. No other condition. -/
import Derived.Test.YtcoonnbkmklenaaDoorR4
import Derived.Test.YtcoonnbkmklenaaDoorG
namespace Go.Proofs.YtcoonnbkmklenaaDoor.A
open Go
set_option maxRecDepth 10000
set_option linter.unusedSimpArgs false
attribute [-simp] List.all_eq_true put slot_def ld idxA lenOf elems canA app hand

theorem law_rights (t : Tm) (ht : t.ok) : (D T).call 3 [t.av] st0 = some (.bool true, st0) := by
  have sz := fun st => size_eq t ht 20000 st (by omega) (by omega)
  have h1 := fun o ro df => Right_eq t ht o ro df
  have h2 := fun o ro df => rRight_eq t ht o ro df
  have h3 := fun o ro df => Size_eq t ht o ro df
  have h4 := fun o ro df => rSize_eq t ht o ro df
  have h5 := fun o ro df => Depth_eq t ht o ro df
  have h6 := fun o ro df => rDepth_eq t ht o ro df
  simp only [Tm.av] at sz h1 h2 h3 h4 h5 h6
  apply call_by (by exact rfl : T 3 = some _) (by simp)
  intro fr hfr hsl
  have s0 := hsl 0 _ rfl
  simp only [Tm.av] at s0
  by_cases c : 20000 < A.sz t 20000
  · simp -implicitDefEqProofs [hfr, s0, Tm.av, st0, sz, c, goes1]
  · generalize rightP t = r at *
    generalize min (dT t) 65 = md at *
    generalize min (t.all.length : Int) 4097 = ms at *
    simp -implicitDefEqProofs [hfr, s0, Tm.av, st0, sz, c, h1, h2, h3, h4, h5, h6, goes1]

end Go.Proofs.YtcoonnbkmklenaaDoor.A
