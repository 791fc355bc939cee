/- ClaimRight: for any claim the law's function answers true, and its argument reads as before, where term.needs reads as the program's text lays it. No other condition. -/
import Derived.Test.YtpenaaljaahanaaDoorD6
import Derived.Test.YtpenaaljaahanaaDoorG
namespace Go.Proofs.YtpenaaljaahanaaDoor.A
open Go
set_option maxRecDepth 10000
set_option linter.unusedSimpArgs false
attribute [-simp] List.all_eq_true put slot_def ld idxA lenOf elems canA app hand

theorem law_cright (c : Cl) (hc : c.ok) : (D T).call 3 [c.av] st0 = some (.bool true, st0) := by
  have sb := fun st => big_eq c hc 9000 (by omega) (by omega) st
  have h1 := fun o ro df => cRight_eq c hc o ro df
  have h2 := fun o ro df => crRight_eq c hc o ro df
  have h3 := fun o ro df => cSize_eq c hc o ro df
  have h4 := fun o ro df => crSize_eq c hc o ro df
  have h5 := fun o ro df => cDepth_eq c hc o ro df
  have h6 := fun o ro df => crDepth_eq c hc o ro df
  simp only [Cl.av] at sb h1 h2 h3 h4 h5 h6
  apply call_by (by exact rfl : T 3 = some _) (by simp)
  intro fr hfr hsl
  have s0 := hsl 0 _ rfl
  simp only [Cl.av] at s0
  by_cases k : 9000 < wt c 9000
  · simp -implicitDefEqProofs [hfr, s0, Cl.av, st0, sb, k, alive1]
  · generalize rightC c = r at *
    generalize min (dC c) 65 = md at *
    generalize min (csz c) 4097 = ms at *
    simp -implicitDefEqProofs [hfr, s0, Cl.av, st0, sb, k, h1, h2, h3, h4, h5, h6, alive1]

end Go.Proofs.YtpenaaljaahanaaDoor.A
