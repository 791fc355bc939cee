/- CutsRights: for any cut the law's function answers true. No condition beyond the given statement's. -/
import Derived.Test.YtgabnhmjlhhojaaZ5
import Derived.Test.YtgabnhmjlhhojaaG
namespace Go.Proofs.Ytgabnhmjlhhojaa.A
open Go
set_option maxRecDepth 10000
set_option linter.unusedSimpArgs false
set_option linter.unusedVariables false
attribute [-simp] List.all_eq_true put slot_def ld idxA lenOf elems canA app hand slc

theorem law_rights31 (c : Cu) (hok : c.ok) : (D T).call 3 [c.av] st0 = some (.bool true, st0) := by
  have f1 := fun st => weigh_eq c hok 6000 st (by omega) (by omega)
  have al := fun o ro df => goes_any o ro df
  have x1 := cu_take c
  have x2 := cu_can c
  have x3 := culen c
  have x4 := cu_one c
  simp only [Cu.av] at f1
  by_cases k : 6000 < cw c 6000
  · apply call_by (by exact rfl : T 3 = some _) (by simp)
    intro fr hfr hsl
    have s0 := hsl 0 _ rfl
    simp only [Cu.av] at s0
    simp -implicitDefEqProofs [hfr, s0, st0, f1, al, k, x1, x2, x3, x4, get_base0, -getElem?_pos, List.getElem?_cons_zero]
  · have hs : csz c ≤ 1000000 := by have := cw_csz c 6000 (by omega); omega
    have h1 := fun o ro df => cRight_eq c hok hs o ro df
    have h2 := fun o ro df => rRightC_eq c hok hs o ro df
    have h3 := fun o ro df => cSize_eq c hok hs o ro df
    have h4 := fun o ro df => rSize_eq c hok hs o ro df
    have h5 := fun o ro df => cDepth_eq c hok hs o ro df
    have h6 := fun o ro df => rDepth_eq c hok hs o ro df
    generalize (if 1024 < cdp c then (6 : Int) else if 4096 < csz c then 2 else pe c) = E at *
    simp only [Cu.av] at h1 h2 h3 h4 h5 h6
    apply call_by (by exact rfl : T 3 = some _) (by simp)
    intro fr hfr hsl
    have s0 := hsl 0 _ rfl
    simp only [Cu.av] at s0
    simp -implicitDefEqProofs [hfr, s0, st0, f1, al, k, h1, h2, h3, h4, h5, h6, x1, x2, x3, x4, get_base0, -getElem?_pos, List.getElem?_cons_zero]

end Go.Proofs.Ytgabnhmjlhhojaa.A
