/- ClaimCompares: for any two claims the law's function answers true, and its arguments read as before. No condition beyond the given statement's. -/
import Derived.Test.YtpenaaljaahanaaP6
import Derived.Test.YtpenaaljaahanaaG
namespace Go.Proofs.Ytpenaaljaahanaa.A
open Go
set_option maxRecDepth 10000
set_option linter.unusedSimpArgs false
attribute [-simp] List.all_eq_true put slot_def ld idxA lenOf elems canA app hand

theorem law_ccompares (a b : Cl) (ha : a.ok) (hb : b.ok) : (D T).call 3 [a.av, b.av] st0 = some (.bool true, st0) := by
  have sa := fun st => big_eq a ha 400 (by omega) (by omega) st
  have sb := fun st => big_eq b hb 400 (by omega) (by omega) st
  have h1 := fun st => csame_eq a b ha hb st
  have h2 := fun st => rsame_eq a b ha hb st
  have h3 := fun st => ccm_eq a ha b hb st
  have h4 := fun st => rcc_eq a ha b hb st
  have e : clEq a b = (ccm a b == 0) := by
    rw [Bool.eq_iff_iff, beq_iff_eq]
    exact (ccm_cl a b).symm
  rw [e] at h2
  simp only [Cl.av] at sa sb h1 h2 h3 h4
  apply call_by (by exact rfl : T 3 = some _) (by simp)
  intro fr hfr hsl
  have s0 := hsl 0 _ rfl
  have s1 := hsl 1 _ rfl
  simp only [Cl.av] at s0 s1
  by_cases k1 : 400 < wt a 400
  · simp -implicitDefEqProofs [hfr, s0, s1, Cl.av, st0, sa, k1, alive2]
  · by_cases k2 : 400 < wt b 400
    · simp -implicitDefEqProofs [hfr, s0, s1, Cl.av, st0, sa, sb, k1, k2, alive2]
    · simp -implicitDefEqProofs [hfr, s0, s1, Cl.av, st0, sa, sb, h1, h2, h3, h4, k1, k2, alive2]

end Go.Proofs.Ytpenaaljaahanaa.A
