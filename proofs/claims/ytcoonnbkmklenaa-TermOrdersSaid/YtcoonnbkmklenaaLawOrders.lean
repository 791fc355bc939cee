/- TermOrders: for any three terms the law's function answers true, and its arguments read as before. No condition beyond the given statement's. -/
import Derived.Test.YtcoonnbkmklenaaS2
import Derived.Test.YtcoonnbkmklenaaWp2
import Derived.Test.YtcoonnbkmklenaaS5
import Derived.Test.YtcoonnbkmklenaaFlat
import Derived.Test.YtcoonnbkmklenaaP3
import Derived.Test.YtcoonnbkmklenaaG07
import Derived.Test.YtcoonnbkmklenaaTab07
namespace Go.Proofs.Ytcoonnbkmklenaa.A
open Go Go.ChangeShapes Go.WideShapes Go.RowKit
set_option maxRecDepth 10000
set_option linter.unusedSimpArgs false
attribute [-simp] List.all_eq_true put slot_def

set_option maxHeartbeats 2000000 in
theorem law_orders (a b c : Tm) (ha : a.ok) (hb : b.ok) (hc : c.ok) : (D T).call 4 [a.av, b.av, c.av] st0 = some (.bool true, st0) := by
  have sm := fun st => small_eq [a, b, c] (by simp [maxLen]) (by simp [ha, hb, hc]) st
  have hab := fun st => cm_eq a ha b hb st
  have hba := fun st => cm_eq b hb a ha st
  have hbc := fun st => cm_eq b hb c hc st
  have hac := fun st => cm_eq a ha c hc st
  have haa := fun st => cm_eq a ha a ha st
  have hs := fun st => same_eq a b ha hb st
  simp only [Tm.av, List.map_cons, List.map_nil] at sm hab hba hbc hac haa hs
  have e1 := cm_neg b a
  have e2 := cm_self a
  obtain ⟨r1, r2⟩ := cm_rng a b
  obtain ⟨r3, r4⟩ := cm_rng b c
  obtain ⟨r5, r6⟩ := cm_rng a c
  have tr := cm_tr a b c
  unfold Tr at tr
  rw [e1] at hba
  generalize cm a b = x at *
  generalize cm b c = y at *
  generalize cm a c = z at *
  rw [e2] at haa
  have w : IntKind.i64.wrap x = x := wrap_id (by omega) (by omega)
  have n1 : ¬ x < -1 := by omega
  have n2 : ¬ 1 < x := by omega
  apply call_by (by exact rfl : T 4 = some _) (by simp)
  intro fr hfr hsl
  have s0 := hsl 0 _ rfl
  have s1 := hsl 1 _ rfl
  have s2 := hsl 2 _ rfl
  simp only [Tm.av] at s0 s1 s2
  cases h : smallL [a, b, c] with
  | false => simp -implicitDefEqProofs [hfr, s0, s1, s2, Tm.av, st0, sm, h, goes3]
  | true =>
    by_cases hx : 0 < x
    · have x0 : ¬ x = 0 := by omega
      simp -implicitDefEqProofs [hfr, s0, s1, s2, Tm.av, st0, sm, h, hab, hba, hbc, hac, haa, hs, w, n1, n2, hx, x0, goes3]
    · by_cases hy : 0 < y
      · simp -implicitDefEqProofs [hfr, s0, s1, s2, Tm.av, st0, sm, h, hab, hba, hbc, hac, haa, hs, w, n1, n2, hx, hy, goes3]
      · obtain ⟨t1, t2⟩ := tr (by omega) (by omega)
        by_cases x0 : x = 0
        · subst x0
          have w0 : IntKind.i64.wrap 0 = 0 := wrap_id (by omega) (by omega)
          by_cases y0 : y = 0
          · have z0 : z = 0 := t2.2 ⟨rfl, y0⟩
            subst y0 z0
            simp -implicitDefEqProofs [hfr, s0, s1, s2, Tm.av, st0, sm, h, hab, hba, hbc, hac, haa, hs, w0, goes3]
          · have z0 : ¬ z = 0 := fun q => y0 (t2.1 q).2
            have yb : (y == 0) = false := by simpa using y0
            have zb : (z == 0) = false := by simpa using z0
            simp -implicitDefEqProofs [hfr, s0, s1, s2, Tm.av, st0, sm, h, hab, hba, hbc, hac, haa, hs, w0, hy, t1, y0, z0, yb, zb, goes3]
        · have z0 : ¬ z = 0 := fun q => x0 (t2.1 q).1
          have xb : (x == 0) = false := by simpa using x0
          have zb : (z == 0) = false := by simpa using z0
          simp -implicitDefEqProofs [hfr, s0, s1, s2, Tm.av, st0, sm, h, hab, hba, hbc, hac, haa, hs, w, n1, n2, hx, hy, t1, x0, z0, xb, zb, goes3]

end Go.Proofs.Ytcoonnbkmklenaa.A
