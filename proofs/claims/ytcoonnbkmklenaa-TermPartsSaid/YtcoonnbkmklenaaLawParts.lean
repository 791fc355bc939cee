/- TermParts: for any two terms the law's function answers true, and its arguments read as before. No condition beyond the given statement's. -/
import Derived.Test.YtcoonnbkmklenaaP4
import Derived.Test.YtcoonnbkmklenaaG07
import Derived.Test.YtcoonnbkmklenaaTab07
namespace Go.Proofs.Ytcoonnbkmklenaa.A
open Go Go.ChangeShapes Go.WideShapes Go.RowKit
set_option maxRecDepth 10000
set_option linter.unusedSimpArgs false
attribute [-simp] List.all_eq_true put slot_def ld idxA lenOf elems canA app hand

theorem law_parts (t p : Tm) (ht : t.ok) (hp : p.ok) : (D T).call 5 [t.av, p.av] st0 = some (.bool true, st0) := by
  have sm := fun st => small_eq [t, p] (by simp [maxLen]) (by simp [ht, hp]) st
  simp only [Tm.av, List.map_cons, List.map_nil] at sm
  apply call_by (by exact rfl : T 5 = some _) (by simp)
  intro fr hfr hsl
  have s0 := hsl 0 _ rfl
  have s1 := hsl 1 _ rfl
  simp only [Tm.av] at s0 s1
  cases h : smallL [t, p] with
  | false => simp -implicitDefEqProofs [hfr, s0, s1, Tm.av, st0, sm, h, goes2]
  | true =>
    have hn : t.all.length ≤ 60 := small_all h (by simp)
    have ok : ∀ u ∈ partsR t, u.ok := parts_sub _ _ (all_ok t ht) (by simp)
    have hl : (partsR t).length ≤ 60 := Nat.le_trans (parts_len _ _) (by simpa using hn)
    have hr := fun o ro df => rparts_eq t ht (by omega) o ro df
    have hq := fun o ro df => parts_eq t ht (by omega) o ro df
    have hh := fun o ro df => has_eq t ht p hp o ro df
    have hi := fun o ro df => in_eq (o := o) (ls_sl _) (by omega) ok p hp ro df
    have hts := fun st => ts_eq (partsR t) (partsR t) (by simp only [maxLen]; omega) (fun t ht u hu st => tm_eq t (ok t ht) u (ok u hu) st) st
    simp only [partsP_R, ts_self, beq_self_eq_true, Bool.and_self] at hq hts
    simp only [Tm.av] at hr hq hh hi
    rw [← has_parts] at hi
    simp -implicitDefEqProofs [hfr, s0, s1, Tm.av, st0, sm, h, hr, hq, hh, hi, hts, goes2]

end Go.Proofs.Ytcoonnbkmklenaa.A
