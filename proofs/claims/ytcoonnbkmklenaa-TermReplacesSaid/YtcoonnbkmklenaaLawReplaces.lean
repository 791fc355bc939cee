/- TermReplaces: for any three terms the law's function answers true, and its arguments read as before. No condition beyond the given statement's. -/
import Derived.Test.YtcoonnbkmklenaaS12
import Derived.Test.YtcoonnbkmklenaaP5
import Derived.Test.YtcoonnbkmklenaaG07
import Derived.Test.YtcoonnbkmklenaaTab07
namespace Go.Proofs.Ytcoonnbkmklenaa.A
open Go Go.ChangeShapes Go.WideShapes Go.RowKit
set_option maxRecDepth 10000
set_option linter.unusedSimpArgs false
attribute [-simp] List.all_eq_true put slot_def ld idxA lenOf elems canA app hand

theorem law_replaces (t f u : Tm) (ht : t.ok) (hf : f.ok) (hu : u.ok) : (D T).call 7 [t.av, f.av, u.av] st0 = some (.bool true, st0) := by
  have sm := fun st => small_eq [t, f, u] (by simp [maxLen]) (by simp [ht, hf, hu]) st
  simp only [Tm.av, List.map_cons, List.map_nil] at sm
  apply call_by (by exact rfl : T 7 = some _) (by simp)
  intro fr hfr hsl
  have s0 := hsl 0 _ rfl
  have s1 := hsl 1 _ rfl
  have s2 := hsl 2 _ rfl
  simp only [Tm.av] at s0 s1 s2
  cases h : smallL [t, f, u] with
  | false => simp -implicitDefEqProofs [hfr, s0, s1, s2, Tm.av, st0, sm, h, goes3]
  | true =>
    have hn : t.all.length ≤ 60 := small_all h (by simp)
    have hn2 : u.all.length ≤ 60 := small_all h (by simp)
    have h1 := fun o ro df => replace_eq f u hf hu (by omega) t ht (by omega) o ro df
    have h2 := fun o ro df => rreplace_eq f u hf hu t ht (by omega) o ro df
    have hr := repl_ok f u hu t ht
    have h3 := fun st => tm_eq (repl f u t) hr (repl f u t) hr st
    rw [tm_self] at h3
    simp only [Tm.av] at h1 h2 h3
    simp -implicitDefEqProofs [hfr, s0, s1, s2, Tm.av, st0, sm, h, h1, h2, h3, goes3]

end Go.Proofs.Ytcoonnbkmklenaa.A
