/- TermNames: for any terms the law's function answers true. No condition beyond the given statement's. -/
import Derived.Test.YtcoonnbkmklenaaP7
import Derived.Test.YtcoonnbkmklenaaN5
import Derived.Test.YtcoonnbkmklenaaP5
import Derived.Test.YtcoonnbkmklenaaG
import Derived.Test.YtcoonnbkmklenaaTab
namespace Go.Proofs.Ytcoonnbkmklenaa.A
open Go
set_option maxRecDepth 10000
set_option linter.unusedSimpArgs false
attribute [-simp] List.all_eq_true put slot_def ld idxA lenOf elems canA app hand

theorem goesN_k : (orc T 40).call 11 [] { objs := [], ro := 0, df := [] } = some (.bool true, { objs := [], ro := 0, df := [] }) := by kernel_rfl
theorem goesN : (D T).call 11 [] { objs := [], ro := 0, df := [] } = some (.bool true, { objs := [], ro := 0, df := [] }) := (D_le T 40).call _ _ _ _ goesN_k

theorem allL_small : ∀ l : List Tm, (∀ t ∈ l, t.all.length ≤ 60) → (allL l).length ≤ 60 * l.length
  | [], _ => by simp [allL]
  | t :: l, h => by
    have h1 := h t (List.mem_cons_self ..)
    have h2 := allL_small l fun u hu => h u (List.mem_cons_of_mem _ hu)
    simp only [allL, List.length_append, List.length_cons]
    omega

theorem law_names (l : List Tm) (hok : ∀ t ∈ l, t.ok) (hl : l.length ≤ maxLen) : (D T).call 9 [.sl 4 (l.map Tm.cells)] st0 = some (.bool true, st0) := by
  apply call_by (by exact rfl : T 9 = some _) (by simp)
  intro fr hfr hsl
  have s0 := hsl 0 _ rfl
  by_cases hlen : 20 < l.length
  · have h1 : ((l.length : Int) > 20) := by omega
    simp -implicitDefEqProofs [hfr, s0, st0, h1, hlen, goesN]
  · have h1 : ¬ ((l.length : Int) > 20) := by omega
    have h2 : ¬ (20 < l.length) := hlen
    have sm := fun st => smalls_eq l (by omega) hok st
    cases h : smallL l with
    | false => simp -implicitDefEqProofs [hfr, s0, st0, h1, h2, sm, h, goesN]
    | true =>
      have hal := allL_small l fun t ht => small_all h ht
      have hn := fun o0 ro df => names_eq l hok (by omega) (by omega) o0 ro df
      have hr := fun o0 ro df => rnames_eq l hok (by omega) (by omega) o0 ro df
      have hv := varsOf_len (allL l)
      have hrl : (rising (varsOf (allL l))).length ≤ 4294967296 := by
        have := dedup_length bytesEq (isort bytesLt (varsOf (allL l)))
        rw [isort_len] at this
        simp only [rising]
        omega
      have hs := fun st => strings_eq (rising (varsOf (allL l))) (namesR l) hrl st
      have he : strsEq (rising (varsOf (allL l))) (namesR l) = true := by rw [rising_put]; exact strsEq_refl _
      simp -implicitDefEqProofs [hfr, s0, st0, h1, h2, sm, h, hn, hr, hs, he, goesN]

end Go.Proofs.Ytcoonnbkmklenaa.A
