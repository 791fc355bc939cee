/- Clauses and lemmas: when two are the same, by the program's functions. -/
import Derived.Test.YtkecobdhgabknaaDoorX2
import Derived.Test.YtkecobdhgabknaaDoorX1E
import Derived.Test.YtkecobdhgabknaaDoorXS
import Derived.Test.YtkecobdhgabknaaDoorXY0
namespace Go.Proofs.YtkecobdhgabknaaDoor.A
open Go
set_option maxRecDepth 10000
set_option linter.unusedSimpArgs false
set_option linter.unusedVariables false
attribute [-simp] List.all_eq_true put slot_def ld idxA lenOf elems canA app hand

theorem schain_eq (c d : Ch) (hc : Ch.ok c) (hd : Ch.ok d) (st : St) : (D T).call 56 [.agg (Ch.cells c), .agg (Ch.cells d)] st = some (.bool (chEq c d), st) := by
  obtain ⟨o, ro, df⟩ := st
  obtain ⟨x, y⟩ := c
  obtain ⟨x', y'⟩ := d
  have h1 := fun st => sints_eq x x' hc.1.2 st
  have h2 := fun st => sints_eq y y' hc.2.2 st
  apply call_by (by exact rfl : T 56 = some _) (by simp)
  intro fr hfr hsl
  have s0 := hsl 0 _ rfl
  have s1 := hsl 1 _ rfl
  simp only [Ch.cells] at s0 s1
  cases e1 : (x.length == x'.length && leq ieq x x') with
  | false =>
    simp -implicitDefEqProofs [hfr, s0, s1, get_base0, get_base, h1, h2, chEq, ilq, e1]
  | true =>
    simp -implicitDefEqProofs [hfr, s0, s1, get_base0, get_base, h1, h2, chEq, ilq, e1]

theorem slemma_eq (c d : Lm) (hc : Lm.ok c) (hd : Lm.ok d) (st : St) : (D T).call 54 [.agg (Lm.cells c), .agg (Lm.cells d)] st = some (.bool (lmEq c d), st) := by
  obtain ⟨o, ro, df⟩ := st
  obtain ⟨x, y⟩ := c
  obtain ⟨x', y'⟩ := d
  have h1 := fun st => sints_eq x x' hc.1.2 st
  have h2 := fun st => scut_eq y hc.2 y' hd.2 st
  have hE : lmEq (x, y) (x', y') = (ilq x x' && cuEq y y') := rfl
  rw [hE]
  clear hE
  generalize cuEq y y' = q at *
  obtain ⟨kd, fr0, by0, dv, k, ms, cs⟩ := y
  obtain ⟨kd', fr0', by0', dv', k', ms', cs'⟩ := y'
  simp only [Cu.av, Cu.cells_mk] at h2
  apply call_by (by exact rfl : T 54 = some _) (by simp)
  intro fr hfr hsl
  have s0 := hsl 0 _ rfl
  have s1 := hsl 1 _ rfl
  simp only [Lm.cells, Cu.cells_mk] at s0 s1
  cases e1 : (x.length == x'.length && leq ieq x x') with
  | false =>
    simp -implicitDefEqProofs [hfr, s0, s1, get_base0, get_base, h1, h2, ilq, e1]
  | true =>
    simp -implicitDefEqProofs [hfr, s0, s1, get_base0, get_base, h1, h2, ilq, e1]


end Go.Proofs.YtkecobdhgabknaaDoor.A
/- When two proofs are the same: the program's function (printed by genxm.py). -/
namespace Go.Proofs.YtkecobdhgabknaaDoor.A
open Go
set_option maxRecDepth 10000
set_option linter.unusedSimpArgs false
set_option linter.unusedVariables false
attribute [-simp] List.all_eq_true put slot_def ld idxA lenOf elems canA app hand

theorem psame_eq : ∀ (p : Pf), p.ok → ∀ (q : Pf), q.ok → ∀ (st : St), (D T).call 20 [.agg p.cells, .agg q.cells] st = some (.bool (prEq p q), st)
  | .mk r h n v b t c les chs cu ps, hok, .mk r' h' n' v' b' t' c' les' chs' cu' ps', hok', st => by
    obtain ⟨o, ro, df⟩ := st
    simp only [Pf.ok] at hok hok'
    obtain ⟨_, _, _, _, ot, oc, ole, och, ocu, kps, ops⟩ := hok
    obtain ⟨_, _, _, _, ot', oc', ole', och', ocu', kps', ops'⟩ := hok'
    have hl := okPf_iff.1 ops
    have hl' := okPf_iff.1 ops'
    have h1 := fun st => same_eq t t' ot ot' st
    have h2 := fun st => csame_eq c c' oc oc' st
    simp only [cmT] at h1
    simp only [ccmC] at h2
    have h3 := fun st => slemmas_eq (lmeq := lmEq) les les' 54 ole.2 (fun x hx u hu st => slemma_eq x u (ole.1 x hx) (ole'.1 u hu) st) st
    have h4 := fun st => schains_eq (heq' := chEq) chs chs' 56 och.2 (fun x hx u hu st => schain_eq x u (och.1 x hx) (och'.1 u hu) st) st
    have h5 := fun st => scut_eq cu ocu cu' ocu' st
    have h6 := fun st => sproofs_eq (peq := prEq) ps ps' 20 kps (fun x hx u hu st => psame_eq x (hl x hx) u (hl' u hu) st) st
    rw [prsEq_leq] at h6
    have hE : prEq (.mk r h n v b t c les chs cu ps) (.mk r' h' n' v' b' t' c' les' chs' cu' ps') = (r == r' && bytesEq h h' && bytesEq n n' && bytesEq v v' && (b == b') && tmEq t t' && clEq c c' && ((les.length == les'.length && leq lmEq les les') && (chs.length == chs'.length && leq chEq chs chs') && cuEq cu cu') && (ps.length == ps'.length && prsEq ps ps')) := rfl
    generalize prEq (.mk r h n v b t c les chs cu ps) (.mk r' h' n' v' b' t' c' les' chs' cu' ps') = R at hE ⊢
    generalize tmEq t t' = E1 at *
    generalize clEq c c' = E2 at *
    generalize (les.length == les'.length && leq lmEq les les') = E3 at *
    generalize (chs.length == chs'.length && leq chEq chs chs') = E4 at *
    generalize cuEq cu cu' = E5 at *
    generalize (ps.length == ps'.length && prsEq ps ps') = E6 at *
    clear hl hl' ops ops' kps kps' ole och ole' och' ot oc ot' oc' ocu ocu'
    obtain ⟨t0, t1, t2, t3⟩ := t
    obtain ⟨c0, c1, c2, c3, c4⟩ := c
    obtain ⟨kd, fr0, by0, dv, kk, ms, cs⟩ := cu
    obtain ⟨t0', t1', t2', t3'⟩ := t'
    obtain ⟨c0', c1', c2', c3', c4'⟩ := c'
    obtain ⟨kd', fr0', by0', dv', kk', ms', cs'⟩ := cu'
    simp only [Tm.av, Tm.cells_mk, Cl.av, Cl.cells_mk, Cu.av, Cu.cells_mk] at h1 h2 h5
    simp only [Pf.cells_all]
    apply call_by (by exact rfl : T 20 = some _) (by simp)
    intro fr hfr hsl
    have s0 := hsl 0 _ rfl
    have s1 := hsl 1 _ rfl
    cases e1 : (r == r') with
    | false =>
      rw [e1] at hE
      simp only [Bool.false_and, Bool.and_false] at hE
      have e1n : (r != r') = true := by simp [bne, e1]
      simp -implicitDefEqProofs [hfr, s0, s1, get_base0, get_base, set_base0, set_base, -getElem?_pos, List.getElem?_cons_zero, List.getElem?_cons_succ, e1, e1n, hE]
    | true =>
      rw [e1] at hE
      have e1n : (r != r') = false := by simp [bne, e1]
      cases e2 : bytesEq h h' with
      | false =>
        rw [e2] at hE
        simp only [Bool.false_and, Bool.and_false] at hE
        simp -implicitDefEqProofs [hfr, s0, s1, get_base0, get_base, set_base0, set_base, -getElem?_pos, List.getElem?_cons_zero, List.getElem?_cons_succ, e1, e1n, e2, hE]
      | true =>
        rw [e2] at hE
        cases e3 : bytesEq n n' with
        | false =>
          rw [e3] at hE
          simp only [Bool.false_and, Bool.and_false] at hE
          simp -implicitDefEqProofs [hfr, s0, s1, get_base0, get_base, set_base0, set_base, -getElem?_pos, List.getElem?_cons_zero, List.getElem?_cons_succ, e1, e1n, e2, e3, hE]
        | true =>
          rw [e3] at hE
          cases e4 : bytesEq v v' with
          | false =>
            rw [e4] at hE
            simp only [Bool.false_and, Bool.and_false] at hE
            simp -implicitDefEqProofs [hfr, s0, s1, get_base0, get_base, set_base0, set_base, -getElem?_pos, List.getElem?_cons_zero, List.getElem?_cons_succ, e1, e1n, e2, e3, e4, hE]
          | true =>
            rw [e4] at hE
            cases e5 : (b == b') with
            | false =>
              rw [e5] at hE
              simp only [Bool.false_and, Bool.and_false] at hE
              simp -implicitDefEqProofs [hfr, s0, s1, get_base0, get_base, set_base0, set_base, -getElem?_pos, List.getElem?_cons_zero, List.getElem?_cons_succ, e1, e1n, e2, e3, e4, e5, hE]
            | true =>
              rw [e5] at hE
              cases x1 : E1 with
              | false =>
                rw [x1] at hE
                simp only [Bool.false_and, Bool.and_false] at hE
                subst x1
                simp -implicitDefEqProofs [hfr, s0, s1, get_base0, get_base, set_base0, set_base, -getElem?_pos, List.getElem?_cons_zero, List.getElem?_cons_succ, e1, e1n, e2, e3, e4, e5, h1, hE]
              | true =>
                rw [x1] at hE
                subst x1
                cases x2 : E2 with
                | false =>
                  rw [x2] at hE
                  simp only [Bool.false_and, Bool.and_false] at hE
                  subst x2
                  simp -implicitDefEqProofs [hfr, s0, s1, get_base0, get_base, set_base0, set_base, -getElem?_pos, List.getElem?_cons_zero, List.getElem?_cons_succ, e1, e1n, e2, e3, e4, e5, h1, h2, hE]
                | true =>
                  rw [x2] at hE
                  subst x2
                  cases x3 : E3 with
                  | false =>
                    rw [x3] at hE
                    simp only [Bool.false_and, Bool.and_false] at hE
                    subst x3
                    simp -implicitDefEqProofs [hfr, s0, s1, get_base0, get_base, set_base0, set_base, -getElem?_pos, List.getElem?_cons_zero, List.getElem?_cons_succ, e1, e1n, e2, e3, e4, e5, h1, h2, h3, hE]
                  | true =>
                    rw [x3] at hE
                    subst x3
                    cases x4 : E4 with
                    | false =>
                      rw [x4] at hE
                      simp only [Bool.false_and, Bool.and_false] at hE
                      subst x4
                      simp -implicitDefEqProofs [hfr, s0, s1, get_base0, get_base, set_base0, set_base, -getElem?_pos, List.getElem?_cons_zero, List.getElem?_cons_succ, e1, e1n, e2, e3, e4, e5, h1, h2, h3, h4, hE]
                    | true =>
                      rw [x4] at hE
                      subst x4
                      cases x5 : E5 with
                      | false =>
                        rw [x5] at hE
                        simp only [Bool.false_and, Bool.and_false] at hE
                        subst x5
                        simp -implicitDefEqProofs [hfr, s0, s1, get_base0, get_base, set_base0, set_base, -getElem?_pos, List.getElem?_cons_zero, List.getElem?_cons_succ, e1, e1n, e2, e3, e4, e5, h1, h2, h3, h4, h5, hE]
                      | true =>
                        rw [x5] at hE
                        subst x5
                        simp only [Bool.true_and, Bool.and_true] at hE
                        simp -implicitDefEqProofs [hfr, s0, s1, get_base0, get_base, set_base0, set_base, -getElem?_pos, List.getElem?_cons_zero, List.getElem?_cons_succ, e1, e1n, e2, e3, e4, e5, h1, h2, h3, h4, h5, h6, hE]
termination_by t => SizeOf.sizeOf t
decreasing_by
  have := List.sizeOf_lt_of_mem hx
  simp
  omega

end Go.Proofs.YtkecobdhgabknaaDoor.A
