/- When two proofs are the same: the document's functions (printed by genxs.py). -/
import Derived.Test.YtkecobdhgabknaaDoorGx0
namespace Go.Proofs.YtkecobdhgabknaaDoor.A
open Go
set_option maxRecDepth 10000
set_option linter.unusedSimpArgs false
set_option linter.unusedVariables false
attribute [-simp] List.all_eq_true put slot_def ld idxA lenOf elems canA app hand

def crEq (les : List Lm) (chs : List Ch) (cu : Cu) (les' : List Lm) (chs' : List Ch) (cu' : Cu) : Bool := (les.length == les'.length && leq lmEq les les') && (chs.length == chs'.length && leq chEq chs chs') && cuEq cu cu'
mutual
/-- the same, field by field, but for binders' names -/
def prEq : Pf → Pf → Bool
  | .mk r h n v b t c les chs cu ps, .mk r' h' n' v' b' t' c' les' chs' cu' ps' => r == r' && bytesEq h h' && bytesEq n n' && bytesEq v v' && (b == b') && tmEq t t' && clEq c c' && crEq les chs cu les' chs' cu' && (ps.length == ps'.length && prsEq ps ps')
def prsEq : List Pf → List Pf → Bool
  | a :: l, b :: k => prEq a b && prsEq l k
  | _, _ => true
end
theorem prsEq_leq : ∀ l k, leq prEq l k = prsEq l k
  | [], _ => by simp [leq, prsEq]
  | _ :: _, [] => by simp [leq, prsEq]
  | a :: l, b :: k => by simp [leq, prsEq, prsEq_leq l k]

theorem bcert_eq (les : List Lm) (chs : List Ch) (cu : Cu) (les' : List Lm) (chs' : List Ch) (cu' : Cu) (k1 : ∀ x ∈ les, Lm.ok x) (k2 : les.length ≤ mxB) (k3 : ∀ x ∈ chs, Ch.ok x) (k4 : chs.length ≤ mxB) (k5 : cu.ok) (k6 : ∀ x ∈ les', Lm.ok x) (k7 : ∀ x ∈ chs', Ch.ok x) (k8 : cu'.ok) (st : St) :
    (D T).call 64 [.agg (.sl 8 (les.map Lm.cells) :: .sl 2 (chs.map Ch.cells) :: cu.cells), .agg (.sl 8 (les'.map Lm.cells) :: .sl 2 (chs'.map Ch.cells) :: cu'.cells)] st = some (.bool (crEq les chs cu les' chs' cu'), st) := by
  obtain ⟨o, ro, df⟩ := st
  have h1 := fun st => blemmas_eq (lmeq := lmEq) les les' k2 (fun t ht u hu st => blemma_eq t u (k1 t ht) (k6 u hu) st) st
  have h2 := fun st => bchains_eq (heq' := chEq) chs chs' k4 (fun t ht u hu st => bchain_eq t u (k3 t ht) (k7 u hu) st) st
  have h3 := fun st => bcut_eq cu k5 cu' k8 st
  unfold crEq
  generalize (les.length == les'.length && leq lmEq les les') = E1 at *
  generalize (chs.length == chs'.length && leq chEq chs chs') = E2 at *
  generalize cuEq cu cu' = E3 at *
  obtain ⟨kd, fr0, by0, dv, kk, ms, cs⟩ := cu
  obtain ⟨kd', fr0', by0', dv', kk', ms', cs'⟩ := cu'
  simp only [Cu.av, Cu.cells_mk] at h3 ⊢
  apply call_by (by exact rfl : T 64 = some _) (by simp)
  intro fr hfr hsl
  have s0 := hsl 0 _ rfl
  have s1 := hsl 1 _ rfl
  cases E1 with
  | false => simp -implicitDefEqProofs [hfr, s0, s1, get_base0, get_base, h1, -getElem?_pos, List.getElem?_cons_zero, List.getElem?_cons_succ]
  | true =>
    cases E2 with
    | false => simp -implicitDefEqProofs [hfr, s0, s1, get_base0, get_base, h1, h2, -getElem?_pos, List.getElem?_cons_zero, List.getElem?_cons_succ]
    | true => simp -implicitDefEqProofs [hfr, s0, s1, get_base0, get_base, h1, h2, h3, -getElem?_pos, List.getElem?_cons_zero, List.getElem?_cons_succ]

theorem bproof_eq : ∀ (p : Pf), p.ok → ∀ (q : Pf), q.ok → ∀ (st : St), (D T).call 27 [.agg p.cells, .agg q.cells] st = some (.bool (prEq p q), st)
  | .mk r h n v b t c les chs cu ps, hok, .mk r' h' n' v' b' t' c' les' chs' cu' ps', hok', st => by
    obtain ⟨o, ro, df⟩ := st
    simp only [Pf.ok] at hok hok'
    obtain ⟨_, _, _, _, ot, oc, ole, och, ocu, kps, ops⟩ := hok
    obtain ⟨_, _, _, _, ot', oc', ole', och', ocu', kps', ops'⟩ := hok'
    have hl := okPf_iff.1 ops
    have hl' := okPf_iff.1 ops'
    have h1 := fun st => tm_eq t ot t' ot' st
    have h2 := fun st => clm_eq c oc c' oc' st
    have h3 := fun st => bcert_eq les chs cu les' chs' cu' ole.1 ole.2 och.1 och.2 ocu ole'.1 och'.1 ocu' st
    have h4 := fun st => bproofs_eq (peq := prEq) ps ps' kps (fun x hx u hu st => bproof_eq x (hl x hx) u (hl' u hu) st) st
    rw [prsEq_leq] at h4
    have hE : prEq (.mk r h n v b t c les chs cu ps) (.mk r' h' n' v' b' t' c' les' chs' cu' ps') = (r == r' && bytesEq h h' && bytesEq n n' && bytesEq v v' && (b == b') && tmEq t t' && clEq c c' && crEq les chs cu les' chs' cu' && (ps.length == ps'.length && prsEq ps ps')) := rfl
    generalize prEq (.mk r h n v b t c les chs cu ps) (.mk r' h' n' v' b' t' c' les' chs' cu' ps') = R at hE ⊢
    generalize tmEq t t' = E1 at *
    generalize clEq c c' = E2 at *
    generalize crEq les chs cu les' chs' cu' = E3 at *
    generalize (ps.length == ps'.length && prsEq ps ps') = E4 at *
    clear hl hl' ops ops' kps kps' ole och ole' och' ot oc ot' oc' ocu ocu'
    obtain ⟨t0, t1, t2, t3⟩ := t
    obtain ⟨c0, c1, c2, c3, c4⟩ := c
    obtain ⟨kd, fr0, by0, dv, kk, ms, cs⟩ := cu
    obtain ⟨t0', t1', t2', t3'⟩ := t'
    obtain ⟨c0', c1', c2', c3', c4'⟩ := c'
    obtain ⟨kd', fr0', by0', dv', kk', ms', cs'⟩ := cu'
    simp only [Tm.av, Tm.cells_mk, Cl.av, Cl.cells_mk, Cu.cells_mk] at h1 h2 h3
    simp only [Pf.cells_all]
    apply call_by (by exact rfl : T 27 = some _) (by simp)
    intro fr hfr hsl
    have s0 := hsl 0 _ rfl
    have s1 := hsl 1 _ rfl
    cases e1 : (r == r') with
    | false =>
      rw [e1] at hE
      simp only [Bool.false_and, Bool.and_false] at hE
      have e1n : (r != r') = true := by simp [bne, e1]
      simp -implicitDefEqProofs [hfr, s0, s1, get_base0, get_base, -getElem?_pos, List.getElem?_cons_zero, List.getElem?_cons_succ, e1, e1n, hE]
    | true =>
      rw [e1] at hE
      have e1n : (r != r') = false := by simp [bne, e1]
      cases e2 : bytesEq h h' with
      | false =>
        rw [e2] at hE
        simp only [Bool.false_and, Bool.and_false] at hE
        simp -implicitDefEqProofs [hfr, s0, s1, get_base0, get_base, -getElem?_pos, List.getElem?_cons_zero, List.getElem?_cons_succ, e1, e1n, e2, hE]
      | true =>
        rw [e2] at hE
        cases e3 : bytesEq n n' with
        | false =>
          rw [e3] at hE
          simp only [Bool.false_and, Bool.and_false] at hE
          simp -implicitDefEqProofs [hfr, s0, s1, get_base0, get_base, -getElem?_pos, List.getElem?_cons_zero, List.getElem?_cons_succ, e1, e1n, e2, e3, hE]
        | true =>
          rw [e3] at hE
          cases e4 : bytesEq v v' with
          | false =>
            rw [e4] at hE
            simp only [Bool.false_and, Bool.and_false] at hE
            simp -implicitDefEqProofs [hfr, s0, s1, get_base0, get_base, -getElem?_pos, List.getElem?_cons_zero, List.getElem?_cons_succ, e1, e1n, e2, e3, e4, hE]
          | true =>
            rw [e4] at hE
            cases e5 : (b == b') with
            | false =>
              rw [e5] at hE
              simp only [Bool.false_and, Bool.and_false] at hE
              simp -implicitDefEqProofs [hfr, s0, s1, get_base0, get_base, -getElem?_pos, List.getElem?_cons_zero, List.getElem?_cons_succ, e1, e1n, e2, e3, e4, e5, hE]
            | true =>
              rw [e5] at hE
              cases x1 : E1 with
              | false =>
                rw [x1] at hE
                simp only [Bool.false_and, Bool.and_false] at hE
                subst x1
                simp -implicitDefEqProofs [hfr, s0, s1, get_base0, get_base, -getElem?_pos, List.getElem?_cons_zero, List.getElem?_cons_succ, e1, e1n, e2, e3, e4, e5, h1, hE]
              | true =>
                rw [x1] at hE
                subst x1
                cases x2 : E2 with
                | false =>
                  rw [x2] at hE
                  simp only [Bool.false_and, Bool.and_false] at hE
                  subst x2
                  simp -implicitDefEqProofs [hfr, s0, s1, get_base0, get_base, -getElem?_pos, List.getElem?_cons_zero, List.getElem?_cons_succ, e1, e1n, e2, e3, e4, e5, h1, h2, hE]
                | true =>
                  rw [x2] at hE
                  subst x2
                  cases x3 : E3 with
                  | false =>
                    rw [x3] at hE
                    simp only [Bool.false_and, Bool.and_false] at hE
                    subst x3
                    simp -implicitDefEqProofs [hfr, s0, s1, get_base0, get_base, -getElem?_pos, List.getElem?_cons_zero, List.getElem?_cons_succ, e1, e1n, e2, e3, e4, e5, h1, h2, h3, hE]
                  | true =>
                    rw [x3] at hE
                    subst x3
                    simp only [Bool.true_and, Bool.and_true] at hE
                    simp -implicitDefEqProofs [hfr, s0, s1, get_base0, get_base, -getElem?_pos, List.getElem?_cons_zero, List.getElem?_cons_succ, e1, e1n, e2, e3, e4, e5, h1, h2, h3, h4, hE]
termination_by t => SizeOf.sizeOf t
decreasing_by
  have := List.sizeOf_lt_of_mem hx
  simp
  omega

end Go.Proofs.YtkecobdhgabknaaDoor.A
