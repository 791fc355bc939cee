/- Cuts, clauses and proofs: when two are the same, the document's and the program's functions (printed by genx2.py). -/
import Derived.Test.YtkecobdhgabknaaDoorX1
import Derived.Test.YtkecobdhgabknaaDoorS2
import Derived.Test.YtkecobdhgabknaaDoorC3
namespace Go.Proofs.YtkecobdhgabknaaDoor.A
open Go
set_option maxRecDepth 10000
set_option linter.unusedSimpArgs false
set_option linter.unusedVariables false
attribute [-simp] List.all_eq_true put slot_def ld idxA lenOf elems canA app hand

def ilq (a b : List Int) : Bool := a.length == b.length && leq ieq a b
def mlq (a b : List (Int × Int)) : Bool := a.length == b.length && leq meq a b

mutual
/-- the same, field by field -/
def cuEq : Cu → Cu → Bool
  | .mk kd fr b dv k ms cs, .mk kd' fr' b' dv' k' ms' cs' => kd == kd' && dv == dv' && ilq fr fr' && ilq b b' && k == k' && mlq ms ms' && (cs.length == cs'.length && cusEq cs cs')
def cusEq : List Cu → List Cu → Bool
  | a :: l, b :: k => cuEq a b && cusEq l k
  | _, _ => true
end
theorem cusEq_leq : ∀ l k, leq cuEq l k = cusEq l k
  | [], _ => by simp [leq, cusEq]
  | _ :: _, [] => by simp [leq, cusEq]
  | a :: l, b :: k => by simp [leq, cusEq, cusEq_leq l k]
def chEq (a b : Ch) : Bool := ilq a.1 b.1 && ilq a.2 b.2
def lmEq (a b : Lm) : Bool := ilq a.1 b.1 && cuEq a.2 b.2

theorem blin_eq (k k' : Int) (ms ms' : List (Int × Int)) (hm : ms.length ≤ mxB) (st : St) : (D T).call 101 [.agg [.int .i64 k, .sl 2 (moA ms)], .agg [.int .i64 k', .sl 2 (moA ms')]] st = some (.bool (k == k' && mlq ms ms'), st) := by
  obtain ⟨o, ro, df⟩ := st
  have h1 := fun st => bmonos_eq ms ms' hm st
  apply call_by (by exact rfl : T 101 = some _) (by simp)
  intro fr hfr hsl
  have s0 := hsl 0 _ rfl
  have s1 := hsl 1 _ rfl
  cases e1 : (k == k') with
  | false => simp -implicitDefEqProofs [hfr, s0, s1, get_base0, get_base, h1, e1, mlq]
  | true => simp -implicitDefEqProofs [hfr, s0, s1, get_base0, get_base, h1, e1, mlq]

theorem bcut_eq : ∀ (c : Cu), c.ok → ∀ (d : Cu), d.ok → ∀ (st : St), (D T).call 89 [c.av, d.av] st = some (.bool (cuEq c d), st)
  | .mk kd fr0 by0 dv k ms cs, hok, .mk kd' fr0' by0' dv' k' ms' cs', hok', st => by
    obtain ⟨o, ro, df⟩ := st
    simp only [Cu.ok] at hok hok'
    obtain ⟨_, o1, o2, _, _, o3, o4, o5⟩ := hok
    obtain ⟨_, _, _, _, _, _, _, o5'⟩ := hok'
    have hl := okCu_iff.1 o5
    have hl' := okCu_iff.1 o5'
    have h1 := fun st => bints_eq fr0 fr0' o1.2 st
    have h2 := fun st => bint64s_eq by0 by0' o2.2 st
    have h3 := fun st => blin_eq k k' ms ms' o3.2 st
    have h4 := fun st => bcuts_eq (ceq := cuEq) cs cs' o4 (fun t ht u hu st => bcut_eq t (hl t ht) u (hl' u hu) st) st
    simp only [cusEq_leq] at h4
    apply call_by (by exact rfl : T 89 = some _) (by simp)
    intro fr hfr hsl
    have s0 := hsl 0 _ rfl
    have s1 := hsl 1 _ rfl
    simp only [Cu.av, Cu.cells_mk] at s0 s1
    cases e1 : (kd == kd') with
    | false =>
      simp -implicitDefEqProofs [hfr, s0, s1, get_base0, get_base, Cu.av, Cu.cells_mk, h1, h2, h3, h4, cuEq, ilq, mlq, e1]
    | true =>
      cases e2 : (dv == dv') with
      | false =>
        simp -implicitDefEqProofs [hfr, s0, s1, get_base0, get_base, Cu.av, Cu.cells_mk, h1, h2, h3, h4, cuEq, ilq, mlq, e1, e2]
      | true =>
        cases e3 : (fr0.length == fr0'.length && leq ieq fr0 fr0') with
        | false =>
          simp -implicitDefEqProofs [hfr, s0, s1, get_base0, get_base, Cu.av, Cu.cells_mk, h1, h2, h3, h4, cuEq, ilq, mlq, e1, e2, e3]
        | true =>
          cases e4 : (by0.length == by0'.length && leq ieq by0 by0') with
          | false =>
            simp -implicitDefEqProofs [hfr, s0, s1, get_base0, get_base, Cu.av, Cu.cells_mk, h1, h2, h3, h4, cuEq, ilq, mlq, e1, e2, e3, e4]
          | true =>
            cases e5 : (k == k') with
            | false =>
              simp -implicitDefEqProofs [hfr, s0, s1, get_base0, get_base, Cu.av, Cu.cells_mk, h1, h2, h3, h4, cuEq, ilq, mlq, e1, e2, e3, e4, e5]
            | true =>
              cases e6 : (ms.length == ms'.length && leq meq ms ms') with
              | false =>
                simp -implicitDefEqProofs [hfr, s0, s1, get_base0, get_base, Cu.av, Cu.cells_mk, h1, h2, h3, h4, cuEq, ilq, mlq, e1, e2, e3, e4, e5, e6]
              | true =>
                simp -implicitDefEqProofs [hfr, s0, s1, get_base0, get_base, Cu.av, Cu.cells_mk, h1, h2, h3, h4, cuEq, ilq, mlq, e1, e2, e3, e4, e5, e6]
termination_by t => SizeOf.sizeOf t
decreasing_by
  have := List.sizeOf_lt_of_mem ht
  simp
  omega

theorem scut_eq : ∀ (c : Cu), c.ok → ∀ (d : Cu), d.ok → ∀ (st : St), (D T).call 57 [c.av, d.av] st = some (.bool (cuEq c d), st)
  | .mk kd fr0 by0 dv k ms cs, hok, .mk kd' fr0' by0' dv' k' ms' cs', hok', st => by
    obtain ⟨o, ro, df⟩ := st
    simp only [Cu.ok] at hok hok'
    obtain ⟨_, o1, o2, _, _, o3, o4, o5⟩ := hok
    obtain ⟨_, _, _, _, _, _, _, o5'⟩ := hok'
    have hl := okCu_iff.1 o5
    have hl' := okCu_iff.1 o5'
    have h1 := fun st => sints_eq fr0 fr0' o1.2 st
    have h2 := fun st => sint64s_eq by0 by0' o2.2 st
    have h3 := fun st => smonos_eq ms ms' o3.2 st
    have h4 := fun st => scuts_eq (ceq := cuEq) cs cs' 57 o4 (fun t ht u hu st => scut_eq t (hl t ht) u (hl' u hu) st) st
    simp only [cusEq_leq] at h4
    apply call_by (by exact rfl : T 57 = some _) (by simp)
    intro fr hfr hsl
    have s0 := hsl 0 _ rfl
    have s1 := hsl 1 _ rfl
    simp only [Cu.av, Cu.cells_mk] at s0 s1
    cases e1 : (kd == kd') with
    | false =>
      simp -implicitDefEqProofs [hfr, s0, s1, get_base0, get_base, Cu.av, Cu.cells_mk, h1, h2, h3, h4, cuEq, ilq, mlq, e1]
    | true =>
      cases e2 : (dv == dv') with
      | false =>
        simp -implicitDefEqProofs [hfr, s0, s1, get_base0, get_base, Cu.av, Cu.cells_mk, h1, h2, h3, h4, cuEq, ilq, mlq, e1, e2]
      | true =>
        cases e5 : (k == k') with
        | false =>
          simp -implicitDefEqProofs [hfr, s0, s1, get_base0, get_base, Cu.av, Cu.cells_mk, h1, h2, h3, h4, cuEq, ilq, mlq, e1, e2, e5]
        | true =>
          cases e6 : (ms.length == ms'.length && leq meq ms ms') with
          | false =>
            simp -implicitDefEqProofs [hfr, s0, s1, get_base0, get_base, Cu.av, Cu.cells_mk, h1, h2, h3, h4, cuEq, ilq, mlq, e1, e2, e5, e6]
          | true =>
            cases e3 : (fr0.length == fr0'.length && leq ieq fr0 fr0') with
            | false =>
              simp -implicitDefEqProofs [hfr, s0, s1, get_base0, get_base, Cu.av, Cu.cells_mk, h1, h2, h3, h4, cuEq, ilq, mlq, e1, e2, e5, e6, e3]
            | true =>
              cases e4 : (by0.length == by0'.length && leq ieq by0 by0') with
              | false =>
                simp -implicitDefEqProofs [hfr, s0, s1, get_base0, get_base, Cu.av, Cu.cells_mk, h1, h2, h3, h4, cuEq, ilq, mlq, e1, e2, e5, e6, e3, e4]
              | true =>
                simp -implicitDefEqProofs [hfr, s0, s1, get_base0, get_base, Cu.av, Cu.cells_mk, h1, h2, h3, h4, cuEq, ilq, mlq, e1, e2, e5, e6, e3, e4]
termination_by t => SizeOf.sizeOf t
decreasing_by
  have := List.sizeOf_lt_of_mem ht
  simp
  omega

theorem bchain_eq (c d : Ch) (hc : Ch.ok c) (hd : Ch.ok d) (st : St) : (D T).call 99 [.agg (Ch.cells c), .agg (Ch.cells d)] st = some (.bool (chEq c d), st) := by
  obtain ⟨o, ro, df⟩ := st
  obtain ⟨x, y⟩ := c
  obtain ⟨x', y'⟩ := d
  have h1 := fun st => bints_eq x x' hc.1.2 st
  have h2 := fun st => bints_eq y y' hc.2.2 st
  apply call_by (by exact rfl : T 99 = some _) (by simp)
  intro fr hfr hsl
  have s0 := hsl 0 _ rfl
  have s1 := hsl 1 _ rfl
  simp only [Ch.cells] at s0 s1
  cases e1 : (x.length == x'.length && leq ieq x x') with
  | false =>
    simp -implicitDefEqProofs [hfr, s0, s1, get_base0, get_base, h1, h2, chEq, ilq, e1]
  | true =>
    simp -implicitDefEqProofs [hfr, s0, s1, get_base0, get_base, h1, h2, chEq, ilq, e1]

theorem blemma_eq (c d : Lm) (hc : Lm.ok c) (hd : Lm.ok d) (st : St) : (D T).call 98 [.agg (Lm.cells c), .agg (Lm.cells d)] st = some (.bool (lmEq c d), st) := by
  obtain ⟨o, ro, df⟩ := st
  obtain ⟨x, y⟩ := c
  obtain ⟨x', y'⟩ := d
  have h1 := fun st => bints_eq x x' hc.1.2 st
  have h2 := fun st => bcut_eq y hc.2 y' hd.2 st
  have hE : lmEq (x, y) (x', y') = (ilq x x' && cuEq y y') := rfl
  rw [hE]
  clear hE
  generalize cuEq y y' = q at *
  obtain ⟨kd, fr0, by0, dv, k, ms, cs⟩ := y
  obtain ⟨kd', fr0', by0', dv', k', ms', cs'⟩ := y'
  simp only [Cu.av, Cu.cells_mk] at h2
  apply call_by (by exact rfl : T 98 = some _) (by simp)
  intro fr hfr hsl
  have s0 := hsl 0 _ rfl
  have s1 := hsl 1 _ rfl
  simp only [Lm.cells, Cu.cells_mk] at s0 s1
  cases e1 : (x.length == x'.length && leq ieq x x') with
  | false =>
    simp -implicitDefEqProofs [hfr, s0, s1, get_base0, get_base, h1, h2, ilq, e1]
  | true =>
    simp -implicitDefEqProofs [hfr, s0, s1, get_base0, get_base, h1, h2, ilq, e1]

end Go.Proofs.YtkecobdhgabknaaDoor.A
