/- ProofPuts: for any two proofs and any way the law's function answers true. No condition beyond the given statement's. -/
import Derived.Test.YtkecobdhgabknaaDoorXZE
import Derived.Test.YtkecobdhgabknaaDoorXM
import Derived.Test.YtkecobdhgabknaaDoorXF
import Derived.Test.YtkecobdhgabknaaDoorG
namespace Go.Proofs.YtkecobdhgabknaaDoor.A
open Go
set_option maxRecDepth 10000
set_option linter.unusedSimpArgs false
set_option linter.unusedVariables false
attribute [-simp] List.all_eq_true put slot_def ld idxA lenOf elems canA app hand slc

theorem zPf_ok : zPf.ok := by
  simp [zPf, zT, zC, zU, Pf.ok, Tm.ok, Cl.ok, Cu.ok, okL, okC, okPf, okCu, mxB]
  have i0 : inI 0 := by unfold inI; omega
  exact ⟨i0, by decide, by decide, i0, ⟨by simp, by simp⟩, i0, ⟨by simp, by simp⟩⟩
theorem putD_ok (w : List Int) {p q : Pf} (hp : p.ok) (hq : q.ok) : ((putP p w q).getD zPf).ok := by
  cases h : putP p w q with
  | none => exact zPf_ok
  | some R => exact putP_ok w hp hq h

theorem law_puts38 (p q : Pf) (way : List Int) (hp : p.ok) (hq : q.ok) (hw0 : way.length ≤ mxB) : (D T).call 6 [p.av, q.av, .sl 1 (intA way)] st0 = some (.bool true, st0) := by
  have wlen := intA_len way
  unfold mxB at hw0
  have f1 := fun st => few_eq p hp 2000 (by omega) (by omega) st
  have f2 := fun st => few_eq q hq 2000 (by omega) (by omega) st
  have al := fun o ro df => alive_any o ro df
  have x1 := p_take p
  have x2 := p_can p
  have x3 := plen p
  have x4 := p_one p
  have z1 := p_take q
  have z2 := p_can q
  have z3 := plen q
  have z4 := p_one q
  by_cases k : pw p 2000 ≤ 2000
  rotate_left
  · simp only [Pf.av] at f1 f2
    apply call_by (by exact rfl : T 6 = some _) (by simp)
    intro fr hfr hsl
    have s0 := hsl 0 _ rfl
    have s1 := hsl 1 _ rfl
    have s2 := hsl 2 _ rfl
    simp only [Pf.av] at s0 s1
    simp -implicitDefEqProofs [hfr, s0, s1, s2, st0, f1, al, k, x1, x2, x3, x4, z1, z2, z3, z4, get_base0, get_base, -getElem?_pos, List.getElem?_cons_zero]
  by_cases k2 : pw q 2000 ≤ 2000
  rotate_left
  · simp only [Pf.av] at f1 f2
    apply call_by (by exact rfl : T 6 = some _) (by simp)
    intro fr hfr hsl
    have s0 := hsl 0 _ rfl
    have s1 := hsl 1 _ rfl
    have s2 := hsl 2 _ rfl
    simp only [Pf.av] at s0 s1
    simp -implicitDefEqProofs [hfr, s0, s1, s2, st0, f1, f2, al, k, k2, x1, x2, x3, x4, z1, z2, z3, z4, get_base0, get_base, -getElem?_pos, List.getElem?_cons_zero, List.getElem?_cons_succ]
  by_cases m : 100 < (way.length : Int)
  · simp only [Pf.av] at f1 f2
    apply call_by (by exact rfl : T 6 = some _) (by simp)
    intro fr hfr hsl
    have s0 := hsl 0 _ rfl
    have s1 := hsl 1 _ rfl
    have s2 := hsl 2 _ rfl
    simp only [Pf.av] at s0 s1
    simp -implicitDefEqProofs [hfr, s0, s1, s2, st0, f1, f2, al, k, k2, m, wlen, x1, x2, x3, x4, z1, z2, z3, z4, get_base0, get_base, -getElem?_pos, List.getElem?_cons_zero, List.getElem?_cons_succ]
  obtain ⟨hsm, hsz⟩ := pw_sm p 2000 (by omega) (by omega) k
  obtain ⟨hsm2, hsz2⟩ := pw_sm q 2000 (by omega) (by omega) k2
  have d1 := dP_psz p
  have d2 := dP_psz q
  have h1 := fun o ro df => pPut_eq p q hp hsm hq hsm2 (by omega) (by omega) way (by omega) o ro df
  have h2 := fun o ro df => rPut_eq q hq way (by omega) p hp hsm o ro df
  have h3 := fun st => psame_eq p hp q hq st
  have h4 := fun st => bproof_eq p hp q hq st
  have h5 := fun st => psame_eq p hp p hp st
  rw [pr_self] at h5
  have aok := putD_ok way hp hq
  have h6 := fun st => rexact_eq _ aok _ aok st
  rw [xc_self] at h6
  generalize (putP p way q).isSome = IS at *
  generalize (putP p way q).getD zPf = a at *
  have y1 := p_take a
  have y2 := p_can a
  have y3 := plen a
  have y4 := p_one a
  simp only [Pf.av] at f1 f2 h1 h2
  apply call_by (by exact rfl : T 6 = some _) (by simp)
  intro fr hfr hsl
  have s0 := hsl 0 _ rfl
  have s1 := hsl 1 _ rfl
  have s2 := hsl 2 _ rfl
  simp only [Pf.av] at s0 s1
  simp -implicitDefEqProofs [hfr, s0, s1, s2, st0, f1, f2, al, k, k2, m, wlen, h1, h2, h3, h4, h5, h6, pset, x1, x2, x3, x4, y1, y2, y3, y4, z1, z2, z3, z4, get_base0, get_base, set_base0, set_base, -getElem?_pos, List.getElem?_cons_zero, List.getElem?_cons_succ]

end Go.Proofs.YtkecobdhgabknaaDoor.A
