/- ProofStays: for any two proofs and any two ways the law's function answers true. No condition beyond the given statement's. -/
import Derived.Test.YtkecobdhgabknaaDoorLawProofPuts
namespace Go.Proofs.YtkecobdhgabknaaDoor.A
open Go
set_option maxRecDepth 10000
set_option linter.unusedSimpArgs false
set_option linter.unusedVariables false
attribute [-simp] List.all_eq_true put slot_def ld idxA lenOf elems canA app hand slc

theorem apart_eq (w u : List Int) (hw : w.length ≤ 1000000) (hu : u.length ≤ 1000000) (o : List Obj) (ro : Nat) (df : List Nat) : (D T).call 28 [.sl 1 (intA w), .sl 1 (intA u)] ⟨o, ro, df⟩ = some (.bool (aprt w u), ⟨o, ro, df⟩) := by
  have mx : w.length ≤ 9223372036854775807 := by omega
  have wl := intA_len w
  have ul := intA_len u
  apply call_by (by exact rfl : T 28 = some _) (by simp)
  intro fr hfr hsl
  have s0 := hsl 0 _ rfl
  have s1 := hsl 1 _ rfl
  simp -implicitDefEqProofs [hfr, s0, s1]
  apply loop_inv L28_0.eq_1 (fun s : List Int × List Int => s.1.length) (fun s fr st => ∃ pre pre', w = pre ++ s.1 ∧ u = pre' ++ s.2 ∧ pre.length = pre'.length ∧ fr.length = 27 ∧ slot fr 0 = .sl 1 (intA w) ∧ slot fr 1 = .sl 1 (intA u) ∧ slot fr 5 = .int .i64 (pre.length : Int) ∧
    st = ⟨o, o.length, []⟩ ∧ aprt w u = aprt s.1 s.2) ?_ (w, u) ⟨[], [], rfl, rfl, rfl, by simp [hfr], by simp [hfr, s0], by simp [hfr, s1], by simp [hfr], rfl, rfl⟩
  rintro ⟨rest, rest'⟩ fr _ ⟨pre, pre', e, e', hp, hfr, q0, q1, q5, rfl, hin⟩
  simp only at e e' hin
  cases rest with
  | nil =>
    have hlt := idx_end e
    simp only [aprt] at hin
    simp -implicitDefEqProofs [hfr, q0, q1, q5, hlt, wl, ul, hin]
  | cons t rest =>
    obtain ⟨hlt, hg, hpl⟩ := idx_at e
    have hg1 : (intA w)[pre.length]? = some [.int .i64 t] := by simp [intA, hg]
    have hpl' : pre.length < (intA w).length := by rw [wl]; exact hpl
    have hw' := idx_next e mx
    cases rest' with
    | nil =>
      have hlt' := idx_end e'
      rw [← hp] at hlt'
      simp only [aprt] at hin
      simp -implicitDefEqProofs [hfr, q0, q1, q5, hlt, hlt', wl, ul, hin]
    | cons x rest' =>
      obtain ⟨hlt', hg', hpl2⟩ := idx_at e'
      rw [← hp] at hlt' hg' hpl2
      have hg2 : (intA u)[pre.length]? = some [.int .i64 x] := by simp [intA, hg']
      have hpl2' : pre.length < (intA u).length := by rw [ul]; exact hpl2
      simp only [aprt] at hin
      by_cases h9 : t = x
      · rw [if_pos h9] at hin
        simp -implicitDefEqProofs [hfr, q0, q1, q5, hlt, hlt', wl, ul, hg1, hg2, hpl', hpl2', hpl, hpl2, hw', h9, -List.getElem_map, -getElem?_pos, List.getElem?_cons_zero]
        exact ⟨rest, by simp, rest', pre ++ [t], by simp [e], pre' ++ [x], by simp [e'], by simp [hp], by simp, hin⟩
      · rw [if_neg h9] at hin
        have h8 : (t == x) = false := by simpa using h9
        have h7 : (t != x) = true := by simp [bne, h8]
        simp -implicitDefEqProofs [hfr, q0, q1, q5, hlt, hlt', wl, ul, hg1, hg2, hpl', hpl2', hpl, hpl2, hw', h9, h8, h7, hin, -List.getElem_map, -getElem?_pos, List.getElem?_cons_zero]

theorem atP_ok : ∀ (w : List Int) (p : Pf), p.ok → ((atP p w).getD zPf).ok := fun w p hp => by
  cases h : atP p w with
  | none => exact zPf_ok
  | some a => exact atP_okq w hp h

theorem law_stays38 (p q : Pf) (way other : List Int) (hp : p.ok) (hq : q.ok) (hw0 : way.length ≤ mxB) (hw1 : other.length ≤ mxB) : (D T).call 7 [p.av, q.av, .sl 1 (intA way), .sl 1 (intA other)] st0 = some (.bool true, st0) := by
  have wlen := intA_len way
  have olen := intA_len other
  unfold mxB at hw0 hw1
  have f1 := fun st => few_eq p hp 2000 (by omega) (by omega) st
  have f2 := fun st => few_eq q hq 2000 (by omega) (by omega) st
  have al := fun o ro df => alive_any o ro df
  have x1 := p_take p
  have x2 := p_can p
  have x3 := plen p
  have x4 := p_one p
  have z1 := p_take q
  have z2 := p_can q
  have z3 := plen q
  have z4 := p_one q
  by_cases k : pw p 2000 ≤ 2000
  rotate_left
  · simp only [Pf.av] at f1 f2
    apply call_by (by exact rfl : T 7 = some _) (by simp)
    intro fr hfr hsl
    have s0 := hsl 0 _ rfl
    have s1 := hsl 1 _ rfl
    have s2 := hsl 2 _ rfl
    have s3 := hsl 3 _ rfl
    simp only [Pf.av] at s0 s1
    simp -implicitDefEqProofs [hfr, s0, s1, s2, s3, st0, f1, al, k, x1, x2, x3, x4, z1, z2, z3, z4, get_base0, get_base, -getElem?_pos, List.getElem?_cons_zero]
  by_cases k2 : pw q 2000 ≤ 2000
  rotate_left
  · simp only [Pf.av] at f1 f2
    apply call_by (by exact rfl : T 7 = some _) (by simp)
    intro fr hfr hsl
    have s0 := hsl 0 _ rfl
    have s1 := hsl 1 _ rfl
    have s2 := hsl 2 _ rfl
    have s3 := hsl 3 _ rfl
    simp only [Pf.av] at s0 s1
    simp -implicitDefEqProofs [hfr, s0, s1, s2, s3, st0, f1, f2, al, k, k2, x1, x2, x3, x4, z1, z2, z3, z4, get_base0, get_base, -getElem?_pos, List.getElem?_cons_zero, List.getElem?_cons_succ]
  by_cases m : 100 < (way.length : Int)
  · simp only [Pf.av] at f1 f2
    apply call_by (by exact rfl : T 7 = some _) (by simp)
    intro fr hfr hsl
    have s0 := hsl 0 _ rfl
    have s1 := hsl 1 _ rfl
    have s2 := hsl 2 _ rfl
    have s3 := hsl 3 _ rfl
    simp only [Pf.av] at s0 s1
    simp -implicitDefEqProofs [hfr, s0, s1, s2, s3, st0, f1, f2, al, k, k2, m, wlen, x1, x2, x3, x4, z1, z2, z3, z4, get_base0, get_base, -getElem?_pos, List.getElem?_cons_zero, List.getElem?_cons_succ]
  by_cases m2 : 100 < (other.length : Int)
  · simp only [Pf.av] at f1 f2
    apply call_by (by exact rfl : T 7 = some _) (by simp)
    intro fr hfr hsl
    have s0 := hsl 0 _ rfl
    have s1 := hsl 1 _ rfl
    have s2 := hsl 2 _ rfl
    have s3 := hsl 3 _ rfl
    simp only [Pf.av] at s0 s1
    simp -implicitDefEqProofs [hfr, s0, s1, s2, s3, st0, f1, f2, al, k, k2, m, m2, wlen, olen, x1, x2, x3, x4, z1, z2, z3, z4, get_base0, get_base, -getElem?_pos, List.getElem?_cons_zero, List.getElem?_cons_succ]
  obtain ⟨hsm, hsz⟩ := pw_sm p 2000 (by omega) (by omega) k
  obtain ⟨hsm2, hsz2⟩ := pw_sm q 2000 (by omega) (by omega) k2
  have d1 := dP_psz p
  have d2 := dP_psz q
  have h1 := fun o ro df => pPut_eq p q hp hsm hq hsm2 (by omega) (by omega) way (by omega) o ro df
  have h2 := fun o ro df => pAt_eq p hp hsm way (by omega) o ro df
  have hiso := putP_at way p q
  cases hA : atP p way with
  | none =>
    rw [hA] at h2 hiso
    have hn : putP p way q = none := by simpa using hiso
    rw [hn] at h1
    simp only [Option.getD_none, Option.isSome_none] at h1 h2
    have h3 := fun st => psame_eq zPf zPf_ok zPf zPf_ok st
    rw [pr_self] at h3
    have zE : zPf.cells = [.int .i64 0, .str ⟨#[]⟩, .str ⟨#[]⟩, .str ⟨#[]⟩, .bool false, .int .i64 0, .str ⟨#[]⟩, .int .i64 0, .sl 4 [], .int .i64 0, .str ⟨#[]⟩, .str ⟨#[]⟩, .sl 4 [], .sl 5 [], .sl 8 [], .sl 2 [], .int .i64 0, .sl 1 [], .sl 1 [], .int .i64 0, .int .i64 0, .sl 2 [], .sl 7 [], .sl 24 []] := by
      simp [zPf, zT, zC, zU, Pf.cells_all, intA, moA]
    simp only [Pf.av, zE] at f1 f2 h1 h2 h3
    apply call_by (by exact rfl : T 7 = some _) (by simp)
    intro fr hfr hsl
    have s0 := hsl 0 _ rfl
    have s1 := hsl 1 _ rfl
    have s2 := hsl 2 _ rfl
    have s3 := hsl 3 _ rfl
    simp only [Pf.av] at s0 s1
    simp -implicitDefEqProofs [hfr, s0, s1, s2, s3, st0, f1, f2, al, k, k2, m, m2, wlen, olen, h1, h2, h3, x1, x2, x3, x4, z1, z2, z3, z4, get_base0, get_base, set_base0, set_base, -getElem?_pos, List.getElem?_cons_zero, List.getElem?_cons_succ]
  | some a =>
    rw [hA] at h2 hiso
    obtain ⟨R, hR⟩ : ∃ R, putP p way q = some R := Option.isSome_iff_exists.1 hiso
    rw [hR] at h1
    simp only [Option.getD_some, Option.isSome_some] at h1 h2
    have rok := putP_ok way hp hq hR
    have rsm := putP_sm way hsm hsm2 hR
    have rdp := putP_dP way p q R hR
    have aok := atP_okq way hp hA
    have asm := atP_smq way hsm hA
    have adp := atP_dP way hA
    have h3 := fun o ro df => pAt_eq R rok rsm way (by omega) o ro df
    rw [at_put way hR] at h3
    have h4 := fun o ro df => pPut_eq R a rok rsm aok asm (by omega) (by omega) way (by omega) o ro df
    rw [put_back way hR hA] at h4
    simp only [Option.getD_some, Option.isSome_some] at h3 h4
    have h5 := fun st => rexact_eq q hq q hq st
    have h6 := fun st => rexact_eq p hp p hp st
    rw [xc_self] at h5 h6
    have h7 := fun o ro df => apart_eq way other (by omega) (by omega) o ro df
    have h8 := fun o ro df => pAt_eq p hp hsm other (by omega) o ro df
    have h9 := fun o ro df => pAt_eq R rok rsm other (by omega) o ro df
    have y1 := p_take a
    have y2 := p_can a
    have y3 := plen a
    have y4 := p_one a
    have r1 := p_take R
    have r2 := p_can R
    have r3 := plen R
    have r4 := p_one R
    cases hap : aprt way other with
    | false =>
      rw [hap] at h7
      clear h8 h9
      simp only [Pf.av] at f1 f2 h1 h2 h3 h4
      apply call_by (by exact rfl : T 7 = some _) (by simp)
      intro fr hfr hsl
      have s0 := hsl 0 _ rfl
      have s1 := hsl 1 _ rfl
      have s2 := hsl 2 _ rfl
      have s3 := hsl 3 _ rfl
      simp only [Pf.av] at s0 s1
      simp -implicitDefEqProofs [hfr, s0, s1, s2, s3, st0, f1, f2, al, k, k2, m, m2, wlen, olen, h1, h2, h3, h4, h5, h6, h7, pset, x1, x2, x3, x4, y1, y2, y3, y4, z1, z2, z3, z4, r1, r2, r3, r4, get_base0, get_base, set_base0, set_base, -getElem?_pos, List.getElem?_cons_zero, List.getElem?_cons_succ]
    | true =>
      rw [hap] at h7
      rw [at_apart way other hR hap] at h9
      have bok := atP_ok other p hp
      have h10 := fun st => rexact_eq _ bok _ bok st
      rw [xc_self] at h10
      generalize (atP p other).isSome = IS at *
      generalize (atP p other).getD zPf = c at *
      have c1 := p_take c
      have c2 := p_can c
      have c3 := plen c
      have c4 := p_one c
      simp only [Pf.av] at f1 f2 h1 h2 h3 h4 h8 h9
      apply call_by (by exact rfl : T 7 = some _) (by simp)
      intro fr hfr hsl
      have s0 := hsl 0 _ rfl
      have s1 := hsl 1 _ rfl
      have s2 := hsl 2 _ rfl
      have s3 := hsl 3 _ rfl
      simp only [Pf.av] at s0 s1
      simp -implicitDefEqProofs [hfr, s0, s1, s2, s3, st0, f1, f2, al, k, k2, m, m2, wlen, olen, h1, h2, h3, h4, h5, h6, h7, h8, h9, h10, pset, x1, x2, x3, x4, y1, y2, y3, y4, z1, z2, z3, z4, r1, r2, r3, r4, c1, c2, c3, c4, get_base0, get_base, set_base0, set_base, -getElem?_pos, List.getElem?_cons_zero, List.getElem?_cons_succ]

end Go.Proofs.YtkecobdhgabknaaDoor.A
