/- CutsChecks: for any such input the law's function answers true. No condition beyond the given statement's. -/
import Derived.Test.YtgabnhmjlhhojaaU16
import Derived.Test.YtgabnhmjlhhojaaQ18
import Derived.Test.YtgabnhmjlhhojaaQ12
import Derived.Test.YtgabnhmjlhhojaaG
namespace Go.Proofs.Ytgabnhmjlhhojaa.A
open Go
set_option maxRecDepth 10000
set_option linter.unusedSimpArgs false
set_option linter.unusedVariables false
attribute [-simp] List.all_eq_true put slot_def ld idxA lenOf elems canA app hand slc add64A

theorem ckT_len (l : List Iq) (c : Cu) : ((ckT l c).1.length : Int) ≤ cdp c := by
  have h := cdp_pos c
  have h2 := ckC_len c l []
  unfold ckT
  split
  · simp; omega
  · split
    · simp; omega
    · split
      · simp; omega
      · simpa using h2

theorem law_checks31 (l : List Iq) (c : Cu) (k0 : (∀ q ∈ l, inI q.1.1 ∧ moL q.1.2) ∧ l.length ≤ mxB) (k1 : c.ok) : (D T).call 4 [.sl 3 (l.map iqA), c.av] st0 = some (.bool true, st0) := by
  have al := fun o ro df => goes_any o ro df
  have f1 := fun o ro df => small31_eq c k1 o ro df
  have f2 := fun o ro df => short_eq 60 l (by have := k0.2; unfold mxB at this; omega) o (.sl 3 (l.map iqA)) (.inl rfl) ro df
  have y1 := cu_take c
  have y2 := cu_can c
  have y3 := culen c
  have y4 := cu_one c
  simp only [Cu.av] at f1 ⊢
  by_cases h1 : cw c 400 ≤ 400
  rotate_left
  · apply call_by (by exact rfl : T 4 = some _) (by simp)
    intro fr hfr hsl
    have s0 := hsl 0 _ rfl
    have s1 := hsl 1 _ rfl
    generalize l.map iqA = A at *
    simp -implicitDefEqProofs [hfr, s0, s1, st0, f1, al, h1, y1, y2, y3, y4, -getElem?_pos, List.getElem?_cons_zero, List.getElem?_cons_succ]
  cases h2 : shrt 60 l with
  | false =>
    rw [h2] at f2
    apply call_by (by exact rfl : T 4 = some _) (by simp)
    intro fr hfr hsl
    have s0 := hsl 0 _ rfl
    have s1 := hsl 1 _ rfl
    generalize l.map iqA = A at *
    simp -implicitDefEqProofs [hfr, s0, s1, st0, f1, f2, al, h1, y1, y2, y3, y4, -getElem?_pos, List.getElem?_cons_zero, List.getElem?_cons_succ]
  | true =>
    rw [h2] at f2
    unfold shrt at h2
    simp only [Bool.and_eq_true, List.all_eq_true, decide_eq_true_eq] at h2
    have hL : ∀ q ∈ l, LiOk q.1 := fun q hq => ⟨(k0.1 q hq).1, fun m hm => (k0.1 q hq).2.1 m hm, by have := h2.1 q hq; omega⟩
    have hs : csz c ≤ 400 := by have := cw_csz c 400 (by omega); omega
    have hsm := cw_sm c 400 (by omega) h1
    have f3 := fun o ro df => cCheck_eq l (by omega) hL c k1 hsm (by omega) (.sl 3 (l.map iqA)) o (.inl rfl) ro df
    have f4 := fun o ro df => rCheck_eq l (by omega) hL c k1 hsm (by omega) o ro df
    have hlen := ckT_len l c
    have hd := cdp_csz c
    have hi := fun st => bints_eq (ckT l c).1 (ckT l c).1 (by unfold mxB; omega) st
    have hib : ((ckT l c).1.length == (ckT l c).1.length && leq ieq (ckT l c).1 (ckT l c).1) = true := by
      rw [leq_refl (fun x => by simp [ieq])]; simp
    rw [hib] at hi
    have hG : gtA (ckT l c) = [.sl 1 (intA (ckT l c).1), .int .i64 (ckT l c).2] := rfl
    rw [hG] at f4
    clear hlen hib hG
    generalize intA (ckT l c).1 = W at *
    generalize (ckT l c).2 = e at *
    apply call_by (by exact rfl : T 4 = some _) (by simp)
    intro fr hfr hsl
    have s0 := hsl 0 _ rfl
    have s1 := hsl 1 _ rfl
    generalize l.map iqA = A at *
    simp -implicitDefEqProofs [hfr, s0, s1, st0, f1, f2, f3, f4, hi, al, h1, y1, y2, y3, y4, -getElem?_pos, List.getElem?_cons_zero, List.getElem?_cons_succ]

end Go.Proofs.Ytgabnhmjlhhojaa.A
