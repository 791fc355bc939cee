/- CutsSound: for any such input the law's function answers true. No condition beyond the given statement's. -/
import Derived.Test.YtgabnhmjlhhojaaQ19
import Derived.Test.YtgabnhmjlhhojaaZ7
import Derived.Test.YtgabnhmjlhhojaaG
namespace Go.Proofs.Ytgabnhmjlhhojaa.A
open Go
set_option maxRecDepth 10000
set_option linter.unusedSimpArgs false
set_option linter.unusedVariables false
attribute [-simp] List.all_eq_true put slot_def ld idxA lenOf elems canA app hand slc add64A

theorem law_sound31 (l : List Iq) (c : Cu) (x : List Int) (k0 : (∀ q ∈ l, inI q.1.1 ∧ moL q.1.2) ∧ l.length ≤ mxB) (k1 : c.ok) (k2 : inL x) : (D T).call 7 [.sl 3 (l.map iqA), c.av, .sl 1 (intA x)] st0 = some (.bool true, st0) := by
  have al := fun o ro df => goes_any o ro df
  have f1 := fun o ro df => small31_eq c k1 o ro df
  have f2 := fun o ro df => short_eq 60 l (by have := k0.2; unfold mxB at this; omega) o (.sl 3 (l.map iqA)) (.inl rfl) ro df
  have y1 := cu_take c
  have y2 := cu_can c
  have y3 := culen c
  have y4 := cu_one c
  simp only [Cu.av] at f1 ⊢
  by_cases h1 : cw c 400 ≤ 400
  rotate_left
  · apply call_by (by exact rfl : T 7 = some _) (by simp)
    intro fr hfr hsl
    have s0 := hsl 0 _ rfl
    have s1 := hsl 1 _ rfl
    have s2 := hsl 2 _ rfl
    generalize l.map iqA = A at *
    generalize intA x = X at *
    simp -implicitDefEqProofs [hfr, s0, s1, s2, st0, f1, al, h1, y1, y2, y3, y4, -getElem?_pos, List.getElem?_cons_zero, List.getElem?_cons_succ]
  cases h2 : shrt 60 l with
  | false =>
    rw [h2] at f2
    apply call_by (by exact rfl : T 7 = some _) (by simp)
    intro fr hfr hsl
    have s0 := hsl 0 _ rfl
    have s1 := hsl 1 _ rfl
    have s2 := hsl 2 _ rfl
    generalize l.map iqA = A at *
    generalize intA x = X at *
    simp -implicitDefEqProofs [hfr, s0, s1, s2, st0, f1, f2, al, h1, y1, y2, y3, y4, -getElem?_pos, List.getElem?_cons_zero, List.getElem?_cons_succ]
  | true =>
    rw [h2] at f2
    unfold shrt at h2
    simp only [Bool.and_eq_true, List.all_eq_true, decide_eq_true_eq] at h2
    have hL : ∀ q ∈ l, LiOk q.1 := fun q hq => ⟨(k0.1 q hq).1, fun m hm => (k0.1 q hq).2.1 m hm, by have := h2.1 q hq; omega⟩
    have hs : csz c ≤ 1000000 := by have := cw_csz c 400 (by omega); omega
    have f3 := fun o ro df => cCheck_eq l (by omega) hL c k1 (cw_sm c 400 (by omega) h1) hs (.sl 3 (l.map iqA)) o (.inl rfl) ro df
    have f4 := fun o ro df => iall_eq l (by omega) hL x (fun n hn => k2.1 n hn) o (.sl 3 (l.map iqA)) (.sl 1 (intA x)) (ls_sl _) (ls_sl _) ro df
    have hlaw := sound_law x l c
    generalize ckT l c = R at *
    generalize allP x l 0 = V at *
    obtain ⟨w, e⟩ := R
    obtain ⟨n, g⟩ := V
    simp only at f3 f4 hlaw
    apply call_by (by exact rfl : T 7 = some _) (by simp)
    intro fr hfr hsl
    have s0 := hsl 0 _ rfl
    have s1 := hsl 1 _ rfl
    have s2 := hsl 2 _ rfl
    generalize l.map iqA = A at *
    generalize intA x = X at *
    generalize intA w = W at *
    by_cases c1 : e = 0
    · subst c1
      by_cases c2 : g = 0
      · subst c2
        have hn := hlaw rfl rfl
        have hn2 : n ≥ 0 := hn
        simp -implicitDefEqProofs [hfr, s0, s1, s2, st0, f1, f2, f3, f4, al, h1, hn, hn2, y1, y2, y3, y4, -getElem?_pos, List.getElem?_cons_zero, List.getElem?_cons_succ]
      · have c2b : (g != 0) = true := by simpa using c2
        simp -implicitDefEqProofs [hfr, s0, s1, s2, st0, f1, f2, f3, f4, al, h1, c2b, y1, y2, y3, y4, -getElem?_pos, List.getElem?_cons_zero, List.getElem?_cons_succ]
    · have c1b : (e != 0) = true := by simpa using c1
      simp -implicitDefEqProofs [hfr, s0, s1, s2, st0, f1, f2, f3, f4, al, h1, c1b, y1, y2, y3, y4, -getElem?_pos, List.getElem?_cons_zero, List.getElem?_cons_succ]

end Go.Proofs.Ytgabnhmjlhhojaa.A
