/- Shift of the program, as a whole. -/
import Derived.Test.YtgabnhmjlhhojaaGx0
namespace Go.Proofs.Ytgabnhmjlhhojaa.A
open Go
set_option maxRecDepth 10000
set_option linter.unusedSimpArgs false
set_option linter.unusedVariables false
attribute [-simp] List.all_eq_true put slot_def ld idxA lenOf elems canA app hand List.map_map

theorem cShift_eq (a b : Int) : ∀ (c : Cu), c.sm → ∀ (o : List Obj) (ro : Nat) (df : List Nat), (D T).call 25 [.agg c.cells, .int .i64 a, .int .i64 b] ⟨o, ro, df⟩ = some (.agg (upC a b c).cells, ⟨o, ro, df⟩)
  | .mk kd fr0 by0 dv k ms cs, h, o, ro, df => by
    simp only [Cu.sm] at h
    obtain ⟨h1, h2, h3, h4, h5⟩ := h
    have hl := smCu_iff.1 h5
    have ih := fun x (hx : x ∈ cs) o ro df => cShift_eq a b x (hl x hx) o ro df
    have l1 := fun o o1 q ro x0 x1 x2 x3 x4 x5 Q fr hfr hq hro => shift_l1 a b cs h4 ih o o1 q ro x0 x1 x2 x3 x4 x5 Q fr hfr hq hro
    have c2 := fun st => cloneJ_eq by0 h2 st
    have c3 := fun st => cloneM_eq ms h3 st
    have f1 := intA_flat (upI a b fr0)
    have f2 := intA_flat by0
    have f3 := moA_flat ms
    have f4 := cuflat_list (cs.map (upC a b))
    have e1 : (upI a b fr0).length = fr0.length := by simp [upI]
    have e4 : (intA (upI a b fr0)).length = fr0.length := by rw [intA_len, e1]
    have e5 : ((cs.map (upC a b)).map Cu.cells).length = cs.length := by simp
    have t4 : List.take fr0.length (intA (upI a b fr0)) = intA (upI a b fr0) := by rw [← e4, List.take_length]
    have t5 : List.take cs.length ((cs.map (upC a b)).map Cu.cells) = (cs.map (upC a b)).map Cu.cells := by rw [← e5, List.take_length]
    have hE : (upC a b (.mk kd fr0 by0 dv k ms cs)).cells = [.int .i64 kd, .sl 1 (intA (upI a b fr0)), .sl 1 (intA by0), .int .i64 dv, .int .i64 k, .sl 2 (moA ms), .sl 7 ((cs.map (upC a b)).map Cu.cells)] := by
      rw [upC, Cu.cells_mk, upCL_map]
    rw [hE, Cu.cells_mk]
    apply call_by (by exact rfl : T 25 = some _) (by simp)
    intro fr hfr hsl
    have s0 := hsl 0 _ rfl
    have s1 := hsl 1 _ rfl
    have s2 := hsl 2 _ rfl
    generalize intA by0 = B at *
    generalize moA ms = M at *
    by_cases n0 : fr0 = []
    · subst n0
      have ea : intA [] = [] := rfl
      have eu : upI a b [] = [] := rfl
      have ci := fun st => cloneIo_nil st
      simp -implicitDefEqProofs [hfr, s0, s1, s2, ea, eu, ci, get_base0, get_base, set_base0, set_base, -getElem?_pos, List.getElem?_cons_zero, List.getElem?_cons_succ]
      refine shift_l0n _ _ _ _ (by simp [hfr]) (by simp [hfr]) (by simp [hfr]) a b o.length (o.length + 1) (by simp [hfr, s1]) (by simp [hfr, s2]) (by simp [hfr]) (by simp [hfr]) ?_
      clear hfr s0 s1 s2 hsl
      clear fr
      intro fr hfr q1 q2 q3 q6
      by_cases n1 : cs = []
      · subst n1
        have cc := fun st => cloneCo_nil st
        simp -implicitDefEqProofs [hfr, q1, q2, q3, q6, c2, c3, cc, get_base0, get_base, set_base0, set_base, -getElem?_pos, List.getElem?_cons_zero, List.getElem?_cons_succ]
        refine shift_l1n _ _ _ _ (by simp [hfr]) (by simp [hfr]) (by simp [hfr]) o.length (o.length + 1) (by simp [hfr, q3]) (by simp [hfr, q6]) ?_
        clear hfr q1 q2 q3 q6
        clear fr
        intro fr hfr q3 q6
        simp -implicitDefEqProofs [hfr, q3, q6, f2, f3, get_base0, get_base, set_base0, set_base, -getElem?_pos, List.getElem?_cons_zero, List.getElem?_cons_succ]
      · have cc := fun st => cloneCo_eq cs h4 n1 st
        generalize hP : cs.map Cu.cells = P at *
        generalize hP2 : (cs.map (upC a b)).map Cu.cells = P2 at *
        simp -implicitDefEqProofs [hfr, q1, q2, q3, q6, c2, c3, cc, get_base0, get_base, set_base0, set_base, -getElem?_pos, List.getElem?_cons_zero, List.getElem?_cons_succ]
        refine l1 o _ (o.length + 2) _ _ _ _ _ _ _ _ _ (by simp [hfr]) (by omega) rfl (by simp [hfr, q1]) (by simp [hfr, q2]) (by simp [hfr, q3]) (by simp [hfr, q6]) (by simp [hfr]) (by simp [hfr]) (by simp [hfr]) (by rw [get_base0]; rfl) (by rw [get_base]; rfl) ?_
        clear hfr q1 q2 q3 q6
        clear fr
        intro fr o2 hfr q3 q6 K gS
        have k0 := K o.length (by omega) (by simp)
        have k1 := K (o.length + 1) (by omega) (by simp)
        simp [get_base0, get_base] at k0 k1
        have hlo := lt_of_getO k1
        have m2 : ¬ o.length + 2 < o.length := by omega
        have m3 : ¬ o.length + 3 < o.length := by omega
        have w0 : ∀ X, (o2.set (o.length + 1) X)[o.length + 1]? = some X := fun X => getO_set (by omega)
        have w2 : ∀ X, (o2.set (o.length + 1) X)[o.length + 2]? = o2[o.length + 2]? := fun X => List.getElem?_set_ne (by omega)
        have w3 : ∀ X, (o2.set (o.length + 1) X)[o.length + 3]? = o2[o.length + 3]? := fun X => List.getElem?_set_ne (by omega)
        simp -implicitDefEqProofs [hfr, q3, q6, k0, k1, gS, w0, w2, m2, f2, f3, f4, e5, t5, -getElem?_pos, List.getElem?_cons_zero, List.getElem?_cons_succ]
    · have ci := fun st => cloneIo_eq fr0 h1 n0 st
      generalize hA : intA fr0 = A at *
      simp -implicitDefEqProofs [hfr, s0, s1, s2, ci, get_base0, get_base, set_base0, set_base, -getElem?_pos, List.getElem?_cons_zero, List.getElem?_cons_succ]
      subst hA
      refine shift_l0 a b fr0 h1 o _ _ _ _ _ _ _ _ _ (by simp [hfr]) (by simp [hfr, s1]) (by simp [hfr, s2]) (by simp [hfr]) (by simp [hfr]) (by simp [hfr]) (by simp [hfr]) (by simp [hfr]) ?_
      clear hfr s0 s1 s2 hsl
      clear fr
      intro fr hfr q1 q2 q3 q6
      generalize hA : intA (upI a b fr0) = A at *
      by_cases n1 : cs = []
      · subst n1
        have cc := fun st => cloneCo_nil st
        simp -implicitDefEqProofs [hfr, q1, q2, q3, q6, c2, c3, cc, get_base0, get_base, set_base0, set_base, -getElem?_pos, List.getElem?_cons_zero, List.getElem?_cons_succ]
        refine shift_l1n _ _ _ _ (by simp [hfr]) (by simp [hfr]) (by simp [hfr]) o.length (o.length + 1) (by simp [hfr, q3]) (by simp [hfr, q6]) ?_
        clear hfr q1 q2 q3 q6
        clear fr
        intro fr hfr q3 q6
        simp -implicitDefEqProofs [hfr, q3, q6, f1, f2, f3, e4, t4, show ¬ o.length + 2 < o.length by omega, get_base0, get_base, set_base0, set_base, -getElem?_pos, List.getElem?_cons_zero, List.getElem?_cons_succ]
      · have cc := fun st => cloneCo_eq cs h4 n1 st
        generalize hP : cs.map Cu.cells = P at *
        generalize hP2 : (cs.map (upC a b)).map Cu.cells = P2 at *
        simp -implicitDefEqProofs [hfr, q1, q2, q3, q6, c2, c3, cc, get_base0, get_base, set_base0, set_base, -getElem?_pos, List.getElem?_cons_zero, List.getElem?_cons_succ]
        refine l1 o _ (o.length + 3) _ _ _ _ _ _ _ _ _ (by simp [hfr]) (by omega) rfl (by simp [hfr, q1]) (by simp [hfr, q2]) (by simp [hfr, q3]) (by simp [hfr, q6]) (by simp [hfr]) (by simp [hfr]) (by simp [hfr]) (by rw [get_base0]; rfl) (by rw [get_base]; rfl) ?_
        clear hfr q1 q2 q3 q6
        clear fr
        intro fr o2 hfr q3 q6 K gS
        have k0 := K o.length (by omega) (by simp)
        have k1 := K (o.length + 1) (by omega) (by simp)
        have k2 := K (o.length + 2) (by omega) (by simp)
        simp [get_base0, get_base] at k0 k1 k2
        have hlo := lt_of_getO k1
        have m2 : ¬ o.length + 2 < o.length := by omega
        have m3 : ¬ o.length + 3 < o.length := by omega
        have w0 : ∀ X, (o2.set (o.length + 1) X)[o.length + 1]? = some X := fun X => getO_set (by omega)
        have w2 : ∀ X, (o2.set (o.length + 1) X)[o.length + 2]? = o2[o.length + 2]? := fun X => List.getElem?_set_ne (by omega)
        have w3 : ∀ X, (o2.set (o.length + 1) X)[o.length + 3]? = o2[o.length + 3]? := fun X => List.getElem?_set_ne (by omega)
        simp -implicitDefEqProofs [hfr, q3, q6, k0, k1, k2, gS, w0, w2, w3, m2, m3, f1, f2, f3, f4, e4, e5, t4, t5, -getElem?_pos, List.getElem?_cons_zero, List.getElem?_cons_succ]
termination_by t => SizeOf.sizeOf t
decreasing_by
  have := List.sizeOf_lt_of_mem hx
  simp
  omega

end Go.Proofs.Ytgabnhmjlhhojaa.A
