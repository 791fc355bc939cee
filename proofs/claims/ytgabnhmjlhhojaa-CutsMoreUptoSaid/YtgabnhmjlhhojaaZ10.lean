/- Shift of the document. -/
import Derived.Test.YtgabnhmjlhhojaaGx0
import Derived.Test.YtgabnhmjlhhojaaQ14
namespace Go.Proofs.Ytgabnhmjlhhojaa.A
open Go
set_option maxRecDepth 10000
set_option linter.unusedSimpArgs false
set_option linter.unusedVariables false
attribute [-simp] List.all_eq_true put slot_def ld idxA lenOf elems canA app hand List.map_map

theorem gx_setne {ty sz lo : Nat} {o : List Obj} {v : AV} {es : List (List AV)} (G : Gx ty sz lo o v es) {i : Nat} (hv : ∀ n f, v ≠ .own i 0 n f) (X : Obj) : Gx ty sz lo (o.set i X) v es := by
  refine ⟨?_, G.nil⟩
  rcases G.G with rfl | ⟨r, r1, rfl, r2⟩
  · exact .inl rfl
  · exact .inr ⟨r, r1, rfl, by rw [List.getElem?_set_ne (by rintro rfl; exact hv _ _ rfl)]; exact r2⟩
theorem gx_one {ty sz lo : Nat} {o : List Obj} {v : AV} {es : List (List AV)} (G : Gx ty sz lo o v es) : AV.one v = true := by
  rcases G.G with rfl | ⟨r, r1, rfl, r2⟩ <;> rfl
theorem gx_canA {ty sz lo : Nat} {o : List Obj} {v : AV} {es : List (List AV)} (G : Gx ty sz lo o v es) : canA v = v := by
  rcases G.G with rfl | ⟨r, r1, rfl, r2⟩ <;> rfl

theorem rshift_l0 (a b : Int) (fs : List Int) (hl : fs.length ≤ 1000000) (o o1 : List Obj) (B R : Obj) (ro : Nat) (hro : ro = o.length) (x0 y1 y2 y3 y4 y5 y6 x2 x3 x4 x5 x6 : AV) (Q : AE → List AV → St → Prop) (fr : List AV) (hfr : fr.length = 59)
    (q1 : slot fr 1 = .int .i64 a) (q2 : slot fr 2 = .int .i64 b) (q3 : slot fr 3 = .ptr o.length 0 0) (q6 : slot fr 6 = .ptr (o.length + 1) 0 0) (q7 : slot fr 7 = .ptr (o.length + 2) 0 0) (q8 : slot fr 8 = .int .i64 0)
    (hB : B = Obj.arr 29 7 [[x0, .sl 1 (intA fs), y2, y3, y4, y5, y6]])
    (g0 : o1[o.length]? = some B) (g1 : o1[o.length + 1]? = some R) (g2 : o1[o.length + 2]? = some (Obj.arr 29 7 [[x0, .fsl 1 [], x2, x3, x4, x5, x6]]))
    (kk : ∀ (fr' : List AV) (o2 : List Obj) (v : AV), fr'.length = 59 → slot fr' 1 = .int .i64 a → slot fr' 2 = .int .i64 b → slot fr' 3 = .ptr o.length 0 0 → slot fr' 6 = .ptr (o.length + 1) 0 0 → slot fr' 7 = .ptr (o.length + 2) 0 0 →
      o2[o.length]? = some B → o2[o.length + 1]? = some R → o2[o.length + 2]? = some (Obj.arr 29 7 [[x0, v, x2, x3, x4, x5, x6]]) → Gx 3 1 (o.length + 3) o2 v (intA (upI a b fs)) → Q (.exit 0) fr' ⟨o2, ro, []⟩) :
    ∃ e fr' st', (D T).loop false L29_0 fr ⟨o1, ro, []⟩ = some (e, fr', st') ∧ Q e fr' st' := by
  have mx : fs.length ≤ 9223372036854775807 := by omega
  have hF := intA_len fs
  have hg1 := fun (i : Nat) u (h : fs[i]? = some u) => show (intA fs)[i]? = some [.int .i64 u] by simp [intA, h]
  generalize intA fs = F at *
  apply loop_inv L29_0.eq_1 List.length (fun (rest : List Int) fr st => ∃ pre v o2, fs = pre ++ rest ∧ fr.length = 59 ∧ slot fr 1 = .int .i64 a ∧ slot fr 2 = .int .i64 b ∧ slot fr 3 = .ptr o.length 0 0 ∧ slot fr 6 = .ptr (o.length + 1) 0 0 ∧ slot fr 7 = .ptr (o.length + 2) 0 0 ∧ slot fr 8 = .int .i64 (pre.length : Int) ∧
    st = ⟨o2, ro, []⟩ ∧ o2[o.length]? = some B ∧ o2[o.length + 1]? = some R ∧ o2[o.length + 2]? = some (Obj.arr 29 7 [[x0, v, x2, x3, x4, x5, x6]]) ∧ Gx 3 1 (o.length + 3) o2 v (intA (upI a b pre))) ?_ fs
    ⟨[], .fsl 1 [], o1, rfl, hfr, q1, q2, q3, q6, q7, q8, rfl, g0, g1, g2, ⟨.inl rfl, fun _ => rfl⟩⟩
  clear hfr q1 q2 q3 q6 q7 q8 g0 g1 g2
  clear fr
  rintro rest fr _ ⟨pre, v, o2, e, hfr, q1, q2, q3, q6, q7, q8, rfl, g0, g1, g2, G⟩
  have g0' := g0
  rw [hB] at g0'
  cases rest with
  | nil =>
    have hlt := idx_end e
    have ee : pre = fs := by simpa using e.symm
    simp -implicitDefEqProofs [hfr, q1, q2, q3, q6, q7, q8, g0', hF, hlt, List.getElem?_cons_zero, -getElem?_pos]
    exact kk _ o2 v (by simp [hfr]) (by simp [hfr, q1]) (by simp [hfr, q2]) (by simp [hfr, q3]) (by simp [hfr, q6]) (by simp [hfr, q7]) g0 g1 g2 (by rw [← ee]; exact G)
  | cons x rest =>
    obtain ⟨hlt, hg, hpl⟩ := idx_at e
    have hw := idx_next e mx
    have hgx := hg1 _ _ hg
    have hlp : (intA (upI a b pre)).length = pre.length := by simp [intA, upI]
    have hle : pre.length + 1 ≤ 1000000 := by omega
    have hlo := lt_of_getO g2
    have hone := gx_one G
    obtain ⟨o4, a1, a2, W⟩ := gx_appw G (ro := ro) (df := []) (bytes := 8) (by omega) (by omega) (elems_fsl _ 1 [[.int .i64 (upN a b x)]]) (room_of0 (by simp [hlp]; omega) (by simp [hlp]; omega))
    simp only [List.length_cons, List.length_nil, Nat.zero_add] at a1 a2 W
    have m0 := (W.keep o.length (by omega) (fun n f => G.not (by omega) n f)).1
    have m1 := (W.keep (o.length + 1) (by omega) (fun n f => G.not (by omega) n f)).1
    have m2 := (W.keep (o.length + 2) (by omega) (fun n f => G.not (by omega) n f)).1
    rw [g0] at m0
    rw [g1] at m1
    rw [g2] at m2
    have l1 : o.length + 2 < o4.length := by omega
    have l2 : ro ≤ o.length + 2 := by omega
    have hS : intA (upI a b (pre ++ [x])) = intA (upI a b pre) ++ [[.int .i64 (upN a b x)]] := by simp [intA, upI]
    by_cases h : a ≤ x
    · have hS2 : IntKind.i64.wrap (x + b) = upN a b x := by simp [upN, h]
      generalize upN a b x = N at *
      simp -implicitDefEqProofs [hfr, q1, q2, q3, q6, q7, q8, g0', g2, m2, hF, hgx, hlt, hw, hpl, h, hS2, a1, l1, l2, hone, -getElem?_pos, List.getElem?_cons_zero, List.getElem?_cons_succ]
      exact ⟨rest, by simp, pre ++ [x], by simp [e], by simp, m0, m1, by rw [hS]; exact gx_setne W.G (fun n f => W.G.not (by omega) n f) _⟩
    · have hS2 : upN a b x = x := by simp [upN, h]
      rw [hS2] at a1 hS W
      simp -implicitDefEqProofs [hfr, q1, q2, q3, q6, q7, q8, g0', g2, m2, hF, hgx, hlt, hw, hpl, h, hS2, a1, l1, l2, hone, -getElem?_pos, List.getElem?_cons_zero, List.getElem?_cons_succ]
      exact ⟨rest, by simp, pre ++ [x], by simp [e], by simp, m0, m1, by rw [hS]; exact gx_setne W.G (fun n f => W.G.not (by omega) n f) _⟩

theorem rshift_l1 (a b : Int) (cs : List Cu) (hl : cs.length ≤ 1000000) (ih : ∀ x ∈ cs, ∀ (o : List Obj) (ro : Nat) (df : List Nat), (D T).call 29 [.agg x.cells, .int .i64 a, .int .i64 b] ⟨o, ro, df⟩ = some (.agg (upC a b x).cells, ⟨o, ro, df⟩))
    (o o1 : List Obj) (B R : Obj) (ro : Nat) (hro : ro = o.length) (x0 y1 y2 y3 y4 y5 x1 x2 x3 x4 x5 : AV) (A : List (List AV)) (Q : AE → List AV → St → Prop) (fr : List AV) (hfr : fr.length = 59)
    (q1 : slot fr 1 = .int .i64 a) (q2 : slot fr 2 = .int .i64 b) (q3 : slot fr 3 = .ptr o.length 0 0) (q6 : slot fr 6 = .ptr (o.length + 1) 0 0) (q7 : slot fr 7 = .ptr (o.length + 2) 0 0) (q10 : slot fr 10 = .int .i64 0)
    (hB : B = Obj.arr 29 7 [[x0, y1, y2, y3, y4, y5, .sl 7 (cs.map Cu.cells)]]) (hx1 : AV.one x1 = true)
    (g0 : o1[o.length]? = some B) (g1 : o1[o.length + 1]? = some R) (g2 : o1[o.length + 2]? = some (Obj.arr 29 7 [[x0, x1, x2, x3, x4, x5, .fsl 7 []]])) (GA : Gx 3 1 (o.length + 3) o1 x1 A)
    (kk : ∀ (fr' : List AV) (o2 : List Obj) (v : AV), fr'.length = 59 → slot fr' 6 = .ptr (o.length + 1) 0 0 → slot fr' 7 = .ptr (o.length + 2) 0 0 →
      o2[o.length + 1]? = some R → o2[o.length + 2]? = some (Obj.arr 29 7 [[x0, x1, x2, x3, x4, x5, v]]) → Gx 3 1 (o.length + 3) o2 x1 A → Gx 29 7 (o.length + 3) o2 v ((cs.map (upC a b)).map Cu.cells) → Q (.exit 2) fr' ⟨o2, ro, []⟩) :
    ∃ e fr' st', (D T).loop false L29_1 fr ⟨o1, ro, []⟩ = some (e, fr', st') ∧ Q e fr' st' := by
  have mx : cs.length ≤ 9223372036854775807 := by omega
  apply loop_inv L29_1.eq_1 List.length (fun (rest : List Cu) fr st => ∃ pre v o2, cs = pre ++ rest ∧ fr.length = 59 ∧ slot fr 1 = .int .i64 a ∧ slot fr 2 = .int .i64 b ∧ slot fr 3 = .ptr o.length 0 0 ∧ slot fr 6 = .ptr (o.length + 1) 0 0 ∧ slot fr 7 = .ptr (o.length + 2) 0 0 ∧ slot fr 10 = .int .i64 (pre.length : Int) ∧
    st = ⟨o2, ro, []⟩ ∧ o2[o.length]? = some B ∧ o2[o.length + 1]? = some R ∧ o2[o.length + 2]? = some (Obj.arr 29 7 [[x0, x1, x2, x3, x4, x5, v]]) ∧ Gx 3 1 (o.length + 3) o2 x1 A ∧ Gx 29 7 (o.length + 3) o2 v ((pre.map (upC a b)).map Cu.cells)) ?_ cs
    ⟨[], .fsl 7 [], o1, rfl, hfr, q1, q2, q3, q6, q7, q10, rfl, g0, g1, g2, GA, ⟨.inl rfl, fun _ => rfl⟩⟩
  clear hfr q1 q2 q3 q6 q7 q10 g0 g1 g2 GA
  clear fr
  rintro rest fr _ ⟨pre, v, o2, e, hfr, q1, q2, q3, q6, q7, q10, rfl, g0, g1, g2, GA, G⟩
  have g0' := g0
  rw [hB] at g0'
  cases rest with
  | nil =>
    have hlt := idx_end e
    have ee : pre = cs := by simpa using e.symm
    simp -implicitDefEqProofs [hfr, q1, q2, q3, q6, q7, q10, g0', hlt, List.getElem?_cons_zero, -getElem?_pos]
    exact kk _ o2 v (by simp [hfr]) (by simp [hfr, q6]) (by simp [hfr, q7]) g1 g2 GA (by rw [← ee]; exact G)
  | cons x rest =>
    obtain ⟨hlt, hg, hpl⟩ := idx_at e
    have hw := idx_next e mx
    have hx : x ∈ cs := by simp [e]
    have hc := fun o ro df => ih x hx o ro df
    have u1 := cu_take x
    have u2 := cu_can x
    have u3 := culen x
    have u4 := cu_one x
    have z1 := cu_take (upC a b x)
    have z2 := cu_can (upC a b x)
    have z3 := culen (upC a b x)
    have z4 := cu_one (upC a b x)
    have sa : ∀ (cs : List AV) (t : Cu), cs.length = 7 → setMany cs 0 (Cu.cells t) = Cu.cells t := fun cs t h => set_all _ _ (by rw [h, culen])
    have hlp : ((pre.map (upC a b)).map Cu.cells).length = pre.length := by simp
    have hle : pre.length + 1 ≤ 1000000 := by omega
    have hlo := lt_of_getO g2
    have hone := gx_one G
    obtain ⟨o4, a1, a2, W⟩ := gx_appw G (ro := ro) (df := []) (bytes := 120) (by omega) (by omega) (elems_fsl _ 7 [(upC a b x).cells]) (room_of0 (by simp [hlp]; omega) (by simp [hlp]; omega))
    simp only [List.length_cons, List.length_nil, Nat.zero_add, hlp] at a1 a2 W
    have m0 := (W.keep o.length (by omega) (fun n f => G.not (by omega) n f)).1
    have m1 := (W.keep (o.length + 1) (by omega) (fun n f => G.not (by omega) n f)).1
    have m2 := (W.keep (o.length + 2) (by omega) (fun n f => G.not (by omega) n f)).1
    rw [g0] at m0
    rw [g1] at m1
    rw [g2] at m2
    have l1 : o.length + 2 < o4.length := by omega
    have l2 : ro ≤ o.length + 2 := by omega
    have GA2 := fun X => gx_beside GA G (by decide) W (i := o.length + 2) (by omega) X
    have hS : ((pre ++ [x]).map (upC a b)).map Cu.cells = (pre.map (upC a b)).map Cu.cells ++ [(upC a b x).cells] := by simp
    simp -implicitDefEqProofs [hfr, q1, q2, q3, q6, q7, q10, g0', g2, m2, hg, hc, hlt, hw, hpl, a1, l1, l2, hone, hx1, u1, u2, u3, u4, z1, z2, z3, z4, sa, -List.getElem_map, -getElem?_pos, List.getElem?_cons_zero, List.getElem?_cons_succ]
    exact ⟨rest, by simp, pre ++ [x], by simp [e], by simp, m0, m1, GA2 _, by rw [hS]; exact gx_setne W.G (fun n f => W.G.not (by omega) n f) _⟩

theorem rShift31_eq (a b : Int) : ∀ (c : Cu), c.sm → ∀ (o : List Obj) (ro : Nat) (df : List Nat), (D T).call 29 [.agg c.cells, .int .i64 a, .int .i64 b] ⟨o, ro, df⟩ = some (.agg (upC a b c).cells, ⟨o, ro, df⟩)
  | .mk kd fr0 by0 dv k ms cs, h, o, ro, df => by
    simp only [Cu.sm] at h
    obtain ⟨h1, h2, h3, h4, h5⟩ := h
    have hl := smCu_iff.1 h5
    have ih := fun x (hx : x ∈ cs) o ro df => rShift31_eq a b x (hl x hx) o ro df
    have L1 := fun o o1 B R ro hro x0 y1 y2 y3 y4 y5 x1 x2 x3 x4 x5 A Q fr hfr => rshift_l1 a b cs h4 ih o o1 B R ro hro x0 y1 y2 y3 y4 y5 x1 x2 x3 x4 x5 A Q fr hfr
    have L0 := fun o o1 B R ro hro x0 y1 y2 y3 y4 y5 y6 x2 x3 x4 x5 x6 Q fr hfr => rshift_l0 a b fr0 h1 o o1 B R ro hro x0 y1 y2 y3 y4 y5 y6 x2 x3 x4 x5 x6 Q fr hfr
    have f1 := intA_flat (upI a b fr0)
    have f2 := intA_flat by0
    have f3 := moA_flat ms
    have f4 := cuflat_list (cs.map (upC a b))
    have hE : (upC a b (.mk kd fr0 by0 dv k ms cs)).cells = [.int .i64 kd, .sl 1 (intA (upI a b fr0)), .sl 1 (intA by0), .int .i64 dv, .int .i64 k, .sl 2 (moA ms), .sl 7 ((cs.map (upC a b)).map Cu.cells)] := by
      rw [upC, Cu.cells_mk, upCL_map]
    rw [hE, Cu.cells_mk]
    generalize (cs.map (upC a b)).map Cu.cells = P2 at *
    generalize cs.map Cu.cells = P at *
    generalize intA (upI a b fr0) = A2 at *
    generalize intA fr0 = A at *
    generalize intA by0 = Bb at *
    generalize moA ms = M at *
    apply call_by (by exact rfl : T 29 = some _) (by simp)
    intro fr hfr hsl
    have s0 := hsl 0 _ rfl
    have s1 := hsl 1 _ rfl
    have s2 := hsl 2 _ rfl
    simp -implicitDefEqProofs [hfr, s0, s1, s2, get_base0, get_base, set_base0, set_base, -getElem?_pos, List.getElem?_cons_zero, List.getElem?_cons_succ]
    refine L0 o _ _ _ _ rfl _ .nilp _ _ _ _ _ _ _ _ _ _ _ _ (by simp [hfr]) (by simp [hfr, s1]) (by simp [hfr, s2]) (by simp [hfr]) (by simp [hfr]) (by simp [hfr]) (by simp [hfr]) rfl (by rw [get_base0]; rfl) (by rw [get_base]; rfl) (by rw [get_base]; rfl) ?_
    clear hfr s0 s1 s2 hsl
    clear fr
    intro fr o2 v hfr q1 q2 q3 q6 q7 g0 g1 g2 G
    have hone := gx_one G
    simp -implicitDefEqProofs [hfr, q1, q2, q3, q6, q7, -getElem?_pos, List.getElem?_cons_zero, List.getElem?_cons_succ]
    refine L1 o _ _ _ _ rfl _ _ _ _ _ _ _ _ _ _ _ _ _ _ (by simp [hfr]) (by simp [hfr, q1]) (by simp [hfr, q2]) (by simp [hfr, q3]) (by simp [hfr, q6]) (by simp [hfr, q7]) (by simp [hfr]) rfl hone g0 g1 g2 G ?_
    clear hfr q1 q2 q3 q6 q7
    clear fr
    intro fr o3 w hfr q6 q7 g1 g2 GA GC
    have hlo := lt_of_getO g2
    have honc := gx_one GC
    have w0 : ∀ X, (o3.set (o.length + 1) X)[o.length + 1]? = some X := fun X => getO_set (by omega)
    have d1 := fun X => gx_hand0 (n := o.length) (gx_setne GA (i := o.length + 1) (fun n f => GA.not (by omega) n f) X) (by omega) f1
    have d2 := fun X => gx_hand0 (n := o.length) (gx_setne GC (i := o.length + 1) (fun n f => GC.not (by omega) n f) X) (by omega) f4
    have d3 : ∀ n o, hand0 n o (.sl 1 Bb) = some (.sl 1 Bb) := fun n o => by simp [hand0, AV.flat, f2]
    have d4 : ∀ n o, hand0 n o (.sl 2 M) = some (.sl 2 M) := fun n o => by simp [hand0, AV.flat, f3]
    have e1 := gx_canA GA
    have e2 := gx_canA GC
    simp -implicitDefEqProofs [hfr, q6, q7, g1, g2, w0, hone, honc, f2, f3, d1, d2, d3, d4, e1, e2, -hand0, hand0_int, -getElem?_pos, List.getElem?_cons_zero, List.getElem?_cons_succ]
termination_by t => SizeOf.sizeOf t
decreasing_by
  have := List.sizeOf_lt_of_mem hx
  simp
  omega

end Go.Proofs.Ytgabnhmjlhhojaa.A
