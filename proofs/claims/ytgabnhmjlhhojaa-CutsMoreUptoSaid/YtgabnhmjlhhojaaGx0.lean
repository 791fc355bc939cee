/- Shift of the program: the numbers of facts changed in a copy, in own memory, and handed out. -/
import Derived.Test.YtgabnhmjlhhojaaQ12
import Derived.Test.YtgabnhmjlhhojaaZ2
import Derived.Test.YtgabnhmjlhhojaaWp
namespace Go.Proofs.Ytgabnhmjlhhojaa.A
open Go
set_option maxRecDepth 10000
set_option linter.unusedSimpArgs false
set_option linter.unusedVariables false
attribute [-simp] List.all_eq_true put slot_def ld idxA lenOf elems canA app hand

def upN (a b n : Int) : Int := if a ≤ n then IntKind.i64.wrap (n + b) else n
def upI (a b : Int) (l : List Int) : List Int := l.map (upN a b)
mutual
/-- the numbers of facts changed, in all parts -/
def upC (a b : Int) : Cu → Cu
  | .mk kd fr by' dv k ms cs => .mk kd (upI a b fr) by' dv k ms (upCL a b cs)
def upCL (a b : Int) : List Cu → List Cu
  | [] => []
  | c :: l => upC a b c :: upCL a b l
end
theorem upCL_map (a b : Int) : ∀ l : List Cu, upCL a b l = l.map (upC a b)
  | [] => rfl
  | c :: l => by simp [upCL, upCL_map a b l]

theorem cloneIo_eq (l : List Int) (hl : l.length ≤ 1000000) (h0 : l ≠ []) (st : St) : (D T).call 1000041 [.sl 1 (intA l)] st = some (.own st.objs.length 0 l.length false, st.push (.arr 3 1 (intA l))) := by
  rw [D_ext _ _ (by rfl)]
  cases l with
  | nil => exact absurd rfl h0
  | cons x l =>
    have hr : room (l.length + 1) 8 = true := by simp [room] at hl ⊢; omega
    have e : intA (x :: l) = [.int .i64 x] :: intA l := rfl
    have e2 : (intA l).length = l.length := intA_len l
    simp only [ext, exClone, e, elems, hr, and_self, if_true, cond_true, List.length_cons, e2]
theorem cloneIo_nil (st : St) : (D T).call 1000041 [.sl 1 []] st = some (.sl 1 [], st) := by
  rw [D_ext _ _ (by rfl)]; rfl
theorem cloneCo_eq (l : List Cu) (hl : l.length ≤ 1000000) (h0 : l ≠ []) (st : St) : (D T).call 1000045 [.sl 7 (l.map Cu.cells)] st = some (.own st.objs.length 0 l.length false, st.push (.arr 29 7 (l.map Cu.cells))) := by
  rw [D_ext _ _ (by rfl)]
  cases l with
  | nil => exact absurd rfl h0
  | cons x l =>
    have hr : room (l.length + 1) 120 = true := by simp [room] at hl ⊢; omega
    simp only [ext, exClone, List.map_cons, elems, hr, and_self, if_true, cond_true, List.length_cons, List.length_map]
theorem cloneCo_nil (st : St) : (D T).call 1000045 [.sl 7 []] st = some (.sl 7 [], st) := by
  rw [D_ext _ _ (by rfl)]; rfl

theorem shift_l0 (a b : Int) (fs : List Int) (hl : fs.length ≤ 1000000) (o : List Obj) (R : Obj) (x0 x2 x3 x4 x5 x6 : AV) (Q : AE → List AV → St → Prop) (fr : List AV) (hfr : fr.length = 66)
    (q1 : slot fr 1 = .int .i64 a) (q2 : slot fr 2 = .int .i64 b) (q3 : slot fr 3 = .ptr o.length 0 0) (q6 : slot fr 6 = .ptr (o.length + 1) 0 0) (q16 : slot fr 16 = .own (o.length + 2) 0 fs.length false)
    (q17 : slot fr 17 = .int .i64 (fs.length : Int)) (q18 : slot fr 18 = .int .i64 0)
    (kk : ∀ fr' : List AV, fr'.length = 66 → slot fr' 1 = .int .i64 a → slot fr' 2 = .int .i64 b → slot fr' 3 = .ptr o.length 0 0 → slot fr' 6 = .ptr (o.length + 1) 0 0 →
      Q (.exit 0) fr' ⟨o ++ [Obj.arr 29 7 [[x0, .own (o.length + 2) 0 fs.length false, x2, x3, x4, x5, x6]], R, .arr 3 1 (intA (upI a b fs))], o.length, []⟩) :
    ∃ e fr' st', (D T).loop false L25_0 fr ⟨o ++ [Obj.arr 29 7 [[x0, .own (o.length + 2) 0 fs.length false, x2, x3, x4, x5, x6]], R, .arr 3 1 (intA fs)], o.length, []⟩ = some (e, fr', st') ∧ Q e fr' st' := by
  have mx : fs.length ≤ 9223372036854775807 := by omega
  obtain ⟨B, hB⟩ : ∃ B, B = Obj.arr 29 7 [[x0, .own (o.length + 2) 0 fs.length false, x2, x3, x4, x5, x6]] := ⟨_, rfl⟩
  rw [← hB] at kk ⊢
  apply loop_inv L25_0.eq_1 List.length (fun (rest : List Int) fr st => ∃ pre, fs = pre ++ rest ∧ fr.length = 66 ∧ slot fr 1 = .int .i64 a ∧ slot fr 2 = .int .i64 b ∧ slot fr 3 = .ptr o.length 0 0 ∧ slot fr 6 = .ptr (o.length + 1) 0 0 ∧ slot fr 16 = .own (o.length + 2) 0 fs.length false ∧
    slot fr 17 = .int .i64 (fs.length : Int) ∧ slot fr 18 = .int .i64 (pre.length : Int) ∧ st = ⟨o ++ [B, R, .arr 3 1 (intA (upI a b pre ++ rest))], o.length, []⟩) ?_ fs ⟨[], rfl, hfr, q1, q2, q3, q6, q16, q17, q18, rfl⟩
  clear hfr q1 q2 q3 q6 q16 q17 q18
  clear fr
  rintro rest fr _ ⟨pre, e, hfr, q1, q2, q3, q6, q16, q17, q18, rfl⟩
  cases rest with
  | nil =>
    have hlt := idx_end e
    have ee : pre = fs := by simpa using e.symm
    simp -implicitDefEqProofs [hfr, q1, q2, q3, q6, q16, q17, q18, hlt]
    have := kk _ hfr q1 q2 q3 q6
    rw [ee]
    first
      | exact this
      | exact kk _ (by simp [hfr]) (by simp [hfr, q1]) (by simp [hfr, q2]) (by simp [hfr, q3]) (by simp [hfr, q6])
  | cons x rest =>
    obtain ⟨hlt, hg, hpl⟩ := idx_at e
    have hw := idx_next e mx
    have hlp : (upI a b pre).length = pre.length := by simp [upI]
    have hG1 : (intA (upI a b pre ++ x :: rest))[pre.length]? = some [.int .i64 x] := by simp [intA, ← hlp]
    have hG2 : (intA (upI a b pre ++ x :: rest)).length = fs.length := by rw [intA_len, e]; simp [hlp]
    have hG3 : ∀ y : Int, (intA (upI a b pre ++ x :: rest)).set pre.length [.int .i64 y] = intA (upI a b pre ++ y :: rest) := fun y => by
      simp only [intA, List.map_append, List.map_cons]
      rw [List.set_append_right _ _ (by simp [hlp])]
      simp [hlp]
    have hS : upI a b (pre ++ [x]) ++ rest = upI a b pre ++ upN a b x :: rest := by simp [upI]
    by_cases h : a ≤ x
    · have hS2 : upN a b x = IntKind.i64.wrap (x + b) := by simp [upN, h]
      have hG4 := hG3 (IntKind.i64.wrap (x + b))
      rw [← hS2, ← hS] at hG4
      generalize intA (upI a b pre ++ x :: rest) = G at *
      subst hB
      simp -implicitDefEqProofs [hfr, q1, q2, q3, q6, q16, q17, q18, hlt, hw, hpl, h, hG1, hG2, get_base0, get_base, set_base0, set_base, -getElem?_pos, List.getElem?_cons_zero, List.getElem?_cons_succ, ← hS2, hG4]
      exact ⟨rest, by simp, pre ++ [x], by simp [e], by simp, by simp⟩
    · have hS2 : upN a b x = x := by simp [upN, h]
      rw [hS2] at hS
      rw [← hS] at hG1 hG2 ⊢
      generalize hG : intA (upI a b (pre ++ [x]) ++ rest) = G at *
      simp -implicitDefEqProofs [hfr, q1, q2, q3, q6, q16, q17, q18, hlt, hw, hpl, h, hG1, hG2, get_base0, get_base, set_base0, set_base, -getElem?_pos, List.getElem?_cons_zero, List.getElem?_cons_succ]
      exact ⟨rest, by simp, pre ++ [x], by simp [e], by simp, by simp [hG]⟩

theorem shift_l0n (o1 : List Obj) (ro : Nat) (Q : AE → List AV → St → Prop) (fr : List AV) (q17 : slot fr 17 = .int .i64 0) (q18 : slot fr 18 = .int .i64 0) (hfr : fr.length = 66) (a b : Int) (p1 p2 : Nat)
    (q1 : slot fr 1 = .int .i64 a) (q2 : slot fr 2 = .int .i64 b) (q3 : slot fr 3 = .ptr p1 0 0) (q6 : slot fr 6 = .ptr p2 0 0)
    (kk : ∀ fr' : List AV, fr'.length = 66 → slot fr' 1 = .int .i64 a → slot fr' 2 = .int .i64 b → slot fr' 3 = .ptr p1 0 0 → slot fr' 6 = .ptr p2 0 0 → Q (.exit 0) fr' ⟨o1, ro, []⟩) :
    ∃ e fr' st', (D T).loop false L25_0 fr ⟨o1, ro, []⟩ = some (e, fr', st') ∧ Q e fr' st' := by
  apply loop_inv L25_0.eq_1 (fun _ : Unit => 0) (fun _ fr st => fr.length = 66 ∧ slot fr 1 = .int .i64 a ∧ slot fr 2 = .int .i64 b ∧ slot fr 3 = .ptr p1 0 0 ∧ slot fr 6 = .ptr p2 0 0 ∧ slot fr 17 = .int .i64 0 ∧ slot fr 18 = .int .i64 0 ∧ st = ⟨o1, ro, []⟩) ?_ () ⟨hfr, q1, q2, q3, q6, q17, q18, rfl⟩
  clear hfr q1 q2 q3 q6 q17 q18
  clear fr
  rintro _ fr _ ⟨hfr, q1, q2, q3, q6, q17, q18, rfl⟩
  simp -implicitDefEqProofs [hfr, q1, q2, q3, q6, q17, q18]
  exact kk _ (by simp [hfr]) (by simp [hfr, q1]) (by simp [hfr, q2]) (by simp [hfr, q3]) (by simp [hfr, q6])

theorem shift_l1n (o1 : List Obj) (ro : Nat) (Q : AE → List AV → St → Prop) (fr : List AV) (q50 : slot fr 50 = .int .i64 0) (q51 : slot fr 51 = .int .i64 0) (hfr : fr.length = 66) (p1 p2 : Nat)
    (q3 : slot fr 3 = .ptr p1 0 0) (q6 : slot fr 6 = .ptr p2 0 0)
    (kk : ∀ fr' : List AV, fr'.length = 66 → slot fr' 3 = .ptr p1 0 0 → slot fr' 6 = .ptr p2 0 0 → Q (.exit 2) fr' ⟨o1, ro, []⟩) :
    ∃ e fr' st', (D T).loop false L25_1 fr ⟨o1, ro, []⟩ = some (e, fr', st') ∧ Q e fr' st' := by
  apply loop_inv L25_1.eq_1 (fun _ : Unit => 0) (fun _ fr st => fr.length = 66 ∧ slot fr 3 = .ptr p1 0 0 ∧ slot fr 6 = .ptr p2 0 0 ∧ slot fr 50 = .int .i64 0 ∧ slot fr 51 = .int .i64 0 ∧ st = ⟨o1, ro, []⟩) ?_ () ⟨hfr, q3, q6, q50, q51, rfl⟩
  clear hfr q3 q6 q50 q51
  clear fr
  rintro _ fr _ ⟨hfr, q3, q6, q50, q51, rfl⟩
  simp -implicitDefEqProofs [hfr, q3, q6, q50, q51]
  exact kk _ (by simp [hfr]) (by simp [hfr, q3]) (by simp [hfr, q6])

theorem shift_l1 (a b : Int) (cs : List Cu) (hl : cs.length ≤ 1000000) (ih : ∀ x ∈ cs, ∀ (o : List Obj) (ro : Nat) (df : List Nat), (D T).call 25 [.agg x.cells, .int .i64 a, .int .i64 b] ⟨o, ro, df⟩ = some (.agg (upC a b x).cells, ⟨o, ro, df⟩))
    (o o1 : List Obj) (q ro : Nat) (x0 x1 x2 x3 x4 x5 : AV) (Q : AE → List AV → St → Prop) (fr : List AV) (hfr : fr.length = 66) (hq : o.length < q) (hro : ro = o.length)
    (q1 : slot fr 1 = .int .i64 a) (q2 : slot fr 2 = .int .i64 b) (q3 : slot fr 3 = .ptr o.length 0 0) (q6 : slot fr 6 = .ptr (o.length + 1) 0 0) (q49 : slot fr 49 = .own q 0 cs.length false)
    (q50 : slot fr 50 = .int .i64 (cs.length : Int)) (q51 : slot fr 51 = .int .i64 0)
    (g0 : o1[o.length]? = some (Obj.arr 29 7 [[x0, x1, x2, x3, x4, x5, .own q 0 cs.length false]])) (gq : o1[q]? = some (.arr 29 7 (cs.map Cu.cells)))
    (kk : ∀ (fr' : List AV) (o2 : List Obj), fr'.length = 66 → slot fr' 3 = .ptr o.length 0 0 → slot fr' 6 = .ptr (o.length + 1) 0 0 → (∀ i, i ≠ q → i < o1.length → o2[i]? = o1[i]?) → o2[q]? = some (.arr 29 7 ((cs.map (upC a b)).map Cu.cells)) →
      Q (.exit 2) fr' ⟨o2, ro, []⟩) :
    ∃ e fr' st', (D T).loop false L25_1 fr ⟨o1, ro, []⟩ = some (e, fr', st') ∧ Q e fr' st' := by
  have mx : cs.length ≤ 9223372036854775807 := by omega
  apply loop_inv L25_1.eq_1 List.length (fun (rest : List Cu) fr st => ∃ pre o2, cs = pre ++ rest ∧ fr.length = 66 ∧ slot fr 1 = .int .i64 a ∧ slot fr 2 = .int .i64 b ∧ slot fr 3 = .ptr o.length 0 0 ∧ slot fr 6 = .ptr (o.length + 1) 0 0 ∧ slot fr 49 = .own q 0 cs.length false ∧
    slot fr 50 = .int .i64 (cs.length : Int) ∧ slot fr 51 = .int .i64 (pre.length : Int) ∧ st = ⟨o2, ro, []⟩ ∧ o1.length ≤ o2.length ∧ (∀ i, i ≠ q → i < o1.length → o2[i]? = o1[i]?) ∧ o2[q]? = some (.arr 29 7 ((pre.map (upC a b)).map Cu.cells ++ rest.map Cu.cells))) ?_ cs
    ⟨[], o1, rfl, hfr, q1, q2, q3, q6, q49, q50, q51, rfl, Nat.le_refl _, fun _ _ _ => rfl, by simpa using gq⟩
  clear hfr q1 q2 q3 q6 q49 q50 q51
  clear fr
  rintro rest fr _ ⟨pre, o2, e, hfr, q1, q2, q3, q6, q49, q50, q51, rfl, hlo, K, gS⟩
  cases rest with
  | nil =>
    have hlt := idx_end e
    have ee : pre = cs := by simpa using e.symm
    simp -implicitDefEqProofs [hfr, q1, q2, q3, q6, q49, q50, q51, hlt]
    exact kk _ o2 (by simp [hfr]) (by simp [hfr, q3]) (by simp [hfr, q6]) K (by rw [← ee]; simpa using gS)
  | cons x rest =>
    obtain ⟨hlt, hg, hpl⟩ := idx_at e
    have hw := idx_next e mx
    have hx : x ∈ cs := by simp [e]
    have hc := fun o ro df => ih x hx o ro df
    have y1 := cu_take x
    have y2 := cu_can x
    have y3 := culen x
    have y4 := cu_one x
    have z1 := cu_take (upC a b x)
    have z2 := cu_can (upC a b x)
    have z3 := culen (upC a b x)
    have z4 := cu_one (upC a b x)
    have l0 := lt_of_getO g0
    have lq := lt_of_getO gq
    have hlo3 : o.length ≤ o2.length := by omega
    have hlo4 : o.length ≤ q := by omega
    have gB : o2[o.length]? = some (Obj.arr 29 7 [[x0, x1, x2, x3, x4, x5, .own q 0 cs.length false]]) := by rw [K _ (by omega) l0]; exact g0
    have hG1 : ((pre.map (upC a b)).map Cu.cells ++ (x :: rest).map Cu.cells)[pre.length]? = some x.cells := by simp
    have hG2 : ((pre.map (upC a b)).map Cu.cells ++ (x :: rest).map Cu.cells).length = cs.length := by rw [e]; simp
    have hG3 : ((pre.map (upC a b)).map Cu.cells ++ (x :: rest).map Cu.cells).set pre.length (upC a b x).cells = ((pre ++ [x]).map (upC a b)).map Cu.cells ++ rest.map Cu.cells := by
      rw [List.set_append_right _ _ (by simp)]
      simp
    have hG5 : (((pre ++ [x]).map (upC a b)).map Cu.cells ++ rest.map Cu.cells).length = cs.length := by rw [e]; simp
    generalize (pre.map (upC a b)).map Cu.cells ++ (x :: rest).map Cu.cells = G at *
    generalize hH : ((pre ++ [x]).map (upC a b)).map Cu.cells ++ rest.map Cu.cells = H at *
    obtain ⟨Y, hY⟩ : ∃ Y, Y = Obj.arr 29 7 [x.cells] := ⟨_, rfl⟩
    have gB2 : (o2 ++ [Y])[o.length]? = some (Obj.arr 29 7 [[x0, x1, x2, x3, x4, x5, .own q 0 cs.length false]]) := getO_push gB _
    have gS2 : (o2 ++ [Y])[q]? = some (.arr 29 7 G) := getO_push gS _
    have gY2 : (o2 ++ [Y])[o2.length]? = some Y := by simp
    have c0 : setMany x.cells 0 (upC a b x).cells = (upC a b x).cells := set_all _ _ (by rw [y3, z3])
    subst hY
    simp -implicitDefEqProofs [hfr, q1, q2, q3, q6, q49, q50, q51, hlt, hw, hpl, hc, gB, gS, gB2, gS2, gY2, hlo3, hlo4, hG1, hG2, hG3, hro, y1, y2, y3, y4, z1, z2, z3, z4, c0, cset, setO_last, getO_last, -getElem?_pos, List.getElem?_cons_zero, List.getElem?_cons_succ]
    refine ⟨rest, by simp, pre ++ [x], by simp [e], by simp, by omega, fun i hi hi2 => ?_, ?_⟩
    · rw [List.getElem?_set_ne (by omega), List.getElem?_append_left (by omega)]
      exact K i hi hi2
    · rw [← List.map_map, hH, getO_set (by simp; omega)]

end Go.Proofs.Ytgabnhmjlhhojaa.A
/- Slices that grow, in a store where all else is kept. -/
namespace Go.Proofs.Ytgabnhmjlhhojaa.A
open Go
set_option maxRecDepth 10000
set_option linter.unusedSimpArgs false
attribute [-simp] List.all_eq_true put slot_def ld idxA lenOf elems canA app hand

/-- a slice that grows, and is the literal only while it is empty -/
structure Gx (ty sz lo : Nat) (o : List Obj) (v : AV) (es : List (List AV)) : Prop where
  G : Gr lo ty sz o v es
  nil : v = .fsl sz es → es = []

theorem Gx.off {ty sz lo : Nat} {o : List Obj} {v : AV} {es : List (List AV)} (h : Gx ty sz lo o v es) {i : Nat} {x : Obj} (hx : o[i]? = some x) (hne : ∀ es, x ≠ .arr ty sz es) (n : Nat) (f : Bool) : v ≠ .own i 0 n f := by
  rcases h.G with rfl | ⟨r, h1, rfl, h3⟩
  · simp
  · rintro e
    obtain ⟨rfl, _⟩ : r = i ∧ _ := by simpa using e
    rw [h3] at hx
    exact hne _ (Option.some.inj hx).symm

theorem Gx.app {ty sz lo ro bytes : Nat} {o : List Obj} {v : AV} {es : List (List AV)} (h : Gx ty sz lo o v es) (hro : ro ≤ lo) (hlo : lo ≤ o.length) {df : List Nat} {x : AV} {xs : List (List AV)}
    (hx : elems ⟨o, ro, df⟩ x = some (sz, xs)) (hr : room (es.length + xs.length) bytes = true) :
    ∃ o', app ⟨o, ro, df⟩ ty sz bytes v x = some (.own o.length 0 (es.length + xs.length) false, ⟨o', ro, df⟩) ∧ o'.length = o.length + 1 ∧
      Gx ty sz lo o' (.own o.length 0 (es.length + xs.length) false) (es ++ xs) ∧ (∀ (i : Nat) (y : Obj), o[i]? = some y → (∀ es, y ≠ .arr ty sz es) → o'[i]? = some y) ∧ (∀ i, i < lo → o'[i]? = o[i]?) ∧
      o'[o.length]? = some (.arr ty sz (es ++ xs)) := by
  obtain ⟨o', a1, a2, a3, a4⟩ := app_get' (bytes := bytes) (df := df) h.G hro hx (fun hv => .inl (h.nil hv)) hr
  exact ⟨o', a1, a2, ⟨gr_new a3 hlo (by simp), by simp⟩, fun i y hy hne => a4 i y hy (h.off hy hne), fun i hi => by rw [a4 i _ (List.getElem?_eq_getElem (by omega)) (h.G.not hi), List.getElem?_eq_getElem], a3⟩

theorem Gx.push {ty sz lo : Nat} {o : List Obj} {v : AV} {es : List (List AV)} (h : Gx ty sz lo o v es) (m : List Obj) : Gx ty sz lo (o ++ m) v es := ⟨h.G.push m, h.nil⟩
theorem Gx.set {ty sz lo : Nat} {o : List Obj} {v : AV} {es : List (List AV)} (h : Gx ty sz lo o v es) {i : Nat} {x y : Obj} (hx : o[i]? = some x) (hne : ∀ es, x ≠ .arr ty sz es) : Gx ty sz lo (o.set i y) v es := by
  refine ⟨?_, h.nil⟩
  rcases h.G with rfl | ⟨r, h1, rfl, h3⟩
  · exact .inl rfl
  · refine .inr ⟨r, h1, rfl, ?_⟩
    rw [List.getElem?_set_ne]
    · exact h3
    · rintro rfl
      exact h.off hx hne _ _ rfl

/-- a slice that grew, all else kept -/
structure Gw (ty sz lo : Nat) (o : List Obj) (v : AV) (o' : List Obj) (v' : AV) (es : List (List AV)) : Prop where
  G : Gx ty sz lo o' v' es
  le : o.length ≤ o'.length
  keep : ∀ i, i < o.length → (∀ n f, v ≠ .own i 0 n f) → o'[i]? = o[i]? ∧ ∀ n f, v' ≠ .own i 0 n f

theorem Gx.ref {ty sz lo : Nat} {o : List Obj} {v : AV} {es : List (List AV)} (h : Gx ty sz lo o v es) (m : List Obj) : Gw ty sz lo o v (o ++ m) v es :=
  ⟨h.push m, by simp, fun i hi hv => ⟨List.getElem?_append_left hi, hv⟩⟩

theorem Gw.trans {ty sz lo : Nat} {o o1 o2 : List Obj} {v v1 v2 : AV} {es es2 : List (List AV)} (h : Gw ty sz lo o v o1 v1 es) (k : Gw ty sz lo o1 v1 o2 v2 es2) : Gw ty sz lo o v o2 v2 es2 :=
  ⟨k.G, Nat.le_trans h.le k.le, fun i hi hv => by
    obtain ⟨a, b⟩ := h.keep i hi hv
    obtain ⟨c, d⟩ := k.keep i (Nat.lt_of_lt_of_le hi h.le) b
    exact ⟨by rw [c, a], d⟩⟩

theorem gx_appw {ty sz lo ro bytes : Nat} {o : List Obj} {v : AV} {es : List (List AV)} (h : Gx ty sz lo o v es) (hro : ro ≤ lo) (hlo : lo ≤ o.length) {df : List Nat} {x : AV} {xs : List (List AV)}
    (hx : elems ⟨o, ro, df⟩ x = some (sz, xs)) (hr : room (es.length + xs.length) bytes = true) :
    ∃ o', app ⟨o, ro, df⟩ ty sz bytes v x = some (.own o.length 0 (es.length + xs.length) false, ⟨o', ro, df⟩) ∧ o'.length = o.length + 1 ∧ Gw ty sz lo o v o' (.own o.length 0 (es.length + xs.length) false) (es ++ xs) := by
  obtain ⟨o', a1, a2, a3, a4⟩ := app_get' (bytes := bytes) (df := df) h.G hro hx (fun hv => .inl (h.nil hv)) hr
  refine ⟨o', a1, a2, ⟨gr_new a3 hlo (by simp), by simp⟩, by omega, fun i hi hv => ⟨?_, fun n f => by simp; omega⟩⟩
  rw [List.getElem?_eq_getElem hi]
  exact a4 i _ (List.getElem?_eq_getElem hi) hv


theorem Gx.agree {ty sz lo : Nat} {o o' : List Obj} {v : AV} {es : List (List AV)} (h : Gx ty sz lo o v es) (k : ∀ i, i < o.length → o'[i]? = o[i]?) : Gx ty sz lo o' v es := by
  refine ⟨?_, h.nil⟩
  rcases h.G with rfl | ⟨r, h1, rfl, h3⟩
  · exact .inl rfl
  · exact .inr ⟨r, h1, rfl, by rw [k r (lt_of_getO h3)]; exact h3⟩

theorem Gx.not {ty sz lo : Nat} {o : List Obj} {v : AV} {es : List (List AV)} (h : Gx ty sz lo o v es) {i : Nat} (hi : i < lo) (n : Nat) (f : Bool) : v ≠ .own i 0 n f := h.G.not hi n f
theorem Gx.lt {ty sz lo : Nat} {o : List Obj} {v : AV} {es : List (List AV)} (h : Gx ty sz lo o v es) {i : Nat} (hi : o.length ≤ i) (n : Nat) (f : Bool) : v ≠ .own i 0 n f := h.G.lt hi n f

theorem hand0_int (n : Nat) (o : List Obj) (k : IntKind) (x : Int) : hand0 n o (.int k x) = some (.int k x) := rfl
theorem hand0_str (n : Nat) (o : List Obj) (x : ByteArray) : hand0 n o (.str x) = some (.str x) := rfl
theorem hand0_bool (n : Nat) (o : List Obj) (x : Bool) : hand0 n o (.bool x) = some (.bool x) := rfl
theorem gx_hand0 {ty sz lo n : Nat} {o : List Obj} {v : AV} {es : List (List AV)} (G : Gx ty sz lo o v es) (h : n ≤ lo) (hf : AV.flatLL es = true) : hand0 n o v = some (.sl sz es) := by
  rcases G.G with rfl | ⟨r, r1, rfl, r2⟩
  · simp [hf]
  · have : ¬ r < n := by omega
    simp [r2, this, hf]

theorem gx_apart {ty sz lo ty' sz' r : Nat} {o : List Obj} {v : AV} {es es' : List (List AV)} (G : Gx ty sz lo o v es) (h : o[r]? = some (.arr ty' sz' es')) (hne : ty ≠ ty') (n : Nat) (f : Bool) : v ≠ .own r 0 n f := by
  rcases G.G with rfl | ⟨r', _, rfl, h3⟩
  · simp
  · intro e
    simp only [AV.own.injEq] at e
    rw [← e.1, h3] at h
    simp only [Option.some.injEq, Obj.arr.injEq] at h
    exact hne h.1

/-- a slice that grew, kept while another grows beside it -/
theorem gx_beside {ty sz lo ty' sz' : Nat} {o o3 : List Obj} {v w v' : AV} {es es' es3 : List (List AV)} (Gt : Gx ty' sz' lo o w es') (G : Gx ty sz lo o v es) (hne : ty ≠ ty') (W : Gw ty sz lo o v o3 v' es3) {i : Nat} (hi : i < lo) (X : Obj) : Gx ty' sz' lo (o3.set i X) w es' := by
  refine ⟨?_, Gt.nil⟩
  rcases Gt.G with hv | ⟨r, r1, hv, r2⟩
  · exact .inl hv
  · exact .inr ⟨r, r1, hv, by rw [List.getElem?_set_ne (by omega), (W.keep r (lt_of_getO r2) (gx_apart G r2 hne)).1]; exact r2⟩

theorem room_of0 {n b : Nat} (h : n * b ≤ 140737488355328) (h2 : n ≤ 4611686018427387904) : room n b = true := by simp [room, h, h2]

end Go.Proofs.Ytgabnhmjlhhojaa.A
