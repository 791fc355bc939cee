/- How many parts have a rule, and the ways to the open ones: the program's functions. -/
import Derived.Test.YtkecobdhgabknaaDoorXG
namespace Go.Proofs.YtkecobdhgabknaaDoor.A
open Go
set_option maxRecDepth 10000
set_option linter.unusedSimpArgs false
set_option linter.unusedVariables false
attribute [-simp] List.all_eq_true put slot_def ld idxA lenOf elems canA app hand slc

def Pf.rule : Pf → Int
  | .mk r _ _ _ _ _ _ _ _ _ _ => r

/-- one more, at a part of the rule -/
def cStep (rule : Int) (p : Pf) (_ : List Int) (n : Int) : Int := if p.rule = rule then n + 1 else n

theorem count1_go (rule : Int) (rb bb ro : Nat) (hne : rb ≠ bb) (h1 : ro ≤ bb) (x : Pf) (hx : x.ok) (v : AV) (w : List Int) (o : List Obj) (n : Int) (hb : o[bb]? = some (.arr 3 1 [[.int .i64 n]])) (hr : o[rb]? = some (.arr 3 1 [[.int .i64 rule]])) (n0 : 0 ≤ n) (n1 : n ≤ 1000000000000) :
    ∃ o', (D T).call 61 [x.av, v, .ptr rb 0 0, .ptr bb 0 0] ⟨o, ro, []⟩ = some (.bool true, ⟨o', ro, []⟩) ∧ o'[bb]? = some (.arr 3 1 [[.int .i64 (cStep rule x w n)]]) ∧ o.length ≤ o'.length ∧ ∀ (i : Nat) y, i ≠ bb → o[i]? = some y → o'[i]? = some y := by
  suffices h : ∃ v' st', (D T).call 61 [x.av, v, .ptr rb 0 0, .ptr bb 0 0] ⟨o, ro, []⟩ = some (v', st') ∧ (fun v' st' => ∃ o', v' = .bool true ∧ st' = ⟨o', ro, []⟩ ∧ o'[bb]? = some (.arr 3 1 [[.int .i64 (cStep rule x w n)]]) ∧ o.length ≤ o'.length ∧ ∀ (i : Nat) y, i ≠ bb → o[i]? = some y → o'[i]? = some y) v' st' by
    obtain ⟨_, _, g1, o', rfl, rfl, g2⟩ := h
    exact ⟨o', g1, g2⟩
  obtain ⟨r, h, nw, v0, b, t, c, les, chs, cu, ps⟩ := x
  obtain ⟨t0, t1, t2, t3⟩ := t
  obtain ⟨c0, c1, c2, c3, c4⟩ := c
  obtain ⟨kd, fr0, by0, dv, kk, ms, cs⟩ := cu
  clear hx
  have l1 := lt_of_getO hb
  have l2 := lt_of_getO hr
  have l3 : ro ≤ o.length := by omega
  have w1 : IntKind.i64.wrap (n + 1) = n + 1 := wrap_id (by omega) (by omega)
  apply call_for (by exact rfl : T 61 = some _) (by simp)
  intro fr hfr hsl
  have s0 := hsl 0 _ rfl
  have s1 := hsl 1 _ rfl
  have s2 := hsl 2 _ rfl
  have s3 := hsl 3 _ rfl
  simp only [Pf.av, Pf.cells_all] at s0
  by_cases z : r = rule
  · subst z
    simp -implicitDefEqProofs [hfr, s0, s1, s2, s3, l1, l2, l3, h1, getO_last, setO_last, List.getElem?_append_left, hb, hr, w1, cStep, Pf.rule, -getElem?_pos, List.getElem?_cons_zero]
    exact fun i y hi hy => getO_push (by rw [List.getElem?_set_ne (Ne.symm hi)]; exact hy) _
  · have z' : (r == rule) = false := by simpa using z
    simp -implicitDefEqProofs [hfr, s0, s1, s2, s3, l1, l2, l3, h1, getO_last, setO_last, List.getElem?_append_left, hb, hr, w1, z, z', cStep, Pf.rule, -getElem?_pos, List.getElem?_cons_zero]
    exact fun i y hi hy => getO_push hy _

theorem stepCount (rule : Int) (rb bb ro : Nat) (hne : rb ≠ bb) (h1 : ro ≤ bb) : StepG 61 [.ptr rb 0 0, .ptr bb 0 0] ro bb
    (fun o n => o[bb]? = some (.arr 3 1 [[.int .i64 n]]) ∧ o[rb]? = some (.arr 3 1 [[.int .i64 rule]])) (fun n k => 0 ≤ n ∧ n + k ≤ 1000000000000) (cStep rule) (fun _ => False) where
  bP := fun _ h => h
  bI := fun _ h => h
  lo := fun o z h => by have := lt_of_getO h.1; omega
  more := fun o m z h => ⟨getO_push h.1 _, getO_push h.2 _⟩
  go := fun x hx v w o n k hv hw hB hk hl => by
    obtain ⟨o', e, g1, g2, g3⟩ := count1_go rule rb bb ro hne h1 x hx v w o n hB.1 hB.2 hl.1 (by omega)
    refine ⟨o', e, ⟨g1, g3 rb _ hne hB.2⟩, ?_, g2, fun i y hi hy _ => g3 i y hi hy⟩
    unfold cStep
    split <;> omega

mutual
/-- how many parts have a rule -/
def ctR (rule : Int) : Pf → Int
  | .mk r _ _ _ _ _ _ _ _ _ l => (if r = rule then 1 else 0) + ctRL rule l
def ctRL (rule : Int) : List Pf → Int
  | [] => 0
  | c :: l => ctR rule c + ctRL rule l
end
mutual
theorem wg_ctR (rule : Int) : ∀ (p : Pf) (w : List Int) (n : Int), wg (cStep rule) p w n = n + ctR rule p
  | .mk r h nw v b t c les chs cu ps, w, n => by
    rw [wg, wgL_ctR rule ps, ctR]
    simp only [cStep, Pf.rule]
    split <;> omega
theorem wgL_ctR (rule : Int) : ∀ (l : List Pf) (i : Int) (w : List Int) (n : Int), wgL (cStep rule) l i w n = n + ctRL rule l
  | [], _, _, _ => by simp [wgL, ctRL]
  | c :: l, i, w, n => by
    rw [wgL, wgL_ctR rule l, wg_ctR rule c, ctRL]
    omega
end

mutual
theorem dP_psz : ∀ p : Pf, dP p ≤ psz p
  | .mk _ _ _ _ _ _ _ _ _ _ l => by have := dPL_psz l; simp only [dP, psz]; omega
theorem dPL_psz : ∀ l : List Pf, dPL l ≤ pszL l
  | [] => by simp [dPL, pszL]
  | c :: l => by
    have := dP_psz c; have := dPL_psz l; have := psz_pos c; have := pszL_pos l
    simp only [dPL, pszL]; split <;> omega
end

theorem pCount_eq (p : Pf) (hp : p.ok) (hs : psz p ≤ 1000000) (rule : Int) (o : List Obj) (ro : Nat) (df : List Nat) : (D T).call 23 [p.av, .int .i64 rule] ⟨o, ro, df⟩ = some (.int .i64 (ctR rule p), ⟨o, ro, df⟩) := by
  have x1 := p_take p
  have x2 := p_can p
  have x3 := plen p
  have x4 := p_one p
  have hdp := dP_psz p
  obtain ⟨o', e, g1, g2, g3, g4⟩ := walkG (stepCount rule (o.length + 1) (o.length + 2) o.length (by omega) (by omega)) p hp (.fsl 1 []) [] (o ++ [Obj.arr 42 24 [p.cells], Obj.arr 3 1 [[.int .i64 rule]], Obj.arr 3 1 [[.int .i64 0]]]) 0 (psz p) []
    (.inl ⟨rfl, rfl⟩) (by simp; omega) ⟨by simp [get_base], by simp [get_base]⟩ (by omega) ⟨by omega, by omega⟩
  rw [wg_ctR, Int.zero_add] at g1
  have j1 := lt_of_getO g1.1
  have k1 := g1.1
  simp only [Pf.av] at e
  apply call_by (by exact rfl : T 23 = some _) (by simp)
  intro fr hfr hsl
  have s0 := hsl 0 _ rfl
  have s1 := hsl 1 _ rfl
  simp only [Pf.av] at s0
  simp -implicitDefEqProofs [hfr, s0, s1, get_base0, get_base, set_base0, set_base, e, k1, j1, x1, x2, x3, x4, -getElem?_pos, List.getElem?_cons_zero, List.getElem?_cons_succ]

end Go.Proofs.YtkecobdhgabknaaDoor.A
/- The ways to the open parts: the program's function. -/
namespace Go.Proofs.YtkecobdhgabknaaDoor.A
open Go
set_option maxRecDepth 10000
set_option linter.unusedSimpArgs false
set_option linter.unusedVariables false
attribute [-simp] List.all_eq_true put slot_def ld idxA lenOf elems canA app hand slc

def litA (l : List (List Int)) : List (List AV) := l.map fun w => [.sl 1 (intA w)]
theorem litA_len (l : List (List Int)) : (litA l).length = l.length := by simp [litA]
theorem litA_app (l k : List (List Int)) : litA (l ++ k) = litA l ++ litA k := by simp [litA]
theorem litA_flat (l : List (List Int)) : AV.flatLL (litA l) = true := by
  induction l with
  | nil => rfl
  | cons a l ih => simp only [litA, List.map_cons, AV.flatLL, AV.flatL, AV.flat, intA_flat, Bool.true_and, Bool.and_true]; exact ih

/-- a list of ways: the literal, or an own array -/
def Lo (ro : Nat) (o : List Obj) (v : AV) (l : List (List Int)) : Prop := (v = .fsl 1 [] ∧ l = []) ∨ ∃ q, v = .own q 0 l.length false ∧ o[q]? = some (.arr 30 1 (litA l)) ∧ ro ≤ q
theorem Lo.push {ro : Nat} {o : List Obj} {v : AV} {l : List (List Int)} (h : Lo ro o v l) (m : List Obj) : Lo ro (o ++ m) v l := by
  rcases h with ⟨rfl, rfl⟩ | ⟨q, rfl, hq, hr⟩
  · exact .inl ⟨rfl, rfl⟩
  · exact .inr ⟨q, rfl, getO_push hq _, hr⟩

theorem Wy.clone2 {o : List Obj} {v : AV} {w : List Int} (h : Wy o v w) (hw : w.length ≤ 1000000) (ro : Nat) (df : List Nat) : (D T).call 33 [v] ⟨o, ro, df⟩ = some (.sl 1 (intA w), ⟨o, ro, df⟩) := by
  rw [D_ext _ _ (by rfl)]
  rcases h with ⟨rfl, rfl⟩ | ⟨q, rfl, h⟩
  · rfl
  · have he : elems ⟨o, ro, df⟩ (.own q 0 w.length false) = some (1, intA w) := by
      have hl := intA_len w
      simp [elems, St.arr?, h, ← hl]
    have hf := intA_flat w
    have hl := intA_len w
    generalize intA w = I at *
    cases I with
    | nil => simp only [ext, exClone, he]
    | cons e es =>
      have hr : room (es.length + 1) 8 = true := by
        simp only [List.length_cons] at hl
        simp [room]; omega
      simp only [ext, exClone, he, hr, hf, and_self, if_true, cond_false]

/-- one more way, at an open part -/
def oStep (p : Pf) (w : List Int) (l : List (List Int)) : List (List Int) := if p.rule = 0 then l ++ [w] else l

/-- a way put behind -/
theorem lo_put {ro : Nat} {o : List Obj} {v : AV} {l : List (List Int)} (h : Lo ro o v l) (hl : l.length ≤ 1000000) (w : List Int) : ∃ o', app ⟨o, ro, []⟩ 30 1 24 v (.fsl 1 [[.sl 1 (intA w)]]) = some (.own o.length 0 (l.length + 1) false, ⟨o', ro, []⟩) ∧ o'.length = o.length + 1 ∧
    o'[o.length]? = some (.arr 30 1 (litA (l ++ [w]))) ∧ ∀ (i : Nat) y, o[i]? = some y → (∀ es, y ≠ .arr 30 1 es) → o'[i]? = some y := by
  have e1 : litA (l ++ [w]) = litA l ++ [[.sl 1 (intA w)]] := litA_app l [w]
  have hn := litA_len l
  rw [e1]
  rcases h with ⟨rfl, rfl⟩ | ⟨q, rfl, hq, hr⟩
  · refine ⟨o ++ [.arr 30 1 [[.sl 1 (intA w)]]], by simp [app, elems, room], by simp, by simp [litA], fun i y hy _ => getO_push hy _⟩
  · have hlt := lt_of_getO hq
    generalize litA l = I at *
    have hrm : room (l.length + 1) 24 = true := by simp [room]; omega
    refine ⟨o.set q .dead ++ [.arr 30 1 (I ++ [[.sl 1 (intA w)]])], ?_, by simp, ?_, fun i y hy hne => ?_⟩
    · simp [app, elems, St.arr?, hq, hr, hrm, ← hn]
      rw [hn]; exact hrm
    · rw [List.getElem?_append_right (by simp)]; simp
    · have hi : q ≠ i := by
        rintro rfl
        rw [hq] at hy
        exact hne _ (Option.some.inj hy).symm
      exact getO_push (by rw [List.getElem?_set_ne hi]; exact hy) _

theorem open1_go (bb ro : Nat) (h1 : ro ≤ bb) (x : Pf) (hx : x.ok) (v V : AV) (w : List Int) (o : List Obj) (l : List (List Int)) (hv : Wz bb o v w) (hw : w.length ≤ 1000000) (hb : o[bb]? = some (.arr 55 1 [[V]])) (hV : Lo ro o V l) (hl : l.length ≤ 1000000) :
    ∃ o' V', (D T).call 60 [x.av, v, .ptr bb 0 0] ⟨o, ro, []⟩ = some (.bool true, ⟨o', ro, []⟩) ∧ o'[bb]? = some (.arr 55 1 [[V']]) ∧ Lo ro o' V' (oStep x w l) ∧ o.length ≤ o'.length ∧ ∀ (i : Nat) y, i ≠ bb → o[i]? = some y → (¬ ∃ es, y = .arr 30 1 es) → o'[i]? = some y := by
  suffices h : ∃ v' st', (D T).call 60 [x.av, v, .ptr bb 0 0] ⟨o, ro, []⟩ = some (v', st') ∧ (fun v' st' => ∃ o' V', v' = .bool true ∧ st' = ⟨o', ro, []⟩ ∧ o'[bb]? = some (.arr 55 1 [[V']]) ∧ Lo ro o' V' (oStep x w l) ∧ o.length ≤ o'.length ∧ ∀ (i : Nat) y, i ≠ bb → o[i]? = some y → (¬ ∃ es, y = .arr 30 1 es) → o'[i]? = some y) v' st' by
    obtain ⟨_, _, g1, o', V', rfl, rfl, g2⟩ := h
    exact ⟨o', V', g1, g2⟩
  obtain ⟨r, h, nw, v0, b, t, c, les, chs, cu, ps⟩ := x
  obtain ⟨t0, t1, t2, t3⟩ := t
  obtain ⟨c0, c1, c2, c3, c4⟩ := c
  obtain ⟨kd, fr0, by0, dv, kk, ms, cs⟩ := cu
  clear hx
  have l1 := lt_of_getO hb
  have l3 : ro ≤ o.length := by omega
  have hcan := hv.wy.can
  obtain ⟨X, hX⟩ : ∃ X, X = Obj.arr 42 24 [[.int .i64 r, .str h, .str nw, .str v0, .bool b, .int .i64 t0, .str t1, .int .i64 t2, .sl 4 (t3.map Tm.cells), .int .i64 c0, .str c1, .str c2, .sl 4 (c3.map Tm.cells), .sl 5 (c4.map Cl.cells), .sl 8 (les.map Lm.cells), .sl 2 (chs.map Ch.cells),
    .int .i64 kd, .sl 1 (intA fr0), .sl 1 (intA by0), .int .i64 dv, .int .i64 kk, .sl 2 (moA ms), .sl 7 (cs.map Cu.cells), .sl 24 (ps.map Pf.cells)]] := ⟨_, rfl⟩
  have hcl := (hv.wy.push [X]).clone2 hw ro []
  obtain ⟨o', a1, a2, a3, a4⟩ := lo_put (hV.push [X]) hl w
  have hb' : o'[bb]? = some (.arr 55 1 [[V]]) := a4 bb _ (getO_push hb _) (fun es h => by cases h)
  have hbx : (o ++ [X])[bb]? = some (.arr 55 1 [[V]]) := getO_push hb _
  apply call_for (by exact rfl : T 60 = some _) (by simp)
  intro fr hfr hsl
  have s0 := hsl 0 _ rfl
  have s1 := hsl 1 _ rfl
  have s2 := hsl 2 _ rfl
  simp only [Pf.av, Pf.cells_all] at s0
  subst hX
  have l5 := lt_of_getO hb'
  by_cases z : r = 0
  · subst z
    simp -implicitDefEqProofs [hfr, s0, s1, s2, l1, l3, h1, hcan, getO_last, setO_last, List.getElem?_append_left, hb, hcl, a1, hb', l5, -getElem?_pos, List.getElem?_cons_zero]
    have e : oStep (Pf.mk 0 h nw v0 b (Tm.mk t0 t1 t2 t3) (Cl.mk c0 c1 c2 c3 c4) les chs (Cu.mk kd fr0 by0 dv kk ms cs) ps) w l = l ++ [w] := rfl
    rw [e]
    simp only [List.length_append, List.length_cons, List.length_nil, Nat.zero_add] at a2 a3
    refine ⟨.inr ⟨o.length + 1, by simp, ?_, by omega⟩, by omega, fun i y hi hy ho => ?_⟩
    · rw [List.getElem?_set_ne (by omega)]; exact a3
    · rw [List.getElem?_set_ne (Ne.symm hi)]; exact a4 i y (getO_push hy _) ho
  · have z' : (r == 0) = false := by simpa using z
    simp -implicitDefEqProofs [hfr, s0, s1, s2, l1, l3, h1, hcan, getO_last, setO_last, List.getElem?_append_left, hb, z, z', oStep, Pf.rule, -getElem?_pos, List.getElem?_cons_zero]
    exact ⟨hV.push _, fun i y hi hy ho => getO_push hy _⟩

theorem stepOpen (bb ro : Nat) (h1 : ro ≤ bb) : StepG 60 [.ptr bb 0 0] ro bb
    (fun o l => ∃ V, o[bb]? = some (.arr 55 1 [[V]]) ∧ Lo ro o V l) (fun l k => l.length + k ≤ 1000000) oStep (fun y => ∃ es, y = .arr 30 1 es) where
  bP := fun _ ⟨_, h⟩ => by cases h
  bI := fun _ ⟨_, h⟩ => by cases h
  lo := fun o z ⟨V, h, _⟩ => by have := lt_of_getO h; omega
  more := fun o m z ⟨V, h, hl⟩ => ⟨V, getO_push h _, hl.push _⟩
  go := fun x hx v w o l k hv hw ⟨V, hb, hV⟩ hk hl => by
    obtain ⟨o', V', e, g1, g2, g3, g4⟩ := open1_go bb ro h1 x hx v V w o l hv hw hb hV (by omega)
    refine ⟨o', e, ⟨V', g1, g2⟩, ?_, g3, g4⟩
    unfold oStep
    split
    · simp only [List.length_append, List.length_cons, List.length_nil]; omega
    · omega

mutual
/-- the ways to the open parts, in order -/
def opW : Pf → List Int → List (List Int)
  | .mk r _ _ _ _ _ _ _ _ _ l, w => (if r = 0 then [w] else []) ++ opWL l 0 w
def opWL : List Pf → Int → List Int → List (List Int)
  | [], _, _ => []
  | c :: l, i, w => opW c (w ++ [i]) ++ opWL l (i + 1) w
end
mutual
theorem wg_opW : ∀ (p : Pf) (w : List Int) (l : List (List Int)), wg oStep p w l = l ++ opW p w
  | .mk r h nw v b t c les chs cu ps, w, l => by
    rw [wg, wgL_opW ps, opW]
    by_cases hr : r = 0 <;> simp [oStep, Pf.rule, hr]
theorem wgL_opW : ∀ (ps : List Pf) (i : Int) (w : List Int) (l : List (List Int)), wgL oStep ps i w l = l ++ opWL ps i w
  | [], _, _, _ => by simp [wgL, opWL]
  | c :: ps, i, w, l => by
    rw [wgL, wgL_opW ps, wg_opW c, opWL]
    simp
end

theorem pOpen_eq (p : Pf) (hp : p.ok) (hs : psz p ≤ 1000000) (o : List Obj) (ro : Nat) (df : List Nat) : (D T).call 22 [p.av] ⟨o, ro, df⟩ = some (.sl 1 (litA (opW p [])), ⟨o, ro, df⟩) := by
  have x1 := p_take p
  have x2 := p_can p
  have x3 := plen p
  have x4 := p_one p
  have hdp := dP_psz p
  obtain ⟨o', e, ⟨V, g1, hV⟩, g2, g3, g4⟩ := walkG (stepOpen (o.length + 1) o.length (by omega)) p hp (.fsl 1 []) [] (o ++ [Obj.arr 42 24 [p.cells], Obj.arr 55 1 [[.fsl 1 []]]]) [] (psz p) []
    (.inl ⟨rfl, rfl⟩) (by simp; omega) ⟨.fsl 1 [], by simp [get_base], .inl ⟨rfl, rfl⟩⟩ (by omega) (by simp; omega)
  rw [wg_opW, List.nil_append] at hV
  have j1 := lt_of_getO g1
  have hh : hand o.length o' V = some (.sl 1 (litA (opW p []))) := by
    have hn := litA_len (opW p [])
    have hf := litA_flat (opW p [])
    rcases hV with ⟨rfl, e⟩ | ⟨q, rfl, hq, hr⟩
    · rw [e]; rfl
    · generalize litA (opW p []) = I at *
      simp only [hand, hand1, hand0, if_neg (show ¬ q < o.length by omega), hq, hf, List.drop_zero, Nat.zero_add]
      rw [if_pos ⟨by omega, trivial⟩, ← hn, List.take_length]
  simp only [Pf.av] at e
  apply call_by (by exact rfl : T 22 = some _) (by simp)
  intro fr hfr hsl
  have s0 := hsl 0 _ rfl
  simp only [Pf.av] at s0
  simp -implicitDefEqProofs [hfr, s0, get_base0, get_base, set_base0, set_base, e, g1, j1, hh, x1, x2, x3, x4, -getElem?_pos, List.getElem?_cons_zero, List.getElem?_cons_succ]

end Go.Proofs.YtkecobdhgabknaaDoor.A
