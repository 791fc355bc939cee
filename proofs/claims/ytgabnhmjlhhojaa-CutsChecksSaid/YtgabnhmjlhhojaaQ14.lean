/- The program's walk through a cut, and what it gives; Right of both sides. -/
import Derived.Test.YtgabnhmjlhhojaaZ4
import Derived.Test.YtgabnhmjlhhojaaZ2
namespace Go.Proofs.Ytgabnhmjlhhojaa.A
open Go
set_option maxRecDepth 10000
set_option linter.unusedSimpArgs false
set_option linter.unusedVariables false
attribute [-simp] List.all_eq_true put slot_def ld idxA lenOf elems canA app hand slc

theorem intA_app (l k : List Int) : intA (l ++ k) = intA l ++ intA k := by simp [intA]
/-- the way so far: the literal, or an own list -/
def Wy (o : List Obj) (v : AV) (w : List Int) : Prop := (v = .fsl 1 [] ∧ w = []) ∨ ∃ q, v = .own q 0 w.length false ∧ o[q]? = some (.arr 3 1 (intA w))
theorem Wy.can {o : List Obj} {v : AV} {w : List Int} (h : Wy o v w) : canA v = v := by
  rcases h with ⟨rfl, rfl⟩ | ⟨q, rfl, h⟩ <;> rfl
theorem Wy.len {o : List Obj} {v : AV} {w : List Int} (h : Wy o v w) : lenOf v = some w.length := by
  rcases h with ⟨rfl, rfl⟩ | ⟨q, rfl, h⟩ <;> rfl
theorem Wy.push {o : List Obj} {v : AV} {w : List Int} (h : Wy o v w) (m : List Obj) : Wy (o ++ m) v w := by
  rcases h with ⟨rfl, rfl⟩ | ⟨q, rfl, hq⟩
  · exact .inl ⟨rfl, rfl⟩
  · exact .inr ⟨q, rfl, getO_push hq _⟩
/-- the way, made full, and one more put behind it -/
theorem Wy.more2 {o : List Obj} {v : AV} {w : List Int} (h : Wy o v w) (hw : w.length ≤ 1000000) (X : Obj) (i : Int) (ro : Nat) : ∃ sv, slc ⟨o ++ [X], ro, []⟩ 1 v none (some (.int .i64 (w.length : Int))) (some (.int .i64 (w.length : Int))) = some sv ∧
    app ⟨o ++ [X], ro, []⟩ 3 1 8 sv (.fsl 1 [[.int .i64 i]]) = some (.own (o.length + 1) 0 (w.length + 1) false, ⟨o ++ [X, .arr 3 1 (intA (w ++ [i]))], ro, []⟩) := by
  have hl := intA_len w
  have e1 : intA (w ++ [i]) = intA w ++ [[.int .i64 i]] := intA_app w [i]
  rw [e1]
  rcases h with ⟨rfl, rfl⟩ | ⟨q, rfl, h⟩
  · exact ⟨.fsl 1 [], by simp [slc, slcL], by simp [app, elems, room, intA]⟩
  · have h' : (o ++ [X])[q]? = some (.arr 3 1 (intA w)) := getO_push h _
    generalize intA w = I at *
    refine ⟨.own q 0 w.length true, by simp [slc, St.arr?, h'], ?_⟩
    have hr : room (w.length + 1) 8 = true := by simp [room]; omega
    simp [app, elems, St.arr?, h', hr, ← hl]
    rw [hl]; exact hr

mutual
/-- the first error, with its way -/
def wkC : Cu → List Int → List Int × Int
  | .mk kd fr by' dv kk ms cs, w => if er31 (.mk kd fr by' dv kk ms cs) ≠ 0 then (w, er31 (.mk kd fr by' dv kk ms cs)) else wkCL cs 0 w
def wkCL : List Cu → Int → List Int → List Int × Int
  | [], _, _ => ([], 0)
  | c :: l, i, w => if (wkC c (w ++ [i])).2 ≠ 0 then wkC c (w ++ [i]) else wkCL l (i + 1) w
end
mutual
theorem wkC_pe : ∀ (c : Cu) (w : List Int), (wkC c w).2 = pe c
  | .mk kd fr by' dv kk ms cs, w => by
    simp only [wkC, pe]
    split
    · rfl
    · exact wkCL_pe cs 0 w
theorem wkCL_pe : ∀ (l : List Cu) (i : Int) (w : List Int), (wkCL l i w).2 = peL l
  | [], _, _ => rfl
  | c :: l, i, w => by
    have h := wkC_pe c (w ++ [i])
    simp only [wkCL, peL, h]
    split
    · exact h
    · exact wkCL_pe l (i + 1) w
end

/-- a way that was given back: by value, or the one that was given -/
def Wr (vw : AV) (w : List Int) (v : AV) (u : List Int) : Prop := v = .sl 1 (intA u) ∨ (v = vw ∧ w = u)

theorem cwalk_eq : ∀ (c : Cu), c.ok → ∀ (vw : AV) (w : List Int) (o : List Obj) (ro : Nat) (df : List Nat), Wy o vw w → w.length + cdp c ≤ 1000000 →
    ∃ v', (D T).call 32 [c.av, vw, .fn (.func 33) [] []] ⟨o, ro, df⟩ = some (.tup [v', .int .i64 (wkC c w).2], ⟨o, ro, df⟩) ∧ Wr vw w v' (wkC c w).1
  | .mk kd fr0 by0 dv kk ms cs, hok, vw, w, o, ro, df, hv, hd => by
    have hE : wkC (.mk kd fr0 by0 dv kk ms cs) w = if er31 (.mk kd fr0 by0 dv kk ms cs) ≠ 0 then (w, er31 (.mk kd fr0 by0 dv kk ms cs)) else wkCL cs 0 w := rfl
    have hsh := fun o ro df => shape_eq (.mk kd fr0 by0 dv kk ms cs) vw hv.can o ro df
    simp only [Cu.ok] at hok
    obtain ⟨_, _, _, _, _, _, o4, o5⟩ := hok
    have hl := okCu_iff.1 o5
    unfold mxB at o4
    have mx : cs.length ≤ 9223372036854775807 := by omega
    simp only [cdp] at hd
    have h0 := cdpL_pos cs
    have hwl : w.length ≤ 1000000 := by omega
    have hdl : ∀ x ∈ cs, cdp x ≤ cdpL cs := fun x hx => cdp_mem hx
    have ih := fun x (hx : x ∈ cs) vw w o ro df hv hd => cwalk_eq x (hl x hx) vw w o ro df hv hd
    generalize wkC (.mk kd fr0 by0 dv kk ms cs) w = R at hE ⊢
    generalize er31 (.mk kd fr0 by0 dv kk ms cs) = ER at *
    have hcan := hv.can
    have hlen := hv.len
    have hf0 := intA_flat w
    suffices hh : ∃ v' st', (D T).call 32 [(Cu.mk kd fr0 by0 dv kk ms cs).av, vw, .fn (.func 33) [] []] ⟨o, ro, df⟩ = some (v', st') ∧ (fun v' st' => ∃ u, v' = .tup [u, .int .i64 R.2] ∧ st' = ⟨o, ro, df⟩ ∧ Wr vw w u R.1) v' st' by
      obtain ⟨_, _, g1, u, rfl, rfl, g2⟩ := hh
      exact ⟨u, g1, g2⟩
    simp only [Cu.av, Cu.cells_mk] at hsh
    simp only [Cu.av] at ih
    apply call_for (by exact rfl : T 32 = some _) (by simp)
    intro fr hfr hsl
    have s0 := hsl 0 _ rfl
    have s1 := hsl 1 _ rfl
    have s2 := hsl 2 _ rfl
    simp only [Cu.av, Cu.cells_mk] at s0
    by_cases hz : ER = 0
    rotate_left
    · rw [if_pos hz] at hE
      subst hE
      have hzb : (ER != 0) = true := bne_iff_ne.2 hz
      have hzq : (ER == 0) = false := by simpa using hz
      rcases hv with ⟨rfl, rfl⟩ | ⟨q, rfl, hq⟩
      · simp -implicitDefEqProofs [hfr, s0, s1, s2, get_base0, hsh, hz, hzb, hzq, hcan, -getElem?_pos, List.getElem?_cons_zero]
        exact .inl rfl
      · have hql := lt_of_getO hq
        simp -implicitDefEqProofs [hfr, s0, s1, s2, get_base0, hsh, hz, hzb, hzq, hcan, hql, -getElem?_pos, List.getElem?_cons_zero]
        exact .inr ⟨rfl, rfl⟩
    rw [if_neg (by simpa using hz)] at hE
    rw [hz] at hsh
    simp -implicitDefEqProofs [hfr, s0, s1, s2, get_base0, hsh, hcan, -getElem?_pos, List.getElem?_cons_zero]
    apply loop_inv L32_0.eq_1 List.length (fun (rest : List Cu) fr st => ∃ pre o2, cs = pre ++ rest ∧ fr.length = 49 ∧ slot fr 1 = vw ∧ slot fr 2 = .fn (.func 33) [] [] ∧ slot fr 22 = .sl 7 (cs.map Cu.cells) ∧ slot fr 23 = .int .i64 (cs.length : Int) ∧ slot fr 24 = .int .i64 (pre.length : Int) ∧
      st = ⟨o2, o.length, []⟩ ∧ o.length ≤ o2.length ∧ Wy o2 vw w ∧ R = wkCL rest (pre.length : Int) w) ?_ cs
      ⟨[], _, rfl, by simp [hfr], by simp [hfr, s1], by simp [hfr, s2], by simp [hfr], by simp [hfr], by simp [hfr], rfl, by simp, hv.push _, hE⟩
    clear hE hsh hfr s0 s1 s2 hsl
    clear fr
    rintro rest fr _ ⟨pre, o2, e, hfr, q1, q2, q22, q23, q24, rfl, hlo, hv2, hn⟩
    cases rest with
    | nil =>
      have hlt := idx_end e
      simp only [wkCL] at hn
      simp -implicitDefEqProofs [hfr, q1, q2, q22, q23, q24, hlt, hn]
      exact .inl rfl
    | cons x rest =>
      obtain ⟨hlt, hg, hpl⟩ := idx_at e
      have hw := idx_next e mx
      have hx : x ∈ cs := by simp [e]
      have y1 := cu_take x
      have y2 := cu_can x
      have y3 := culen x
      have y4 := cu_one x
      obtain ⟨Y, hY⟩ : ∃ Y, Y = Obj.arr 29 7 [x.cells] := ⟨_, rfl⟩
      obtain ⟨sv, a1, a2⟩ := hv2.more2 hwl Y (pre.length : Int) o.length
      have hlen2 := hv2.len
      obtain ⟨v', e3, hr⟩ := ih x hx (.own (o2.length + 1) 0 (w.length + 1) false) (w ++ [(pre.length : Int)]) (o2 ++ [Y, .arr 3 1 (intA (w ++ [(pre.length : Int)]))]) o.length [] (.inr ⟨o2.length + 1, by simp, by simp⟩)
        (by have := hdl x hx; simp; omega)
      simp only [wkCL] at hn
      have gY2 : (o2 ++ [Y, .arr 3 1 (intA (w ++ [(pre.length : Int)]))])[o2.length]? = some Y := by simp
      have hv3 := hv2.push [Y, .arr 3 1 (intA (w ++ [(pre.length : Int)]))]
      generalize wkC x (w ++ [(pre.length : Int)]) = W at *
      subst hY
      by_cases hz2 : W.2 = 0
      · rw [if_neg (by simpa using hz2)] at hn
        rw [hz2] at e3
        simp -implicitDefEqProofs [hfr, q1, q2, q22, q23, q24, hlt, hg, hpl, hw, y1, y2, y3, y4, cset, hlo, hcan, hlen2, a1, a2, e3, gY2, setO_last, getO_last, List.getElem?_append_left, -List.getElem_map, -getElem?_pos, List.getElem?_cons_zero]
        exact ⟨rest, by simp, pre ++ [x], by simp [e], by simp, by omega, hv3, by simpa using hn⟩
      · rw [if_pos hz2] at hn
        have hzb : (W.2 != 0) = true := bne_iff_ne.2 hz2
        have hzq : (W.2 == 0) = false := by simpa using hz2
        subst hn
        rcases hr with rfl | ⟨rfl, hr⟩
        · have hf := intA_flat R.1
          simp -implicitDefEqProofs [hfr, q1, q2, q22, q23, q24, hlt, hg, hpl, hw, y1, y2, y3, y4, cset, hlo, hcan, hlen2, a1, a2, e3, gY2, hz2, hzb, hzq, hf, setO_last, getO_last, List.getElem?_append_left, -List.getElem_map, -getElem?_pos, List.getElem?_cons_zero]
          exact .inl rfl
        · have hf := intA_flat (w ++ [(pre.length : Int)])
          have hl := intA_len (w ++ [(pre.length : Int)])
          simp only [List.length_append, List.length_cons, List.length_nil, Nat.zero_add] at hl
          have htk : (intA (w ++ [(pre.length : Int)])).take (w.length + 1) = intA R.1 := by rw [List.take_of_length_le (by omega), hr]
          have hni : ¬ o2.length + 1 < o.length := by omega
          have gI : (o2 ++ [Obj.arr 29 7 [x.cells], .arr 3 1 (intA (w ++ [(pre.length : Int)]))])[o2.length + 1]? = some (.arr 3 1 (intA (w ++ [(pre.length : Int)]))) := by simp
          simp -implicitDefEqProofs [hfr, q1, q2, q22, q23, q24, hlt, hg, hpl, hw, y1, y2, y3, y4, cset, hlo, hcan, hlen2, a1, a2, e3, gY2, hz2, hzb, hzq, hf, hl, htk, hni, gI, setO_last, getO_last, List.getElem?_append_left, -List.getElem_map, -getElem?_pos, List.getElem?_cons_zero]
          exact .inl rfl
termination_by t => SizeOf.sizeOf t
decreasing_by
  have := List.sizeOf_lt_of_mem hx
  simp
  omega

theorem cRight_eq (c : Cu) (hok : c.ok) (hs : csz c ≤ 1000000) (o : List Obj) (ro : Nat) (df : List Nat) : (D T).call 11 [c.av] ⟨o, ro, df⟩ = some (.int .i64 (if 1024 < cdp c then 6 else if 4096 < csz c then 2 else pe c), ⟨o, ro, df⟩) := by
  have hd := fun o ro df => cDepth_eq c hok hs o ro df
  have hz := fun o ro df => cSize_eq c hok hs o ro df
  have hdc := cdp_csz c
  have x1 := cu_take c
  have x2 := cu_can c
  have x3 := culen c
  have x4 := cu_one c
  obtain ⟨v', hc, hr⟩ := cwalk_eq c hok (.fsl 1 []) [] (o ++ [Obj.arr 29 7 [c.cells]]) o.length [] (.inl ⟨rfl, rfl⟩) (by simp; omega)
  rw [wkC_pe] at hc
  simp only [Cu.av] at hd hz hc
  apply call_by (by exact rfl : T 11 = some _) (by simp)
  intro fr hfr hsl
  have s0 := hsl 0 _ rfl
  simp only [Cu.av] at s0
  by_cases h1 : 1024 < cdp c
  · simp -implicitDefEqProofs [hfr, s0, get_base0, hd, hz, h1, x1, x2, x3, x4, -getElem?_pos, List.getElem?_cons_zero]
  · by_cases h2 : 4096 < csz c
    · simp -implicitDefEqProofs [hfr, s0, get_base0, hd, hz, h1, h2, x1, x2, x3, x4, -getElem?_pos, List.getElem?_cons_zero]
    · simp -implicitDefEqProofs [hfr, s0, get_base0, hd, hz, h1, h2, hc, x1, x2, x3, x4, -getElem?_pos, List.getElem?_cons_zero]

theorem rRightC_eq (c : Cu) (hok : c.ok) (hs : csz c ≤ 1000000) (o : List Obj) (ro : Nat) (df : List Nat) : (D T).call 12 [c.av] ⟨o, ro, df⟩ = some (.int .i64 (if 1024 < cdp c then 6 else if 4096 < csz c then 2 else pe c), ⟨o, ro, df⟩) := by
  have hd := fun o ro df => rDepth_eq c hok hs o ro df
  have hz := fun o ro df => rSize_eq c hok hs o ro df
  have hc := fun o ro df => rpart_eq c hok o ro df
  have x1 := cu_take c
  have x2 := cu_can c
  have x3 := culen c
  have x4 := cu_one c
  simp only [Cu.av] at hd hz hc
  apply call_by (by exact rfl : T 12 = some _) (by simp)
  intro fr hfr hsl
  have s0 := hsl 0 _ rfl
  simp only [Cu.av] at s0
  by_cases h1 : 1024 < cdp c
  · simp -implicitDefEqProofs [hfr, s0, get_base0, hd, hz, h1, x1, x2, x3, x4, -getElem?_pos, List.getElem?_cons_zero]
  · by_cases h2 : 4096 < csz c
    · simp -implicitDefEqProofs [hfr, s0, get_base0, hd, hz, h1, h2, x1, x2, x3, x4, -getElem?_pos, List.getElem?_cons_zero]
    · simp -implicitDefEqProofs [hfr, s0, get_base0, hd, hz, h1, h2, hc, x1, x2, x3, x4, -getElem?_pos, List.getElem?_cons_zero]

end Go.Proofs.Ytgabnhmjlhhojaa.A
/- facts.check: the loop over the parts, and the whole. -/
namespace Go.Proofs.Ytgabnhmjlhhojaa.A
open Go
set_option maxRecDepth 10000
set_option linter.unusedSimpArgs false
set_option linter.unusedVariables false
attribute [-simp] List.all_eq_true put slot_def ld idxA lenOf elems canA app hand slc add64A

def askA (l : List Iq) : Cu → List Iq × Int
  | .mk kd fr b dv k ms _ => if kd = 2 then sumA l fr b dv else if kd = 3 then splitA l k ms else ([], endE l fr)
mutual
/-- the first error of a cut, by what is known, with its way -/
def ckC : Cu → List Iq → List Int → List Int × Int
  | .mk kd fr b dv k ms cs, l, w => if (askA l (.mk kd fr b dv k ms cs)).2 ≠ 0 then (w, (askA l (.mk kd fr b dv k ms cs)).2) else ckL cs l (askA l (.mk kd fr b dv k ms cs)).1 0 w
def ckL : List Cu → List Iq → List Iq → Nat → List Int → List Int × Int
  | [], _, _, _, _ => ([], 0)
  | c :: cs, l, more, i, w => if (ckC c (l ++ [more.getD i iz]) (w ++ [(i : Int)])).2 ≠ 0 then ckC c (l ++ [more.getD i iz]) (w ++ [(i : Int)]) else ckL cs l more (i + 1) w
end

theorem ckL_nil : ∀ (cs : List Cu) (l more : List Iq) (i : Nat) (w : List Int), (ckL cs l more i w).2 = 0 → (ckL cs l more i w).1 = []
  | [], _, _, _, _, _ => rfl
  | c :: cs, l, more, i, w, h => by
    simp only [ckL] at h ⊢
    split at h
    · rename_i h7; exact absurd h h7
    · rename_i h7
      rw [if_neg h7]
      exact ckL_nil cs l more (i + 1) w h
theorem ckC_nil (c : Cu) (l : List Iq) (w : List Int) (h : (ckC c l w).2 = 0) : (ckC c l w).1 = [] := by
  obtain ⟨kd, fr, b, dv, k, ms, cs⟩ := c
  rw [ckC] at h ⊢
  split at h
  · rename_i h7; exact absurd h h7
  · rename_i h7
    rw [if_neg h7]
    exact ckL_nil _ _ _ _ _ h
theorem chk_l0 (cs : List Cu) (hcs : cs.length ≤ 1000000) (l more : List Iq) (hl : l.length ≤ 1000000) (hml : cs.length ≤ more.length) (v vw : AV) (w : List Int) (o o1 : List Obj) (hv : Fs o1 v (l.map iqA)) (n : Nat) (hon : o.length = n) (hwl : w.length ≤ 1000000)
    (ih : ∀ x ∈ cs, ∀ (i : Nat), i < more.length → ∀ (vw' : AV) (w' : List Int) (o' : List Obj) (ro : Nat) (df : List Nat), w'.length = w.length + 1 → Wy o' vw' w' →
      ∃ v', (D T).call 37 [.sl 3 ((l ++ [more.getD i iz]).map iqA), .agg x.cells, vw'] ⟨o', ro, df⟩ = some (.tup [v', .int .i64 (ckC x (l ++ [more.getD i iz]) w').2], ⟨o', ro, df⟩) ∧ Wr vw' w' v' (ckC x (l ++ [more.getD i iz]) w').1)
    (R : List Int × Int) (hR : R = ckL cs l more 0 w) (Q : AE → List AV → St → Prop) (fr : List AV) (hfr : fr.length = 70)
    (q0 : slot fr 0 = v) (q2 : slot fr 2 = vw) (q9 : slot fr 9 = .sl 3 (more.map iqA)) (q38 : slot fr 38 = .sl 7 (cs.map Cu.cells)) (q39 : slot fr 39 = .int .i64 (cs.length : Int)) (q40 : slot fr 40 = .int .i64 0)
    (hlo : n ≤ o1.length) (hw : Wy o1 vw w)
    (kk : ∀ (fr' : List AV) (o2 : List Obj), fr'.length = 70 → R = ([], 0) → Q (.exit 1) fr' ⟨o2, n, []⟩)
    (kr : ∀ (fr' : List AV) (o2 : List Obj) (v' : AV), fr'.length = 70 → slot fr' 6 = v' → slot fr' 7 = .int .i64 R.2 → hand1 n o2 v' = some (.sl 1 (intA R.1)) → Q .ret fr' ⟨o2, n, []⟩) :
    ∃ e fr' st', (D T).loop false L37_0 fr ⟨o1, n, []⟩ = some (e, fr', st') ∧ Q e fr' st' := by
  have mx : cs.length ≤ 9223372036854775807 := by omega
  have hcan := hw.can
  apply loop_inv L37_0.eq_1 List.length (fun (rest : List Cu) fr st => ∃ pre o2, cs = pre ++ rest ∧ fr.length = 70 ∧ slot fr 0 = v ∧ slot fr 2 = vw ∧ slot fr 9 = .sl 3 (more.map iqA) ∧ slot fr 38 = .sl 7 (cs.map Cu.cells) ∧ slot fr 39 = .int .i64 (cs.length : Int) ∧ slot fr 40 = .int .i64 (pre.length : Int) ∧
      st = ⟨o2, n, []⟩ ∧ n ≤ o2.length ∧ Wy o2 vw w ∧ Fs o2 v (l.map iqA) ∧ R = ckL rest l more pre.length w) ?_ cs
      ⟨[], o1, rfl, hfr, q0, q2, q9, q38, q39, q40, rfl, hlo, hw, hv, hR⟩
  clear hR hfr q0 q2 q9 q38 q39 q40 hlo hw hv
  clear fr
  rintro rest fr _ ⟨pre, o2, e, hfr, q0, q2, q9, q38, q39, q40, rfl, hlo, hv2, hvf, hn⟩
  cases rest with
  | nil =>
    have hlt := idx_end e
    simp only [ckL] at hn
    simp -implicitDefEqProofs [hfr, q0, q2, q9, q38, q39, q40, hlt]
    exact kk _ o2 (by simp [hfr]) hn
  | cons x rest =>
    obtain ⟨hlt, hg, hpl⟩ := idx_at e
    have hw := idx_next e mx
    have hx : x ∈ cs := by simp [e]
    have y1 := cu_take x
    have y2 := cu_can x
    have y3 := culen x
    have y4 := cu_one x
    have hpm : pre.length < more.length := by omega
    obtain ⟨Y, hY⟩ : ∃ Y, Y = Obj.arr 29 7 [x.cells] := ⟨_, rfl⟩
    obtain ⟨sv, a1, a2⟩ := hv2.more2 hwl Y (pre.length : Int) n
    have hlen2 := hv2.len
    obtain ⟨q, hq⟩ : ∃ q, more[pre.length]? = some q := ⟨more[pre.length]'hpm, by simp [hpm]⟩
    have hqg : more.getD pre.length iz = q := by rw [List.getD_eq_getElem?_getD, hq]; rfl
    have hq2 : (more.map iqA)[pre.length]? = some (iqA q) := by simp [hq]
    have hwi := with_eq' l hl q v (o2 ++ [Y]) (hvf.push _) n []
    obtain ⟨v', e3, hr⟩ := ih x hx pre.length hpm (.own (o2.length + 1) 0 (w.length + 1) false) (w ++ [(pre.length : Int)]) (o2 ++ [Y, .arr 3 1 (intA (w ++ [(pre.length : Int)]))]) n [] (by simp) (.inr ⟨o2.length + 1, by simp, by simp⟩)
    rw [hqg] at e3 hr
    simp only [ckL, hqg] at hn
    have gY2 : (o2 ++ [Y])[o2.length]? = some Y := by simp
    have gY3 : (o2 ++ [Y, .arr 3 1 (intA (w ++ [(pre.length : Int)]))])[o2.length]? = some Y := by simp
    have gI : (o2 ++ [Y, .arr 3 1 (intA (w ++ [(pre.length : Int)]))])[o2.length + 1]? = some (.arr 3 1 (intA (w ++ [(pre.length : Int)]))) := by simp
    have hv3 := hv2.push [Y, .arr 3 1 (intA (w ++ [(pre.length : Int)]))]
    have hcv : canA v = v := hvf.ls.can
    have hvf3 := hvf.push [Y, .arr 3 1 (intA (w ++ [(pre.length : Int)]))]
    have hQ : iqA q = [.int .i64 q.1.1, .sl 2 (moA q.1.2), .bool q.2] := rfl
    have hml2 : (more.map iqA).length = more.length := by simp
    have hinb : ((pre.length : Int) < (more.length : Int)) := by omega
    generalize ckC x (l ++ [q]) (w ++ [(pre.length : Int)]) = W at *
    generalize (l ++ [q]).map iqA = L2 at *
    rw [hQ] at hq2 hwi
    generalize moA q.1.2 = M2 at *
    generalize more.map iqA = MA at *
    have hli := intA_len (w ++ [(pre.length : Int)])
    simp only [List.length_append, List.length_cons, List.length_nil, Nat.zero_add] at hli
    have hfi := intA_flat (w ++ [(pre.length : Int)])
    have hII : Wr (.own (o2.length + 1) 0 (w.length + 1) false) (w ++ [(pre.length : Int)]) v' W.1 → ∀ Z, Z = o2 ++ [Y, .arr 3 1 (intA (w ++ [(pre.length : Int)]))] → hand1 n Z v' = some (.sl 1 (intA W.1)) := by
      rintro (rfl | ⟨rfl, h⟩) Z rfl
      · have hf := intA_flat W.1
        simp [hf]
      · rw [← h]
        have htk : (intA (w ++ [(pre.length : Int)])).take (w.length + 1) = intA (w ++ [(pre.length : Int)]) := List.take_of_length_le (by omega)
        simp [show ¬ o2.length + 1 < n by omega, gI, hfi, hli, htk]
    have hIZ := hII hr _ rfl
    generalize intA (w ++ [(pre.length : Int)]) = IW at *
    clear hII
    subst hY
    by_cases hz2 : W.2 = 0
    · rw [if_neg (by simpa using hz2)] at hn
      rw [hz2] at e3
      simp -implicitDefEqProofs [hfr, q0, q2, q9, q38, q39, q40, hlt, hg, hpl, hw, y1, y2, y3, y4, cset, hlo, hcan, hcv, hlen2, hpm, hq2, hml2, hinb, hwi, a1, a2, e3, gY2, gY3, setO_last, getO_last, List.getElem?_append_left, -List.getElem_map, -getElem?_pos, List.getElem?_cons_zero, List.getElem?_cons_succ]
      exact ⟨rest, by simp, pre ++ [x], by simp [e], by simp, by omega, hv3, hvf3, by simpa using hn⟩
    · rw [if_pos hz2] at hn
      have hzb : (W.2 != 0) = true := bne_iff_ne.2 hz2
      subst hn
      simp -implicitDefEqProofs [hfr, q0, q2, q9, q38, q39, q40, hlt, hg, hpl, hw, y1, y2, y3, y4, cset, hlo, hcan, hcv, hlen2, hpm, hq2, hml2, hinb, hwi, a1, a2, e3, gY2, gY3, hzb, setO_last, getO_last, List.getElem?_append_left, -List.getElem_map, -getElem?_pos, List.getElem?_cons_zero, List.getElem?_cons_succ]
      exact kr _ _ v' (by simp [hfr]) (by simp [hfr]) (by simp [hfr]) hIZ

end Go.Proofs.Ytgabnhmjlhhojaa.A
