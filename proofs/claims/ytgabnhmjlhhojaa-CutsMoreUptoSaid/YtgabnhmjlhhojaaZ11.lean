/- The facts that a cut uses, gathered by the program's walk. -/
import Derived.Test.YtgabnhmjlhhojaaZ10
namespace Go.Proofs.Ytgabnhmjlhhojaa.A
open Go
set_option maxRecDepth 10000
set_option linter.unusedSimpArgs false
set_option linter.unusedVariables false
attribute [-simp] List.all_eq_true put slot_def ld idxA lenOf elems canA app hand slc List.map_map

/-- is a number one of so many facts? -/
def isF (n x : Int) : Bool := decide (0 ≤ x) && decide (x < n)
mutual
/-- the facts that a cut uses, as they come -/
def usC (n : Int) : Cu → List Int
  | .mk _ fr _ _ _ _ cs => fr.filter (isF n) ++ usCL n cs
def usCL (n : Int) : List Cu → List Int
  | [] => []
  | c :: l => usC n c ++ usCL n l
end

mutual
/-- how many numbers stand in From -/
def cfr : Cu → Nat
  | .mk _ fr _ _ _ _ cs => fr.length + cfrL cs
def cfrL : List Cu → Nat
  | [] => 0
  | c :: l => cfr c + cfrL l
end
mutual
theorem usC_len (n : Int) : ∀ c, (usC n c).length ≤ cfr c
  | .mk _ fr _ _ _ _ cs => by
    have h1 := usCL_len n cs
    have h2 : (fr.filter (isF n)).length ≤ fr.length := List.length_filter_le _ _
    simp only [usC, cfr, List.length_append]; omega
theorem usCL_len (n : Int) : ∀ l, (usCL n l).length ≤ cfrL l
  | [] => by simp [usCL, cfrL]
  | c :: l => by
    have h1 := usC_len n c
    have h2 := usCL_len n l
    simp only [usCL, cfrL, List.length_append]; omega
end

/-- where the numbers gathered so far are -/
structure Ui (lo nb ob : Nat) (n : Int) (o : List Obj) (v : AV) (ns : List Int) : Prop where
  p : o[nb]? = some (.arr 3 1 [[.int .i64 n]])
  l : o[ob]? = some (.arr 22 1 [[v]])
  G : Gx 3 1 lo o v (intA ns)
  hp : nb < lo
  hl : ob < lo
  ne : nb ≠ ob

/-- what gathering keeps -/
structure Uk (ob : Nat) (o : List Obj) (v : AV) (o' : List Obj) (v' : AV) : Prop where
  le : o.length ≤ o'.length
  keep : ∀ i, i < o.length → i ≠ ob → (∀ n f, v ≠ .own i 0 n f) → o'[i]? = o[i]? ∧ ∀ n f, v' ≠ .own i 0 n f

theorem Uk.trans {lb : Nat} {o o1 o2 : List Obj} {v v1 v2 : AV} (h : Uk lb o v o1 v1) (k : Uk lb o1 v1 o2 v2) : Uk lb o v o2 v2 :=
  ⟨Nat.le_trans h.le k.le, fun i hi hl hv => by
    obtain ⟨a, b⟩ := h.keep i hi hl hv
    obtain ⟨c, d⟩ := k.keep i (Nat.lt_of_lt_of_le hi h.le) hl b
    exact ⟨by rw [c, a], d⟩⟩
theorem Uk.push {lb : Nat} {o o1 : List Obj} {v v1 : AV} (h : Uk lb o v o1 v1) (m : List Obj) : Uk lb o v (o1 ++ m) v1 :=
  ⟨by have := h.le; simp; omega, fun i hi hl hv => by
    obtain ⟨a, b⟩ := h.keep i hi hl hv
    have := h.le
    exact ⟨by rw [List.getElem?_append_left (by omega), a], b⟩⟩
theorem Uk.refl {lb : Nat} {o : List Obj} {v : AV} : Uk lb o v o v := ⟨Nat.le_refl _, fun _ _ _ h => ⟨rfl, h⟩⟩
theorem Ui.push {lo pb lb : Nat} {n : Int} {o : List Obj} {v : AV} {ns : List Int} (h : Ui lo pb lb n o v ns) (m : List Obj) : Ui lo pb lb n (o ++ m) v ns :=
  ⟨getO_push h.p m, getO_push h.l m, h.G.push m, h.hp, h.hl, h.ne⟩

theorem uses1_eq {lo nb ob : Nat} {n : Int} (c : Cu) (hok : c.ok) (vw : AV) (hcan : canA vw = vw) (o : List Obj) (v : AV) (ns : List Int) (ro : Nat) (df : List Nat) (S : Ui lo nb ob n o v ns) (hlo : lo ≤ o.length) (hro : ro ≤ ob) (hn : ns.length + (match c with | .mk _ fr _ _ _ _ _ => fr.length) ≤ 4294967296) :
    ∃ o' v', (D T).call 50 [c.av, vw, .ptr nb 0 0, .ptr ob 0 0] ⟨o, ro, df⟩ = some (.int .i64 0, ⟨o', ro, df⟩) ∧ Ui lo nb ob n o' v' (ns ++ (match c with | .mk _ fr _ _ _ _ _ => fr.filter (isF n))) ∧ Uk ob o v o' v' := by
  obtain ⟨kd, fr0, by0, dv, kk, ms, cs⟩ := c
  simp only at hn ⊢
  simp only [Cu.ok] at hok
  obtain ⟨_, o1, _⟩ := hok
  have mx0 := o1.2
  unfold mxB at mx0
  have mx : fr0.length ≤ 9223372036854775807 := by omega
  suffices hh : ∃ u st', (D T).call 50 [(Cu.mk kd fr0 by0 dv kk ms cs).av, vw, .ptr nb 0 0, .ptr ob 0 0] ⟨o, ro, df⟩ = some (u, st') ∧ (fun u st' => ∃ o' v', u = .int .i64 0 ∧ st' = ⟨o', ro, df⟩ ∧ Ui lo nb ob n o' v' (ns ++ fr0.filter (isF n)) ∧ Uk ob o v o' v') u st' by
    obtain ⟨_, _, h1, o', v', rfl, rfl, h2, h3⟩ := hh
    exact ⟨o', v', h1, h2, h3⟩
  have h1 := S.hp
  have h2 := S.hl
  have h3 := S.ne
  have hF := intA_len fr0
  have hg1 := fun (i : Nat) u (h : fr0[i]? = some u) => show (intA fr0)[i]? = some [.int .i64 u] by simp [intA, h]
  simp only [Cu.av, Cu.cells_mk]
  generalize intA fr0 = F at *
  have lro : ro ≤ o.length := by omega
  apply call_for (by exact rfl : T 50 = some _) (by simp)
  intro fr hfr hsl
  have s0 := hsl 0 _ rfl
  have s2 := hsl 2 _ rfl
  have s3 := hsl 3 _ rfl
  simp -implicitDefEqProofs [hfr, s0, s2, s3, hF, lro, get_base0, -getElem?_pos, List.getElem?_cons_zero]
  apply loop_inv L50_0.eq_1 List.length (fun (rest : List Int) fr st => ∃ pre v2 o2, fr0 = pre ++ rest ∧ fr.length = 28 ∧ slot fr 2 = .ptr nb 0 0 ∧ slot fr 3 = .ptr ob 0 0 ∧ slot fr 10 = .sl 1 F ∧ slot fr 11 = .int .i64 (fr0.length : Int) ∧ slot fr 12 = .int .i64 (pre.length : Int) ∧
    st = ⟨o2, ro, []⟩ ∧ Ui lo nb ob n o2 v2 (ns ++ pre.filter (isF n)) ∧ Uk ob o v o2 v2) ?_ fr0 ⟨[], v, _, rfl, by simp [hfr], by simp [hfr, s2], by simp [hfr, s3], by simp [hfr], by simp [hfr], by simp [hfr], rfl, by simpa using S.push _, Uk.refl.push _⟩
  clear hfr s0 s2 s3 hsl
  clear fr
  rintro rest fr _ ⟨pre, v2, o2, e, hfr, q2, q3, q10, q11, q12, rfl, S2, K2⟩
  cases rest with
  | nil =>
    have hlt := idx_end e
    have ee : pre = fr0 := by simpa using e.symm
    simp -implicitDefEqProofs [hfr, q2, q3, q10, q11, q12, hlt]
    exact ⟨v2, by rw [← ee]; exact S2, K2⟩
  | cons x rest =>
    obtain ⟨hlt, hg, hpl⟩ := idx_at e
    have hw := idx_next e mx
    have hgx := hg1 _ _ hg
    have p1 := S2.p
    have p2 := S2.l
    have hone := gx_one S2.G
    have hfl : (pre.filter (isF n)).length ≤ pre.length := List.length_filter_le _ _
    have hpl2 : pre.length + 1 ≤ fr0.length := by omega
    have hFl : (ns ++ pre.filter (isF n)).length ≤ 4294967295 := by simp only [List.length_append]; omega
    have le2 := K2.le
    cases h : isF n x with
    | false =>
      have hS : (pre ++ [x]).filter (isF n) = pre.filter (isF n) := by simp [h]
      have hcase : ¬ (0 ≤ x) ∨ (0 ≤ x ∧ ¬ (x < n)) := by
        simp only [isF, Bool.and_eq_false_iff, decide_eq_false_iff_not] at h
        omega
      rw [← hS] at S2
      rcases hcase with k0 | ⟨k0, k1⟩
      · simp -implicitDefEqProofs [hfr, q2, q3, q10, q11, q12, hlt, hgx, hw, hF, hpl, p1, p2, k0, -getElem?_pos, List.getElem?_cons_zero]
        exact ⟨rest, by simp, pre ++ [x], by simp [e], by simp, v2, S2, K2⟩
      · simp -implicitDefEqProofs [hfr, q2, q3, q10, q11, q12, hlt, hgx, hw, hF, hpl, p1, p2, k0, k1, -getElem?_pos, List.getElem?_cons_zero]
        exact ⟨rest, by simp, pre ++ [x], by simp [e], by simp, v2, S2, K2⟩
    | true =>
      have hS : (pre ++ [x]).filter (isF n) = pre.filter (isF n) ++ [x] := by simp [h]
      simp only [isF, Bool.and_eq_true, decide_eq_true_eq] at h
      obtain ⟨k0, k1⟩ := h
      obtain ⟨o4, a1, a2, W⟩ := gx_appw S2.G (ro := ro) (df := []) (bytes := 8) (by omega) (by omega) (elems_fsl _ 1 [[.int .i64 x]]) (room_of0 (by simp only [intA_len, List.length_cons, List.length_nil]; omega) (by simp only [intA_len, List.length_cons, List.length_nil]; omega))
      simp only [List.length_cons, List.length_nil, Nat.zero_add, intA_len, List.length_append] at a1 a2 W
      have k2 := (W.keep nb (lt_of_getO p1) (fun n f => S2.G.not (by omega) n f)).1
      have k3 := (W.keep ob (lt_of_getO p2) (fun n f => S2.G.not (by omega) n f)).1
      rw [p1] at k2
      rw [p2] at k3
      have l3 : ob < o4.length := by omega
      simp -implicitDefEqProofs [hfr, q2, q3, q10, q11, q12, hlt, hgx, hw, hF, hpl, p1, p2, k0, k1, a1, k2, k3, l3, hro, hone, -getElem?_pos, List.getElem?_cons_zero]
      refine ⟨rest, by simp, pre ++ [x], by simp [e], by simp, .own o2.length 0 (ns.length + (pre.filter (isF n)).length + 1) false, ⟨?_, ?_, ?_, h1, h2, h3⟩, K2.trans ⟨by simp; omega, fun i hi hl hv => ⟨?_, (W.keep i hi hv).2⟩⟩⟩
      · rw [List.getElem?_set_ne (Ne.symm h3)]; exact k2
      · exact getO_set l3
      · have hG := W.G
        rw [show intA (ns ++ (pre ++ [x]).filter (isF n)) = intA (ns ++ pre.filter (isF n)) ++ [[.int .i64 x]] by rw [hS, ← List.append_assoc, intA_app]; rfl]
        exact gx_setne hG (fun n f => hG.not (by omega) n f) _
      · rw [List.getElem?_set_ne (Ne.symm hl), (W.keep i hi hv).1]

/-- the way so far, apart from the numbers gathered -/
def Wv (ob : Nat) (v : AV) (o : List Obj) (vw : AV) (w : List Int) : Prop := (vw = .fsl 1 [] ∧ w = []) ∨ ∃ q, vw = .own q 0 w.length false ∧ o[q]? = some (.arr 3 1 (intA w)) ∧ q ≠ ob ∧ ∀ n f, v ≠ .own q 0 n f
theorem Wv.wy {ob : Nat} {v : AV} {o : List Obj} {vw : AV} {w : List Int} (h : Wv ob v o vw w) : Wy o vw w := by
  rcases h with ⟨rfl, rfl⟩ | ⟨q, rfl, hq, _⟩
  · exact .inl ⟨rfl, rfl⟩
  · exact .inr ⟨q, rfl, hq⟩
theorem Wv.push {ob : Nat} {v : AV} {o : List Obj} {vw : AV} {w : List Int} (h : Wv ob v o vw w) (m : List Obj) : Wv ob v (o ++ m) vw w := by
  rcases h with ⟨rfl, rfl⟩ | ⟨q, rfl, hq, h1, h2⟩
  · exact .inl ⟨rfl, rfl⟩
  · exact .inr ⟨q, rfl, getO_push hq _, h1, h2⟩
theorem Wv.keep {ob : Nat} {v v' : AV} {o o' : List Obj} {vw : AV} {w : List Int} (h : Wv ob v o vw w) (K : Uk ob o v o' v') : Wv ob v' o' vw w := by
  rcases h with ⟨rfl, rfl⟩ | ⟨q, rfl, hq, h1, h2⟩
  · exact .inl ⟨rfl, rfl⟩
  · obtain ⟨a, b⟩ := K.keep q (lt_of_getO hq) h1 h2
    exact .inr ⟨q, rfl, by rw [a]; exact hq, h1, b⟩

theorem uwalk_eq {lo nb ob : Nat} {n : Int} : ∀ (c : Cu), c.ok → ∀ (vw : AV) (w : List Int) (o : List Obj) (v : AV) (ns : List Int) (ro : Nat) (df : List Nat), Wv ob v o vw w → w.length + cdp c ≤ 1000000 → Ui lo nb ob n o v ns → lo ≤ o.length → ro ≤ ob → ns.length + cfr c ≤ 4294967296 →
    ∃ o' v', (D T).call 1000032 [c.av, vw, .fn (.func 50) [] [.ptr nb 0 0, .ptr ob 0 0]] ⟨o, ro, df⟩ = some (.tup [.fsl 1 [], .int .i64 0], ⟨o', ro, df⟩) ∧ Ui lo nb ob n o' v' (ns ++ usC n c) ∧ Uk ob o v o' v'
  | .mk kd fr0 by0 dv kk ms cs, hok, vw, w, o, v, ns, ro, df, hv, hd, S, hlo, hro, hn => by
    have hE : usC n (.mk kd fr0 by0 dv kk ms cs) = fr0.filter (isF n) ++ usCL n cs := rfl
    have hE2 : cfr (.mk kd fr0 by0 dv kk ms cs) = fr0.length + cfrL cs := rfl
    rw [hE]
    rw [hE2] at hn
    obtain ⟨X, hX⟩ : ∃ X, X = Obj.arr 29 7 [(Cu.mk kd fr0 by0 dv kk ms cs).cells] := ⟨_, rfl⟩
    have hcan := hv.wy.can
    obtain ⟨o1, v1, k1, S1, K1⟩ := uses1_eq (.mk kd fr0 by0 dv kk ms cs) hok vw hcan (o ++ [X]) v ns ro [] (S.push _) (by simp; omega) hro (by simp only; omega)
    have h1 := S.hp
    have h2 := S.hl
    have kX : o1[o.length]? = some X := by rw [(K1.keep o.length (by simp) (by omega) (fun n f => S.G.lt (Nat.le_refl _) n f)).1]; simp
    have K1' : Uk ob o v o1 v1 := (Uk.refl.push [X]).trans K1
    have kW : Wv ob v1 o1 vw w := (hv.push _).keep K1
    have kl := K1'.le
    simp only at S1
    simp only [Cu.ok] at hok
    obtain ⟨_, _, _, _, _, _, o4, o5⟩ := hok
    have hl := okCu_iff.1 o5
    unfold mxB at o4
    have mx : cs.length ≤ 9223372036854775807 := by omega
    simp only [cdp] at hd
    have h0 := cdpL_pos cs
    have hwl : w.length ≤ 1000000 := by omega
    have hdl : ∀ x ∈ cs, cdp x ≤ cdpL cs := fun x hx => cdp_mem hx
    have hfl : (fr0.filter (isF n)).length ≤ fr0.length := List.length_filter_le _ _
    have ih := fun x (hx : x ∈ cs) vw w o v ns ro df hv hd S h1 h2 h3 => uwalk_eq (lo := lo) (nb := nb) (ob := ob) (n := n) x (hl x hx) vw w o v ns ro df hv hd S h1 h2 h3
    have hlen := hv.wy.len
    suffices hh : ∃ u st', (D T).call 1000032 [(Cu.mk kd fr0 by0 dv kk ms cs).av, vw, .fn (.func 50) [] [.ptr nb 0 0, .ptr ob 0 0]] ⟨o, ro, df⟩ = some (u, st') ∧ (fun u st' => ∃ o' v', u = .tup [.fsl 1 [], .int .i64 0] ∧ st' = ⟨o', ro, df⟩ ∧ Ui lo nb ob n o' v' (ns ++ (fr0.filter (isF n) ++ usCL n cs)) ∧ Uk ob o v o' v') u st' by
      obtain ⟨_, _, g1, o', v', rfl, rfl, g2, g3⟩ := hh
      exact ⟨o', v', g1, g2, g3⟩
    simp only [Cu.av, Cu.cells_mk] at k1 hX
    simp only [Cu.av] at ih
    have lro : ro ≤ o.length := by omega
    apply call_for (by exact rfl : T 1000032 = some _) (by simp)
    intro fr hfr hsl
    have s0 := hsl 0 _ rfl
    have s1 := hsl 1 _ rfl
    have s2 := hsl 2 _ rfl
    simp only [Cu.av, Cu.cells_mk] at s0
    subst hX
    simp -implicitDefEqProofs [hfr, s0, s1, s2, hcan, k1, lro, kX, getO_last, -getElem?_pos, List.getElem?_cons_zero]
    apply loop_inv L1000032_0.eq_1 List.length (fun (rest : List Cu) fr st => ∃ pre o2 v2 n2, cs = pre ++ rest ∧ fr.length = 49 ∧ slot fr 1 = vw ∧ slot fr 2 = .fn (.func 50) [] [.ptr nb 0 0, .ptr ob 0 0] ∧ slot fr 22 = .sl 7 (cs.map Cu.cells) ∧ slot fr 23 = .int .i64 (cs.length : Int) ∧ slot fr 24 = .int .i64 (pre.length : Int) ∧
      st = ⟨o2, ro, []⟩ ∧ Ui lo nb ob n o2 v2 n2 ∧ n2 ++ usCL n rest = ns ++ (fr0.filter (isF n) ++ usCL n cs) ∧ n2.length + cfrL rest ≤ 4294967296 ∧ Uk ob o v o2 v2 ∧ Wv ob v2 o2 vw w) ?_ cs
      ⟨[], o1, v1, _, rfl, by simp [hfr], by simp [hfr, s1], by simp [hfr, s2], by simp [hfr], by simp [hfr], by simp [hfr], rfl, S1, by simp, by simp; omega, K1', kW⟩
    clear k1 hfr s0 s1 s2 hsl kW kX K1 K1' S1 kl
    clear fr
    rintro rest fr _ ⟨pre, o2, v2, n2, e, hfr, q1, q2, q22, q23, q24, rfl, S2, hn2, hnl, K2, hv2⟩
    cases rest with
    | nil =>
      have hlt := idx_end e
      simp only [usCL, List.append_nil] at hn2
      simp -implicitDefEqProofs [hfr, q1, q2, q22, q23, q24, hlt]
      exact ⟨v2, by rw [← hn2]; exact S2, K2⟩
    | cons x rest =>
      obtain ⟨hlt, hg, hpl⟩ := idx_at e
      have hw := idx_next e mx
      have hx : x ∈ cs := by simp [e]
      have y1 := cu_take x
      have y2 := cu_can x
      have y3 := culen x
      have y4 := cu_one x
      obtain ⟨Y, hY⟩ : ∃ Y, Y = Obj.arr 29 7 [x.cells] := ⟨_, rfl⟩
      obtain ⟨sv, a1, a2⟩ := hv2.wy.more2 hwl Y (pre.length : Int) ro
      have le2 := K2.le
      simp only [cfrL] at hnl
      obtain ⟨o3, v3, e3, S3, K3⟩ := ih x hx (.own (o2.length + 1) 0 (w.length + 1) false) (w ++ [(pre.length : Int)]) (o2 ++ [Y, .arr 3 1 (intA (w ++ [(pre.length : Int)]))]) v2 n2 ro []
        (.inr ⟨o2.length + 1, by simp, by simp, by omega, fun n f => S2.G.lt (by omega) n f⟩) (by have := hdl x hx; simp; omega) (S2.push _) (by simp; omega) hro (by omega)
      have gY : o3[o2.length]? = some Y := by rw [(K3.keep o2.length (by simp) (by omega) (fun n f => S2.G.lt (by omega) n f)).1]; simp
      have gY2 : (o2 ++ [Y, .arr 3 1 (intA (w ++ [(pre.length : Int)]))])[o2.length]? = some Y := by simp
      have K3' : Uk ob o v o3 v3 := (K2.push _).trans K3
      have hW3 : Wv ob v3 o3 vw w := (hv2.push _).keep K3
      have m3 : ro ≤ o2.length := by omega
      have hlen2 := hv2.wy.len
      have hul : (usC n x).length ≤ cfr x := usC_len n x
      subst hY
      simp -implicitDefEqProofs [hfr, q1, q2, q22, q23, q24, hlt, hg, hpl, hw, y1, y2, y3, y4, cset, m3, hcan, hlen2, a1, a2, e3, gY, gY2, setO_last, getO_last, List.getElem?_append_left, -List.getElem_map, -getElem?_pos, List.getElem?_cons_zero]
      exact ⟨rest, by simp, pre ++ [x], by simp [e], by simp, v3, n2 ++ usC n x, S3, by rw [← hn2]; simp [usCL], by simp only [List.length_append]; omega, K3', hW3⟩
termination_by t => SizeOf.sizeOf t
decreasing_by
  have := List.sizeOf_lt_of_mem hx
  simp
  omega

end Go.Proofs.Ytgabnhmjlhhojaa.A
