/- The program's walk through a proof, and what it gives. -/
import Derived.Test.YtcfhomdkchhigaaDoorXW
namespace Go.Proofs.YtcfhomdkchhigaaDoor.A
open Go
set_option maxRecDepth 10000
set_option linter.unusedSimpArgs false
set_option linter.unusedVariables false
attribute [-simp] List.all_eq_true put slot_def ld idxA lenOf elems canA app hand slc

theorem Wy.len {o : List Obj} {v : AV} {w : List Int} (h : Wy o v w) : lenOf v = some w.length := by
  rcases h with ⟨rfl, rfl⟩ | ⟨q, rfl, h⟩ <;> rfl
theorem Wy.keep {o o' : List Obj} {v : AV} {w : List Int} {eb bb : Nat} (h : Wy o v w) {n : Int} {z : List (List AV)} (he : o[eb]? = some (.arr 45 1 [[.int .i64 n]])) (hb : o[bb]? = some (.arr 30 1 z)) (K : ∀ (i : Nat) y, i ≠ eb → i ≠ bb → o[i]? = some y → o'[i]? = some y) : Wy o' v w := by
  rcases h with ⟨rfl, rfl⟩ | ⟨q, rfl, h⟩
  · exact .inl ⟨rfl, rfl⟩
  · refine .inr ⟨q, rfl, K q _ ?_ ?_ h⟩
    · rintro rfl; rw [he] at h; cases h
    · rintro rfl; rw [hb] at h; cases h
/-- the way, made full, and one more put behind it -/
theorem Wy.more {o : List Obj} {v : AV} {w : List Int} (h : Wy o v w) (hw : w.length ≤ 1000) (X : Obj) (i : Int) (ro : Nat) : ∃ sv, slc ⟨o ++ [X], ro, []⟩ 1 v none (some (.int .i64 (w.length : Int))) (some (.int .i64 (w.length : Int))) = some sv ∧
    app ⟨o ++ [X], ro, []⟩ 3 1 8 sv (.fsl 1 [[.int .i64 i]]) = some (.own (o.length + 1) 0 (w.length + 1) false, ⟨o ++ [X, .arr 3 1 (intA (w ++ [i]))], ro, []⟩) := by
  have hl := intA_len w
  have e1 : intA (w ++ [i]) = intA w ++ [[.int .i64 i]] := intA_app w [i]
  rw [e1]
  rcases h with ⟨rfl, rfl⟩ | ⟨q, rfl, h⟩
  · exact ⟨.fsl 1 [], by simp [slc, slcL], by simp [app, elems, room, intA]⟩
  · have h' : (o ++ [X])[q]? = some (.arr 3 1 (intA w)) := getO_push h _
    generalize intA w = I at *
    refine ⟨.own q 0 w.length true, by simp [slc, St.arr?, h'], ?_⟩
    have hr : room (w.length + 1) 8 = true := by simp [room]; omega
    simp [app, elems, St.arr?, h', hr, ← hl]
    rw [hl]; exact hr

def rtF (p q : Nat) : AV := .fn (.func 31) [] [.ptr p 0 0, .ptr q 0 0]

theorem walk_eq : ∀ (p : Pf), p.ok → ∀ (vw : AV) (w : List Int) (o : List Obj) (eb bb ro : Nat) (df : List Nat), Wy o vw w → w.length + dP p ≤ 1000 → o[eb]? = some (.arr 45 1 [[.int .i64 0]]) → o[bb]? = some (.arr 30 1 [[.fsl 1 []]]) → eb ≠ bb → ro ≤ eb → ro ≤ bb →
    ∃ o', (D T).call 1000030 [p.av, vw, rtF eb bb] ⟨o, ro, df⟩ = some (.bool (decide ((wk p w).2 = 0)), ⟨o', ro, df⟩) ∧ o'[eb]? = some (.arr 45 1 [[.int .i64 (wk p w).2]]) ∧ o'[bb]? = some (.arr 30 1 [[if (wk p w).2 = 0 then .fsl 1 [] else .sl 1 (intA (wk p w).1)]]) ∧
      o.length ≤ o'.length ∧ ∀ (i : Nat) y, i ≠ eb → i ≠ bb → o[i]? = some y → o'[i]? = some y
  | .mk r h nw v b t c les chs cu ps, hok, vw, w, o, eb, bb, ro, df, hv, hd, he, hb, hne, h1, h2 => by
    have hpos := dP_pos (.mk r h nw v b t c les chs cu ps)
    have hE : wk (.mk r h nw v b t c les chs cu ps) w = if er (.mk r h nw v b t c les chs cu ps) ≠ 0 then (w, er (.mk r h nw v b t c les chs cu ps)) else wkL ps 0 w := rfl
    generalize wk (.mk r h nw v b t c les chs cu ps) w = R at hE ⊢
    obtain ⟨X, hX⟩ : ∃ X, X = Obj.arr 42 24 [(Pf.mk r h nw v b t c les chs cu ps).cells] := ⟨_, rfl⟩
    have hvx : Wy (o ++ [X]) vw w := by
      rcases hv with ⟨rfl, rfl⟩ | ⟨q, rfl, hq⟩
      · exact .inl ⟨rfl, rfl⟩
      · exact .inr ⟨q, rfl, getO_push hq _⟩
    obtain ⟨o1, k1, k2, k3, k4, k5⟩ := right1_eq (.mk r h nw v b t c les chs cu ps) hok (o := o ++ [X]) hvx (by omega) (getO_push he _) (getO_push hb _) hne h1 h2 []
    have kX : o1[o.length]? = some X := k5 o.length X (by have := lt_of_getO he; omega) (by have := lt_of_getO hb; omega) (by simp)
    have hdx := hd
    simp only [Pf.ok] at hok
    obtain ⟨_, _, _, _, _, _, _, _, _, kps, ops⟩ := hok
    have hl := okPf_iff.1 ops
    unfold mxB at kps
    have mx : ps.length ≤ 9223372036854775807 := by omega
    simp only [dP] at hd
    have ih := fun x (hx : x ∈ ps) => walk_eq x (hl x hx)
    generalize er (.mk r h nw v b t c les chs cu ps) = E at *
    clear ops hl hpos
    obtain ⟨t0, t1, t2, t3⟩ := t
    obtain ⟨c0, c1, c2, c3, c4⟩ := c
    obtain ⟨kd, fr0, by0, dv, kk, ms, cs⟩ := cu
    have hcan := hv.can
    have hlen := hv.len
    have l1 := lt_of_getO he
    have l2 := lt_of_getO hb
    have l3 : ro ≤ o.length := by omega
    have hwl : w.length ≤ 1000 := by have := dPL_pos ps; omega
    simp only [Pf.av, Pf.cells_all] at k1 hX
    simp only [Pf.av, rtF] at ih
    suffices hh : ∃ v' st', (D T).call 1000030 [(Pf.mk r h nw v b (.mk t0 t1 t2 t3) (.mk c0 c1 c2 c3 c4) les chs (.mk kd fr0 by0 dv kk ms cs) ps).av, vw, rtF eb bb] ⟨o, ro, df⟩ = some (v', st') ∧ (fun v' st' => ∃ o', v' = .bool (decide (R.2 = 0)) ∧ st' = ⟨o', ro, df⟩ ∧
        o'[eb]? = some (.arr 45 1 [[.int .i64 R.2]]) ∧ o'[bb]? = some (.arr 30 1 [[if R.2 = 0 then .fsl 1 [] else .sl 1 (intA R.1)]]) ∧ o.length ≤ o'.length ∧ ∀ (i : Nat) y, i ≠ eb → i ≠ bb → o[i]? = some y → o'[i]? = some y) v' st' by
      obtain ⟨_, _, g1, o', rfl, rfl, g2⟩ := hh
      exact ⟨o', g1, g2⟩
    apply call_for (by exact rfl : T 1000030 = some _) (by simp [rtF])
    intro fr hfr hsl
    have s0 := hsl 0 _ rfl
    have s1 := hsl 1 _ rfl
    have s2 := hsl 2 _ rfl
    simp only [Pf.av, Pf.cells_all] at s0
    simp only [rtF] at s2
    have kk5 : ∀ (i : Nat) y, i ≠ eb → i ≠ bb → o[i]? = some y → o1[i]? = some y := fun i y i1 i2 hy => k5 i y i1 i2 (getO_push hy _)
    have kl : o.length ≤ o1.length := by simp at k4; omega
    by_cases hz : E = 0
    rotate_left
    · rw [if_pos hz] at hE
      have hd : decide (E = 0) = false := by simpa using hz
      rw [hd] at k1
      subst hE
      subst hX
      simp -implicitDefEqProofs [hfr, s0, s1, s2, hcan, k1, l1, l2, l3, getO_last, -getElem?_pos, List.getElem?_cons_zero]
      refine ⟨hz, k2, ?_, kl, kk5⟩
      rw [k3, if_neg hz]
    · rw [if_neg (by simpa using hz)] at hE
      have hd2 : decide (E = 0) = true := by simpa using hz
      rw [hd2] at k1
      rw [hz] at k2
      rw [if_pos hz] at k3
      have hv1 : Wy o1 vw w := hv.keep he hb kk5
      subst hX
      simp -implicitDefEqProofs [hfr, s0, s1, s2, hcan, k1, l1, l2, l3, kX, getO_last, -getElem?_pos, List.getElem?_cons_zero]
      apply loop_inv L1000030_0.eq_1 List.length (fun (rest : List Pf) fr st => ∃ pre o2, ps = pre ++ rest ∧ fr.length = 36 ∧ slot fr 1 = vw ∧ slot fr 2 = .fn (.func 31) [] [.ptr eb 0 0, .ptr bb 0 0] ∧ slot fr 15 = .sl 24 (ps.map Pf.cells) ∧ slot fr 16 = .int .i64 (ps.length : Int) ∧ slot fr 17 = .int .i64 (pre.length : Int) ∧
        st = ⟨o2, ro, []⟩ ∧ o2[eb]? = some (.arr 45 1 [[.int .i64 0]]) ∧ o2[bb]? = some (.arr 30 1 [[.fsl 1 []]]) ∧ o.length ≤ o2.length ∧ (∀ (i : Nat) y, i ≠ eb → i ≠ bb → o[i]? = some y → o2[i]? = some y) ∧ Wy o2 vw w ∧ R = wkL rest (pre.length : Int) w) ?_ ps
        ⟨[], o1, rfl, by simp [hfr], by simp [hfr, s1], by simp [hfr, s2], by simp [hfr], by simp [hfr], by simp [hfr], rfl, k2, k3, kl, kk5, hv1, hE⟩
      clear hE k1 k2 k3 k4 k5 kX hfr s0 s1 s2 hsl hv1 kk5 kl
      clear fr
      rintro rest fr _ ⟨pre, o2, e, hfr, q1, q2, q15, q16, q17, rfl, g1, g2, hlo, K, hv2, hn⟩
      cases rest with
      | nil =>
        have hlt := idx_end e
        simp only [wkL] at hn
        simp -implicitDefEqProofs [hfr, q1, q2, q15, q16, q17, hlt, hn]
        exact ⟨g1, g2, hlo, K⟩
      | cons x rest =>
        obtain ⟨hlt, hg, hpl⟩ := idx_at e
        have hw := idx_next e mx
        have hx : x ∈ ps := by simp [e]
        have y1 := p_take x
        have y2 := p_can x
        have y3 := plen x
        have y4 := p_one x
        have y5 := pset
        obtain ⟨Y, hY⟩ : ∃ Y, Y = Obj.arr 42 24 [x.cells] := ⟨_, rfl⟩
        obtain ⟨sv, a1, a2⟩ := hv2.more hwl Y (pre.length : Int) ro
        have m1 := lt_of_getO g1
        have m2 := lt_of_getO g2
        have m3 : ro ≤ o2.length := by omega
        obtain ⟨o3, e3, r1, r2, r3, r4⟩ := ih x hx (.own (o2.length + 1) 0 (w.length + 1) false) (w ++ [(pre.length : Int)]) (o2 ++ [Y, .arr 3 1 (intA (w ++ [(pre.length : Int)]))]) eb bb ro [] (.inr ⟨o2.length + 1, by simp, by simp⟩)
          (by have := dPL_mem hx; simp; omega) (getO_push g1 _) (getO_push g2 _) hne h1 h2
        have gY : o3[o2.length]? = some Y := r4 o2.length Y (by omega) (by omega) (by simp)
        simp only [wkL] at hn
        generalize wk x (w ++ [(pre.length : Int)]) = W at *
        have gY2 : (o2 ++ [Y, .arr 3 1 (intA (w ++ [(pre.length : Int)]))])[o2.length]? = some Y := by simp
        subst hY
        have hlen2 := hv2.len
        have g3 : o2.length ≤ o3.length := by simp at r3; omega
        have K3 : ∀ (i : Nat) y, i ≠ eb → i ≠ bb → o[i]? = some y → o3[i]? = some y := fun i y i1 i2 hy => r4 i y i1 i2 (getO_push (K i y i1 i2 hy) _)
        by_cases hz2 : W.2 = 0
        · rw [if_neg (by simpa using hz2)] at hn
          have hb3 : decide (W.2 = 0) = true := by simpa using hz2
          rw [hb3] at e3
          rw [hz2] at r1
          rw [if_pos hz2] at r2
          simp -implicitDefEqProofs [hfr, q1, q2, q15, q16, q17, hlt, hg, hpl, hw, y1, y2, y3, y4, y5, m1, m2, m3, hcan, hlen2, a1, a2, e3, gY, gY2, setO_last, getO_last, List.getElem?_append_left, -List.getElem_map, -getElem?_pos, List.getElem?_cons_zero]
          exact ⟨rest, by simp, pre ++ [x], by simp [e], by simp, r1, r2, by omega, K3, hv2.keep g1 g2 (fun i y i1 i2 hy => r4 i y i1 i2 (getO_push hy _)), by simpa using hn⟩
        · rw [if_pos hz2] at hn
          have hb3 : decide (W.2 = 0) = false := by simpa using hz2
          rw [hb3] at e3
          rw [if_neg hz2] at r2
          subst hn
          simp -implicitDefEqProofs [hfr, q1, q2, q15, q16, q17, hlt, hg, hpl, hw, y1, y2, y3, y4, y5, m1, m2, m3, hcan, hlen2, a1, a2, e3, gY, gY2, setO_last, getO_last, List.getElem?_append_left, -List.getElem_map, -getElem?_pos, List.getElem?_cons_zero]
          exact ⟨hz2, r1, by rw [r2]; simp [hz2], by omega, K3⟩
termination_by t => SizeOf.sizeOf t
decreasing_by
  have := List.sizeOf_lt_of_mem hx
  simp
  omega

theorem pRight_eq (p : Pf) (hp : p.ok) (o : List Obj) (ro : Nat) (df : List Nat) : (D T).call 10 [p.av] ⟨o, ro, df⟩ =
    some (if 64 < dP p then .tup [.sl 1 [], .int .i64 6] else if 4096 < psz p then .tup [.sl 1 [], .int .i64 2] else .tup [.sl 1 (intA (wk p []).1), .int .i64 (wk p []).2], ⟨o, ro, df⟩) := by
  have hd := fun o ro df => pDepth_eq p hp o ro df
  have hs := fun o ro df => psize_eq p hp o ro df
  have x1 := p_take p
  have x2 := p_can p
  have x3 := plen p
  have x4 := p_one p
  have hr := fun (h : ¬ 64 < dP p) => walk_eq p hp (.fsl 1 []) [] (o ++ [Obj.arr 42 24 [p.cells], Obj.arr 30 1 [[.fsl 1 []]], Obj.arr 45 1 [[.int .i64 0]]]) (o.length + 2) (o.length + 1) o.length [] (.inl ⟨rfl, rfl⟩) (by simp; omega) (by simp [get_base]) (by simp [get_base]) (by omega) (by omega) (by omega)
  have hw0 := wk_zero p []
  generalize wk p [] = W at *
  simp only [Pf.av, rtF] at hd hs hr
  have b1 : 64 < min (dP p) 65 ↔ 64 < dP p := by omega
  have b2 : 4096 < min (psz p) 4097 ↔ 4096 < psz p := by omega
  apply call_by (by exact rfl : T 10 = some _) (by simp)
  intro fr hfr hsl
  have s0 := hsl 0 _ rfl
  simp only [Pf.av] at s0
  by_cases h1 : 64 < dP p
  · simp -implicitDefEqProofs [hfr, s0, get_base0, hd, hs, b1, b2, h1, x1, x2, x3, x4]
  · obtain ⟨o', e, k1, k2, k3, k4⟩ := hr h1
    by_cases h2 : 4096 < psz p
    · simp -implicitDefEqProofs [hfr, s0, get_base0, hd, hs, b1, b2, h1, h2, x1, x2, x3, x4]
    · have j1 := lt_of_getO k1
      have j2 := lt_of_getO k2
      by_cases hz : W.2 = 0
      · have hb : decide (W.2 = 0) = true := by simpa using hz
        rw [if_pos hz] at k2
        rw [hb] at e
        have hw1 := hw0 hz
        simp -implicitDefEqProofs [hfr, s0, get_base0, get_base, set_base0, set_base, hd, hs, b1, b2, h1, h2, e, k1, k2, hw1, j1, j2, intA_flat, show intA [] = [] from rfl, x1, x2, x3, x4, -getElem?_pos, List.getElem?_cons_zero, List.getElem?_cons_succ]
      · have hb : decide (W.2 = 0) = false := by simpa using hz
        rw [if_neg hz] at k2
        rw [hb] at e
        simp -implicitDefEqProofs [hfr, s0, get_base0, get_base, set_base0, set_base, hd, hs, b1, b2, h1, h2, e, k1, k2, j1, j2, intA_flat, x1, x2, x3, x4, -getElem?_pos, List.getElem?_cons_zero, List.getElem?_cons_succ]

end Go.Proofs.YtcfhomdkchhigaaDoor.A
