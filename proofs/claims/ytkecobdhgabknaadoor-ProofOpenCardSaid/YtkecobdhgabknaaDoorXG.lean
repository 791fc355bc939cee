/- The program's walk through a proof, with whatever is done at each part, so long as the walk goes on. -/
import Derived.Test.YtkecobdhgabknaaDoorXY0
namespace Go.Proofs.YtkecobdhgabknaaDoor.A
open Go
set_option maxRecDepth 10000
set_option linter.unusedSimpArgs false
set_option linter.unusedVariables false
attribute [-simp] List.all_eq_true put slot_def ld idxA lenOf elems canA app hand slc

/-- the way, made full, and one more put behind it -/
theorem Wy.more2 {o : List Obj} {v : AV} {w : List Int} (h : Wy o v w) (hw : w.length ≤ 1000000) (X : Obj) (i : Int) (ro : Nat) : ∃ sv, slc ⟨o ++ [X], ro, []⟩ 1 v none (some (.int .i64 (w.length : Int))) (some (.int .i64 (w.length : Int))) = some sv ∧
    app ⟨o ++ [X], ro, []⟩ 3 1 8 sv (.fsl 1 [[.int .i64 i]]) = some (.own (o.length + 1) 0 (w.length + 1) false, ⟨o ++ [X, .arr 3 1 (intA (w ++ [i]))], ro, []⟩) := by
  have hl := intA_len w
  have e1 : intA (w ++ [i]) = intA w ++ [[.int .i64 i]] := intA_app w [i]
  rw [e1]
  rcases h with ⟨rfl, rfl⟩ | ⟨q, rfl, h⟩
  · exact ⟨.fsl 1 [], by simp [slc, slcL], by simp [app, elems, room, intA]⟩
  · have h' : (o ++ [X])[q]? = some (.arr 3 1 (intA w)) := getO_push h _
    generalize intA w = I at *
    refine ⟨.own q 0 w.length true, by simp [slc, St.arr?, h'], ?_⟩
    have hr : room (w.length + 1) 8 = true := by simp [room]; omega
    simp [app, elems, St.arr?, h', hr, ← hl]
    rw [hl]; exact hr
theorem Wy.push {o : List Obj} {v : AV} {w : List Int} (h : Wy o v w) (m : List Obj) : Wy (o ++ m) v w := by
  rcases h with ⟨rfl, rfl⟩ | ⟨q, rfl, hq⟩
  · exact .inl ⟨rfl, rfl⟩
  · exact .inr ⟨q, rfl, getO_push hq _⟩

/-- the same, and not at one place -/
def Wz (bb : Nat) (o : List Obj) (v : AV) (w : List Int) : Prop := (v = .fsl 1 [] ∧ w = []) ∨ ∃ q, v = .own q 0 w.length false ∧ o[q]? = some (.arr 3 1 (intA w)) ∧ q ≠ bb
theorem Wz.wy {bb : Nat} {o : List Obj} {v : AV} {w : List Int} (h : Wz bb o v w) : Wy o v w := by
  rcases h with ⟨rfl, rfl⟩ | ⟨q, rfl, hq, _⟩
  · exact .inl ⟨rfl, rfl⟩
  · exact .inr ⟨q, rfl, hq⟩
theorem Wz.push {bb : Nat} {o : List Obj} {v : AV} {w : List Int} (h : Wz bb o v w) (m : List Obj) : Wz bb (o ++ m) v w := by
  rcases h with ⟨rfl, rfl⟩ | ⟨q, rfl, hq, hb⟩
  · exact .inl ⟨rfl, rfl⟩
  · exact .inr ⟨q, rfl, getO_push hq _, hb⟩
theorem Wz.keep {bb : Nat} {o o' : List Obj} {v : AV} {w : List Int} {out : Obj → Prop} (h : Wz bb o v w) (hI : ∀ es, ¬ out (.arr 3 1 es)) (K : ∀ (i : Nat) y, i ≠ bb → o[i]? = some y → ¬ out y → o'[i]? = some y) : Wz bb o' v w := by
  rcases h with ⟨rfl, rfl⟩ | ⟨q, rfl, hq, hb⟩
  · exact .inl ⟨rfl, rfl⟩
  · exact .inr ⟨q, rfl, K q _ hb hq (hI _), hb⟩

section
variable {γ : Type} (step : Pf → List Int → γ → γ)
mutual
/-- what is done at each part, in order -/
def wg : Pf → List Int → γ → γ
  | .mk r h nw v b t c les chs cu ps, w, z => wgL ps 0 w (step (.mk r h nw v b t c les chs cu ps) w z)
def wgL : List Pf → Int → List Int → γ → γ
  | [], _, _, z => z
  | c :: l, i, w, z => wgL l (i + 1) w (wg c (w ++ [i]) z)
end
end

/-- what one step at a part leaves -/
structure StepG {γ : Type} (g : Nat) (caps : List AV) (ro bb : Nat) (B : List Obj → γ → Prop) (lim : γ → Int → Prop) (step : Pf → List Int → γ → γ) (out : Obj → Prop) : Prop where
  bP : ∀ cs, ¬ out (.arr 42 24 [cs])
  bI : ∀ es, ¬ out (.arr 3 1 es)
  lo : ∀ o z, B o z → ro ≤ o.length ∧ bb < o.length
  more : ∀ o m z, B o z → B (o ++ m) z
  go : ∀ x : Pf, x.ok → ∀ (v : AV) (w : List Int) (o : List Obj) (z : γ) (k : Int), Wz bb o v w → w.length ≤ 1000000 → B o z → 1 ≤ k → lim z k →
    ∃ o', (D T).call g (x.av :: v :: caps) ⟨o, ro, []⟩ = some (.bool true, ⟨o', ro, []⟩) ∧ B o' (step x w z) ∧ lim (step x w z) (k - 1) ∧ o.length ≤ o'.length ∧ ∀ (i : Nat) y, i ≠ bb → o[i]? = some y → ¬ out y → o'[i]? = some y

theorem walkG {γ : Type} {g : Nat} {caps : List AV} {ro bb : Nat} {B : List Obj → γ → Prop} {lim : γ → Int → Prop} {step : Pf → List Int → γ → γ} {out : Obj → Prop} (H : StepG g caps ro bb B lim step out) :
    ∀ (p : Pf), p.ok → ∀ (vw : AV) (w : List Int) (o : List Obj) (z : γ) (k : Int) (df : List Nat), Wz bb o vw w → w.length + dP p ≤ 1000000 → B o z → psz p ≤ k → lim z k →
    ∃ o', (D T).call 1000030 [p.av, vw, .fn (.func g) [] caps] ⟨o, ro, df⟩ = some (.bool true, ⟨o', ro, df⟩) ∧ B o' (wg step p w z) ∧ lim (wg step p w z) (k - psz p) ∧ o.length ≤ o'.length ∧ ∀ (i : Nat) y, i ≠ bb → o[i]? = some y → ¬ out y → o'[i]? = some y
  | .mk r h nw v b t c les chs cu ps, hok, vw, w, o, z, k, df, hv, hd, hB, hk, hL => by
    have hpos := dP_pos (.mk r h nw v b t c les chs cu ps)
    have hpz := psz_pos (.mk r h nw v b t c les chs cu ps)
    have hE : wg step (.mk r h nw v b t c les chs cu ps) w z = wgL step ps 0 w (step (.mk r h nw v b t c les chs cu ps) w z) := rfl
    have hE2 : psz (.mk r h nw v b t c les chs cu ps) = 1 + pszL ps := rfl
    generalize wg step (.mk r h nw v b t c les chs cu ps) w z = R at hE ⊢
    generalize psz (.mk r h nw v b t c les chs cu ps) = S at *
    obtain ⟨X, hX⟩ : ∃ X, X = Obj.arr 42 24 [(Pf.mk r h nw v b t c les chs cu ps).cells] := ⟨_, rfl⟩
    obtain ⟨o1, k1, k2, kL, k4, k5⟩ := H.go (.mk r h nw v b t c les chs cu ps) hok vw w (o ++ [X]) z k (hv.push _) (by omega) (H.more _ _ _ hB) (by omega) hL
    obtain ⟨l3, l4⟩ := H.lo _ _ hB
    have kX : o1[o.length]? = some X := k5 o.length X (by omega) (by simp) (by rw [hX]; exact H.bP _)
    simp only [Pf.ok] at hok
    obtain ⟨_, _, _, _, _, _, _, _, _, kps, ops⟩ := hok
    have hl := okPf_iff.1 ops
    unfold mxB at kps
    have mx : ps.length ≤ 9223372036854775807 := by omega
    simp only [dP] at hd
    have ih := fun x (hx : x ∈ ps) => walkG H x (hl x hx)
    generalize step (.mk r h nw v b t c les chs cu ps) w z = Z1 at *
    clear ops hl hpos
    obtain ⟨t0, t1, t2, t3⟩ := t
    obtain ⟨c0, c1, c2, c3, c4⟩ := c
    obtain ⟨kd, fr0, by0, dv, kk, ms, cs⟩ := cu
    have hcan := hv.wy.can
    have hlen := hv.wy.len
    have hwl : w.length ≤ 1000000 := by have := dPL_pos ps; omega
    simp only [Pf.av, Pf.cells_all] at k1 hX
    simp only [Pf.av] at ih
    suffices hh : ∃ v' st', (D T).call 1000030 [(Pf.mk r h nw v b (.mk t0 t1 t2 t3) (.mk c0 c1 c2 c3 c4) les chs (.mk kd fr0 by0 dv kk ms cs) ps).av, vw, .fn (.func g) [] caps] ⟨o, ro, df⟩ = some (v', st') ∧ (fun v' st' => ∃ o', v' = .bool true ∧ st' = ⟨o', ro, df⟩ ∧
        B o' R ∧ lim R (k - S) ∧ o.length ≤ o'.length ∧ ∀ (i : Nat) y, i ≠ bb → o[i]? = some y → ¬ out y → o'[i]? = some y) v' st' by
      obtain ⟨_, _, g1, o', rfl, rfl, g2⟩ := hh
      exact ⟨o', g1, g2⟩
    apply call_for (by exact rfl : T 1000030 = some _) (by simp)
    intro fr hfr hsl
    have s0 := hsl 0 _ rfl
    have s1 := hsl 1 _ rfl
    have s2 := hsl 2 _ rfl
    simp only [Pf.av, Pf.cells_all] at s0
    have kk5 : ∀ (i : Nat) y, i ≠ bb → o[i]? = some y → ¬ out y → o1[i]? = some y := fun i y i1 hy ho => k5 i y i1 (getO_push hy _) ho
    have kl : o.length ≤ o1.length := by simp at k4; omega
    have kW : Wz bb o1 vw w := hv.keep H.bI kk5
    subst hX
    simp -implicitDefEqProofs [hfr, s0, s1, s2, hcan, k1, l3, kX, getO_last, -getElem?_pos, List.getElem?_cons_zero]
    apply loop_inv L1000030_0.eq_1 List.length (fun (rest : List Pf) fr st => ∃ pre o2 z2, ps = pre ++ rest ∧ fr.length = 36 ∧ slot fr 1 = vw ∧ slot fr 2 = .fn (.func g) [] caps ∧ slot fr 15 = .sl 24 (ps.map Pf.cells) ∧ slot fr 16 = .int .i64 (ps.length : Int) ∧ slot fr 17 = .int .i64 (pre.length : Int) ∧
      st = ⟨o2, ro, []⟩ ∧ B o2 z2 ∧ lim z2 (k - S + pszL rest) ∧ o.length ≤ o2.length ∧ (∀ (i : Nat) y, i ≠ bb → o[i]? = some y → ¬ out y → o2[i]? = some y) ∧ Wz bb o2 vw w ∧ R = wgL step rest (pre.length : Int) w z2) ?_ ps
      ⟨[], o1, Z1, rfl, by simp [hfr], by simp [hfr, s1], by simp [hfr, s2], by simp [hfr], by simp [hfr], by simp [hfr], rfl, k2, by rw [show k - S + pszL ps = k - 1 by omega]; exact kL, kl, kk5, kW, hE⟩
    clear hE k1 k2 kL k4 k5 kX hfr s0 s1 s2 hsl kk5 kl kW
    clear fr
    rintro rest fr _ ⟨pre, o2, z2, e, hfr, q1, q2, q15, q16, q17, rfl, g1, gL, hlo, K, hv2, hn⟩
    cases rest with
    | nil =>
      have hlt := idx_end e
      simp only [wgL] at hn
      simp only [pszL, Int.add_zero] at gL
      simp -implicitDefEqProofs [hfr, q1, q2, q15, q16, q17, hlt, hn]
      exact ⟨g1, gL, hlo, K⟩
    | cons x rest =>
      obtain ⟨hlt, hg, hpl⟩ := idx_at e
      have hw := idx_next e mx
      have hx : x ∈ ps := by simp [e]
      have y1 := p_take x
      have y2 := p_can x
      have y3 := plen x
      have y4 := p_one x
      have y5 := pset
      obtain ⟨Y, hY⟩ : ∃ Y, Y = Obj.arr 42 24 [x.cells] := ⟨_, rfl⟩
      obtain ⟨sv, a1, a2⟩ := hv2.wy.more2 hwl Y (pre.length : Int) ro
      obtain ⟨m3, m4⟩ := H.lo _ _ g1
      have hp0 := pszL_pos rest
      simp only [pszL] at gL
      have hSk : 0 ≤ k - S := by omega
      obtain ⟨o3, e3, r1, r2, r3, r4⟩ := ih x hx (.own (o2.length + 1) 0 (w.length + 1) false) (w ++ [(pre.length : Int)]) (o2 ++ [Y, .arr 3 1 (intA (w ++ [(pre.length : Int)]))]) z2 (k - S + (psz x + pszL rest)) [] (.inr ⟨o2.length + 1, by simp, by simp, by omega⟩)
        (by have := dPL_mem hx; simp; omega) (H.more _ _ _ g1) (by omega) gL
      have gY : o3[o2.length]? = some Y := r4 o2.length Y (by omega) (by simp) (by rw [hY]; exact H.bP _)
      simp only [wgL] at hn
      generalize wg step x (w ++ [(pre.length : Int)]) z2 = z3 at *
      have gY2 : (o2 ++ [Y, .arr 3 1 (intA (w ++ [(pre.length : Int)]))])[o2.length]? = some Y := by simp
      subst hY
      have hlen2 := hv2.wy.len
      have g3 : o2.length ≤ o3.length := by simp at r3; omega
      have K3 : ∀ (i : Nat) y, i ≠ bb → o[i]? = some y → ¬ out y → o3[i]? = some y := fun i y i1 hy ho => r4 i y i1 (getO_push (K i y i1 hy ho) _) ho
      have hW3 : Wz bb o3 vw w := (hv2.push _).keep H.bI r4
      rw [show k - S + (psz x + pszL rest) - psz x = k - S + pszL rest by omega] at r2
      simp -implicitDefEqProofs [hfr, q1, q2, q15, q16, q17, hlt, hg, hpl, hw, y1, y2, y3, y4, y5, m3, hcan, hlen2, a1, a2, e3, gY, gY2, setO_last, getO_last, List.getElem?_append_left, -List.getElem_map, -getElem?_pos, List.getElem?_cons_zero]
      exact ⟨rest, by simp, pre ++ [x], by simp [e], by simp, z3, r1, r2, by omega, K3, hW3, by simpa using hn⟩
termination_by t => SizeOf.sizeOf t
decreasing_by
  have := List.sizeOf_lt_of_mem hx
  simp
  omega

end Go.Proofs.YtkecobdhgabknaaDoor.A
