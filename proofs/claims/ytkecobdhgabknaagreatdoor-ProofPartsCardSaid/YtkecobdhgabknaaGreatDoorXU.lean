/- The ways to the open parts: the document's function, and that the program's ways are the same. -/
import Derived.Test.YtkecobdhgabknaaGreatDoorGx0
import Derived.Test.YtkecobdhgabknaaGreatDoorXQ
namespace Go.Proofs.YtkecobdhgabknaaGreatDoor.A
open Go
set_option maxRecDepth 10000
set_option linter.unusedSimpArgs false
set_option linter.unusedVariables false
attribute [-simp] List.all_eq_true put slot_def ld idxA lenOf elems canA app hand

mutual
theorem opW_len : ∀ (p : Pf) (w : List Int), ((opW p w).length : Int) ≤ psz p
  | .mk r _ _ _ _ _ _ _ _ _ l, w => by
    have := opWL_len l 0 w
    simp only [opW, psz, List.length_append]
    split <;> simp <;> omega
theorem opWL_len : ∀ (l : List Pf) (i : Int) (w : List Int), ((opWL l i w).length : Int) ≤ pszL l
  | [], _, _ => by simp [opWL, pszL]
  | c :: l, i, w => by
    have h1 := opW_len c (w ++ [i])
    have h2 := opWL_len l (i + 1) w
    simp only [opWL, pszL, List.length_append]
    omega
end
mutual
theorem opW_ways : ∀ (p : Pf) (w : List Int), ∀ u ∈ opW p w, (u.length : Int) ≤ w.length + psz p
  | .mk r _ _ _ _ _ _ _ _ _ l, w, u, hu => by
    have h0 := pszL_pos l
    simp only [psz]
    rw [opW, List.mem_append] at hu
    rcases hu with hu | hu
    · split at hu
      · simp only [List.mem_cons, List.not_mem_nil, or_false] at hu
        subst hu; omega
      · cases hu
    · have := opWL_ways l 0 w u hu
      omega
theorem opWL_ways : ∀ (l : List Pf) (i : Int) (w : List Int), ∀ u ∈ opWL l i w, (u.length : Int) ≤ w.length + 1 + pszL l
  | [], _, _, _, hu => by simp [opWL] at hu
  | c :: l, i, w, u, hu => by
    have h1 := psz_pos c
    have h2 := pszL_pos l
    rw [opWL, List.mem_append] at hu
    simp only [pszL]
    rcases hu with hu | hu
    · have := opW_ways c (w ++ [i]) u hu
      simp only [List.length_append, List.length_cons, List.length_nil, Nat.zero_add] at this
      omega
    · have := opWL_ways l (i + 1) w u hu
      omega
end

theorem ropen_eq {lo : Nat} : ∀ (p : Pf), p.ok → ∀ (vw : AV) (w : List Int), Iv vw w → ∀ (o : List Obj) (V : AV) (vs : List (List Int)) (ro : Nat) (df : List Nat), Gx 30 1 lo o V (litA vs) → ro ≤ lo → lo ≤ o.length → vs.length + psz p ≤ 1000000 → w.length + psz p ≤ 1000000 →
    ∃ v' o', (D T).call 26 [V, p.av, vw] ⟨o, ro, df⟩ = some (v', ⟨o', ro, df⟩) ∧ Gw 30 1 lo o V o' v' (litA (vs ++ opW p w))
  | .mk r h nw v b t c les chs cu ps, hok, vw, w, hv, o, V, vs, ro, df, G, hro, hlo, hn, hd => by
    simp only [Pf.ok] at hok
    obtain ⟨_, _, _, _, _, _, _, _, _, kps, ops⟩ := hok
    have hl := okPf_iff.1 ops
    unfold mxB at kps
    have mx : ps.length ≤ 9223372036854775807 := by omega
    simp only [psz] at hn hd
    have hp0 := pszL_pos ps
    have hsz : ∀ x ∈ ps, psz x ≤ pszL ps := fun x hx => psz_mem hx
    have ih := fun x (hx : x ∈ ps) vw w hv o V vs => ropen_eq (lo := lo) x (hl x hx) vw w hv o V vs ro []
    have hw1 := fun i o ro df => withW_eq hv i (by omega) o ro df
    have hcan := hv.can
    have hE : opW (.mk r h nw v b t c les chs cu ps) w = (if r = 0 then [w] else []) ++ opWL ps 0 w := rfl
    generalize opW (.mk r h nw v b t c les chs cu ps) w = R at hE ⊢
    obtain ⟨t0, t1, t2, t3⟩ := t
    obtain ⟨c0, c1, c2, c3, c4⟩ := c
    obtain ⟨kd, fr0, by0, dv, kk, ms, cs⟩ := cu
    simp only [Pf.av] at ih
    clear ops hl
    suffices hh : ∃ v1 st', (D T).call 26 [V, (Pf.mk r h nw v b (.mk t0 t1 t2 t3) (.mk c0 c1 c2 c3 c4) les chs (.mk kd fr0 by0 dv kk ms cs) ps).av, vw] ⟨o, ro, df⟩ = some (v1, st') ∧ (fun v1 st' => ∃ o', st' = ⟨o', ro, df⟩ ∧ Gw 30 1 lo o V o' v1 (litA (vs ++ R))) v1 st' by
      obtain ⟨v1, _, h1, o', rfl, h2⟩ := hh
      exact ⟨v1, o', h1, h2⟩
    obtain ⟨B, hB⟩ : ∃ B, B = Obj.arr 42 24 [[.int .i64 r, .str h, .str nw, .str v, .bool b, .int .i64 t0, .str t1, .int .i64 t2, .sl 4 (t3.map Tm.cells), .int .i64 c0, .str c1, .str c2, .sl 4 (c3.map Tm.cells), .sl 5 (c4.map Cl.cells), .sl 8 (les.map Lm.cells), .sl 2 (chs.map Ch.cells),
      .int .i64 kd, .sl 1 (intA fr0), .sl 1 (intA by0), .int .i64 dv, .int .i64 kk, .sl 2 (moA ms), .sl 7 (cs.map Cu.cells), .sl 24 (ps.map Pf.cells)]] := ⟨_, rfl⟩
    have lp : ∀ (fr : List AV) (o0 : List Obj) (V0 : AV) (us : List (List Int)) (Q : AE → List AV → St → Prop), fr.length = 33 → slot fr 0 = V0 → slot fr 2 = vw → slot fr 4 = .ptr o.length 0 0 → slot fr 7 = .int .i64 0 →
        Gw 30 1 lo o V o0 V0 (litA (vs ++ us)) → o0[o.length]? = some B → (∀ n f, V0 ≠ .own o.length 0 n f) → o.length < o0.length → us = (if r = 0 then [w] else []) →
        (∀ (fr' : List AV) o' v', fr'.length = 33 → slot fr' 0 = v' → Gw 30 1 lo o V o' v' (litA (vs ++ R)) → Q (.exit 0) fr' ⟨o', ro, []⟩) →
        ∃ e fr' st', (D T).loop false L26_0 fr ⟨o0, ro, []⟩ = some (e, fr', st') ∧ Q e fr' st' := by
      intro fr o0 V0 us Q hfr q0 q2 q4 q7 W hbx hne hlt0 hus k
      have hu1 : us.length ≤ 1 := by rw [hus]; split <;> simp
      apply loop_inv L26_0.eq_1 List.length (fun (rest : List Pf) fr st => ∃ pre o1 V1 us1, ps = pre ++ rest ∧ fr.length = 33 ∧ slot fr 0 = V1 ∧ slot fr 2 = vw ∧ slot fr 4 = .ptr o.length 0 0 ∧ slot fr 7 = .int .i64 (pre.length : Int) ∧ st = ⟨o1, ro, []⟩ ∧
        Gw 30 1 lo o V o1 V1 (litA (vs ++ us1)) ∧ o1[o.length]? = some B ∧ (∀ n f, V1 ≠ .own o.length 0 n f) ∧ o.length < o1.length ∧ R = us1 ++ opWL rest (pre.length : Int) w ∧ vs.length + us1.length + pszL rest ≤ 1000000) ?_ ps
        ⟨[], o0, V0, us, rfl, hfr, q0, q2, q4, q7, rfl, W, hbx, hne, hlt0, by rw [hE, hus]; rfl, by omega⟩
      clear hfr q0 q2 q4 q7 W hbx hne hlt0 hus hu1 hE
      clear fr o0 V0 us
      rintro rest fr _ ⟨pre, o1, V1, us1, e, hfr, q0, q2, q4, q7, rfl, W, hbx, hne, hlt1, hR, hsum⟩
      have L := gr_ls W.G.G
      have hcan1 := L.can
      have hbx' := hbx
      rw [hB] at hbx'
      cases rest with
      | nil =>
        have hlt := idx_end e
        simp only [opWL, List.append_nil] at hR
        simp -implicitDefEqProofs [hfr, q0, q2, q4, q7, hlt, hbx', -getElem?_pos, List.getElem?_cons_zero]
        exact k _ o1 V1 (by simp [hfr]) (by simp [hfr, q0]) (by rw [hR]; exact W)
      | cons x rest =>
        obtain ⟨hlt, hg, hpl⟩ := idx_at e
        have hw := idx_next e mx
        have hx : x ∈ ps := by simp [e]
        have x1 := p_take x
        have x2 := p_can x
        have x3 := plen x
        have hr0 := pszL_pos rest
        have hx0 := psz_pos x
        simp only [pszL] at hsum
        simp only [opWL] at hR
        obtain ⟨V2, o2, hcall, W2⟩ := ih x hx (.sl 1 (intA (w ++ [(pre.length : Int)]))) (w ++ [(pre.length : Int)]) (iv_sl _) o1 V1 (vs ++ us1) W.G hro (by omega) (by simp; omega) (by have := hsz x hx; simp; omega)
        obtain ⟨k1, k2⟩ := W2.keep o.length hlt1 hne
        have hl2 := opW_len x (w ++ [(pre.length : Int)])
        have hw2 := fun o ro df => hw1 (pre.length : Int) o ro df
        simp -implicitDefEqProofs [hfr, q0, q2, q4, q7, hlt, hg, hpl, hw, hw2, hcan, hcan1, hcall, hbx', x1, x2, x3, -List.getElem_map, -getElem?_pos, List.getElem?_cons_zero]
        refine ⟨rest, by simp, pre ++ [x], by simp [e], by simp, us1 ++ opW x (w ++ [(pre.length : Int)]), ?_, by rw [k1, hbx], fun n => ⟨k2 n false, k2 n true⟩, by have := W2.le; omega, by simpa using hR, by simp; omega⟩
        have W3 := W.trans W2
        rw [List.append_assoc] at W3
        exact W3
    apply call_for (by exact rfl : T 26 = some _) (by simp)
    intro fr hfr hsl
    have s0 := hsl 0 _ rfl
    have s1 := hsl 1 _ rfl
    have s2 := hsl 2 _ rfl
    simp only [Pf.av, Pf.cells_all] at s1
    have hcanV := (gr_ls G.G).can
    have hv0 : ∀ n f, V ≠ .own o.length 0 n f := fun n f => G.G.lt (Nat.le_refl _) n f
    have hbx0 : (o ++ [B])[o.length]? = some B := by simp
    by_cases z : r = 0
    · obtain ⟨o2, a1, a2, W2⟩ := gx_appw (bytes := 24) (df := []) (G.push [B]) hro (by simp; omega) (elems_fsl _ 1 [[.sl 1 (intA w)]]) (room_of0 (by simp [litA_len]; omega) (by simp [litA_len]; omega))
      obtain ⟨k1, k2⟩ := W2.keep o.length (by simp) hv0
      have hbx2 : o2[o.length]? = some B := by rw [k1]; exact hbx0
      simp only [litA_len, List.length_append, List.length_cons, List.length_nil, Nat.zero_add] at a1 a2 W2 k2
      have W3 : Gw 30 1 lo o V o2 (.own (o.length + 1) 0 (vs.length + 1) false) (litA (vs ++ [w])) := by
        rw [litA_app]
        exact (G.ref [B]).trans W2
      have l3 : ro ≤ o.length := by omega
      subst z
      rw [hB] at a1
      rcases hv with rfl | ⟨rfl, rfl⟩
      all_goals
        simp -implicitDefEqProofs [hfr, s0, s1, s2, hcan, hcanV, l3, getO_last, a1, show intA [] = [] from rfl, -getElem?_pos, List.getElem?_cons_zero] at a1 ⊢
        try simp -implicitDefEqProofs [a1]
        apply lp _ o2 _ [_] _ (by simp [hfr]) (by simp [hfr]) (by simp [hfr, s2]) (by simp [hfr]) (by simp [hfr]) W3 hbx2 (fun n f => by simp) (by omega) (by rw [if_pos rfl])
        intro fr' o' v' g1 g2 W
        simp -implicitDefEqProofs [g1, g2]
        exact W
    · have z' : (r == 0) = false := by simpa using z
      have l3 : ro ≤ o.length := by omega
      simp -implicitDefEqProofs [hfr, s0, s1, s2, hcan, hcanV, l3, z, z', getO_last, -getElem?_pos, List.getElem?_cons_zero]
      rw [← hB]
      apply lp _ (o ++ [B]) V [] _ (by simp [hfr]) (by simp [hfr, s0]) (by simp [hfr, s2]) (by simp [hfr]) (by simp [hfr]) (by rw [List.append_nil]; exact G.ref [B]) hbx0 hv0 (by simp) (by rw [if_neg z])
      intro fr' o' v' g1 g2 W
      simp -implicitDefEqProofs [g1, g2]
      exact W
termination_by t => SizeOf.sizeOf t
decreasing_by
  have := List.sizeOf_lt_of_mem hx
  simp
  omega

theorem rOpen_eq (p : Pf) (hp : p.ok) (hs : psz p ≤ 100000) (o : List Obj) (ro : Nat) (df : List Nat) : (D T).call 10 [p.av] ⟨o, ro, df⟩ = some (.sl 1 (litA (opW p [])), ⟨o, ro, df⟩) := by
  have x1 := p_take p
  have x2 := p_can p
  have x3 := plen p
  have x4 := p_one p
  obtain ⟨v', o', hc, W⟩ := ropen_eq (lo := o.length) p hp (.fsl 1 []) [] (.inr ⟨rfl, rfl⟩) (o ++ [Obj.arr 42 24 [p.cells]]) (.fsl 1 []) [] o.length [] ⟨.inl rfl, fun _ => rfl⟩ (Nat.le_refl _) (by simp) (by simp; omega) (by simp; omega)
  rw [List.nil_append] at W
  have hh := gr_hand W.G.G (Nat.le_refl _) (litA_flat _)
  simp only [Pf.av] at hc
  apply call_by (by exact rfl : T 10 = some _) (by simp)
  intro fr hfr hsl
  have s0 := hsl 0 _ rfl
  simp only [Pf.av] at s0
  simp -implicitDefEqProofs [hfr, s0, get_base0, hc, hh, x1, x2, x3, x4, -getElem?_pos, List.getElem?_cons_zero, List.getElem?_cons_succ]

end Go.Proofs.YtkecobdhgabknaaGreatDoor.A
