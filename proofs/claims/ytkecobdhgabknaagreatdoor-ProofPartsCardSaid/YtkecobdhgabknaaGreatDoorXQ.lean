/- How many parts have a rule, the part at a way, and the ways to the open parts: the document's functions. -/
import Derived.Test.YtkecobdhgabknaaGreatDoorXA
import Derived.Test.YtkecobdhgabknaaGreatDoorXO
namespace Go.Proofs.YtkecobdhgabknaaGreatDoor.A
open Go
set_option maxRecDepth 10000
set_option linter.unusedSimpArgs false
set_option linter.unusedVariables false
attribute [-simp] List.all_eq_true put slot_def ld idxA lenOf elems canA app hand

mutual
theorem ctR_le (rule : Int) : ∀ p : Pf, 0 ≤ ctR rule p ∧ ctR rule p ≤ psz p
  | .mk r _ _ _ _ _ _ _ _ _ l => by have := ctRL_le rule l; simp only [ctR, psz]; split <;> omega
theorem ctRL_le (rule : Int) : ∀ l : List Pf, 0 ≤ ctRL rule l ∧ ctRL rule l ≤ pszL l
  | [] => by simp [ctRL, pszL]
  | c :: l => by have := ctR_le rule c; have := ctRL_le rule l; simp only [ctRL, pszL]; omega
end

theorem psz_mem : ∀ {ps : List Pf} {x : Pf}, x ∈ ps → psz x ≤ pszL ps
  | a :: l, x, hx => by
    have h1 := pszL_pos l
    have h2 := psz_pos a
    simp only [pszL]
    rcases List.mem_cons.1 hx with rfl | hx
    · omega
    · have := psz_mem hx; omega

theorem rCount_eq (rule : Int) : ∀ (p : Pf), p.ok → psz p ≤ 1000000 → ∀ (o : List Obj) (ro : Nat) (df : List Nat), (D T).call 13 [p.av, .int .i64 rule] ⟨o, ro, df⟩ = some (.int .i64 (ctR rule p), ⟨o, ro, df⟩)
  | .mk r h nw v b t c les chs cu ps, hok, hs, o, ro, df => by
    simp only [Pf.ok] at hok
    obtain ⟨_, _, _, _, _, _, _, _, _, kps, ops⟩ := hok
    have hl := okPf_iff.1 ops
    unfold mxB at kps
    have mx : ps.length ≤ 9223372036854775807 := by omega
    simp only [psz] at hs
    have hsl2 : ∀ x ∈ ps, psz x ≤ pszL ps := fun x hx => psz_mem hx
    have ih := fun x (hx : x ∈ ps) o ro df => rCount_eq rule x (hl x hx) (by have := hsl2 x hx; omega) o ro df
    have hE : ctR rule (.mk r h nw v b t c les chs cu ps) = (if r = rule then 1 else 0) + ctRL rule ps := rfl
    generalize ctR rule (.mk r h nw v b t c les chs cu ps) = R at hE ⊢
    obtain ⟨t0, t1, t2, t3⟩ := t
    obtain ⟨c0, c1, c2, c3, c4⟩ := c
    obtain ⟨kd, fr0, by0, dv, kk, ms, cs⟩ := cu
    simp only [Pf.av] at ih
    have lp : ∀ (fr : List AV) (n : Int) (Q : AE → List AV → St → Prop), fr.length = 28 → slot fr 1 = .int .i64 rule → slot fr 2 = .ptr o.length 0 0 → slot fr 5 = .int .i64 n → slot fr 6 = .int .i64 0 → 0 ≤ n → n ≤ 1 → R = n + ctRL rule ps →
        (∀ (fr' : List AV), fr'.length = 28 → slot fr' 5 = .int .i64 R → Q (.exit 0) fr' ⟨o ++ [Obj.arr 42 24 [[.int .i64 r, .str h, .str nw, .str v, .bool b, .int .i64 t0, .str t1, .int .i64 t2, .sl 4 (t3.map Tm.cells), .int .i64 c0, .str c1, .str c2, .sl 4 (c3.map Tm.cells), .sl 5 (c4.map Cl.cells), .sl 8 (les.map Lm.cells), .sl 2 (chs.map Ch.cells),
      .int .i64 kd, .sl 1 (intA fr0), .sl 1 (intA by0), .int .i64 dv, .int .i64 kk, .sl 2 (moA ms), .sl 7 (cs.map Cu.cells), .sl 24 (ps.map Pf.cells)]]], o.length, []⟩) →
        ∃ e fr' st', (D T).loop false L13_0 fr ⟨o ++ [Obj.arr 42 24 [[.int .i64 r, .str h, .str nw, .str v, .bool b, .int .i64 t0, .str t1, .int .i64 t2, .sl 4 (t3.map Tm.cells), .int .i64 c0, .str c1, .str c2, .sl 4 (c3.map Tm.cells), .sl 5 (c4.map Cl.cells), .sl 8 (les.map Lm.cells), .sl 2 (chs.map Ch.cells),
      .int .i64 kd, .sl 1 (intA fr0), .sl 1 (intA by0), .int .i64 dv, .int .i64 kk, .sl 2 (moA ms), .sl 7 (cs.map Cu.cells), .sl 24 (ps.map Pf.cells)]]], o.length, []⟩ = some (e, fr', st') ∧ Q e fr' st' := by
      intro fr n Q hfr q1 q2 q5 q6 n0 n1 hR k
      apply loop_inv L13_0.eq_1 List.length (fun (rest : List Pf) fr st => ∃ pre m, ps = pre ++ rest ∧ fr.length = 28 ∧ slot fr 1 = .int .i64 rule ∧ slot fr 2 = .ptr o.length 0 0 ∧ slot fr 5 = .int .i64 m ∧ slot fr 6 = .int .i64 (pre.length : Int) ∧ 0 ≤ m ∧ m + pszL rest ≤ 1000000 ∧ R = m + ctRL rule rest ∧
        st = ⟨o ++ [Obj.arr 42 24 [[.int .i64 r, .str h, .str nw, .str v, .bool b, .int .i64 t0, .str t1, .int .i64 t2, .sl 4 (t3.map Tm.cells), .int .i64 c0, .str c1, .str c2, .sl 4 (c3.map Tm.cells), .sl 5 (c4.map Cl.cells), .sl 8 (les.map Lm.cells), .sl 2 (chs.map Ch.cells),
      .int .i64 kd, .sl 1 (intA fr0), .sl 1 (intA by0), .int .i64 dv, .int .i64 kk, .sl 2 (moA ms), .sl 7 (cs.map Cu.cells), .sl 24 (ps.map Pf.cells)]]], o.length, []⟩) ?_ ps ⟨[], n, rfl, hfr, q1, q2, q5, q6, n0, by omega, hR, rfl⟩
      clear hfr q1 q2 q5 q6 n0 n1 hR
      clear n fr
      rintro rest fr _ ⟨pre, m, e, hfr, q1, q2, q5, q6, m0, m1, hn, rfl⟩
      cases rest with
      | nil =>
        have hlt := idx_end e
        simp only [ctRL, Int.add_zero] at hn
        simp -implicitDefEqProofs [hfr, q1, q2, q5, q6, hlt, get_base0, -getElem?_pos, List.getElem?_cons_zero]
        exact k _ (by simp [hfr]) (by simp [hfr, q5, hn])
      | cons x rest =>
        obtain ⟨hlt, hg, hpl⟩ := idx_at e
        have hw := idx_next e mx
        have hx : x ∈ ps := by simp [e]
        have hc := fun o ro df => ih x hx o ro df
        have x1 := p_take x
        have x2 := p_can x
        have x3 := plen x
        have k0 := ctR_le rule x
        have k2 := pszL_pos rest
        simp only [pszL] at m1
        simp only [ctRL] at hn
        have w1 : IntKind.i64.wrap (m + ctR rule x) = m + ctR rule x := wrap_id (by omega) (by omega)
        simp -implicitDefEqProofs [hfr, q1, q2, q5, q6, hlt, get_base0, hg, hpl, hw, hc, w1, x1, x2, x3, -List.getElem_map, -getElem?_pos, List.getElem?_cons_zero]
        exact ⟨rest, by simp, pre ++ [x], by simp [e], by simp, by omega, by omega, by omega⟩
    apply call_by (by exact rfl : T 13 = some _) (by simp)
    intro fr hfr hsl
    have s0 := hsl 0 _ rfl
    have s1 := hsl 1 _ rfl
    simp only [Pf.av, Pf.cells_all] at s0
    by_cases z : r = rule
    · rw [if_pos z] at hE
      simp -implicitDefEqProofs [hfr, s0, s1, get_base0, z, -getElem?_pos, List.getElem?_cons_zero]
      subst z
      apply lp _ 1 _ (by simp [hfr]) (by simp [hfr, s1]) (by simp [hfr]) (by simp [hfr]) (by simp [hfr]) (by omega) (by omega) hE
      intro fr' g1 g2
      simp -implicitDefEqProofs [g1, g2]
    · rw [if_neg z] at hE
      have z' : (r == rule) = false := by simpa using z
      simp -implicitDefEqProofs [hfr, s0, s1, get_base0, z, z', -getElem?_pos, List.getElem?_cons_zero]
      apply lp _ 0 _ (by simp [hfr]) (by simp [hfr, s1]) (by simp [hfr]) (by simp [hfr]) (by simp [hfr]) (by omega) (by omega) hE
      intro fr' g1 g2
      simp -implicitDefEqProofs [g1, g2]
termination_by t => SizeOf.sizeOf t
decreasing_by
  have := List.sizeOf_lt_of_mem hx
  simp
  omega

theorem rAt_eq (p : Pf) (hp : p.ok) (w : List Int) (hw : w.length ≤ 1000000) (o : List Obj) (ro : Nat) (df : List Nat) :
    (D T).call 7 [p.av, .sl 1 (intA w)] ⟨o, ro, df⟩ = some (.tup [((atP p w).getD zPf).av, .bool (atP p w).isSome], ⟨o, ro, df⟩) := by
  have mx : w.length ≤ 9223372036854775807 := by omega
  have wlen := intA_len w
  have x1 := p_take p
  have x2 := p_can p
  have x3 := plen p
  have x4 := p_one p
  have fp := pflat
  apply call_by (by exact rfl : T 7 = some _) (by simp)
  intro fr hfr hsl
  have s0 := hsl 0 _ rfl
  have s1 := hsl 1 _ rfl
  simp only [Pf.av] at s0
  obtain ⟨Z, hZ⟩ : ∃ Z, Z = Obj.arr 42 24 [[.int .i64 0, .str ⟨#[]⟩, .str ⟨#[]⟩, .str ⟨#[]⟩, .bool false, .int .i64 0, .str ⟨#[]⟩, .int .i64 0, .fsl 4 [], .int .i64 0, .str ⟨#[]⟩, .str ⟨#[]⟩, .fsl 4 [], .fsl 5 [], .fsl 8 [], .fsl 2 [], .int .i64 0, .fsl 1 [], .fsl 1 [], .int .i64 0, .int .i64 0, .fsl 2 [], .fsl 7 [], .fsl 24 []]] := ⟨_, rfl⟩
  simp -implicitDefEqProofs [hfr, s0, s1, get_base0, x1, x2, x3, x4, wlen, ← hZ]
  generalize hR : atP p w = R
  apply loop_inv L7_0.eq_1 List.length (fun (rest : List Int) fr st => ∃ pre q, w = pre ++ rest ∧ fr.length = 38 ∧ slot fr 1 = .sl 1 (intA w) ∧ slot fr 2 = .ptr o.length 0 0 ∧ slot fr 4 = .ptr (o.length + 1) 0 0 ∧ slot fr 6 = .int .i64 (pre.length : Int) ∧
    st = ⟨o ++ [Obj.arr 42 24 [Pf.cells q], Z], o.length, []⟩ ∧ q.ok ∧ R = atP q rest) ?_ w ⟨[], p, rfl, by simp [hfr], by simp [hfr, s1], by simp [hfr], by simp [hfr], by simp [hfr], rfl, hp, hR.symm⟩
  clear hfr s0 s1 hsl hR hp x1 x2 x3 x4
  clear fr
  rintro rest fr _ ⟨pre, q, e, hfr, q1, q2, q4, q6, rfl, qok, hn⟩
  rw [hZ]
  have y1 := p_take q
  have y2 := p_can q
  have y3 := plen q
  have y4 := p_one q
  cases rest with
  | nil =>
    have hlt := idx_end e
    simp only [atP] at hn
    have hfl := pflat q
    simp -implicitDefEqProofs [hfr, q1, q2, q4, q6, wlen, hlt, get_base0, get_base, set_base0, set_base, hn, y1, y2, y3, y4, pset, Pf.av, p_hand, -getElem?_pos, List.getElem?_cons_zero, List.getElem?_cons_succ]
  | cons i rest =>
    obtain ⟨hlt, hg, hpl⟩ := idx_at e
    have hw := idx_next e mx
    have hg' : (intA w)[pre.length]? = some [.int .i64 i] := by simp [intA, hg]
    have hpl' : pre.length < (intA w).length := by rw [wlen]; exact hpl
    have hz := p_hand o.length (o ++ [Obj.arr 42 24 [Pf.cells q], Obj.arr 42 24 [zPf.cells]]) zPf
    obtain ⟨r, h, nw, v, b, t, c, les, chs, cu, ps⟩ := q
    have kps : ps.length ≤ 140737488355328 := by simp only [Pf.ok] at qok; exact qok.2.2.2.2.2.2.2.2.2.1
    have cid := qok
    obtain ⟨t0, t1, t2, t3⟩ := t
    obtain ⟨c0, c1, c2, c3, c4⟩ := c
    obtain ⟨kd, fr0, by0, dv, kk, ms, cs⟩ := cu
    simp only [atP, Pf.subs] at hn
    have zE : zPf.cells = [.int .i64 0, .str ⟨#[]⟩, .str ⟨#[]⟩, .str ⟨#[]⟩, .bool false, .int .i64 0, .str ⟨#[]⟩, .int .i64 0, .sl 4 [], .int .i64 0, .str ⟨#[]⟩, .str ⟨#[]⟩, .sl 4 [], .sl 5 [], .sl 8 [], .sl 2 [], .int .i64 0, .sl 1 [], .sl 1 [], .int .i64 0, .int .i64 0, .sl 2 [], .sl 7 [], .sl 24 []] := by
      simp [zPf, zT, zC, zU, Pf.cells_all, intA, moA]
    by_cases k1 : i < 0
    · rw [if_pos k1] at hn
      simp only [Pf.cells_all]
      simp -implicitDefEqProofs [hfr, q1, q2, q4, q6, wlen, hlt, hg', hpl', hpl, hw, k1, get_base0, get_base, set_base0, set_base, hn, zE, Pf.av, -List.getElem_map, -getElem?_pos, List.getElem?_cons_zero, List.getElem?_cons_succ]
    · rw [if_neg k1] at hn
      obtain ⟨k, rfl⟩ : ∃ k : Nat, i = (k : Int) := ⟨i.toNat, by omega⟩
      rw [Int.toNat_natCast] at hn
      by_cases k2 : (ps.length : Int) ≤ k
      · rw [List.getElem?_eq_none (by omega)] at hn
        simp only [Pf.cells_all]
        simp -implicitDefEqProofs [hfr, q1, q2, q4, q6, wlen, hlt, hg', hpl', hpl, hw, k1, k2, get_base0, get_base, set_base0, set_base, hn, zE, Pf.av, -List.getElem_map, -getElem?_pos, List.getElem?_cons_zero, List.getElem?_cons_succ]
        try omega
      · have hk : k < ps.length := by omega
        have hki : (k : Int) < ps.length := by omega
        have hx : ps[k]? = some ps[k] := List.getElem?_eq_getElem hk
        rw [hx] at hn
        have ok2 := sub_ok qok (k := k) (q := ps[k]) hx
        generalize ps[k] = x at *
        have z1 := p_take x
        have z2 := p_can x
        have z3 := plen x
        have z4 := p_one x
        have hxc : (ps.map Pf.cells)[k]? = some x.cells := by simp [hx]
        simp only [Pf.cells_all]
        simp -implicitDefEqProofs [hfr, q1, q2, q4, q6, wlen, hlt, hg', hpl', hpl, hw, k1, k2, hk, hki, hx, hxc, get_base0, get_base, set_base0, set_base, pset, z1, z2, z3, z4, -List.getElem_map, -getElem?_pos, List.getElem?_cons_zero, List.getElem?_cons_succ]
        exact ⟨rest, by simp, pre ++ [(k : Int)], by simp [e], by simp, x, rfl, ok2, hn⟩

end Go.Proofs.YtkecobdhgabknaaGreatDoor.A
