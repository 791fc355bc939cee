/- A proof with another one at a way: the document's function. -/
import Derived.Test.YtkecobdhgabknaaDoorXZC
namespace Go.Proofs.YtkecobdhgabknaaDoor.A
open Go
set_option maxRecDepth 10000
set_option linter.unusedSimpArgs false
set_option linter.unusedVariables false
attribute [-simp] List.all_eq_true put slot_def ld idxA lenOf elems canA app hand slc

theorem rPut_eq (q : Pf) (hq : q.ok) : ∀ (w : List Int), w.length ≤ 1000000 → ∀ (p : Pf), p.ok → p.sm → ∀ (o : List Obj) (ro : Nat) (df : List Nat),
    (D T).call 26 [p.av, .sl 1 (intA w), q.av] ⟨o, ro, df⟩ = some (.tup [((putP p w q).getD zPf).av, .bool (putP p w q).isSome], ⟨o, ro, df⟩)
  | [], hw, p, hp, hs, o, ro, df => by
    have x1 := p_take p
    have x2 := p_can p
    have x3 := plen p
    have x4 := p_one p
    have z1 := p_take q
    have z2 := p_can q
    have z3 := plen q
    have z4 := p_one q
    have hh := p_hand o.length (o ++ [Obj.arr 42 24 [p.cells], Obj.arr 42 24 [q.cells], Obj.arr 42 24 [q.cells]]) q
    apply call_by (by exact rfl : T 26 = some _) (by simp)
    intro fr hfr hsl
    have s0 := hsl 0 _ rfl
    have s1 := hsl 1 _ rfl
    have s2 := hsl 2 _ rfl
    simp only [Pf.av, show intA [] = [] from rfl] at s0 s1 s2
    simp only [putP, Option.getD_some, Option.isSome_some]
    simp -implicitDefEqProofs [hfr, s0, s1, s2, get_base0, get_base, set_base0, set_base, pset, hh, Pf.av, x1, x2, x3, x4, z1, z2, z3, z4, -getElem?_pos, List.getElem?_cons_zero, List.getElem?_cons_succ]
  | i :: w, hw, p, hp, hs, o, ro, df => by
    simp only [List.length_cons] at hw
    have ih := fun p hp hs o ro df => rPut_eq q hq w (by omega) p hp hs o ro df
    have wlen : (intA (i :: w)).length = w.length + 1 := by rw [intA_len]; rfl
    have hw0 : ((w.length : Int) + 1 == 0) = false := by simp; omega
    have hw1 : ¬ ((w.length : Int) + 1 = 0) := by omega
    have hg : (intA (i :: w))[0]? = some [.int .i64 i] := rfl
    have hg2 : (0 : Int) < (w.length : Int) + 1 := by omega
    have hsl1 : ∀ st, slc st 1 (.sl 1 (intA (i :: w))) (some (.int .i64 1)) none none = some (.sl 1 (intA w)) := fun st => by
      have e : intA (i :: w) = [.int .i64 i] :: intA w := rfl
      rw [e]
      have h1 : (1 : Int) ≤ ((intA w).length : Int) + 1 := by omega
      simp [slc, slcL, natB, h1]
    have x1 := p_take p
    have x2 := p_can p
    have x3 := plen p
    have x4 := p_one p
    have z1 := p_take q
    have z2 := p_can q
    have z3 := plen q
    have z4 := p_one q
    have zE : zPf.cells = [.int .i64 0, .str ⟨#[]⟩, .str ⟨#[]⟩, .str ⟨#[]⟩, .bool false, .int .i64 0, .str ⟨#[]⟩, .int .i64 0, .sl 4 [], .int .i64 0, .str ⟨#[]⟩, .str ⟨#[]⟩, .sl 4 [], .sl 5 [], .sl 8 [], .sl 2 [], .int .i64 0, .sl 1 [], .sl 1 [], .int .i64 0, .int .i64 0, .sl 2 [], .sl 7 [], .sl 24 []] := by
      simp [zPf, zT, zC, zU, Pf.cells_all, intA, moA]
    generalize hI : intA (i :: w) = I at *
    have fin : ∀ {R : Option Pf}, putP p (i :: w) q = R → (D T).call 26 [p.av, .sl 1 I, q.av] ⟨o, ro, df⟩ = some (.tup [(R.getD zPf).av, .bool R.isSome], ⟨o, ro, df⟩) →
        (D T).call 26 [p.av, .sl 1 I, q.av] ⟨o, ro, df⟩ = some (.tup [((putP p (i :: w) q).getD zPf).av, .bool (putP p (i :: w) q).isSome], ⟨o, ro, df⟩) := fun e h => by rw [e]; exact h
    by_cases k1 : i < 0
    · refine fin (R := none) (by simp [putP, k1]) ?_
      obtain ⟨r, h, nw, v, b, t, c, les, chs, cu, ps⟩ := p
      obtain ⟨t0, t1, t2, t3⟩ := t
      obtain ⟨c0, c1, c2, c3, c4⟩ := c
      obtain ⟨kd, fr0, by0, dv, kk, ms, cs⟩ := cu
      apply call_by (by exact rfl : T 26 = some _) (by simp)
      intro fr hfr hsl
      have s0 := hsl 0 _ rfl
      have s1 := hsl 1 _ rfl
      have s2 := hsl 2 _ rfl
      simp only [Pf.av, Pf.cells_all] at s0 s2
      simp -implicitDefEqProofs [hfr, s0, s1, s2, get_base0, get_base, set_base0, set_base, wlen, hw0, hw1, hg, hg2, k1, zE, Pf.av, z1, z2, z3, z4, -getElem?_pos, List.getElem?_cons_zero, List.getElem?_cons_succ]
    obtain ⟨k, rfl⟩ : ∃ k : Nat, i = (k : Int) := ⟨i.toNat, by omega⟩
    cases hx : p.subs[k]? with
    | none =>
      refine fin (R := none) (by simp [putP, hx]) ?_
      have k2 : (p.subs.length : Int) ≤ k := by
        rcases Nat.lt_or_ge k p.subs.length with h | h
        · rw [List.getElem?_eq_getElem h] at hx; cases hx
        · omega
      have hlen : p.subs.length ≤ 1000000 := by cases p; simp only [Pf.sm] at hs; exact hs.2.2.2.2.2.2.2.1
      obtain ⟨r, h, nw, v, b, t, c, les, chs, cu, ps⟩ := p
      simp only [Pf.subs] at k2 hlen
      obtain ⟨t0, t1, t2, t3⟩ := t
      obtain ⟨c0, c1, c2, c3, c4⟩ := c
      obtain ⟨kd, fr0, by0, dv, kk, ms, cs⟩ := cu
      apply call_by (by exact rfl : T 26 = some _) (by simp)
      intro fr hfr hsl
      have s0 := hsl 0 _ rfl
      have s1 := hsl 1 _ rfl
      have s2 := hsl 2 _ rfl
      simp only [Pf.av, Pf.cells_all] at s0 s2
      simp -implicitDefEqProofs [hfr, s0, s1, s2, get_base0, get_base, set_base0, set_base, wlen, hw0, hw1, hg, hg2, k1, k2, zE, Pf.av, z1, z2, z3, z4, -List.getElem_map, -getElem?_pos, List.getElem?_cons_zero, List.getElem?_cons_succ]
      try omega
    | some x =>
      have okx := sub_ok hp hx
      have smx := sub_sm hs hx
      have hc := fun o ro df => ih x okx smx o ro df
      have hk := lt_of_getO hx
      have hki : (k : Int) < p.subs.length := by omega
      have hki2 : ¬ (p.subs.length : Int) ≤ k := by omega
      have hlen : p.subs.length ≤ 1000000 := by cases p; simp only [Pf.sm] at hs; exact hs.2.2.2.2.2.2.2.1
      have y1 := p_take x
      have y2 := p_can x
      have y3 := plen x
      have y4 := p_one x
      cases hP : putP x w q with
      | none =>
        refine fin (R := none) (by simp [putP, hx, hP]) ?_
        rw [hP] at hc
        simp only [Option.getD_none, Option.isSome_none] at hc
        have u1 := p_take zPf
        have u2 := p_can zPf
        have u3 := plen zPf
        have u4 := p_one zPf
        obtain ⟨r, h, nw, v, b, t, c, les, chs, cu, ps⟩ := p
        simp only [Pf.subs] at hk hki hki2 hlen hx
        have hxc : (ps.map Pf.cells)[k]? = some x.cells := by simp [hx]
        obtain ⟨t0, t1, t2, t3⟩ := t
        obtain ⟨c0, c1, c2, c3, c4⟩ := c
        obtain ⟨kd, fr0, by0, dv, kk, ms, cs⟩ := cu
        apply call_by (by exact rfl : T 26 = some _) (by simp)
        intro fr hfr hsl
        have s0 := hsl 0 _ rfl
        have s1 := hsl 1 _ rfl
        have s2 := hsl 2 _ rfl
        simp only [Pf.av, Pf.cells_all] at s0
        simp only [Pf.av] at s2 hc
        simp -implicitDefEqProofs [hfr, s0, s1, s2, get_base0, get_base, set_base0, set_base, wlen, hw0, hw1, hg, hg2, k1, hk, hki, hki2, hx, hxc, hsl1, hc, pset, Pf.av, y1, y2, y3, y4, z1, z2, z3, z4, u1, u2, u3, u4, -List.getElem_map, -getElem?_pos, List.getElem?_cons_zero, List.getElem?_cons_succ]
        simp [zE]
      | some X =>
        refine fin (R := some (p.put (p.subs.set k X))) (by simp [putP, hx, hP]) ?_
        rw [hP] at hc
        simp only [Option.getD_some, Option.isSome_some] at hc ⊢
        have u1 := p_take X
        have u2 := p_can X
        have u3 := plen X
        have u4 := p_one X
        have hR := cells_front (p.put (p.subs.set k X))
        rw [front_put, subs_put] at hR
        have hfl := pflat_list (p.subs.set k X)
        have hms : (p.subs.map Pf.cells).set k X.cells = (p.subs.set k X).map Pf.cells := List.map_set.symm
        have hll : (p.subs.map Pf.cells).length = p.subs.length := by simp
        have hxc : (p.subs.map Pf.cells)[k]? = some x.cells := by simp [hx]
        have hrm : room p.subs.length 400 = true := room_of0 (by omega) (by omega)
        simp only [Pf.av, hR]
        have f0 := front_flat p
        obtain ⟨r, h, nw, v, b, t, c, les, chs, cu, ps⟩ := p
        simp only [Pf.subs] at hk hki hki2 hlen hx hms hll hxc hfl hrm ⊢
        obtain ⟨t0, t1, t2, t3⟩ := t
        obtain ⟨c0, c1, c2, c3, c4⟩ := c
        obtain ⟨kd, fr0, by0, dv, kk, ms, cs⟩ := cu
        simp only [Pf.cells_all]
        simp only [Pf.front, Tm.cells_mk, Cl.cells_mk, Cu.cells_mk, List.cons_append, List.nil_append] at f0 ⊢
        simp only [AV.flatL, AV.flat, Bool.and_eq_true, Bool.true_and, Bool.and_true] at f0
        generalize (ps.set k X).map Pf.cells = QS at *
        have hql : QS.length = ps.length := by rw [← hms]; simp
        generalize List.map Pf.cells ps = Q7 at *
        generalize List.map Tm.cells t3 = Q1 at *
        generalize List.map Tm.cells c3 = Q2 at *
        generalize List.map Cl.cells c4 = Q3 at *
        generalize List.map Lm.cells les = Q4 at *
        generalize List.map Ch.cells chs = Q5 at *
        generalize List.map Cu.cells cs = Q6 at *
        generalize intA fr0 = Q8 at *
        generalize intA by0 = Q9 at *
        generalize moA ms = Q10 at *
        have a1 : ∀ (os : List Obj), app ⟨os, o.length, []⟩ 42 24 400 (.fsl 24 []) (.sl 24 Q7) = some (.own os.length 0 ps.length false, ⟨os ++ [.arr 42 24 Q7], o.length, []⟩) := fun os => by
          simp [app, elems, hll, hrm]
        apply call_by (by exact rfl : T 26 = some _) (by simp)
        intro fr hfr hsl
        have s0 := hsl 0 _ rfl
        have s1 := hsl 1 _ rfl
        have s2 := hsl 2 _ rfl
        simp only [Pf.av] at hc
        have hqt : QS.take ps.length = QS := List.take_of_length_le (by omega)
        simp -implicitDefEqProofs [hfr, s0, s1, s2, get_base0, get_base, set_base0, set_base, wlen, hw0, hw1, hg, hg2, k1, hk, hki, hki2, hxc, hsl1, hc, a1, hms, hll, hql, hqt, show ¬ (o.length + 4 < o.length) by omega, hfl, f0, pset, Pf.av, y1, y2, y3, y4, z1, z2, z3, z4, u1, u2, u3, u4, -List.getElem_map, -getElem?_pos, List.getElem?_cons_zero, List.getElem?_cons_succ]

end Go.Proofs.YtkecobdhgabknaaDoor.A
