/- A proof with another one at a way: the program's function. -/
import Derived.Test.YtkecobdhgabknaaDoorXY0
namespace Go.Proofs.YtkecobdhgabknaaDoor.A
open Go
set_option maxRecDepth 10000
set_option linter.unusedSimpArgs false
set_option linter.unusedVariables false
attribute [-simp] List.all_eq_true put slot_def ld idxA lenOf elems canA app hand

mutual
theorem RdP.keep {o o' : List Obj} {n n' : Nat} : ∀ {p : Pf} {cs : List AV}, RdP n o p cs → (∀ i, n ≤ i → o'[i]? = o[i]?) → n' ≤ n → RdP n' o' p cs
  | .mk r h nw v b t c les chs cu ps, cs, H, k, hn => by
    rw [RdP] at H ⊢
    obtain ⟨sv, e, H⟩ := H
    refine ⟨sv, e, ?_⟩
    rcases H with H | ⟨q, es, e1, e2, e3, e4⟩
    · exact .inl H
    · exact .inr ⟨q, es, e1, by omega, by rw [k q e2]; exact e3, e4.keep k hn⟩
theorem RdL.keep {o o' : List Obj} {n n' : Nat} : ∀ {ps : List Pf} {es : List (List AV)}, RdL n o ps es → (∀ i, n ≤ i → o'[i]? = o[i]?) → n' ≤ n → RdL n' o' ps es
  | [], es, H, k, hn => by rw [RdL] at H ⊢; exact H
  | p :: ps, es, H, k, hn => by
    rw [RdL] at H ⊢
    obtain ⟨e, es', rfl, g1, g2⟩ := H
    exact ⟨e, es', rfl, g1.keep k hn, g2.keep k hn⟩
end
theorem RdP.front {n : Nat} {o : List Obj} : ∀ {p : Pf} {cs : List AV}, RdP n o p cs → ∃ sv, cs = p.front ++ [sv] ∧ AV.one sv = true
  | .mk .., _, H => by
    rw [RdP] at H
    obtain ⟨sv, e, H⟩ := H
    refine ⟨sv, e, ?_⟩
    rcases H with ⟨_, rfl | rfl⟩ | ⟨q, es, rfl, _⟩ <;> rfl
theorem RdP.len {n : Nat} {o : List Obj} {p : Pf} {cs : List AV} (H : RdP n o p cs) : cs.length = 24 := by
  obtain ⟨sv, rfl, _⟩ := H.front
  simp [front_len]
theorem RdP.one {n : Nat} {o : List Obj} {p : Pf} {cs : List AV} (H : RdP n o p cs) : cs.all AV.one = true := by
  obtain ⟨sv, rfl, h⟩ := H.front
  simp only [List.all_append, List.all_cons, List.all_nil, Bool.and_true, h, front_one]
theorem RdP.can {n : Nat} {o : List Obj} : ∀ {p : Pf} {cs : List AV}, RdP n o p cs → RdP n o p (canL cs)
  | .mk r h nw v b t c les chs cu ps, cs, H => by
    rw [RdP] at H ⊢
    obtain ⟨sv, rfl, H⟩ := H
    rw [canL_app, front_can]
    rcases H with ⟨rfl, rfl | rfl⟩ | ⟨q, es, rfl, H⟩
    · exact ⟨.sl 24 [], rfl, .inl ⟨rfl, .inl rfl⟩⟩
    · exact ⟨.sl 24 [], rfl, .inl ⟨rfl, .inl rfl⟩⟩
    · exact ⟨.own q 0 ps.length false, rfl, .inr ⟨q, es, rfl, H⟩⟩

theorem dPL_set : ∀ (ps : List Pf) (k : Nat) (s : Pf) (m : Int), dPL ps ≤ m → dP s ≤ m → dPL (ps.set k s) ≤ m
  | [], _, _, _, h, _ => by simpa using h
  | a :: l, 0, s, m, h1, h2 => by
    simp only [dPL] at h1
    simp only [List.set_cons_zero, dPL]
    split at h1 <;> split <;> omega
  | a :: l, k + 1, s, m, h1, h2 => by
    simp only [dPL] at h1
    have := dPL_set l k s m (by split at h1 <;> omega) h2
    simp only [List.set_cons_succ, dPL]
    split at h1 <;> split <;> omega
theorem dP_eq (p : Pf) : dP p = 1 + dPL p.subs := by cases p; rfl
theorem putP_dP : ∀ (w : List Int) (p q r : Pf), putP p w q = some r → dP r ≤ dP p + dP q
  | [], p, q, r, h => by
    simp only [putP, Option.some.injEq] at h
    subst h
    have := dP_pos p
    omega
  | i :: w, p, q, r, h => by
    simp only [putP] at h
    split at h
    · cases h
    · split at h
      · rename_i s hs
        split at h
        · rename_i s' hs'
          simp only [Option.some.injEq] at h
          subst h
          have h1 := putP_dP w s q s' hs'
          have h2 := dPL_mem (List.mem_of_getElem? hs)
          have h3 := dP_pos q
          rw [dP_eq, subs_put, dP_eq p]
          have := dPL_set p.subs i.toNat s' (dPL p.subs + dP q) (by omega) (by omega)
          omega
        · cases h
      · cases h

theorem pPut_eq (p q : Pf) (hp : p.ok) (hs : p.sm) (hq : q.ok) (hsq : q.sm) (hd : dP p ≤ 40000) (hdq : dP q ≤ 40000) (w : List Int) (hw : w.length ≤ 1000000) (o : List Obj) (ro : Nat) (df : List Nat) :
    (D T).call 25 [p.av, .sl 1 (intA w), q.av] ⟨o, ro, df⟩ = some (.tup [((putP p w q).getD zPf).av, .bool (putP p w q).isSome], ⟨o, ro, df⟩) := by
  have mx : w.length ≤ 9223372036854775807 := by omega
  have wlen := intA_len w
  have x1 := p_take p
  have x2 := p_can p
  have x3 := plen p
  have x4 := p_one p
  have z1 := p_take q
  have z2 := p_can q
  have z3 := plen q
  have z4 := p_one q
  have hat := fun o ro df => pAt_eq p hp hs w hw o ro df
  have hiso := putP_at w p q
  have fa := p_take ((atP p w).getD zPf)
  have fb := p_can ((atP p w).getD zPf)
  have fc := plen ((atP p w).getD zPf)
  have fd := p_one ((atP p w).getD zPf)
  have zE : zPf.cells = [.int .i64 0, .str ⟨#[]⟩, .str ⟨#[]⟩, .str ⟨#[]⟩, .bool false, .int .i64 0, .str ⟨#[]⟩, .int .i64 0, .sl 4 [], .int .i64 0, .str ⟨#[]⟩, .str ⟨#[]⟩, .sl 4 [], .sl 5 [], .sl 8 [], .sl 2 [], .int .i64 0, .sl 1 [], .sl 1 [], .int .i64 0, .int .i64 0, .sl 2 [], .sl 7 [], .sl 24 []] := by
    simp [zPf, zT, zC, zU, Pf.cells_all, intA, moA]
  apply call_by (by exact rfl : T 25 = some _) (by simp)
  intro fr hfr hsl
  have s0 := hsl 0 _ rfl
  have s1 := hsl 1 _ rfl
  have s2 := hsl 2 _ rfl
  simp only [Pf.av] at s0 s2 hat
  cases hA : (atP p w).isSome with
  | false =>
    rw [hA] at hat hiso
    have hn : putP p w q = none := by simpa using hiso
    have hn2 : atP p w = none := by simpa using hA
    rw [hn2] at hat
    rw [hn]
    simp only [Option.getD_none, hn2] at hat fa fb fc fd ⊢
    rw [zE] at hat
    simp -implicitDefEqProofs [hfr, s0, s1, s2, get_base0, get_base, set_base0, set_base, hat, Pf.av, zE, x1, x2, x3, x4, z1, z2, z3, z4, -getElem?_pos, List.getElem?_cons_zero, List.getElem?_cons_succ]
  | true =>
    rw [hA] at hat hiso
    obtain ⟨R, hR⟩ : ∃ R, putP p w q = some R := Option.isSome_iff_exists.1 hiso
    rw [hR]
    simp only [Option.getD_some, Option.isSome_some]
    have hRd := putP_dP w p q R hR
    generalize (atP p w).getD zPf = a at *
    obtain ⟨cs, o2, hc, hO, h2, K2⟩ := pcopyI_eq p hp hs (o ++ [Obj.arr 42 24 [p.cells], Obj.arr 42 24 [q.cells], Obj.arr 42 24 [[.int .i64 0, .str ⟨#[]⟩, .str ⟨#[]⟩, .str ⟨#[]⟩, .bool false, .int .i64 0, .str ⟨#[]⟩, .int .i64 0, .fsl 4 [], .int .i64 0, .str ⟨#[]⟩, .str ⟨#[]⟩, .fsl 4 [], .fsl 5 [], .fsl 8 [], .fsl 2 [], .int .i64 0, .fsl 1 [], .fsl 1 [], .int .i64 0, .int .i64 0, .fsl 2 [], .fsl 7 [], .fsl 24 []]], Obj.arr 42 24 [a.cells]]) o.length [] (by simp)
    simp only [List.length_append, List.length_cons, List.length_nil, Nat.zero_add, Nat.reduceAdd] at hO h2 K2
    have y1 := hO.len
    have y2 := hO.one
    have hO' := hO.can
    have y3 : cs.take 24 = cs := List.take_of_length_le (by omega)
    have y4 : ∀ (xs : List AV), xs.length = 24 → setMany xs 0 cs = cs := fun xs h => set_all _ _ (by omega)
    simp -implicitDefEqProofs [hfr, s0, s1, s2, get_base0, get_base, set_base0, set_base, hat, hc, Pf.av, fa, fb, fc, fd, pset, wlen, x1, x2, x3, x4, z1, z2, z3, z4, y1, y2, y3, y4, show o.length ≤ o2.length by omega, getO_last, setO_last, -getElem?_pos, List.getElem?_cons_zero, List.getElem?_cons_succ]
    have hP3 : (o2 ++ [Obj.arr 42 24 [cs]])[o2.length]? = some (Obj.arr 42 24 [cs]) := by simp
    have gQ : ∀ m : List Obj, (o2 ++ m)[o.length + 1]? = some (Obj.arr 42 24 [q.cells]) := fun m => getO_push (by rw [K2 _ (by omega)]; simp) m
    have gZ : ∀ m : List Obj, (o2 ++ m)[o.length + 2]? = some (Obj.arr 42 24 [[.int .i64 0, .str ⟨#[]⟩, .str ⟨#[]⟩, .str ⟨#[]⟩, .bool false, .int .i64 0, .str ⟨#[]⟩, .int .i64 0, .fsl 4 [], .int .i64 0, .str ⟨#[]⟩, .str ⟨#[]⟩, .fsl 4 [], .fsl 5 [], .fsl 8 [], .fsl 2 [], .int .i64 0, .fsl 1 [], .fsl 1 [], .int .i64 0, .int .i64 0, .fsl 2 [], .fsl 7 [], .fsl 24 []]]) := fun m => getO_push (by rw [K2 _ (by omega)]; simp) m
    apply loop_inv L25_0.eq_1 List.length (fun (rest : List Int) fr st => ∃ pre p' b i lo hi es c f, w = pre ++ rest ∧ fr.length = 43 ∧ slot fr 5 = .ptr (o.length + 1) 0 0 ∧ slot fr 6 = .ptr (o.length + 2) 0 0 ∧ slot fr 10 = .ptr o2.length 0 0 ∧ slot fr 11 = .ptr b i 0 ∧
      slot fr 25 = .sl 1 (intA w) ∧ slot fr 26 = .int .i64 (w.length : Int) ∧ slot fr 27 = .int .i64 (pre.length : Int) ∧ st = ⟨o2 ++ [Obj.arr 42 24 [cs]], o.length, []⟩ ∧
      Hole (o.length + 4) (o2 ++ [Obj.arr 42 24 [cs]]) o2.length b i lo hi es f ∧ es[i]? = some c ∧ OwnP (o2 ++ [Obj.arr 42 24 [cs]]) p' lo hi c ∧ o.length + 4 ≤ lo ∧ hi ≤ o2.length + 1 ∧ o.length + 4 ≤ b ∧ (atP p' rest).isSome = true ∧ some R = (putP p' rest q).map f) ?_ w
      ⟨[], p, o2.length, 0, o.length + 4, o2.length, [cs], cs, id, rfl, by simp [hfr], by simp [hfr], by simp [hfr], by simp [hfr], by simp [hfr], by simp [hfr, s1], by simp [hfr], by simp [hfr], rfl,
        hole_root hP3 (.inr (Nat.le_refl _)), by simp, hO.keep (fun i i1 i2 => List.getElem?_append_left i2) (Nat.le_refl _) (Nat.le_refl _), Nat.le_refl _, by omega, by omega, hA, by rw [hR]; rfl⟩
    clear hfr s0 s1 s2 hsl hat hA hiso hR hc fa fb fc fd
    clear fr
    rintro rest fr _ ⟨pre, p', b, i, lo, hi, es, c, f, e, hfr, q5, q6, q10, q11, q25, q26, q27, rfl, H, hes, hOc, hlo, hhi, hb, hat, hput⟩
    have hlb := lt_of_getO H.arr
    cases rest with
    | nil =>
      have hlt := idx_end e
      simp only [putP, Option.map_some, Option.some.injEq] at hput
      obtain ⟨qs, o4, hqc, hQO, h4, K4⟩ := pcopyI_eq q hq hsq (o2 ++ [Obj.arr 42 24 [cs]]) o.length [] (by simp; omega)
      simp only [List.length_append, List.length_cons, List.length_nil, Nat.zero_add] at hQO h4 K4 hlb
      have u1 := hQO.len
      have u2 := hQO.one
      have u3 : qs.take 24 = qs := List.take_of_length_le (by omega)
      have gQ1 := gQ [Obj.arr 42 24 [cs]]
      have gb : o4[b]? = some (.arr 42 24 es) := by rw [K4 b hlb]; exact H.arr
      have lb4 := lt_of_getO gb
      have hc24 := hOc.len
      have hil := lt_of_getO hes
      have u4 : ∀ (xs : List AV), xs.length = 24 → setMany xs 0 qs = qs := fun xs h => set_all _ _ (by omega)
      obtain ⟨c0, r1, r2⟩ := H.all (o4.set b (.arr 42 24 (es.set i qs))) q qs (fun j j1 j2 j3 => by rw [List.getElem?_set_ne (Ne.symm j2), K4 j (by simpa using j3)]) (by rw [List.getElem?_set_self lb4])
        ((hQO.keep (o' := o4.set b (.arr 42 24 (es.set i qs))) (fun j j1 j2 => List.getElem?_set_ne (by omega)) (Nat.le_refl _) (Nat.le_refl _)).rd (by omega))
      rw [← hput] at r2
      have v1 := r2.len
      have v2 := r2.one
      have v3 : c0.take 24 = c0 := List.take_of_length_le (by omega)
      have v4 : ∀ (xs : List AV), xs.length = 24 → setMany xs 0 c0 = c0 := fun xs h => set_all _ _ (by omega)
      have gZ2 : (o4.set b (.arr 42 24 (es.set i qs)))[o.length + 2]? = some (Obj.arr 42 24 [[.int .i64 0, .str ⟨#[]⟩, .str ⟨#[]⟩, .str ⟨#[]⟩, .bool false, .int .i64 0, .str ⟨#[]⟩, .int .i64 0, .fsl 4 [], .int .i64 0, .str ⟨#[]⟩, .str ⟨#[]⟩, .fsl 4 [], .fsl 5 [], .fsl 8 [], .fsl 2 [], .int .i64 0, .fsl 1 [], .fsl 1 [], .int .i64 0, .int .i64 0, .fsl 2 [], .fsl 7 [], .fsl 24 []]]) := by
        rw [List.getElem?_set_ne (by omega), K4 _ (by omega)]; exact gZ _
      have lz := lt_of_getO gZ2
      have gZ3 : ((o4.set b (.arr 42 24 (es.set i qs))).set (o.length + 2) (.arr 42 24 [c0]))[o.length + 2]? = some (.arr 42 24 [c0]) := List.getElem?_set_self lz
      have hh : mapO (hand0 o.length ((o4.set b (.arr 42 24 (es.set i qs))).set (o.length + 2) (.arr 42 24 [c0]))) c0 = some R.cells :=
        (r2.keep (o' := (o4.set b (.arr 42 24 (es.set i qs))).set (o.length + 2) (.arr 42 24 [c0])) (fun j j1 => List.getElem?_set_ne (by omega)) (show o.length ≤ o.length + 4 by omega)).out (by omega)
      simp -implicitDefEqProofs [hfr, q5, q6, q10, q11, q25, q26, q27, hlt, gQ1, z1, z2, z3, z4, hqc, gb, lb4, hes, hil, hc24, u1, u2, u3, u4, r1, v1, v2, v3, v4, gZ2, gZ3, lz, hh, Pf.av, show o.length ≤ b by omega, -getElem?_pos, List.getElem?_cons_zero, List.getElem?_cons_succ]
    | cons i0 rest =>
      obtain ⟨hlt, hg, hpl⟩ := idx_at e
      have hw := idx_next e mx
      have hg' : (intA w)[pre.length]? = some [.int .i64 i0] := by simp [intA, hg]
      have hpl' : pre.length < (intA w).length := by rw [wlen]; exact hpl
      simp only [atP] at hat
      simp only [putP] at hput
      by_cases k1 : i0 < 0
      · rw [if_pos k1] at hat; cases hat
      rw [if_neg k1] at hat hput
      obtain ⟨k, rfl⟩ : ∃ k : Nat, i0 = (k : Int) := ⟨i0.toNat, by omega⟩
      rw [Int.toNat_natCast] at hat hput
      cases hs' : p'.subs[k]? with
      | none => rw [hs'] at hat; cases hat
      | some s' =>
        rw [hs'] at hat hput
        simp only at hat hput
        obtain ⟨q0, es', c', lo', hi', e1, e2, e3, e4, e5, e6, e7, e8⟩ := hole_step H hes hOc hlo hs' (by simp; omega)
        have hk := lt_of_getO hs'
        have hki : (k : Int) < p'.subs.length := by omega
        have hcl : c.length = 24 := hOc.len
        have hcd : List.take 1 (List.drop 23 c) = [.own q0 0 p'.subs.length false] := by
          rw [e1, List.drop_append_of_le_length (by rw [front_len]; exact Nat.le_refl _), List.drop_of_length_le (by rw [front_len]; exact Nat.le_refl _)]
          rfl
        have harr := H.arr
        have harr2 := e8.arr
        simp -implicitDefEqProofs [hfr, q5, q6, q10, q11, q25, q26, q27, hlt, hg', hpl', hpl, hw, k1, harr, hes, hcl, hcd, harr2, hk, hki, e2, -List.getElem_map, -getElem?_pos, List.getElem?_cons_zero, List.getElem?_cons_succ]
        refine ⟨rest, by simp, pre ++ [(k : Int)], by simp [e], s', q0, k, ⟨rfl, rfl⟩, by simp, lo', hi', es', c', _, e8, e3, e4, e5, by simpa using e6, by omega, hat, ?_⟩
        rw [hput]
        cases putP s' rest q <;> rfl

end Go.Proofs.YtkecobdhgabknaaDoor.A
