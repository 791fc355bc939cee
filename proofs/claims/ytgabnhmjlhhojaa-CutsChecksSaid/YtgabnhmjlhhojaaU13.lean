/- The document's bad and sub. -/
import Derived.Test.YtgabnhmjlhhojaaU9
import Derived.Test.YtgabnhmjlhhojaaU10
namespace Go.Proofs.Ytgabnhmjlhhojaa.A
open Go
set_option maxRecDepth 10000
set_option linter.unusedSimpArgs false
set_option linter.unusedVariables false
attribute [-simp] List.all_eq_true put slot_def ld idxA lenOf elems canA app hand add64A

/-- a way and an error -/
def gtA (r : List Int × Int) : List AV := [.sl 1 (intA r.1), .int .i64 r.2]
theorem bad_eq (e : Int) (o : List Obj) (ro : Nat) (df : List Nat) : (D T).call 38 [.int .i64 e] ⟨o, ro, df⟩ = some (.agg [.sl 1 [], .int .i64 e], ⟨o, ro, df⟩) := by
  apply call_by (by exact rfl : T 38 = some _) (by simp)
  intro fr hfr hsl
  have s0 := hsl 0 _ rfl
  simp -implicitDefEqProofs [hfr, s0, get_base0, set_base0, -getElem?_pos, List.getElem?_cons_zero]

theorem FsG.pre {o o2 : List Obj} {sz : Nat} {v : AV} {es : List (List AV)} (h : FsG o sz v es) (hp : Pre o o2) : FsG o2 sz v es := by
  obtain ⟨m, rfl⟩ := hp; exact h.push m
theorem FsG.elems {o : List Obj} {sz : Nat} {v : AV} {es : List (List AV)} (h : FsG o sz v es) (ro : Nat) (df : List Nat) : elems ⟨o, ro, df⟩ v = some (sz, es) := by
  rcases h with rfl | rfl | ⟨r, ty, f, rfl, h⟩
  · rfl
  · rfl
  · simp [Go.Proofs.Ytgabnhmjlhhojaa.A.elems, h]
theorem FsG.at {o o2 : List Obj} {sz : Nat} {v : AV} {es : List (List AV)} (h : FsG o sz v es) (hpre : Pre o o2) (ro : Nat) (df : List Nat) {i : Nat} {e : List AV} (he : es[i]? = some e) (hl : e.length = sz) :
    ∃ p, idxA ⟨o2, ro, df⟩ sz v (.int .i64 i) = some p ∧ ∀ agg, ld ⟨o2, ro, df⟩ agg sz p = val agg e := by
  obtain ⟨p, p1, p2⟩ := h.place hpre ro df he
  refine ⟨p, p1, fun agg => ?_⟩
  rcases p2 with rfl | ⟨r, ty, sz', es', rfl, g1, g2⟩
  · simp [hl, take_len hl]
  · simp [g1, g2, hl, take_len hl]

mutual
theorem ckC_len : ∀ (c : Cu) (l : List Iq) (w : List Int), ((ckC c l w).1.length : Int) ≤ w.length + cdp c
  | .mk kd fr b dv k ms cs, l, w => by
    have h := ckL_len cs l (askA l (.mk kd fr b dv k ms cs)).1 0 w
    have h0 := cdpL_pos cs
    rw [ckC]
    simp only [cdp]
    split
    · simp only; omega
    · omega
theorem ckL_len : ∀ (cs : List Cu) (l more : List Iq) (i : Nat) (w : List Int), ((ckL cs l more i w).1.length : Int) ≤ w.length + 1 + cdpL cs
  | [], _, _, _, w => by simp [ckL, cdpL]; omega
  | c :: cs, l, more, i, w => by
    have h1 := ckC_len c (l ++ [more.getD i iz]) (w ++ [(i : Int)])
    have h2 := ckL_len cs l more (i + 1) w
    have h3 := cdpL_pos cs
    simp only [List.length_append, List.length_cons, List.length_nil] at h1
    simp only [ckL, cdpL]
    split <;> split <;> omega
end

theorem sub_eq (l : List Iq) (hl : l.length ≤ 1000000) (q : Iq) (kd : Int) (fr0 by0 : List Int) (dv k : Int) (ms : List (Int × Int)) (cs : List Cu) (at' : Nat) (x : Cu) (hx : cs[at']? = some x) (hcs : cs.length ≤ 1000000) (v : AV) (o : List Obj) (hv : FsG o 3 v (l.map iqA)) (hWl : (ckC x (l ++ [q]) []).1.length ≤ 1000000)
    (ih : ∀ (o' : List Obj) (v' : AV) (ro : Nat) (df : List Nat), FsG o' 3 v' ((l ++ [q]).map iqA) → (D T).call 40 [v', .agg x.cells] ⟨o', ro, df⟩ = some (.agg (gtA (ckC x (l ++ [q]) [])), ⟨o', ro, df⟩)) (ro : Nat) (df : List Nat) :
    (D T).call 61 [v, .agg (iqA q), .agg (Cu.mk kd fr0 by0 dv k ms cs).cells, .int .i64 at'] ⟨o, ro, df⟩ = some (.agg (gtA (ckC x (l ++ [q]) [(at' : Int)])), ⟨o, ro, df⟩) := by
  have hW := ckC_w x (l ++ [q]) [(at' : Int)] []
  rw [List.append_nil] at hW
  have hf := iq_flat (l ++ [q])
  have y1 := cu_take x
  have y2 := cu_can x
  have y3 := culen x
  have y4 := cu_one x
  have hlt := lt_of_getO hx
  have hx2 : (cs.map Cu.cells).getD at' [] = x.cells := by rw [List.getD_eq_getElem?_getD]; simp [hx]
  have hcl : (cs.map Cu.cells).length = cs.length := by simp
  have hx3 : (cs.map Cu.cells)[at']? = some x.cells := by simp [hx]
  have hm : (l ++ [q]).map iqA = l.map iqA ++ [iqA q] := by simp
  have hlm : (l.map iqA).length = l.length := by simp
  have hQ : iqA q = [.int .i64 q.1.1, .sl 2 (moA q.1.2), .bool q.2] := rfl
  have hcan := hv.can
  obtain ⟨BQ, hBQ⟩ : ∃ B, B = Obj.arr 51 3 [[.int .i64 q.1.1, .sl 2 (moA q.1.2), .bool q.2]] := ⟨_, rfl⟩
  obtain ⟨BC, hBC⟩ : ∃ B, B = Obj.arr 29 7 [[.int .i64 kd, .sl 1 (intA fr0), .sl 1 (intA by0), .int .i64 dv, .int .i64 k, .sl 2 (moA ms), .sl 7 (cs.map Cu.cells)]] := ⟨_, rfl⟩
  obtain ⟨BR, hBR⟩ : ∃ B, B = Obj.arr 41 2 [[.fsl 1 [], .int .i64 0]] := ⟨_, rfl⟩
  obtain ⟨V, hV⟩ : ∃ V, V = AV.own (o.length + 4) 0 (l.length + 1) false := ⟨_, rfl⟩
  have hel := (hv.push [BQ, BC, BR]).elems o.length []
  have a1 : app ⟨o ++ [BQ, BC, BR], o.length, []⟩ 51 3 40 (.fsl 3 []) v = some (.own (o.length + 3) 0 l.length false, ⟨o ++ [BQ, BC, BR, .arr 51 3 (l.map iqA)], o.length, []⟩) := by
    have : room l.length 40 = true := by simp [room]; omega
    unfold app; rw [hel]; simp [this]
  have a2 : app ⟨o ++ [BQ, BC, BR, .arr 51 3 (l.map iqA)], o.length, []⟩ 51 3 40 (.own (o.length + 3) 0 l.length false) (.fsl 3 [iqA q]) = some (V, ⟨o ++ [BQ, BC, BR, .dead, .arr 51 3 ((l ++ [q]).map iqA)], o.length, []⟩) := by
    have : room (l.length + 1) 40 = true := by simp [room]; omega
    simp [app, elems, this, hV, get_base, set_base]
  have hcall := ih (o ++ [BQ, BC, BR, .dead, .arr 51 3 ((l ++ [q]).map iqA)]) V o.length [] (.inr (.inr ⟨o.length + 4, 51, false, by rw [hV]; simp, by rw [get_base]; rfl⟩))
  have hcV : canA V = V := by rw [hV]; rfl
  rw [hQ] at a2 ⊢
  simp only [Cu.cells_mk]
  generalize hRR : ckC x (l ++ [q]) [] = RR at *
  obtain ⟨W, e⟩ := RR
  simp only at hW hWl
  simp only [gtA] at hcall
  apply call_by (by exact rfl : T 61 = some _) (by simp)
  intro fr hfr hsl
  have s0 := hsl 0 _ rfl
  have s1 := hsl 1 _ rfl
  have s2 := hsl 2 _ rfl
  have s3 := hsl 3 _ rfl
  have hwl := intA_len W
  have hwf := intA_flat W
  have hin : (at' : Int) < (cs.length : Int) := by omega
  have g0 : ∀ m, (o ++ BQ :: m)[o.length]? = some BQ := fun m => by rw [get_base0]; rfl
  have g1 : ∀ X m, (o ++ X :: BC :: m)[o.length + 1]? = some BC := fun X m => by rw [get_base]; rfl
  generalize (l ++ [q]).map iqA = L2 at *
  generalize l.map iqA = LL at *
  generalize moA q.1.2 = M2 at *
  generalize intA fr0 = F at *
  generalize intA by0 = B at *
  generalize moA ms = M at *
  generalize cs.map Cu.cells = C at *
  by_cases h0 : e = 0
  · subst h0
    rw [if_neg (by simp)] at hW
    rw [hW]
    have e0 : gtA ([], 0) = [.sl 1 [], .int .i64 0] := rfl
    rw [e0]
    subst hBQ hBC hBR
    simp -implicitDefEqProofs [hfr, s0, s1, s2, s3, hcan, hcV, a1, a2, hcall, hin, hlt, hcl, hx2, hx3, y1, y2, y3, y4, g0, g1, get_base0, get_base, set_base0, set_base, -getElem?_pos, List.getElem?_cons_zero, List.getElem?_cons_succ]
  · have heb : (e == 0) = false := by simpa using h0
    rw [if_pos h0] at hW
    rw [hW]
    have e0 : gtA ([(at' : Int)] ++ W, e) = [.sl 1 ([.int .i64 at'] :: intA W), .int .i64 e] := by simp [gtA, intA]
    rw [e0]
    subst hBQ hBC hBR
    generalize intA W = WA at *
    have a3 : ∀ st, app st 3 1 8 (.fsl 1 [[.int .i64 at']]) (.sl 1 []) = some (.fsl 1 [[.int .i64 at']], st) := fun st => by simp [app, elems]
    cases WA with
    | nil =>
      simp -implicitDefEqProofs [hfr, s0, s1, s2, s3, hcan, hcV, a1, a2, hcall, hin, hlt, hcl, hx2, hx3, heb, a3, y1, y2, y3, y4, g0, g1, get_base0, get_base, set_base0, set_base, -getElem?_pos, List.getElem?_cons_zero, List.getElem?_cons_succ]
    | cons wa WA =>
      have a4 : ∀ (o' : List Obj) ro df, app ⟨o', ro, df⟩ 3 1 8 (.fsl 1 [[.int .i64 at']]) (.sl 1 (wa :: WA)) = some (.own o'.length 0 (1 + (WA.length + 1)) false, ⟨o' ++ [.arr 3 1 ([.int .i64 at'] :: wa :: WA)], ro, df⟩) := fun o' ro df => by
        have : room (1 + (WA.length + 1)) 8 = true := by simp at hwl; simp [room]; omega
        simp [app, elems, this]
      have hwf2 : AV.flatL wa = true ∧ AV.flatLL WA = true := by simpa [AV.flatLL] using hwf
      have htk : List.take (1 + (WA.length + 1)) ([AV.int IntKind.i64 at'] :: wa :: WA) = [.int .i64 at'] :: wa :: WA := List.take_of_length_le (by simp; omega)
      simp -implicitDefEqProofs [hfr, s0, s1, s2, s3, hcan, hcV, a1, a2, a4, hcall, hin, hlt, hcl, hx2, hx3, heb, hwf2, htk, show ¬ o.length + 6 < o.length by omega, show 1 + (WA.length + 1) ≤ WA.length + 1 + 1 by omega, y1, y2, y3, y4, g0, g1, get_base0, get_base, set_base0, set_base, -getElem?_pos, List.getElem?_cons_zero, List.getElem?_cons_succ]

end Go.Proofs.Ytgabnhmjlhhojaa.A
/- The document's check. -/
namespace Go.Proofs.Ytgabnhmjlhhojaa.A
open Go
set_option maxRecDepth 10000
set_option linter.unusedSimpArgs false
set_option linter.unusedVariables false
attribute [-simp] List.all_eq_true put slot_def ld idxA lenOf elems canA app hand add64A

theorem someA_2 (l : List Iq) : ∀ (ns : List Int) (acc : List Iq), (someA l ns acc).2 ≠ 0 → (someA l ns acc).2 = 3
  | [], acc, h => by simp [someA] at h
  | n :: ns, acc, h => by
    simp only [someA] at h ⊢
    split at h
    · rename_i hx; rw [if_pos hx]; exact someA_2 l ns _ h
    · rename_i hx; rw [if_neg hx]

theorem rchk_l0 (l : List Iq) (hl : l.length ≤ 1000000) (kd : Int) (hkd : kd ≠ 3) (fr0 by0 : List Int) (hfr0 : fr0.length ≤ 1000000) (dv k : Int) (ms : List (Int × Int)) (C : List (List AV)) (v : AV) (o o1 : List Obj) (n : Nat) (hon : o.length = n) (hv : FsG o 3 v (l.map iqA)) (BC : Obj)
    (hBC : BC = .arr 29 7 [[.int .i64 kd, .sl 1 (intA fr0), .sl 1 (intA by0), .int .i64 dv, .int .i64 k, .sl 2 (moA ms), .sl 7 C]]) (Q : AE → List AV → St → Prop) (fr : List AV) (hfr : fr.length = 120)
    (q0 : slot fr 0 = v) (q3 : slot fr 3 = .ptr n 0 0) (q4 : slot fr 4 = .ptr (n + 1) 0 0) (q5 : slot fr 5 = .fsl 3 []) (q6 : slot fr 6 = .int .i64 0)
    (hpre : Pre o o1) (g0 : o1[n]? = some BC) (g1 : o1[n + 1]? = some (.arr 41 2 [[.fsl 1 [], .int .i64 0]]))
    (kk : ∀ (fr' : List AV) (o2 : List Obj) (u : AV), fr'.length = 120 → slot fr' 0 = v → slot fr' 3 = .ptr n 0 0 → slot fr' 4 = .ptr (n + 1) 0 0 → slot fr' 5 = u → Pre o o2 → o2[n]? = some BC → o2[n + 1]? = some (.arr 41 2 [[.fsl 1 [], .int .i64 0]]) →
      Gr (n + 2) 51 3 o2 u ((someA l fr0 []).1.map iqA) → (someA l fr0 []).2 = 0 → Q (.exit 0) fr' ⟨o2, n, []⟩)
    (kr : ∀ (fr' : List AV) (o2 : List Obj), fr'.length = 120 → slot fr' 4 = .ptr (n + 1) 0 0 → o2[n + 1]? = some (.arr 41 2 [[.sl 1 [], .int .i64 3]]) → (someA l fr0 []).2 = 3 → Q .ret fr' ⟨o2, n, []⟩) :
    ∃ e fr' st', (D T).loop false L40_0 fr ⟨o1, n, []⟩ = some (e, fr', st') ∧ Q e fr' st' := by
  have hlen : lenOf v = some l.length := by simpa using hv.len
  have hkb : (kd != 3) = true := bne_iff_ne.2 hkd
  apply loop_inv L40_0.eq_1 List.length (fun (rest : List Int) fr st => ∃ pre acc o2 u, fr0 = pre ++ rest ∧ acc.length = pre.length ∧ someA l fr0 [] = someA l rest acc ∧ fr.length = 120 ∧ slot fr 0 = v ∧ slot fr 3 = .ptr n 0 0 ∧ slot fr 4 = .ptr (n + 1) 0 0 ∧ slot fr 5 = u ∧ slot fr 6 = .int .i64 (pre.length : Int) ∧
    st = ⟨o2, n, []⟩ ∧ Pre o o2 ∧ o2[n]? = some BC ∧ o2[n + 1]? = some (.arr 41 2 [[.fsl 1 [], .int .i64 0]]) ∧ Gr (n + 2) 51 3 o2 u (acc.map iqA)) ?_ fr0
    ⟨[], [], o1, .fsl 3 [], rfl, rfl, rfl, hfr, q0, q3, q4, q5, q6, rfl, hpre, g0, g1, .inl rfl⟩
  clear hfr q0 q3 q4 q5 q6 hpre g0 g1
  clear fr o1
  rintro rest fr _ ⟨pre, acc, o2, u, e, ha, hE, hfr, q0, q3, q4, q5, q6, rfl, hpre, g0, g1, gu⟩
  rw [hE] at kk kr
  have ml := intA_len fr0
  have hpo := hpre.len
  have l1 := lt_of_getO g1
  cases rest with
  | nil =>
    have hlt := idx_end e
    subst hBC
    generalize intA fr0 = F at *
    simp -implicitDefEqProofs [hfr, q0, q3, q4, q5, q6, hlt, g0, ml, -getElem?_pos, List.getElem?_cons_zero, List.getElem?_cons_succ]
    exact kk _ o2 u (by simp [hfr]) (by simp [hfr, q0]) (by simp [hfr, q3]) (by simp [hfr, q4]) (by simp [hfr, q5]) hpre g0 g1 (by simpa [someA] using gu) (by simp [someA])
  | cons x rest =>
    obtain ⟨hlt, hg, hpl⟩ := idx_at e
    have hwi := idx_next e (by omega)
    have hg2 : (intA fr0)[pre.length]? = some [.int .i64 x] := by simp [intA, hg]
    have e1 : ∀ X, (o2.set (n + 1) X)[n + 1]? = some X := fun X => getO_set l1
    have hbad := fun o ro df => bad_eq 3 o ro df
    simp only [someA] at hE kr
    by_cases hx : 0 ≤ x ∧ x < l.length
    · rw [if_pos hx] at hE
      have hx1 : ¬ x < 0 := by omega
      have hx2 : ¬ x ≥ (l.length : Int) := by omega
      have hx3 : ¬ (l.length : Int) ≤ x := by omega
      obtain ⟨q, hq⟩ : ∃ q, l[x.toNat]? = some q := ⟨l[x.toNat]'(by omega), by simp [show x.toNat < l.length by omega]⟩
      have hq1 : l.getD x.toNat iz = q := by rw [List.getD_eq_getElem?_getD, hq]; rfl
      have hq2 : (l.map iqA)[x.toNat]? = some (iqA q) := by simp [hq]
      obtain ⟨p, p1, p2⟩ := hv.at hpre n [] hq2 rfl
      have p3 := p2 true
      simp only [val, if_true] at p3
      rw [show ((x.toNat : Nat) : Int) = x by omega] at p1
      rw [hq1] at hE
      obtain ⟨o3, a1, a2, a3, a4, a5⟩ := app_getP (bytes := 40) (ro := n) (df := []) hpre (by omega) gu (by omega) (x := .fsl 3 [iqA q]) (xs := [iqA q]) rfl (.inr (by simp)) (by simp [room]; omega)
      have b0 := a4 _ _ g0 (gu.not (by omega))
      have b1 := a4 _ _ g1 (gu.not (by omega))
      have gu2 := gr_new (lo := n + 2) a3 (by omega) (n := pre.length + 1) (by simp [ha])
      have hm2 : acc.map iqA ++ [iqA q] = (acc ++ [q]).map iqA := by simp
      rw [hm2] at gu2
      simp only [List.length_cons, List.length_nil, Nat.zero_add, List.length_map, ha] at a1
      have hQ : iqA q = [.int .i64 q.1.1, .sl 2 (moA q.1.2), .bool q.2] := rfl
      rw [hQ] at p3 a1
      have g0' := g0
      rw [hBC] at g0'
      generalize intA fr0 = F at *
      generalize moA q.1.2 = M2 at *
      simp -implicitDefEqProofs [hfr, q0, q3, q4, q5, q6, hlt, hpl, hwi, hg2, ml, hlen, hkb, hx1, hx2, hx3, g0', p1, p3, a1, -getElem?_pos, List.getElem?_cons_zero, List.getElem?_cons_succ]
      exact ⟨rest, by simp, pre ++ [x], by simp [e], acc ++ [q], by simp [ha], hE, by simp, a5, b0, b1, gu2⟩
    · have hr3 : (if 0 ≤ x ∧ x < (l.length : Int) then someA l rest (acc ++ [l.getD x.toNat iz]) else ([], 3)).2 = 3 := by rw [if_neg hx]
      have g0' := g0
      rw [hBC] at g0'
      generalize intA fr0 = F at *
      by_cases hx1 : x < 0
      · simp -implicitDefEqProofs [hfr, q0, q3, q4, q5, q6, hlt, hpl, hwi, hg2, ml, hlen, hkb, hx1, g0', g1, hbad, hpo, show n ≤ n + 1 by omega, -getElem?_pos, List.getElem?_cons_zero, List.getElem?_cons_succ]
        exact kr _ _ (by simp [hfr]) (by simp [hfr, q4]) (e1 _) hr3
      · have hx2 : x ≥ (l.length : Int) := by omega
        have hx3 : (l.length : Int) ≤ x := by omega
        simp -implicitDefEqProofs [hfr, q0, q3, q4, q5, q6, hlt, hpl, hwi, hg2, ml, hlen, hkb, hx1, hx2, hx3, g0', g1, hbad, hpo, show n ≤ n + 1 by omega, -getElem?_pos, List.getElem?_cons_zero, List.getElem?_cons_succ]
        exact kr _ _ (by simp [hfr]) (by simp [hfr, q4]) (e1 _) hr3

end Go.Proofs.Ytgabnhmjlhhojaa.A
