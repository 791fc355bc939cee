/- The document's check: an end, and a sum. -/
import Derived.Test.YtgabnhmjlhhojaaU13
import Derived.Test.YtgabnhmjlhhojaaQ15
namespace Go.Proofs.Ytgabnhmjlhhojaa.A
open Go
set_option maxRecDepth 10000
set_option linter.unusedSimpArgs false
set_option linter.unusedVariables false
attribute [-simp] List.all_eq_true put slot_def ld idxA lenOf elems canA app hand add64A

theorem rchk_end (l : List Iq) (hl : l.length ≤ 1000000) (hL : ∀ q ∈ l, lok q.1 = true) (fr0 by0 : List Int) (hfr0 : fr0.length = 1) (dv k : Int) (ms : List (Int × Int)) (cs : List Cu) (o : List Obj) (v : AV) (hv : FsG o 3 v (l.map iqA)) (ro : Nat) (df : List Nat) :
    (D T).call 40 [v, .agg (Cu.mk 1 fr0 by0 dv k ms cs).cells] ⟨o, ro, df⟩ = some (.agg (gtA ([], endE l fr0)), ⟨o, ro, df⟩) := by
  have hcan := hv.can
  have e0 : ∀ e, gtA ([], e) = [.sl 1 [], .int .i64 e] := fun _ => rfl
  have hlen1 := someA_len l fr0 []
  have hmem := someA_mem l fr0 []
  have hb30 := fun o ro df => bad_eq 30 o ro df
  have hEE : endE l fr0 = if (someA l fr0 []).2 ≠ 0 then (someA l fr0 []).2 else if iabs ((someA l fr0 []).1.getD 0 iz) then 0 else 30 := rfl
  have l0 := fun BC hBC o1 Q fr => rchk_l0 l hl 1 (by omega) fr0 by0 (by omega) dv k ms (cs.map Cu.cells) v o o1 o.length rfl hv BC hBC Q fr
  generalize someA l fr0 [] = S at *
  obtain ⟨A, E⟩ := S
  simp only at hlen1 hmem hEE l0
  rw [e0]
  simp only [Cu.cells_mk]
  apply call_by (by exact rfl : T 40 = some _) (by simp)
  intro fr hfr hsl
  have s0 := hsl 0 _ rfl
  have s1 := hsl 1 _ rfl
  obtain ⟨BC, hBC⟩ : ∃ B, B = Obj.arr 29 7 [[.int .i64 1, .sl 1 (intA fr0), .sl 1 (intA by0), .int .i64 dv, .int .i64 k, .sl 2 (moA ms), .sl 7 (cs.map Cu.cells)]] := ⟨_, rfl⟩
  have l0 := l0 BC hBC
  simp -implicitDefEqProofs [hfr, s0, s1, ← hBC, get_base0, get_base, set_base0, set_base, -getElem?_pos, List.getElem?_cons_zero, List.getElem?_cons_succ]
  refine l0 _ _ _ (by simp [hfr]) (by simp [hfr, s0]) (by simp [hfr]) (by simp [hfr]) (by simp [hfr]) (by simp [hfr]) ⟨_, rfl⟩ (by rw [get_base0]; rfl) (by rw [get_base]; rfl) ?_ ?_
  rotate_left
  · clear hfr s0 s1 hsl l0
    clear fr
    intro fr o2 hfr q4 g1 h3
    rw [h3] at hEE
    rw [if_pos (by omega)] at hEE
    rw [hEE]
    simp -implicitDefEqProofs [hfr, q4, g1, -getElem?_pos, List.getElem?_cons_zero, List.getElem?_cons_succ]
  clear hfr s0 s1 hsl l0
  clear fr
  intro fr o2 u hfr q0 q3 q4 q5 hpre g0 g1 gu h0
  subst h0
  rw [if_neg (by simp)] at hEE
  have hl1 := hlen1 rfl
  have hpo := hpre.len
  have l1 := lt_of_getO g1
  have e1 : ∀ X, (o2.set (o.length + 1) X)[o.length + 1]? = some X := fun X => getO_set l1
  cases A with
  | nil => simp at hl1; omega
  | cons q A =>
    have hqm : q ∈ l := by rcases hmem q (by simp) with h | h; exact h; simp at h
    have hab := rabs_eq q (hL q hqm)
    have hA : (q :: A).getD 0 iz = q := rfl
    rw [hA] at hEE
    have hq2 : ((q :: A).map iqA)[0]? = some (iqA q) := rfl
    obtain ⟨p, p1, p2⟩ := (FsG.of_gr gu).at (Pre.refl o2) o.length [] hq2 rfl
    have p3 := p2 true
    simp only [val, if_true] at p3
    rw [show ((0 : Nat) : Int) = 0 by rfl] at p1
    have hQ : iqA q = [.int .i64 q.1.1, .sl 2 (moA q.1.2), .bool q.2] := rfl
    rw [hQ] at p3 hab
    rw [hBC] at g0
    generalize iabs q = b at *
    generalize moA q.1.2 = M2 at *
    generalize intA fr0 = F at *
    generalize intA by0 = B at *
    generalize moA ms = M at *
    generalize cs.map Cu.cells = C at *
    cases b with
    | true =>
      simp only [if_true] at hEE
      rw [hEE]
      simp -implicitDefEqProofs [hfr, q0, q3, q4, q5, g0, g1, p1, p3, hab, e1, hpo, show o.length ≤ o.length + 1 by omega, -getElem?_pos, List.getElem?_cons_zero, List.getElem?_cons_succ]
    | false =>
      simp only [Bool.false_eq_true, if_false] at hEE
      rw [hEE]
      simp -implicitDefEqProofs [hfr, q0, q3, q4, q5, g0, g1, p1, p3, hab, hb30, e1, hpo, show o.length ≤ o.length + 1 by omega, -getElem?_pos, List.getElem?_cons_zero, List.getElem?_cons_succ]

theorem rchk_sum (l : List Iq) (hl : l.length ≤ 1024) (hL : ∀ q ∈ l, LiOk q.1) (fr0 by0 : List Int) (hfr0 : fr0.length ≤ 1000000) (hb0 : by0.length ≤ 1000000) (hbi : ∀ x ∈ by0, inI64 x) (dv k : Int) (hdv : inI64 dv) (ms : List (Int × Int)) (c1 : Cu) (o : List Obj) (v : AV) (hv : FsG o 3 v (l.map iqA)) (R : List Int × Int)
    (hR : R = if (sumA l fr0 by0 dv).2 ≠ 0 then ([], (sumA l fr0 by0 dv).2) else ckC c1 (l ++ [(iSumP (someA l fr0 []).1 by0 dv).1]) [0])
    (hsub : (sumA l fr0 by0 dv).2 = 0 → ∀ (o' : List Obj) (ro : Nat) (df : List Nat), FsG o' 3 v (l.map iqA) → (D T).call 61 [v, .agg (iqA (iSumP (someA l fr0 []).1 by0 dv).1), .agg (Cu.mk 2 fr0 by0 dv k ms [c1]).cells, .int .i64 0] ⟨o', ro, df⟩ = some (.agg (gtA (ckC c1 (l ++ [(iSumP (someA l fr0 []).1 by0 dv).1]) [0])), ⟨o', ro, df⟩)) (ro : Nat) (df : List Nat) :
    (D T).call 40 [v, .agg (Cu.mk 2 fr0 by0 dv k ms [c1]).cells] ⟨o, ro, df⟩ = some (.agg (gtA R), ⟨o, ro, df⟩) := by
  have hcan := hv.can
  have hlen : lenOf v = some l.length := by simpa using hv.len
  have hlen1 := someA_len l fr0 []
  have hmem := someA_mem l fr0 []
  have hbad := fun e o ro df => bad_eq e o ro df
  have hSA : sumA l fr0 by0 dv = if (someA l fr0 []).2 ≠ 0 then ([], (someA l fr0 []).2) else if (iSumP (someA l fr0 []).1 by0 dv).2 ≠ 0 then ([], (iSumP (someA l fr0 []).1 by0 dv).2) else ([(iSumP (someA l fr0 []).1 by0 dv).1], fullE l) := rfl
  have l0 := fun BC hBC o1 Q fr => rchk_l0 l (by omega) 2 (by omega) fr0 by0 hfr0 dv k ms ([c1].map Cu.cells) v o o1 o.length rfl hv BC hBC Q fr
  generalize someA l fr0 [] = S at *
  obtain ⟨A, E⟩ := S
  generalize sumA l fr0 by0 dv = Z at *
  simp only at hlen1 hmem hSA l0 hR hsub
  simp only [Cu.cells_mk] at hsub ⊢
  have hRA : gtA R = [.sl 1 (intA R.1), .int .i64 R.2] := rfl
  have hRf := intA_flat R.1
  rw [hRA]
  apply call_by (by exact rfl : T 40 = some _) (by simp)
  intro fr hfr hsl
  have s0 := hsl 0 _ rfl
  have s1 := hsl 1 _ rfl
  obtain ⟨BC, hBC⟩ : ∃ B, B = Obj.arr 29 7 [[.int .i64 2, .sl 1 (intA fr0), .sl 1 (intA by0), .int .i64 dv, .int .i64 k, .sl 2 (moA ms), .sl 7 ([c1].map Cu.cells)]] := ⟨_, rfl⟩
  have lq := l0 BC hBC
  clear l0
  generalize [c1].map Cu.cells = C at *
  simp -implicitDefEqProofs [hfr, s0, s1, ← hBC, get_base0, get_base, set_base0, set_base, -getElem?_pos, List.getElem?_cons_zero, List.getElem?_cons_succ]
  refine lq _ _ _ (by simp [hfr]) (by simp [hfr, s0]) (by simp [hfr]) (by simp [hfr]) (by simp [hfr]) (by simp [hfr]) ⟨_, rfl⟩ (by rw [get_base0]; rfl) (by rw [get_base]; rfl) ?_ ?_
  rotate_left
  · clear hfr s0 s1 hsl lq
    clear fr
    intro fr o2 hfr q4 g1 h3
    rw [if_pos (by omega)] at hSA
    subst hSA
    rw [if_pos (by simp; omega)] at hR
    subst hR
    have e0 : intA [] = [] := rfl
    simp -implicitDefEqProofs [hfr, q4, g1, e0, h3, -getElem?_pos, List.getElem?_cons_zero, List.getElem?_cons_succ]
  clear hfr s0 s1 hsl lq
  clear fr
  intro fr o2 u hfr q0 q3 q4 q5 hpre g0 g1 gu h0
  subst h0
  rw [if_neg (by simp)] at hSA
  have hl1 := hlen1 rfl
  have hpo := hpre.len
  have l1 := lt_of_getO g1
  have hS := rsum_eq A by0 dv (fun q hq => hL q (by rcases hmem q hq with h | h; exact h; simp at h)) hbi (by simp at hl1; omega) hb0 hdv.2 o2 u (.of_gr gu) o.length []
  have hcu : canA u = u := (gr_ls gu).can
  have hvp : ∀ Y, FsG (o2 ++ [Y]) 3 v (l.map iqA) := fun Y => (hv.pre hpre).push _
  generalize iSumP A by0 dv = U at *
  obtain ⟨q, E2⟩ := U
  simp only at hS hSA hR hsub
  have hQ : iqA q = [.int .i64 q.1.1, .sl 2 (moA q.1.2), .bool q.2] := rfl
  rw [hQ] at hS hsub
  have gb1 : ∀ Y, (o2 ++ [Y])[o.length + 1]? = some (.arr 41 2 [[.fsl 1 [], .int .i64 0]]) := fun Y => getO_push g1 _
  have gb0 : ∀ Y, (o2 ++ [Y])[o.length]? = some BC := fun Y => getO_push g0 _
  have e1 : ∀ Y X, ((o2 ++ [Y]).set (o.length + 1) X)[o.length + 1]? = some X := fun Y X => getO_set (by simp; omega)
  have e0 : intA [] = [] := rfl
  by_cases c2 : E2 = 0
  rotate_left
  · have c2b : (E2 != 0) = true := by simpa using c2
    rw [if_pos c2] at hSA
    subst hSA
    rw [if_pos (by simpa using c2)] at hR
    subst hR
    rw [hBC] at g0 gb0
    simp only [e0]
    generalize moA q.1.2 = M2 at *
    generalize intA fr0 = F at *
    generalize intA by0 = B at *
    generalize moA ms = M at *
    simp -implicitDefEqProofs [hfr, q0, q3, q4, q5, g0, gb0, gb1, hcu, hS, c2b, hbad, e1, hpo, setO_last, getO_last, show o.length ≤ o.length + 1 by omega, -getElem?_pos, List.getElem?_cons_zero, List.getElem?_cons_succ]
  subst c2
  rw [if_neg (by simp)] at hSA
  subst hSA
  by_cases c3 : 1024 ≤ l.length
  · have hF : fullE l = 2 := by unfold fullE; rw [if_pos c3]
    rw [hF, if_pos (by simp)] at hR
    subst hR
    have c3' : (l.length : Int) ≥ 1024 := by omega
    have c3'' : (1024 : Int) ≤ l.length := by omega
    rw [hBC] at g0 gb0
    simp only [e0]
    generalize moA q.1.2 = M2 at *
    generalize intA fr0 = F at *
    generalize intA by0 = B at *
    generalize moA ms = M at *
    simp -implicitDefEqProofs [hfr, q0, q3, q4, q5, g0, gb0, gb1, hcu, hlen, hS, c3', c3'', hbad, e1, hpo, setO_last, getO_last, show o.length ≤ o.length + 1 by omega, -getElem?_pos, List.getElem?_cons_zero, List.getElem?_cons_succ]
  · have hF : fullE l = 0 := by unfold fullE; rw [if_neg c3]
    rw [hF, if_neg (by simp)] at hR
    have hsub := hsub hF
    rw [← hR] at hsub
    rw [hRA] at hsub
    have c3'' : ¬ (1024 : Int) ≤ l.length := by omega
    have hsub2 := fun Y => hsub (o2 ++ [Y]) o.length [] (hvp Y)
    clear hR
    rw [hBC] at g0 gb0
    generalize intA R.1 = RW at *
    generalize moA q.1.2 = M2 at *
    generalize intA fr0 = F at *
    generalize intA by0 = B at *
    generalize moA ms = M at *
    simp -implicitDefEqProofs [hfr, q0, q3, q4, q5, g0, gb0, gb1, hcu, hcan, hlen, hS, c3'', hsub2, hRf, e1, hpo, setO_last, getO_last, show o.length ≤ o.length + 1 by omega, -getElem?_pos, List.getElem?_cons_zero, List.getElem?_cons_succ]

end Go.Proofs.Ytgabnhmjlhhojaa.A
/- The document's check: a split; the whole. -/
namespace Go.Proofs.Ytgabnhmjlhhojaa.A
open Go
set_option maxRecDepth 10000
set_option linter.unusedSimpArgs false
set_option linter.unusedVariables false
attribute [-simp] List.all_eq_true put slot_def ld idxA lenOf elems canA app hand add64A

theorem rchk_l3 (fr0 by0 : List Int) (dv k : Int) (ms : List (Int × Int)) (C : List (List AV)) (v : AV) (o1 : List Obj) (n : Nat) (BC : Obj)
    (hBC : BC = .arr 29 7 [[.int .i64 3, .sl 1 (intA fr0), .sl 1 (intA by0), .int .i64 dv, .int .i64 k, .sl 2 (moA ms), .sl 7 C]]) (Q : AE → List AV → St → Prop) (fr : List AV) (hfr : fr.length = 120)
    (q0 : slot fr 0 = v) (q3 : slot fr 3 = .ptr n 0 0) (q4 : slot fr 4 = .ptr (n + 1) 0 0) (q6 : slot fr 6 = .int .i64 0) (g0 : o1[n]? = some BC)
    (kk : ∀ (fr' : List AV), fr'.length = 120 → slot fr' 0 = v → slot fr' 3 = .ptr n 0 0 → slot fr' 4 = .ptr (n + 1) 0 0 → Q (.exit 0) fr' ⟨o1, n, []⟩) :
    ∃ e fr' st', (D T).loop false L40_0 fr ⟨o1, n, []⟩ = some (e, fr', st') ∧ Q e fr' st' := by
  apply loop_inv L40_0.eq_1 (fun _ : Unit => 0) (fun _ fr st => fr.length = 120 ∧ slot fr 0 = v ∧ slot fr 3 = .ptr n 0 0 ∧ slot fr 4 = .ptr (n + 1) 0 0 ∧ slot fr 6 = .int .i64 0 ∧ st = ⟨o1, n, []⟩) ?_ () ⟨hfr, q0, q3, q4, q6, rfl⟩
  clear hfr q0 q3 q4 q6
  clear fr
  rintro _ fr _ ⟨hfr, q0, q3, q4, q6, rfl⟩
  subst hBC
  generalize intA fr0 = F at *
  cases F with
  | nil =>
    simp -implicitDefEqProofs [hfr, q0, q3, q4, q6, g0, -getElem?_pos, List.getElem?_cons_zero, List.getElem?_cons_succ]
    exact kk _ (by simp [hfr]) (by simp [hfr, q0]) (by simp [hfr, q3]) (by simp [hfr, q4])
  | cons a F =>
    have h1 : (0 : Int) < (F.length : Int) + 1 := by omega
    simp -implicitDefEqProofs [hfr, q0, q3, q4, q6, g0, h1, -getElem?_pos, List.getElem?_cons_zero, List.getElem?_cons_succ]
    exact kk _ (by simp [hfr]) (by simp [hfr, q0]) (by simp [hfr, q3]) (by simp [hfr, q4])

theorem rchk_split (l : List Iq) (hl : l.length ≤ 1024) (fr0 by0 : List Int) (dv k : Int) (ms : List (Int × Int)) (hm : LiOk (k, ms)) (c1 c2 : Cu) (o : List Obj) (v : AV) (hv : FsG o 3 v (l.map iqA)) (R : List Int × Int)
    (hR : R = if (splitA l k ms).2 ≠ 0 then ([], (splitA l k ms).2) else if (ckC c1 (l ++ [((k, ms), false)]) [0]).2 ≠ 0 then ckC c1 (l ++ [((k, ms), false)]) [0] else ckC c2 (l ++ [(inotP ((k, ms), false)).1]) [1])
    (hsub1 : (splitA l k ms).2 = 0 → ∀ (o' : List Obj) (ro : Nat) (df : List Nat), FsG o' 3 v (l.map iqA) → (D T).call 61 [v, .agg (iqA ((k, ms), false)), .agg (Cu.mk 3 fr0 by0 dv k ms [c1, c2]).cells, .int .i64 0] ⟨o', ro, df⟩ = some (.agg (gtA (ckC c1 (l ++ [((k, ms), false)]) [0])), ⟨o', ro, df⟩))
    (hsub2 : (splitA l k ms).2 = 0 → ∀ (o' : List Obj) (ro : Nat) (df : List Nat), FsG o' 3 v (l.map iqA) → (D T).call 61 [v, .agg (iqA (inotP ((k, ms), false)).1), .agg (Cu.mk 3 fr0 by0 dv k ms [c1, c2]).cells, .int .i64 1] ⟨o', ro, df⟩ = some (.agg (gtA (ckC c2 (l ++ [(inotP ((k, ms), false)).1]) [1])), ⟨o', ro, df⟩)) (ro : Nat) (df : List Nat) :
    (D T).call 40 [v, .agg (Cu.mk 3 fr0 by0 dv k ms [c1, c2]).cells] ⟨o, ro, df⟩ = some (.agg (gtA R), ⟨o, ro, df⟩) := by
  have hcan := hv.can
  have hlen : lenOf v = some l.length := by simpa using hv.len
  have hbad := fun e o ro df => bad_eq e o ro df
  have hSA : splitA l k ms = if lrE (k, ms) ≠ 0 then ([], 1) else if (inotP ((k, ms), false)).2 ≠ 0 then ([], (inotP ((k, ms), false)).2) else ([((k, ms), false), (inotP ((k, ms), false)).1], fullE l) := rfl
  have hF := fun o ro df => form_eq (k, ms) (by have h9 : ms.length ≤ 1000000 := hm.2.2; show ms.length ≤ _; omega) o ro df
  have hlr : lrE (k, ms) = if lok (k, ms) then 0 else 1 := rfl
  have hN := fun o ro df => rnot_eq ((k, ms), false) hm o ro df
  rw [rnot_inot _ hm.1] at hN
  have hvp : ∀ m, FsG (o ++ m) 3 v (l.map iqA) := fun m => hv.push _
  have hRA : gtA R = [.sl 1 (intA R.1), .int .i64 R.2] := rfl
  have hRf := intA_flat R.1
  have l0 := fun C o1 BC hBC Q fr => rchk_l3 fr0 by0 dv k ms C v o1 o.length BC hBC Q fr
  have hL : liA (k, ms) = [.int .i64 k, .sl 2 (moA ms)] := rfl
  have hQ1 : iqA ((k, ms), false) = [.int .i64 k, .sl 2 (moA ms), .bool false] := rfl
  generalize splitA l k ms = Z at *
  generalize lrE (k, ms) = LE at *
  generalize lok (k, ms) = LK at *
  generalize hU : inotP ((k, ms), false) = U at *
  obtain ⟨q, E2⟩ := U
  simp only at hSA hR hsub1 hsub2 hN
  have hQ : iqA q = [.int .i64 q.1.1, .sl 2 (moA q.1.2), .bool q.2] := rfl
  rw [hQ1] at hsub1 hN
  rw [hQ] at hsub2 hN
  rw [hL] at hF
  rw [hRA]
  simp only [Cu.cells_mk] at hsub1 hsub2 ⊢
  have e0 : intA [] = [] := rfl
  apply call_by (by exact rfl : T 40 = some _) (by simp)
  intro fr hfr hsl
  have s0 := hsl 0 _ rfl
  have s1 := hsl 1 _ rfl
  have lq := l0 ([c1, c2].map Cu.cells)
  clear l0
  obtain ⟨C, hC⟩ : ∃ C, C = [c1, c2].map Cu.cells := ⟨_, rfl⟩
  rw [← hC] at hsub1 hsub2 s1 lq
  generalize intA fr0 = F at *
  generalize intA by0 = B at *
  generalize moA q.1.2 = M2 at *
  generalize moA ms = M at *
  simp -implicitDefEqProofs [hfr, s0, s1, get_base0, get_base, set_base0, set_base, -getElem?_pos, List.getElem?_cons_zero, List.getElem?_cons_succ]
  refine lq _ _ rfl _ _ (by simp [hfr]) (by simp [hfr, s0]) (by simp [hfr]) (by simp [hfr]) (by simp [hfr]) (by rw [get_base0]; rfl) ?_
  clear hfr s0 s1 hsl lq
  clear fr
  intro fr hfr q0 q3 q4
  cases LK with
  | false =>
    simp only [Bool.false_eq_true, if_false] at hlr
    subst hlr
    rw [if_pos (by simp)] at hSA
    subst hSA
    rw [if_pos (by simp)] at hR
    subst hR
    simp only [e0]
    simp -implicitDefEqProofs [hfr, q0, q3, q4, hF, hbad, get_base0, get_base, set_base0, set_base, -getElem?_pos, List.getElem?_cons_zero, List.getElem?_cons_succ]
  | true =>
    simp only [if_true] at hlr
    subst hlr
    rw [if_neg (by simp)] at hSA
    by_cases c2 : E2 = 0
    rotate_left
    · have c2b : (E2 != 0) = true := by simpa using c2
      rw [if_pos c2] at hSA
      subst hSA
      rw [if_pos (by simpa using c2)] at hR
      subst hR
      simp only [e0]
      simp -implicitDefEqProofs [hfr, q0, q3, q4, hF, hN, c2b, hbad, get_base0, get_base, set_base0, set_base, -getElem?_pos, List.getElem?_cons_zero, List.getElem?_cons_succ]
    subst c2
    rw [if_neg (by simp)] at hSA
    subst hSA
    by_cases c3 : 1024 ≤ l.length
    · have hFu : fullE l = 2 := by unfold fullE; rw [if_pos c3]
      rw [hFu, if_pos (by simp)] at hR
      subst hR
      have c3' : (l.length : Int) ≥ 1024 := by omega
      have c3'' : (1024 : Int) ≤ l.length := by omega
      simp only [e0]
      simp -implicitDefEqProofs [hfr, q0, q3, q4, hF, hN, hlen, c3', c3'', hbad, get_base0, get_base, set_base0, set_base, -getElem?_pos, List.getElem?_cons_zero, List.getElem?_cons_succ]
    · have hFu : fullE l = 0 := by unfold fullE; rw [if_neg c3]
      rw [hFu, if_neg (by simp)] at hR
      have hsub1 := fun m => hsub1 hFu (o ++ m) o.length [] (hvp m)
      have hsub2 := fun m => hsub2 hFu (o ++ m) o.length [] (hvp m)
      have c3'' : ¬ (1024 : Int) ≤ l.length := by omega
      have hG : ∀ r : List Int × Int, gtA r = [.sl 1 (intA r.1), .int .i64 r.2] := fun _ => rfl
      rw [hG] at hsub1 hsub2
      generalize ckC c1 (l ++ [((k, ms), false)]) [0] = X1 at *
      generalize ckC c2 (l ++ [q]) [1] = X2 at *
      by_cases c4 : X1.2 = 0
      · have c4b : (X1.2 == 0) = true := by simpa using c4
        rw [if_neg (by simpa using c4)] at hR
        subst hR
        rw [c4] at hsub1
        generalize intA X1.1 = W1 at *
        generalize intA R.1 = W2 at *
        simp -implicitDefEqProofs [hfr, q0, q3, q4, hF, hN, hcan, hlen, c3'', hsub1, hsub2, hRf, get_base0, get_base, set_base0, set_base, -getElem?_pos, List.getElem?_cons_zero, List.getElem?_cons_succ]
      · have c4b : (X1.2 == 0) = false := by simpa using c4
        rw [if_pos c4] at hR
        subst hR
        generalize intA R.1 = W2 at *
        simp -implicitDefEqProofs [hfr, q0, q3, q4, hF, hN, hcan, hlen, c3'', hsub1, hRf, c4b, get_base0, get_base, set_base0, set_base, -getElem?_pos, List.getElem?_cons_zero, List.getElem?_cons_succ]

end Go.Proofs.Ytgabnhmjlhhojaa.A
/- cuts.Check. -/
namespace Go.Proofs.Ytgabnhmjlhhojaa.A
open Go
set_option maxRecDepth 10000
set_option linter.unusedSimpArgs false
set_option linter.unusedVariables false
attribute [-simp] List.all_eq_true put slot_def ld idxA lenOf elems canA app hand slc add64A

theorem ck1_eq (q : Iq) (hl : q.1.2.length ≤ 9223372036854775807) (o : List Obj) (ro : Nat) (df : List Nat) :
    (D T).call 36 [.agg (iqA q)] ⟨o, ro, df⟩ = some (.bool (!lok q.1), ⟨o, ro, df⟩) := by
  have h := fun o ro df => iRight_eq q hl o ro df
  have hE : (lrE q.1 != 0) = !lok q.1 := by unfold lrE; cases lok q.1 <;> rfl
  rw [← hE]
  generalize lrE q.1 = E at *
  have hQ : iqA q = [.int .i64 q.1.1, .sl 2 (moA q.1.2), .bool q.2] := rfl
  rw [hQ] at h ⊢
  generalize moA q.1.2 = M at *
  apply call_by (by exact rfl : T 36 = some _) (by simp)
  intro fr hfr hsl
  have s0 := hsl 0 _ rfl
  simp -implicitDefEqProofs [hfr, s0, h, get_base0, -getElem?_pos, List.getElem?_cons_zero]

/-- what a cut comes to -/
def rtC (c : Cu) : Int := if 1024 < cdp c then 6 else if 4096 < csz c then 2 else pe c
def ckT (l : List Iq) (c : Cu) : List Int × Int :=
  if 1024 < l.length then ([], 2) else if (l.any fun q => !lok q.1) = true then ([], 1) else if rtC c ≠ 0 then ([], rtC c) else ckC c l []

theorem cCheck_eq (l : List Iq) (hl : l.length ≤ 1000000) (hL : ∀ q ∈ l, LiOk q.1) (c : Cu) (hok : c.ok) (hsm : c.sm) (hs : csz c ≤ 1000000) (v : AV) (o : List Obj) (hv : Fs o v (l.map iqA)) (ro : Nat) (df : List Nat) :
    (D T).call 19 [v, .agg c.cells] ⟨o, ro, df⟩ = some (.tup [.sl 1 (intA (ckT l c).1), .int .i64 (ckT l c).2], ⟨o, ro, df⟩) := by
  have hlen : lenOf v = some l.length := by simpa using hv.ls.len
  have hcv : canA v = v := hv.ls.can
  have y1 := cu_take c
  have y2 := cu_can c
  have y3 := culen c
  have y4 := cu_one c
  have hR := fun o ro df => cRight_eq c hok hs o ro df
  have hRc : (if 1024 < cdp c then (6 : Int) else if 4096 < csz c then 2 else pe c) = rtC c := rfl
  simp only [hRc, Cu.av] at hR
  have hany := fun m ro df => hasIq_eq iqA (fun q : Iq => !lok q.1) l (by omega) 36 [] [] (o ++ m) v ro df (hv.lsp m) (fun _ _ => rfl) (fun _ _ => rfl) (fun q hq ro df => ck1_eq q (by have := (hL q hq).2.2; omega) _ ro df)
  have hE : ckT l c = if 1024 < l.length then ([], 2) else if (l.any fun q => !lok q.1) = true then ([], 1) else if rtC c ≠ 0 then ([], rtC c) else ckC c l [] := rfl
  generalize ckT l c = R at *
  generalize (l.any fun q => !lok q.1) = an at *
  have e0 : intA [] = [] := rfl
  apply call_by (by exact rfl : T 19 = some _) (by simp)
  intro fr hfr hsl
  have s0 := hsl 0 _ rfl
  have s1 := hsl 1 _ rfl
  by_cases h1 : 1024 < l.length
  · rw [if_pos h1] at hE
    subst hE
    have h2 : (1024 : Int) < l.length := by omega
    simp -implicitDefEqProofs [hfr, s0, s1, hlen, h2, h1, y1, y2, y3, y4, e0, get_base0, -getElem?_pos, List.getElem?_cons_zero, List.getElem?_cons_succ]
  rw [if_neg h1] at hE
  have h2 : ¬ (1024 : Int) < l.length := by omega
  cases an with
  | true =>
    rw [if_pos rfl] at hE
    subst hE
    simp -implicitDefEqProofs [hfr, s0, s1, hlen, hcv, h2, h1, hany, y1, y2, y3, y4, e0, get_base0, -getElem?_pos, List.getElem?_cons_zero, List.getElem?_cons_succ]
  | false =>
    rw [if_neg (by simp)] at hE
    by_cases h3 : rtC c = 0
    · rw [if_neg (by simpa using h3)] at hE
      rw [h3] at hR
      have hpe : pe c = 0 := by
        unfold rtC at h3
        split at h3
        · simp at h3
        · split at h3
          · simp at h3
          · exact h3
      have hdc := cdp_csz c
      obtain ⟨v', k1, k2⟩ := chk_eq c hok hsm hpe l (by omega) hL v (.fsl 1 []) [] (o ++ [Obj.arr 29 7 [c.cells]]) o.length [] (hv.push _) (.inl ⟨rfl, rfl⟩) (by simp; omega)
      rw [← hE] at k1 k2
      have hf := intA_flat R.1
      rcases k2 with rfl | ⟨rfl, k2⟩
      · simp -implicitDefEqProofs [hfr, s0, s1, hlen, hcv, h2, h1, hany, hR, k1, y1, y2, y3, y4, hf, get_base0, -getElem?_pos, List.getElem?_cons_zero, List.getElem?_cons_succ]
      · rw [← k2, e0]
        simp -implicitDefEqProofs [hfr, s0, s1, hlen, hcv, h2, h1, hany, hR, k1, y1, y2, y3, y4, hf, get_base0, -getElem?_pos, List.getElem?_cons_zero, List.getElem?_cons_succ]
    · rw [if_pos h3] at hE
      subst hE
      have h3b : (rtC c != 0) = true := bne_iff_ne.2 h3
      simp -implicitDefEqProofs [hfr, s0, s1, hlen, hcv, h2, h1, hany, hR, h3b, y1, y2, y3, y4, e0, get_base0, -getElem?_pos, List.getElem?_cons_zero, List.getElem?_cons_succ]

end Go.Proofs.Ytgabnhmjlhhojaa.A
