/- lin.Eval, ineq.Holds and ineq.All. -/
import Derived.Test.YtgabnhmjlhhojaaQ16
namespace Go.Proofs.Ytgabnhmjlhhojaa.A
open Go
set_option maxRecDepth 10000
set_option linter.unusedSimpArgs false
set_option linter.unusedVariables false
attribute [-simp] List.all_eq_true put slot_def ld idxA lenOf elems canA app hand slc add64A

def accE (x : List Int) : List (Int × Int) → Int → Int
  | [], a => a
  | m :: l, a => accE x l (if m.1 < x.length then a + m.2 * x.getD m.1.toNat 0 else a)
theorem accE_bd (x : List Int) (hx : ∀ n ∈ x, inI64 n) : ∀ (l : List (Int × Int)) (a B : Int), (∀ m ∈ l, inI64 m.2) → -B ≤ a ∧ a ≤ B → -(B + l.length * DD) ≤ accE x l a ∧ accE x l a ≤ B + l.length * DD
  | [], a, B, hm, h => by simpa [accE] using h
  | m :: l, a, B, hm, h => by
    have hd : DD = 85070591730234615865843651857942052864 := rfl
    have hg : inI64 (x.getD m.1.toNat 0) := by
      rw [List.getD_eq_getElem?_getD]
      rcases hh : x[m.1.toNat]? with _ | z
      · simp [inI64]
      · exact hx z (List.mem_of_getElem? hh)
    have hp := prod_rng (hm m (by simp)) hg
    have e : ((m :: l).length : Int) * DD = DD + l.length * DD := by simp [Int.add_mul]; omega
    simp only [accE]
    have ih := accE_bd x hx l (if m.1 < x.length then a + m.2 * x.getD m.1.toNat 0 else a) (B + DD) (fun k hk => hm k (by simp [hk])) (by split <;> omega)
    omega

def evP (l : Li) (x : List Int) : Int × Int := if lok l = true then (if inI64 (accE x l.2 l.1) then (accE x l.2 l.1, 0) else (0, 5)) else (0, 1)

theorem eval_l0 (ms : List (Int × Int)) (hl : ms.length ≤ 1000000) (hm : ∀ m ∈ ms, 0 ≤ m.1 ∧ inI64 m.2) (x : List Int) (hx : ∀ n ∈ x, inI64 n) (a : Int) (o o1 : List Obj) (w : AV) (hw : Ls o 1 w (intA x)) (hpre : Pre o o1) (g1 : o1[o.length + 1]? = some (.arr 108 3 [s3 a])) (Q : AE → List AV → St → Prop) (fr : List AV) (hfr : fr.length = 46)
    (q1 : slot fr 1 = w) (q6 : slot fr 6 = .ptr (o.length + 1) 0 0) (q19 : slot fr 19 = .sl 2 (moA ms)) (q20 : slot fr 20 = .int .i64 (ms.length : Int)) (q21 : slot fr 21 = .int .i64 0)
    (kk : ∀ (fr' : List AV) (o2 : List Obj), fr'.length = 46 → slot fr' 6 = .ptr (o.length + 1) 0 0 → o2[o.length + 1]? = some (.arr 108 3 [s3 (accE x ms a)]) → Q (.exit 0) fr' ⟨o2, o.length, []⟩) :
    ∃ e fr' st', (D T).loop false L63_0 fr ⟨o1, o.length, []⟩ = some (e, fr', st') ∧ Q e fr' st' := by
  have hlenw : lenOf w = some x.length := by simpa [intA_len] using hw.len
  apply loop_inv L63_0.eq_1 List.length (fun (rest : List (Int × Int)) fr st => ∃ pre o2, ∃ b : Int, ms = pre ++ rest ∧ accE x ms a = accE x rest b ∧ fr.length = 46 ∧ slot fr 1 = w ∧ slot fr 6 = .ptr (o.length + 1) 0 0 ∧ slot fr 19 = .sl 2 (moA ms) ∧ slot fr 20 = .int .i64 (ms.length : Int) ∧ slot fr 21 = .int .i64 (pre.length : Int) ∧
    st = ⟨o2, o.length, []⟩ ∧ Pre o o2 ∧ o2[o.length + 1]? = some (.arr 108 3 [s3 b])) ?_ ms
    ⟨[], o1, a, rfl, rfl, hfr, q1, q6, q19, q20, q21, rfl, hpre, g1⟩
  clear hfr q1 q6 q19 q20 q21 hpre g1
  clear fr o1
  rintro rest fr _ ⟨pre, o2, b, e, hE, hfr, q1, q6, q19, q20, q21, rfl, hpre, g1⟩
  rw [hE] at kk
  cases rest with
  | nil =>
    have hlt := idx_end e
    simp -implicitDefEqProofs [hfr, q1, q6, q19, q20, q21, hlt]
    exact kk _ o2 (by simp [hfr]) (by simp [hfr, q6]) g1
  | cons y rest =>
    obtain ⟨hlt, hg, hpl⟩ := idx_at e
    have hwi := idx_next e (by omega)
    obtain ⟨y0, yi⟩ := hm y (by simp [e])
    have hg2 : (moA ms)[pre.length]? = some [.int .i64 y.1, .int .i64 y.2] := by simp [moA, hg]
    have ml := moA_len ms
    obtain ⟨y1, y2⟩ := y
    simp only [accE] at hE y0 yi hg2
    have hpo := hpre.len
    have l1 := lt_of_getO g1
    obtain ⟨Y, hY⟩ : ∃ Y, Y = Obj.arr 62 2 [[.int .i64 y1, .int .i64 y2]] := ⟨_, rfl⟩
    have hpre2 := hpre.push [Y]
    have gY2 : (o2 ++ [Y])[o2.length]? = some Y := by simp
    have g1b : (o2 ++ [Y])[o.length + 1]? = some (.arr 108 3 [s3 b]) := getO_push g1 _
    by_cases hc : y1 < x.length
    · rw [if_pos hc] at hE
      obtain ⟨z, hz⟩ : ∃ z, x[y1.toNat]? = some z := ⟨x[y1.toNat]'(by omega), by simp [show y1.toNat < x.length by omega]⟩
      have hzg : x.getD y1.toNat 0 = z := by rw [List.getD_eq_getElem?_getD, hz]; rfl
      have hzi : inI64 z := hx z (List.mem_of_getElem? hz)
      rw [hzg] at hE
      have hz2 : (intA x)[y1.toNat]? = some [.int .i64 z] := by simp [intA, hz]
      obtain ⟨p, p1, p2⟩ := hw.at hpre2 o.length [] hz2 rfl
      have p3 := p2 false
      simp only [val, Bool.false_eq_true, if_false] at p3
      rw [show ((y1.toNat : Nat) : Int) = y1 by omega] at p1
      have hadd := add_eq (o2 ++ [Y]) (o.length + 1) 108 3 [] [] b y2 z o.length [] (by simpa using g1b) (by omega) yi hzi
      have hS : [] ++ (s3 (b + y2 * z) ++ []) = s3 (b + y2 * z) := by simp
      rw [hS] at hadd
      have hZ : ([] : List AV).length = 0 := rfl
      rw [hZ] at hadd
      have n1 : ∀ X : Obj, ((o2 ++ [Y]).set (o.length + 1) X)[o.length + 1]? = some X := fun X => by rw [getO_set (by simp; omega)]
      have npre : ∀ X, Pre o ((o2 ++ [Y]).set (o.length + 1) X) := fun X => hpre2.set (by omega) _
      generalize moA ms = M at *
      subst hY
      simp -implicitDefEqProofs [hfr, q1, q6, q19, q20, q21, hlt, hwi, hpl, hg2, ml, hlenw, hc, p1, p3, hadd, gY2, hpo, setO_last, getO_last, -getElem?_pos, List.getElem?_cons_zero, List.getElem?_cons_succ]
      exact ⟨rest, by simp, pre ++ [(y1, y2)], by simp [e], _, _, hE, by simp, rfl, npre _, n1 _⟩
    · rw [if_neg hc] at hE
      generalize moA ms = M at *
      subst hY
      simp -implicitDefEqProofs [hfr, q1, q6, q19, q20, q21, hlt, hwi, hpl, hg2, ml, hlenw, hc, gY2, hpo, setO_last, getO_last, -getElem?_pos, List.getElem?_cons_zero, List.getElem?_cons_succ]
      exact ⟨rest, by simp, pre ++ [(y1, y2)], by simp [e], _, b, hE, by simp, rfl, hpre2, g1b⟩

theorem eval_eq (l : Li) (hl : LiOk l) (x : List Int) (hx : ∀ n ∈ x, inI64 n) (o : List Obj) (w : AV) (hw : Ls o 1 w (intA x)) (ro : Nat) (df : List Nat) :
    (D T).call 63 [.agg (liA l), w] ⟨o, ro, df⟩ = some (.tup [.int .i64 (evP l x).1, .int .i64 (evP l x).2], ⟨o, ro, df⟩) := by
  have hcanw := hw.can
  have hd : DD = 85070591730234615865843651857942052864 := rfl
  have hr := fun o ro df => lright_eq [l] (by simp) (by simp; have := hl.2.2; omega) o (.fsl 2 [liA l]) ro df (by simpa using ls_fsl _)
  have hP : evP l x = if lok l = true then (if inI64 (accE x l.2 l.1) then (accE x l.2 l.1, 0) else (0, 5)) else (0, 1) := rfl
  have hal : [l].all lok = lok l := by simp
  rw [hal] at hr
  have hr2 : lok l = true → ∀ m ∈ l.2, 0 ≤ m.1 ∧ m.1 < 64 := fun h => lrt_rng _ _ (by omega) h
  generalize evP l x = R at *
  generalize lok l = ok at *
  obtain ⟨k, ms⟩ := l
  obtain ⟨h1, h2, h3⟩ := hl
  simp only at h1 h2 h3 hP hr2
  have hbd := accE_bd x hx ms k 9223372036854775808 (fun m hm => (h2 m hm).2) (by unfold inI64 at h1; omega)
  have hb2 : (ms.length : Int) * DD ≤ 1000000 * DD := Int.mul_le_mul_of_nonneg_right (by omega) (by omega)
  have hL : liA (k, ms) = [.int .i64 k, .sl 2 (moA ms)] := rfl
  rw [hL] at hr ⊢
  have hz : s3 0 = [.int .u64 0, .int .u64 0, .int .u64 0] := rfl
  have hadd := fun X => add_eq (o ++ [X, .arr 108 3 [s3 0]]) (o.length + 1) 108 3 [] [] 0 k 1 o.length [] (by simp [get_base]) (by omega) h1 (by simp [inI64])
  have hS : [] ++ (s3 (0 + k * 1) ++ []) = s3 k := by simp
  have hZ : ([] : List AV).length = 0 := rfl
  simp only [hS, hZ] at hadd
  rw [hz] at hadd
  have ml := moA_len ms
  apply call_by (by exact rfl : T 63 = some _) (by simp)
  intro fr hfr hsl
  have s0 := hsl 0 _ rfl
  have s1 := hsl 1 _ rfl
  obtain ⟨M, hM⟩ : ∃ M, M = moA ms := ⟨_, rfl⟩
  rw [← hM] at hr ml s0
  cases ok with
  | false =>
    rw [if_neg (by simp)] at hP
    subst hP
    simp -implicitDefEqProofs [hfr, s0, s1, hr, get_base0, -getElem?_pos, List.getElem?_cons_zero, List.getElem?_cons_succ]
  | true =>
    rw [if_pos rfl] at hP
    have hr2 := hr2 rfl
    simp -implicitDefEqProofs [hfr, s0, s1, hr, hadd, ml, get_base0, get_base, set_base0, set_base, -getElem?_pos, List.getElem?_cons_zero, List.getElem?_cons_succ]
    refine eval_l0 ms h3 (fun m hm => ⟨(hr2 m hm).1, (h2 m hm).2⟩) x hx k o _ w hw ⟨_, rfl⟩ (by rw [get_base]; rfl) _ _ (by simp [hfr]) (by simp [hfr, s1]) (by simp [hfr]) (by simp [hfr, hM]) (by simp [hfr]) (by simp [hfr]) ?_
    clear hfr s0 s1 hsl
    clear fr
    intro fr o2 hfr q6 g1
    have hfK := fits_eq o2 (o.length + 1) 108 3 [] [] (accE x ms k) o.length [] (by simpa using g1) ⟨by omega, by omega⟩
    rw [hZ] at hfK
    by_cases hi : inI64 (accE x ms k)
    · rw [if_pos hi] at hP hfK
      subst hP
      simp -implicitDefEqProofs [hfr, q6, hfK, hi]
    · rw [if_neg hi] at hP hfK
      subst hP
      simp -implicitDefEqProofs [hfr, q6, hfK, hi]

end Go.Proofs.Ytgabnhmjlhhojaa.A
/- ineq.Holds and ineq.All; law28.Short. -/
namespace Go.Proofs.Ytgabnhmjlhhojaa.A
open Go
set_option maxRecDepth 10000
set_option linter.unusedSimpArgs false
set_option linter.unusedVariables false
attribute [-simp] List.all_eq_true put slot_def ld idxA lenOf elems canA app hand slc add64A

def hldP (q : Iq) (x : List Int) : Bool × Int :=
  if lrE q.1 ≠ 0 then (false, lrE q.1) else if (evP q.1 x).2 ≠ 0 then (false, (evP q.1 x).2) else ((evP q.1 x).1 == 0 || (decide ((evP q.1 x).1 < 0) && !q.2), 0)
theorem holds_eq (q : Iq) (hl : LiOk q.1) (x : List Int) (hx : ∀ n ∈ x, inI64 n) (o : List Obj) (w : AV) (hw : Ls o 1 w (intA x)) (ro : Nat) (df : List Nat) :
    (D T).call 46 [.agg (iqA q), w] ⟨o, ro, df⟩ = some (.tup [.bool (hldP q x).1, .int .i64 (hldP q x).2], ⟨o, ro, df⟩) := by
  have hcanw := hw.can
  have h1 := fun o ro df => iRight_eq q (by have := hl.2.2; omega) o ro df
  have h2 := fun m ro df => eval_eq q.1 hl x hx (o ++ m) w (hw.pre ⟨m, rfl⟩) ro df
  have hP : hldP q x = if lrE q.1 ≠ 0 then (false, lrE q.1) else if (evP q.1 x).2 ≠ 0 then (false, (evP q.1 x).2) else ((evP q.1 x).1 == 0 || (decide ((evP q.1 x).1 < 0) && !q.2), 0) := rfl
  have hL : liA q.1 = [.int .i64 q.1.1, .sl 2 (moA q.1.2)] := rfl
  have hQ : iqA q = [.int .i64 q.1.1, .sl 2 (moA q.1.2), .bool q.2] := rfl
  rw [hL] at h2
  rw [hQ] at h1 ⊢
  generalize evP q.1 x = V at *
  generalize hldP q x = R at *
  generalize lrE q.1 = E at *
  generalize moA q.1.2 = M at *
  generalize q.1.1 = k at *
  generalize q.2 = b at *
  obtain ⟨v, e⟩ := V
  simp only at hP h2
  apply call_by (by exact rfl : T 46 = some _) (by simp)
  intro fr hfr hsl
  have s0 := hsl 0 _ rfl
  have s1 := hsl 1 _ rfl
  by_cases c1 : E = 0
  rotate_left
  · have c1b : (E != 0) = true := by simpa using c1
    rw [if_pos c1] at hP
    subst hP
    simp -implicitDefEqProofs [hfr, s0, s1, hcanw, h1, c1b, get_base0, -getElem?_pos, List.getElem?_cons_zero, List.getElem?_cons_succ]
  subst c1
  rw [if_neg (by simp)] at hP
  by_cases c2 : e = 0
  rotate_left
  · have c2b : (e != 0) = true := by simpa using c2
    rw [if_pos c2] at hP
    subst hP
    simp -implicitDefEqProofs [hfr, s0, s1, hcanw, h1, h2, c2b, get_base0, -getElem?_pos, List.getElem?_cons_zero, List.getElem?_cons_succ]
  subst c2
  rw [if_neg (by simp)] at hP
  subst hP
  by_cases c3 : v = 0
  · subst c3
    simp -implicitDefEqProofs [hfr, s0, s1, hcanw, h1, h2, get_base0, -getElem?_pos, List.getElem?_cons_zero, List.getElem?_cons_succ]
  · have c3b : (v == 0) = false := by simpa using c3
    by_cases c4 : v < 0
    · cases b <;> simp -implicitDefEqProofs [hfr, s0, s1, hcanw, h1, h2, c3b, c4, get_base0, -getElem?_pos, List.getElem?_cons_zero, List.getElem?_cons_succ]
    · simp -implicitDefEqProofs [hfr, s0, s1, hcanw, h1, h2, c3b, c4, get_base0, -getElem?_pos, List.getElem?_cons_zero, List.getElem?_cons_succ]

def allP (x : List Int) : List Iq → Int → Int × Int
  | [], _ => (-1, 0)
  | q :: l, i => if (hldP q x).2 ≠ 0 ∨ (hldP q x).1 = false then (i, (hldP q x).2) else allP x l (i + 1)

theorem iall_eq (l : List Iq) (hl : l.length ≤ 1000000) (hL : ∀ q ∈ l, LiOk q.1) (x : List Int) (hx : ∀ n ∈ x, inI64 n) (o : List Obj) (v w : AV) (hv : Ls o 3 v (l.map iqA)) (hw : Ls o 1 w (intA x)) (ro : Nat) (df : List Nat) :
    (D T).call 26 [v, w] ⟨o, ro, df⟩ = some (.tup [.int .i64 (allP x l 0).1, .int .i64 (allP x l 0).2], ⟨o, ro, df⟩) := by
  have hlen : lenOf v = some l.length := by simpa using hv.len
  have hcanw := hw.can
  obtain ⟨R, hR⟩ : ∃ R, R = allP x l 0 := ⟨_, rfl⟩
  rw [← hR]
  apply call_by (by exact rfl : T 26 = some _) (by simp)
  intro fr hfr hsl
  have s0 := hsl 0 _ rfl
  have s1 := hsl 1 _ rfl
  simp -implicitDefEqProofs [hfr, s0, s1, hlen, get_base0, -getElem?_pos, List.getElem?_cons_zero]
  apply loop_inv L26_0.eq_1 List.length (fun (rest : List Iq) fr st => ∃ pre o2, l = pre ++ rest ∧ R = allP x rest (pre.length : Int) ∧ fr.length = 32 ∧ slot fr 1 = w ∧ slot fr 10 = v ∧ slot fr 11 = .int .i64 (l.length : Int) ∧ slot fr 12 = .int .i64 (pre.length : Int) ∧
    st = ⟨o2, o.length, []⟩ ∧ Pre o o2) ?_ l
    ⟨[], o, rfl, hR, by simp [hfr], by simp [hfr, s1], by simp [hfr, s0], by simp [hfr], by simp [hfr], rfl, Pre.refl o⟩
  clear hR hfr s0 s1 hsl
  clear fr
  rintro rest fr _ ⟨pre, o2, e, hR, hfr, q1, q10, q11, q12, rfl, hpre⟩
  cases rest with
  | nil =>
    have hlt := idx_end e
    simp only [allP] at hR
    subst hR
    simp -implicitDefEqProofs [hfr, q1, q10, q11, q12, hlt]
  | cons q rest =>
    obtain ⟨hlt, hg, hpl⟩ := idx_at e
    have hwi := idx_next e (by omega)
    have hg2 : (l.map iqA)[pre.length]? = some (iqA q) := by simp [hg]
    obtain ⟨p, p1, p2⟩ := hv.at hpre o.length [] hg2 rfl
    have p3 := p2 true
    simp only [val, if_true] at p3
    obtain ⟨Y, hY⟩ : ∃ Y, Y = Obj.arr 51 3 [iqA q] := ⟨_, rfl⟩
    have hpre2 := hpre.push [Y]
    have hH := holds_eq q (hL q (by simp [e])) x hx (o2 ++ [Y]) w (hw.pre hpre2)
    have hpo := hpre.len
    have gY2 : (o2 ++ [Y])[o2.length]? = some Y := by simp
    simp only [allP] at hR
    generalize hldP q x = H at *
    obtain ⟨t, E⟩ := H
    simp only at hR hH
    have hQ : iqA q = [.int .i64 q.1.1, .sl 2 (moA q.1.2), .bool q.2] := rfl
    rw [hQ] at p3 hY hH
    generalize moA q.1.2 = M at *
    subst hY
    by_cases c1 : E = 0
    · subst c1
      cases t with
      | true =>
        rw [if_neg (by simp)] at hR
        simp -implicitDefEqProofs [hfr, q1, q10, q11, q12, hlt, hpl, hwi, hcanw, p1, p3, hH, gY2, hpo, setO_last, getO_last, -getElem?_pos, List.getElem?_cons_zero, List.getElem?_cons_succ]
        exact ⟨rest, by simp, pre ++ [q], by simp [e], by simpa using hR, by simp, hpre2⟩
      | false =>
        rw [if_pos (by simp)] at hR
        subst hR
        simp -implicitDefEqProofs [hfr, q1, q10, q11, q12, hlt, hpl, hwi, hcanw, p1, p3, hH, gY2, hpo, setO_last, getO_last, -getElem?_pos, List.getElem?_cons_zero, List.getElem?_cons_succ]
    · have c1b : (E != 0) = true := by simpa using c1
      rw [if_pos (.inl c1)] at hR
      subst hR
      simp -implicitDefEqProofs [hfr, q1, q10, q11, q12, hlt, hpl, hwi, hcanw, p1, p3, hH, c1b, gY2, hpo, setO_last, getO_last, -getElem?_pos, List.getElem?_cons_zero, List.getElem?_cons_succ]

def shrt (most : Int) (l : List Iq) : Bool := l.all (fun q => decide (q.1.2.length ≤ 100)) && decide ((l.length : Int) ≤ most)
theorem Fs.place {o o2 : List Obj} {v : AV} {l : List Iq} (h : Fs o v (l.map iqA)) (hpre : Pre o o2) (ro : Nat) (df : List Nat) {i : Nat} {q : Iq} (hq : l[i]? = some q) :
    ∃ p, idxA ⟨o2, ro, df⟩ 3 v (.int .i64 i) = some p ∧ (p = .vptr (iqA q) ∨ ∃ r ty sz es, p = .ptr r i 0 ∧ o2[r]? = some (.arr ty sz es) ∧ es[i]? = some (iqA q)) := by
  have hlt := lt_of_getO hq
  have hq2 : (l.map iqA)[i]? = some (iqA q) := by simp [hq]
  rcases h with rfl | rfl | ⟨r, rfl, h⟩
  · exact ⟨.vptr (iqA q), by simp [hlt, (List.getElem?_eq_some_iff.1 hq).2], .inl rfl⟩
  · exact ⟨.vptr (iqA q), by simp [hlt, (List.getElem?_eq_some_iff.1 hq).2], .inl rfl⟩
  · obtain ⟨m, rfl⟩ := hpre
    have h' := getO_push h m
    exact ⟨.ptr r i 0, by simp [h', hlt], .inr ⟨r, _, _, _, rfl, h', hq2⟩⟩

theorem short_eq (most : Int) (l : List Iq) (hl : l.length ≤ 9223372036854775807) (o : List Obj) (v : AV) (hv : Fs o v (l.map iqA)) (ro : Nat) (df : List Nat) :
    (D T).call 18 [.int .i64 most, v] ⟨o, ro, df⟩ = some (.bool (shrt most l), ⟨o, ro, df⟩) := by
  have hlen : lenOf v = some l.length := by simpa using hv.ls.len
  obtain ⟨R, hR⟩ : ∃ R, R = shrt most l := ⟨_, rfl⟩
  rw [← hR]
  unfold shrt at hR
  apply call_by (by exact rfl : T 18 = some _) (by simp)
  intro fr hfr hsl
  have s0 := hsl 0 _ rfl
  have s1 := hsl 1 _ rfl
  simp -implicitDefEqProofs [hfr, s0, s1, get_base0, -getElem?_pos, List.getElem?_cons_zero]
  apply loop_inv L18_0.eq_1 List.length (fun (rest : List Iq) fr st => ∃ pre, l = pre ++ rest ∧ (∀ q ∈ pre, q.1.2.length ≤ 100) ∧ fr.length = 24 ∧ slot fr 0 = .int .i64 most ∧ slot fr 1 = v ∧ slot fr 5 = .int .i64 (pre.length : Int) ∧
    st = ⟨o, o.length, []⟩) ?_ l
    ⟨[], rfl, by simp, by simp [hfr], by simp [hfr, s0], by simp [hfr, s1], by simp [hfr], rfl⟩
  clear hfr s0 s1 hsl
  clear fr
  rintro rest fr _ ⟨pre, e, hp, hfr, q0, q1, q5, rfl⟩
  cases rest with
  | nil =>
    have hlt := idx_end e
    have ee : l = pre := by simpa using e
    have ha : l.all (fun q => decide (q.1.2.length ≤ 100)) = true := List.all_eq_true.2 fun q hq => by simpa using hp q (by rw [← ee]; exact hq)
    rw [ha, Bool.true_and] at hR
    subst hR
    simp -implicitDefEqProofs [hfr, q0, q1, q5, hlt, hlen]
  | cons q rest =>
    obtain ⟨hlt, hg, hpl⟩ := idx_at e
    have hwi := idx_next e (by omega)
    obtain ⟨p, p1, p2⟩ := hv.place (Pre.refl o) o.length [] hg
    have hQ : iqA q = [.int .i64 q.1.1, .sl 2 (moA q.1.2), .bool q.2] := rfl
    have ml := moA_len q.1.2
    rw [hQ] at p2
    by_cases hs : q.1.2.length ≤ 100
    · have hs2 : ¬ (q.1.2.length : Int) > 100 := by omega
      have hs3 : ¬ (100 : Int) < (q.1.2.length : Int) := by omega
      have hp2 : ∀ k ∈ pre ++ [q], k.1.2.length ≤ 100 := fun k hk => by
        rcases List.mem_append.1 hk with hk | hk
        · exact hp k hk
        · rw [List.mem_singleton.1 hk]; exact hs
      generalize q.1.2.length = n at *
      generalize moA q.1.2 = M at *
      rcases p2 with rfl | ⟨r, ty, sz, es, rfl, p3, p4⟩
      · simp -implicitDefEqProofs [hfr, q0, q1, q5, hlt, hpl, hwi, hlen, p1, hs2, hs3, ml, -getElem?_pos, List.getElem?_cons_zero, List.getElem?_cons_succ]
        exact ⟨rest, by simp, pre ++ [q], by simp [e], by simpa using hp2, by simp⟩
      · simp -implicitDefEqProofs [hfr, q0, q1, q5, hlt, hpl, hwi, hlen, p1, p3, p4, hs2, hs3, ml, -getElem?_pos, List.getElem?_cons_zero, List.getElem?_cons_succ]
        exact ⟨rest, by simp, pre ++ [q], by simp [e], by simpa using hp2, by simp⟩
    · have hs3 : (100 : Int) < (q.1.2.length : Int) := by omega
      have ha : l.all (fun q => decide (q.1.2.length ≤ 100)) = false := List.all_eq_false.2 ⟨q, by simp [e], by simpa using hs⟩
      rw [ha, Bool.false_and] at hR
      subst hR
      generalize q.1.2.length = n at *
      generalize moA q.1.2 = M at *
      rcases p2 with rfl | ⟨r, ty, sz, es, rfl, p3, p4⟩
      · simp -implicitDefEqProofs [hfr, q0, q1, q5, hlt, hpl, hwi, hlen, p1, hs3, ml, -getElem?_pos, List.getElem?_cons_zero, List.getElem?_cons_succ]
      · simp -implicitDefEqProofs [hfr, q0, q1, q5, hlt, hpl, hwi, hlen, p1, p3, p4, hs3, ml, -getElem?_pos, List.getElem?_cons_zero, List.getElem?_cons_succ]

end Go.Proofs.Ytgabnhmjlhhojaa.A
