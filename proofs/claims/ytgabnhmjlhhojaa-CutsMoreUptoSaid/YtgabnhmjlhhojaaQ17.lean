/- cuts.Check. -/
import Derived.Test.YtgabnhmjlhhojaaQ15
namespace Go.Proofs.Ytgabnhmjlhhojaa.A
open Go
set_option maxRecDepth 10000
set_option linter.unusedSimpArgs false
set_option linter.unusedVariables false
attribute [-simp] List.all_eq_true put slot_def ld idxA lenOf elems canA app hand slc add64A

theorem ck1_eq (q : Iq) (hl : q.1.2.length ≤ 9223372036854775807) (o : List Obj) (ro : Nat) (df : List Nat) :
    (D T).call 36 [.agg (iqA q)] ⟨o, ro, df⟩ = some (.bool (!lok q.1), ⟨o, ro, df⟩) := by
  have h := fun o ro df => iRight_eq q hl o ro df
  have hE : (lrE q.1 != 0) = !lok q.1 := by unfold lrE; cases lok q.1 <;> rfl
  rw [← hE]
  generalize lrE q.1 = E at *
  have hQ : iqA q = [.int .i64 q.1.1, .sl 2 (moA q.1.2), .bool q.2] := rfl
  rw [hQ] at h ⊢
  generalize moA q.1.2 = M at *
  apply call_by (by exact rfl : T 36 = some _) (by simp)
  intro fr hfr hsl
  have s0 := hsl 0 _ rfl
  simp -implicitDefEqProofs [hfr, s0, h, get_base0, -getElem?_pos, List.getElem?_cons_zero]

/-- what a cut comes to -/
def rtC (c : Cu) : Int := if 1024 < cdp c then 6 else if 4096 < csz c then 2 else pe c
def ckT (l : List Iq) (c : Cu) : List Int × Int :=
  if 1024 < l.length then ([], 2) else if (l.any fun q => !lok q.1) = true then ([], 1) else if rtC c ≠ 0 then ([], rtC c) else ckC c l []

theorem cCheck_eq (l : List Iq) (hl : l.length ≤ 1000000) (hL : ∀ q ∈ l, LiOk q.1) (c : Cu) (hok : c.ok) (hsm : c.sm) (hs : csz c ≤ 1000000) (v : AV) (o : List Obj) (hv : Fs o v (l.map iqA)) (ro : Nat) (df : List Nat) :
    (D T).call 19 [v, .agg c.cells] ⟨o, ro, df⟩ = some (.tup [.sl 1 (intA (ckT l c).1), .int .i64 (ckT l c).2], ⟨o, ro, df⟩) := by
  have hlen : lenOf v = some l.length := by simpa using hv.ls.len
  have hcv : canA v = v := hv.ls.can
  have y1 := cu_take c
  have y2 := cu_can c
  have y3 := culen c
  have y4 := cu_one c
  have hR := fun o ro df => cRight_eq c hok hs o ro df
  have hRc : (if 1024 < cdp c then (6 : Int) else if 4096 < csz c then 2 else pe c) = rtC c := rfl
  simp only [hRc, Cu.av] at hR
  have hany := fun m ro df => hasIq_eq iqA (fun q : Iq => !lok q.1) l (by omega) 36 [] [] (o ++ m) v ro df (hv.lsp m) (fun _ _ => rfl) (fun _ _ => rfl) (fun q hq ro df => ck1_eq q (by have := (hL q hq).2.2; omega) _ ro df)
  have hE : ckT l c = if 1024 < l.length then ([], 2) else if (l.any fun q => !lok q.1) = true then ([], 1) else if rtC c ≠ 0 then ([], rtC c) else ckC c l [] := rfl
  generalize ckT l c = R at *
  generalize (l.any fun q => !lok q.1) = an at *
  have e0 : intA [] = [] := rfl
  apply call_by (by exact rfl : T 19 = some _) (by simp)
  intro fr hfr hsl
  have s0 := hsl 0 _ rfl
  have s1 := hsl 1 _ rfl
  by_cases h1 : 1024 < l.length
  · rw [if_pos h1] at hE
    subst hE
    have h2 : (1024 : Int) < l.length := by omega
    simp -implicitDefEqProofs [hfr, s0, s1, hlen, h2, h1, y1, y2, y3, y4, e0, get_base0, -getElem?_pos, List.getElem?_cons_zero, List.getElem?_cons_succ]
  rw [if_neg h1] at hE
  have h2 : ¬ (1024 : Int) < l.length := by omega
  cases an with
  | true =>
    rw [if_pos rfl] at hE
    subst hE
    simp -implicitDefEqProofs [hfr, s0, s1, hlen, hcv, h2, h1, hany, y1, y2, y3, y4, e0, get_base0, -getElem?_pos, List.getElem?_cons_zero, List.getElem?_cons_succ]
  | false =>
    rw [if_neg (by simp)] at hE
    by_cases h3 : rtC c = 0
    · rw [if_neg (by simpa using h3)] at hE
      rw [h3] at hR
      have hpe : pe c = 0 := by
        unfold rtC at h3
        split at h3
        · simp at h3
        · split at h3
          · simp at h3
          · exact h3
      have hdc := cdp_csz c
      obtain ⟨v', k1, k2⟩ := chk_eq c hok hsm hpe l (by omega) hL v (.fsl 1 []) [] (o ++ [Obj.arr 29 7 [c.cells]]) o.length [] (hv.push _) (.inl ⟨rfl, rfl⟩) (by simp; omega)
      rw [← hE] at k1 k2
      have hf := intA_flat R.1
      rcases k2 with rfl | ⟨rfl, k2⟩
      · simp -implicitDefEqProofs [hfr, s0, s1, hlen, hcv, h2, h1, hany, hR, k1, y1, y2, y3, y4, hf, get_base0, -getElem?_pos, List.getElem?_cons_zero, List.getElem?_cons_succ]
      · rw [← k2, e0]
        simp -implicitDefEqProofs [hfr, s0, s1, hlen, hcv, h2, h1, hany, hR, k1, y1, y2, y3, y4, hf, get_base0, -getElem?_pos, List.getElem?_cons_zero, List.getElem?_cons_succ]
    · rw [if_pos h3] at hE
      subst hE
      have h3b : (rtC c != 0) = true := bne_iff_ne.2 h3
      simp -implicitDefEqProofs [hfr, s0, s1, hlen, hcv, h2, h1, hany, hR, h3b, y1, y2, y3, y4, e0, get_base0, -getElem?_pos, List.getElem?_cons_zero, List.getElem?_cons_succ]

end Go.Proofs.Ytgabnhmjlhhojaa.A
/- lin.Eval, ineq.Holds and ineq.All. -/
namespace Go.Proofs.Ytgabnhmjlhhojaa.A
open Go
set_option maxRecDepth 10000
set_option linter.unusedSimpArgs false
set_option linter.unusedVariables false
attribute [-simp] List.all_eq_true put slot_def ld idxA lenOf elems canA app hand slc add64A

def accE (x : List Int) : List (Int × Int) → Int → Int
  | [], a => a
  | m :: l, a => accE x l (if m.1 < x.length then a + m.2 * x.getD m.1.toNat 0 else a)
theorem accE_bd (x : List Int) (hx : ∀ n ∈ x, inI64 n) : ∀ (l : List (Int × Int)) (a B : Int), (∀ m ∈ l, inI64 m.2) → -B ≤ a ∧ a ≤ B → -(B + l.length * DD) ≤ accE x l a ∧ accE x l a ≤ B + l.length * DD
  | [], a, B, hm, h => by simpa [accE] using h
  | m :: l, a, B, hm, h => by
    have hd : DD = 85070591730234615865843651857942052864 := rfl
    have hg : inI64 (x.getD m.1.toNat 0) := by
      rw [List.getD_eq_getElem?_getD]
      rcases hh : x[m.1.toNat]? with _ | z
      · simp [inI64]
      · exact hx z (List.mem_of_getElem? hh)
    have hp := prod_rng (hm m (by simp)) hg
    have e : ((m :: l).length : Int) * DD = DD + l.length * DD := by simp [Int.add_mul]; omega
    simp only [accE]
    have ih := accE_bd x hx l (if m.1 < x.length then a + m.2 * x.getD m.1.toNat 0 else a) (B + DD) (fun k hk => hm k (by simp [hk])) (by split <;> omega)
    omega

def evP (l : Li) (x : List Int) : Int × Int := if lok l = true then (if inI64 (accE x l.2 l.1) then (accE x l.2 l.1, 0) else (0, 5)) else (0, 1)

theorem eval_l0 (ms : List (Int × Int)) (hl : ms.length ≤ 1000000) (hm : ∀ m ∈ ms, 0 ≤ m.1 ∧ inI64 m.2) (x : List Int) (hx : ∀ n ∈ x, inI64 n) (a : Int) (o o1 : List Obj) (w : AV) (hw : Ls o 1 w (intA x)) (hpre : Pre o o1) (g1 : o1[o.length + 1]? = some (.arr 108 3 [s3 a])) (Q : AE → List AV → St → Prop) (fr : List AV) (hfr : fr.length = 46)
    (q1 : slot fr 1 = w) (q6 : slot fr 6 = .ptr (o.length + 1) 0 0) (q19 : slot fr 19 = .sl 2 (moA ms)) (q20 : slot fr 20 = .int .i64 (ms.length : Int)) (q21 : slot fr 21 = .int .i64 0)
    (kk : ∀ (fr' : List AV) (o2 : List Obj), fr'.length = 46 → slot fr' 6 = .ptr (o.length + 1) 0 0 → o2[o.length + 1]? = some (.arr 108 3 [s3 (accE x ms a)]) → Q (.exit 0) fr' ⟨o2, o.length, []⟩) :
    ∃ e fr' st', (D T).loop false L63_0 fr ⟨o1, o.length, []⟩ = some (e, fr', st') ∧ Q e fr' st' := by
  have hlenw : lenOf w = some x.length := by simpa [intA_len] using hw.len
  apply loop_inv L63_0.eq_1 List.length (fun (rest : List (Int × Int)) fr st => ∃ pre o2, ∃ b : Int, ms = pre ++ rest ∧ accE x ms a = accE x rest b ∧ fr.length = 46 ∧ slot fr 1 = w ∧ slot fr 6 = .ptr (o.length + 1) 0 0 ∧ slot fr 19 = .sl 2 (moA ms) ∧ slot fr 20 = .int .i64 (ms.length : Int) ∧ slot fr 21 = .int .i64 (pre.length : Int) ∧
    st = ⟨o2, o.length, []⟩ ∧ Pre o o2 ∧ o2[o.length + 1]? = some (.arr 108 3 [s3 b])) ?_ ms
    ⟨[], o1, a, rfl, rfl, hfr, q1, q6, q19, q20, q21, rfl, hpre, g1⟩
  clear hfr q1 q6 q19 q20 q21 hpre g1
  clear fr o1
  rintro rest fr _ ⟨pre, o2, b, e, hE, hfr, q1, q6, q19, q20, q21, rfl, hpre, g1⟩
  rw [hE] at kk
  cases rest with
  | nil =>
    have hlt := idx_end e
    simp -implicitDefEqProofs [hfr, q1, q6, q19, q20, q21, hlt]
    exact kk _ o2 (by simp [hfr]) (by simp [hfr, q6]) g1
  | cons y rest =>
    obtain ⟨hlt, hg, hpl⟩ := idx_at e
    have hwi := idx_next e (by omega)
    obtain ⟨y0, yi⟩ := hm y (by simp [e])
    have hg2 : (moA ms)[pre.length]? = some [.int .i64 y.1, .int .i64 y.2] := by simp [moA, hg]
    have ml := moA_len ms
    obtain ⟨y1, y2⟩ := y
    simp only [accE] at hE y0 yi hg2
    have hpo := hpre.len
    have l1 := lt_of_getO g1
    obtain ⟨Y, hY⟩ : ∃ Y, Y = Obj.arr 62 2 [[.int .i64 y1, .int .i64 y2]] := ⟨_, rfl⟩
    have hpre2 := hpre.push [Y]
    have gY2 : (o2 ++ [Y])[o2.length]? = some Y := by simp
    have g1b : (o2 ++ [Y])[o.length + 1]? = some (.arr 108 3 [s3 b]) := getO_push g1 _
    by_cases hc : y1 < x.length
    · rw [if_pos hc] at hE
      obtain ⟨z, hz⟩ : ∃ z, x[y1.toNat]? = some z := ⟨x[y1.toNat]'(by omega), by simp [show y1.toNat < x.length by omega]⟩
      have hzg : x.getD y1.toNat 0 = z := by rw [List.getD_eq_getElem?_getD, hz]; rfl
      have hzi : inI64 z := hx z (List.mem_of_getElem? hz)
      rw [hzg] at hE
      have hz2 : (intA x)[y1.toNat]? = some [.int .i64 z] := by simp [intA, hz]
      obtain ⟨p, p1, p2⟩ := hw.at hpre2 o.length [] hz2 rfl
      have p3 := p2 false
      simp only [val, Bool.false_eq_true, if_false] at p3
      rw [show ((y1.toNat : Nat) : Int) = y1 by omega] at p1
      have hadd := add_eq (o2 ++ [Y]) (o.length + 1) 108 3 [] [] b y2 z o.length [] (by simpa using g1b) (by omega) yi hzi
      have hS : [] ++ (s3 (b + y2 * z) ++ []) = s3 (b + y2 * z) := by simp
      rw [hS] at hadd
      have hZ : ([] : List AV).length = 0 := rfl
      rw [hZ] at hadd
      have n1 : ∀ X : Obj, ((o2 ++ [Y]).set (o.length + 1) X)[o.length + 1]? = some X := fun X => by rw [getO_set (by simp; omega)]
      have npre : ∀ X, Pre o ((o2 ++ [Y]).set (o.length + 1) X) := fun X => hpre2.set (by omega) _
      generalize moA ms = M at *
      subst hY
      simp -implicitDefEqProofs [hfr, q1, q6, q19, q20, q21, hlt, hwi, hpl, hg2, ml, hlenw, hc, p1, p3, hadd, gY2, hpo, setO_last, getO_last, -getElem?_pos, List.getElem?_cons_zero, List.getElem?_cons_succ]
      exact ⟨rest, by simp, pre ++ [(y1, y2)], by simp [e], _, _, hE, by simp, rfl, npre _, n1 _⟩
    · rw [if_neg hc] at hE
      generalize moA ms = M at *
      subst hY
      simp -implicitDefEqProofs [hfr, q1, q6, q19, q20, q21, hlt, hwi, hpl, hg2, ml, hlenw, hc, gY2, hpo, setO_last, getO_last, -getElem?_pos, List.getElem?_cons_zero, List.getElem?_cons_succ]
      exact ⟨rest, by simp, pre ++ [(y1, y2)], by simp [e], _, b, hE, by simp, rfl, hpre2, g1b⟩

theorem eval_eq (l : Li) (hl : LiOk l) (x : List Int) (hx : ∀ n ∈ x, inI64 n) (o : List Obj) (w : AV) (hw : Ls o 1 w (intA x)) (ro : Nat) (df : List Nat) :
    (D T).call 63 [.agg (liA l), w] ⟨o, ro, df⟩ = some (.tup [.int .i64 (evP l x).1, .int .i64 (evP l x).2], ⟨o, ro, df⟩) := by
  have hcanw := hw.can
  have hd : DD = 85070591730234615865843651857942052864 := rfl
  have hr := fun o ro df => lright_eq [l] (by simp) (by simp; have := hl.2.2; omega) o (.fsl 2 [liA l]) ro df (by simpa using ls_fsl _)
  have hP : evP l x = if lok l = true then (if inI64 (accE x l.2 l.1) then (accE x l.2 l.1, 0) else (0, 5)) else (0, 1) := rfl
  have hal : [l].all lok = lok l := by simp
  rw [hal] at hr
  have hr2 : lok l = true → ∀ m ∈ l.2, 0 ≤ m.1 ∧ m.1 < 64 := fun h => lrt_rng _ _ (by omega) h
  generalize evP l x = R at *
  generalize lok l = ok at *
  obtain ⟨k, ms⟩ := l
  obtain ⟨h1, h2, h3⟩ := hl
  simp only at h1 h2 h3 hP hr2
  have hbd := accE_bd x hx ms k 9223372036854775808 (fun m hm => (h2 m hm).2) (by unfold inI64 at h1; omega)
  have hb2 : (ms.length : Int) * DD ≤ 1000000 * DD := Int.mul_le_mul_of_nonneg_right (by omega) (by omega)
  have hL : liA (k, ms) = [.int .i64 k, .sl 2 (moA ms)] := rfl
  rw [hL] at hr ⊢
  have hz : s3 0 = [.int .u64 0, .int .u64 0, .int .u64 0] := rfl
  have hadd := fun X => add_eq (o ++ [X, .arr 108 3 [s3 0]]) (o.length + 1) 108 3 [] [] 0 k 1 o.length [] (by simp [get_base]) (by omega) h1 (by simp [inI64])
  have hS : [] ++ (s3 (0 + k * 1) ++ []) = s3 k := by simp
  have hZ : ([] : List AV).length = 0 := rfl
  simp only [hS, hZ] at hadd
  rw [hz] at hadd
  have ml := moA_len ms
  apply call_by (by exact rfl : T 63 = some _) (by simp)
  intro fr hfr hsl
  have s0 := hsl 0 _ rfl
  have s1 := hsl 1 _ rfl
  obtain ⟨M, hM⟩ : ∃ M, M = moA ms := ⟨_, rfl⟩
  rw [← hM] at hr ml s0
  cases ok with
  | false =>
    rw [if_neg (by simp)] at hP
    subst hP
    simp -implicitDefEqProofs [hfr, s0, s1, hr, get_base0, -getElem?_pos, List.getElem?_cons_zero, List.getElem?_cons_succ]
  | true =>
    rw [if_pos rfl] at hP
    have hr2 := hr2 rfl
    simp -implicitDefEqProofs [hfr, s0, s1, hr, hadd, ml, get_base0, get_base, set_base0, set_base, -getElem?_pos, List.getElem?_cons_zero, List.getElem?_cons_succ]
    refine eval_l0 ms h3 (fun m hm => ⟨(hr2 m hm).1, (h2 m hm).2⟩) x hx k o _ w hw ⟨_, rfl⟩ (by rw [get_base]; rfl) _ _ (by simp [hfr]) (by simp [hfr, s1]) (by simp [hfr]) (by simp [hfr, hM]) (by simp [hfr]) (by simp [hfr]) ?_
    clear hfr s0 s1 hsl
    clear fr
    intro fr o2 hfr q6 g1
    have hfK := fits_eq o2 (o.length + 1) 108 3 [] [] (accE x ms k) o.length [] (by simpa using g1) ⟨by omega, by omega⟩
    rw [hZ] at hfK
    by_cases hi : inI64 (accE x ms k)
    · rw [if_pos hi] at hP hfK
      subst hP
      simp -implicitDefEqProofs [hfr, q6, hfK, hi]
    · rw [if_neg hi] at hP hfK
      subst hP
      simp -implicitDefEqProofs [hfr, q6, hfK, hi]

end Go.Proofs.Ytgabnhmjlhhojaa.A
