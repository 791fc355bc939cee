/- lin.sum, as a whole. -/
import Derived.Test.YtgabnhmjlhhojaaQ4
namespace Go.Proofs.Ytgabnhmjlhhojaa.A
open Go
set_option maxRecDepth 10000
set_option linter.unusedSimpArgs false
set_option linter.unusedVariables false
attribute [-simp] List.all_eq_true put slot_def ld idxA lenOf elems canA app hand add64A

theorem lsum_l0 (fs : List (Li × Int)) (hf : ∀ f ∈ fs, Fi f) (hl : fs.length ≤ 9223372036854775807) (o o1 : List Obj) (n : Nat) (hn : o.length = n) (K : Int) (xs : List Int) (hxs : xs.length = 64) (X0 : Obj) (v : AV) (hv : Ls o 3 v (fs.map fmA)) (Q : AE → List AV → St → Prop) (fr : List AV) (hfr : fr.length = 80)
    (q2 : slot fr 2 = .ptr n 0 0) (q4 : slot fr 4 = .ptr (n + 1) 0 0) (q5 : slot fr 5 = .ptr (n + 2) 0 0) (q16 : slot fr 16 = v) (q17 : slot fr 17 = .int .i64 (fs.length : Int)) (q18 : slot fr 18 = .int .i64 0)
    (hpre : Pre o o1) (g0 : o1[n]? = some X0) (g1 : o1[n + 1]? = some (.arr 108 3 [s3 K])) (g2 : o1[n + 2]? = some (.arr 162 192 [sC xs]))
    (kk : ∀ (fr' : List AV) (o2 : List Obj), fr'.length = 80 → slot fr' 2 = .ptr n 0 0 → slot fr' 4 = .ptr (n + 1) 0 0 → slot fr' 5 = .ptr (n + 2) 0 0 →
      Pre o o2 → o2[n]? = some X0 → o2[n + 1]? = some (.arr 108 3 [s3 (accK fs K)]) → o2[n + 2]? = some (.arr 162 192 [sC (accF fs xs)]) → Q (.exit 0) fr' ⟨o2, n, []⟩) :
    ∃ e fr' st', (D T).loop false L110_0 fr ⟨o1, n, []⟩ = some (e, fr', st') ∧ Q e fr' st' := by
  apply loop_inv L110_0.eq_1 List.length (fun (rest : List (Li × Int)) fr st => ∃ pre o2 ys, ∃ J : Int, fs = pre ++ rest ∧ ys.length = 64 ∧ accF fs xs = accF rest ys ∧ accK fs K = accK rest J ∧ fr.length = 80 ∧ slot fr 2 = .ptr n 0 0 ∧ slot fr 4 = .ptr (n + 1) 0 0 ∧ slot fr 5 = .ptr (n + 2) 0 0 ∧ slot fr 16 = v ∧ slot fr 17 = .int .i64 (fs.length : Int) ∧ slot fr 18 = .int .i64 (pre.length : Int) ∧
    st = ⟨o2, n, []⟩ ∧ Pre o o2 ∧ o2[n]? = some X0 ∧ o2[n + 1]? = some (.arr 108 3 [s3 J]) ∧ o2[n + 2]? = some (.arr 162 192 [sC ys])) ?_ fs
    ⟨[], o1, xs, K, rfl, hxs, rfl, rfl, hfr, q2, q4, q5, q16, q17, q18, rfl, hpre, g0, g1, g2⟩
  clear hfr q2 q4 q5 q16 q17 q18 hpre g0 g1 g2 hxs
  clear fr o1
  rintro rest fr _ ⟨pre, o2, ys, J, e, hys, hE, hEK, hfr, q2, q4, q5, q16, q17, q18, rfl, hpre, g0, g1, g2⟩
  rw [hE, hEK] at kk
  cases rest with
  | nil =>
    have hlt := idx_end e
    simp -implicitDefEqProofs [hfr, q2, q4, q5, q16, q17, q18, hlt]
    exact kk _ o2 (by simp [hfr]) (by simp [hfr, q2]) (by simp [hfr, q4]) (by simp [hfr, q5]) hpre g0 g1 g2
  | cons x rest =>
    obtain ⟨hlt, hg, hpl⟩ := idx_at e
    have hw := idx_next e hl
    have hx := hf x (by simp [e])
    have hg2 : (fs.map fmA)[pre.length]? = some (fmA x) := by simp [hg]
    obtain ⟨p, p1, p2⟩ := hv.at hpre n [] hg2 rfl
    have p3 := p2 true
    simp only [val, if_true] at p3
    obtain ⟨Y, hY⟩ : ∃ Y, Y = Obj.arr 150 3 [fmA x] := ⟨_, rfl⟩
    have gY2 : (o2 ++ [Y])[o2.length]? = some Y := by simp
    have hadd := add_eq (o2 ++ [Y]) (n + 1) 108 3 [] [] J x.1.1 x.2 n [] (by simpa using getO_push g1 _) (by omega) hx.1 hx.2.1
    have hS : [] ++ (s3 (J + x.1.1 * x.2) ++ []) = s3 (J + x.1.1 * x.2) := by simp
    rw [hS] at hadd
    have hZ : ([] : List AV).length = 0 := rfl
    rw [hZ] at hadd
    have hpo := hpre.len
    have l1 := lt_of_getO g1
    have l2 := lt_of_getO g2
    obtain ⟨X, hX⟩ : ∃ X, X = Obj.arr 108 3 [s3 (J + x.1.1 * x.2)] := ⟨_, rfl⟩
    rw [← hX] at hadd
    have gY3 : ((o2 ++ [Y]).set (n + 1) X)[o2.length]? = some Y := by rw [List.getElem?_set_ne (by omega)]; exact gY2
    have hF : fmA x = [.int .i64 x.1.1, .sl 2 (moA x.1.2), .int .i64 x.2] := rfl
    have ml := moA_len x.1.2
    have hy : Y = Obj.arr 150 3 [[.int .i64 x.1.1, .sl 2 (moA x.1.2), .int .i64 x.2]] := by rw [hY, hF]
    rw [hF] at p3
    rw [hy] at gY2 gY3 hadd
    have e6 : (o2 ++ [Y]).set (n + 1) X = (o2 ++ [Obj.arr 150 3 [[.int .i64 x.1.1, .sl 2 (moA x.1.2), .int .i64 x.2]]]).set (n + 1) X := by rw [hy]
    have gp : ((o2 ++ [Y]).set (n + 1) X)[o2.length]? = some (.arr 150 3 [fmA x]) := by rw [List.getElem?_set_ne (by omega), ← hY]; simp
    have n0 : ((o2 ++ [Y]).set (n + 1) X)[n]? = some X0 := by rw [List.getElem?_set_ne (by omega)]; exact getO_push g0 _
    have n1 : ((o2 ++ [Y]).set (n + 1) X)[n + 1]? = some X := by rw [getO_set (by simp; omega)]
    have n2 : ((o2 ++ [Y]).set (n + 1) X)[n + 2]? = some (.arr 162 192 [sC ys]) := by rw [List.getElem?_set_ne (by omega)]; exact getO_push g2 _
    have npre : Pre o ((o2 ++ [Y]).set (n + 1) X) := (hpre.push _).set (by omega) _
    rw [e6] at gp n0 n1 n2 npre
    generalize hM : moA x.1.2 = M at *
    simp -implicitDefEqProofs [hfr, q2, q4, q5, q16, q17, q18, hlt, hw, hpl, p1, p3, hadd, gY2, gY3, ml, hpo, show n ≤ o2.length by omega, setO_last, getO_last, -getElem?_pos, List.getElem?_cons_zero, List.getElem?_cons_succ]
    subst hM
    refine lsum_l1 x hx o _ n o2.length hn (by omega) (J + x.1.1 * x.2) ys hys X0 v (fs.length : Int) (pre.length : Int) _ _ (by simp [hfr]) (by simp [hfr, q2]) (by simp [hfr, q4]) (by simp [hfr, q5]) (by simp [hfr]) (by simp [hfr, q16]) (by simp [hfr, q17]) (by simp [hfr, q18]) (by simp [hfr]) (by simp [hfr]) (by simp [hfr]) npre n0 (by rw [n1, hX]) n2 gp ?_
    clear hfr q2 q4 q5 q16 q17 q18
    clear fr
    intro fr o3 hfr q2 q4 q5 q16 q17 q18 hpre3 m0 m1 m2
    simp -implicitDefEqProofs [hfr, q2, q4, q5, q16, q17, q18, hw]
    exact ⟨rest, by simp, pre ++ [x], by simp [e], _, accM x.2 x.1.2 ys, by rw [accM_len, hys], hE, _, hEK, by simp, rfl, hpre3, m0, m1, m2⟩

/-! the third loop -/
def fit (x : Int) : Int := if inI64 x then x else 0
def oL : Nat → List Int → List (Int × Int)
  | _, [] => []
  | j, x :: l => if fit x ≠ 0 then ((j : Int), fit x) :: oL (j + 1) l else oL (j + 1) l
theorem oL_app : ∀ (a b : List Int) (j : Nat), oL j (a ++ b) = oL j a ++ oL (j + a.length) b
  | [], b, j => by simp [oL]
  | x :: a, b, j => by
    have h := oL_app a b (j + 1)
    simp only [List.cons_append, oL, h, List.length_cons, show j + 1 + a.length = j + (a.length + 1) by omega]
    split <;> simp
theorem oL_len : ∀ (a : List Int) (j : Nat), (oL j a).length ≤ a.length
  | [], j => by simp [oL]
  | x :: a, j => by
    have h := oL_len a (j + 1)
    simp only [oL, List.length_cons]
    split <;> simp <;> omega
theorem moA_app (a b : List (Int × Int)) : moA (a ++ b) = moA a ++ moA b := by simp [moA]

def Bd (x : Int) : Prop := -1569275433846670190958947355801916604025588861116008628224 ≤ x ∧ x < 1569275433846670190958947355801916604025588861116008628224

def okA (ok : Bool) (l : List Int) : Bool := ok && l.all fun x => decide (inI64 x)
theorem okA_nil (ok : Bool) : okA ok [] = ok := by simp [okA]
theorem okA_app (ok : Bool) (l : List Int) (x : Int) : okA ok (l ++ [x]) = (okA ok l && decide (inI64 x)) := by simp [okA, List.all_append, Bool.and_assoc]
theorem lsum_l2 (xs : List Int) (hxs : xs.length = 64) (hB : ∀ x ∈ xs, Bd x) (o1 : List Obj) (n q : Nat) (hq : n + 3 ≤ q) (hnl : n ≤ o1.length) (X0 : Obj) (K : AV) (ok : Bool) (Q : AE → List AV → St → Prop) (fr : List AV) (hfr : fr.length = 80)
    (q2 : slot fr 2 = .ptr n 0 0) (q5 : slot fr 5 = .ptr (n + 2) 0 0) (q11 : slot fr 11 = .bool ok) (q12 : slot fr 12 = .ptr q 0 0) (q52 : slot fr 52 = .int .i64 0)
    (g0 : o1[n]? = some X0) (g2 : o1[n + 2]? = some (.arr 162 192 [sC xs])) (gq : o1[q]? = some (.arr 26 2 [[K, .fsl 2 []]]))
    (kk : ∀ (fr' : List AV) (o2 : List Obj) (w : AV), fr'.length = 80 → slot fr' 2 = .ptr n 0 0 → slot fr' 11 = .bool (okA ok xs) → slot fr' 12 = .ptr q 0 0 → o2[n]? = some X0 → o2[q]? = some (.arr 26 2 [[K, w]]) → Gr (q + 1) 62 2 o2 w (moA (oL 0 xs)) → n ≤ o2.length → Q (.exit 4) fr' ⟨o2, n, []⟩) :
    ∃ e fr' st', (D T).loop false L110_2 fr ⟨o1, n, []⟩ = some (e, fr', st') ∧ Q e fr' st' := by
  apply loop_inv L110_2.eq_1 List.length (fun (rest : List Int) fr st => ∃ pre o2 w, xs = pre ++ rest ∧ fr.length = 80 ∧ slot fr 2 = .ptr n 0 0 ∧ slot fr 5 = .ptr (n + 2) 0 0 ∧ slot fr 11 = .bool (okA ok pre) ∧ slot fr 12 = .ptr q 0 0 ∧ slot fr 52 = .int .i64 (pre.length : Int) ∧
    st = ⟨o2, n, []⟩ ∧ n ≤ o2.length ∧ o2[n]? = some X0 ∧ o2[n + 2]? = some (.arr 162 192 [sC xs]) ∧ o2[q]? = some (.arr 26 2 [[K, w]]) ∧ Gr (q + 1) 62 2 o2 w (moA (oL 0 pre))) ?_ xs
    ⟨[], o1, .fsl 2 [], rfl, hfr, q2, q5, by rw [okA_nil]; exact q11, q12, q52, rfl, hnl, g0, g2, gq, .inl rfl⟩
  clear hfr q2 q5 q11 q12 q52 g0 g2 gq hnl
  clear fr o1
  rintro rest fr _ ⟨pre, o2, w, e, hfr, q2, q5, q11, q12, q52, rfl, hnl, g0, g2, gq, gw⟩
  cases rest with
  | nil =>
    have ee : xs = pre := by simpa using e
    have hlt : ¬ ((pre.length : Int) < 64) := by rw [← ee, hxs]; omega
    simp -implicitDefEqProofs [hfr, q2, q5, q11, q12, q52, hlt]
    exact kk _ o2 w (by simp [hfr]) (by simp [hfr, q2]) (by simp [hfr, q11, ee]) (by simp [hfr, q12]) g0 gq (by rw [ee]; exact gw) hnl
  | cons x rest =>
    obtain ⟨hlt0, hg, hpl0⟩ := idx_at e
    have hw := idx_next e (by omega)
    have hpl : pre.length < 64 := by omega
    have hlt : (pre.length : Int) < 64 := by omega
    have hx : xs.getD pre.length 0 = x := by simp [List.getD_eq_getElem?_getD, hg]
    have hf := fitsA_eq o2 (n + 2) 162 192 xs pre.length hpl0 n [] g2 (by rw [hx]; exact hB x (by simp [e]))
    rw [hx] at hf
    have hft : (if inI64 x then x else 0) = fit x := rfl
    rw [hft] at hf
    have hoL : oL 0 (pre ++ [x]) = oL 0 pre ++ (if fit x ≠ 0 then [((pre.length : Int), fit x)] else []) := by
      rw [oL_app]; simp only [oL, Nat.zero_add]
    have hol := oL_len pre 0
    have hal := okA_app ok pre x
    generalize hb : (okA ok pre) = b at *
    generalize decide (inI64 x) = d at *
    generalize fit x = F at *
    have hb2 : (if b = true then AV.bool d else AV.bool false) = AV.bool (b && d) := by cases b <;> rfl
    by_cases hz : F = 0
    · have hzb : (F != 0) = false := by simpa using hz
      rw [if_neg (by simpa using hz), List.append_nil] at hoL
      cases b <;>
      · simp only [Bool.false_and, Bool.true_and] at hal
        simp -implicitDefEqProofs [hfr, q2, q5, q11, q12, q52, hlt, hpl, hw, hf, hzb, hb2]
        refine ⟨rest, by simp, pre ++ [x], by simp [e], by first | exact hal | exact hal.symm, by simp, hnl, g0, g2, w, gq, by rw [hoL]; exact gw⟩
    · have hzb : (F != 0) = true := by simpa using hz
      rw [if_pos (by simpa using hz)] at hoL
      have hE : moA (oL 0 (pre ++ [x])) = moA (oL 0 pre) ++ [[.int .i64 (pre.length : Int), .int .i64 F]] := by rw [hoL, moA_app]; rfl
      have ml := moA_len (oL 0 pre)
      obtain ⟨o3, a1, a2, a3, a4⟩ := app_get (bytes := 16) (ro := n) (df := []) gw (by omega) (x := .fsl 2 [[.int .i64 (pre.length : Int), .int .i64 F]]) (xs := [[.int .i64 (pre.length : Int), .int .i64 F]]) rfl (.inr (by simp)) (by simp [room]; omega)
      have lq := lt_of_getO gq
      have l2 := lt_of_getO g2
      have b0 := a4 _ _ g0 (gw.not (by omega))
      have b2 := a4 _ _ g2 (gw.not (by omega))
      have bq := a4 _ _ gq (gw.not (by omega))
      have gw2 := gr_new (lo := q + 1) a3 (by omega) (n := (moA (oL 0 pre)).length + 1) (by simp)
      rw [← hE] at gw2
      simp only [List.length_cons, List.length_nil, Nat.zero_add] at a1
      have lq3 : q < o3.length := by omega
      have c0 : (o3.set q (.arr 26 2 [[K, (AV.own o2.length 0 ((moA (oL 0 pre)).length + 1) false)]]))[n]? = some X0 := by rw [List.getElem?_set_ne (by omega)]; exact b0
      have c2 : (o3.set q (.arr 26 2 [[K, (AV.own o2.length 0 ((moA (oL 0 pre)).length + 1) false)]]))[n + 2]? = some (.arr 162 192 [sC xs]) := by rw [List.getElem?_set_ne (by omega)]; exact b2
      have cq : (o3.set q (.arr 26 2 [[K, (AV.own o2.length 0 ((moA (oL 0 pre)).length + 1) false)]]))[q]? = some (.arr 26 2 [[K, (AV.own o2.length 0 ((moA (oL 0 pre)).length + 1) false)]]) := getO_set lq3
      have cw : Gr (q + 1) 62 2 (o3.set q (.arr 26 2 [[K, (AV.own o2.length 0 ((moA (oL 0 pre)).length + 1) false)]])) (AV.own o2.length 0 ((moA (oL 0 pre)).length + 1) false) (moA (oL 0 (pre ++ [x]))) := gw2.set (by omega) _
      have hnq : n ≤ q := by omega
      cases b <;>
      · simp only [Bool.false_and, Bool.true_and] at hal
        simp -implicitDefEqProofs [hfr, q2, q5, q11, q12, q52, hlt, hpl, hw, hf, hzb, hb2, gq, a1, bq, hnq]
        refine ⟨rest, by simp, pre ++ [x], by simp [e], by first | exact hal | exact hal.symm, by simp, by omega, c0, c2, _, cq, cw⟩

end Go.Proofs.Ytgabnhmjlhhojaa.A
/- lin.sum, lin.Sum, Scale and Add. -/
namespace Go.Proofs.Ytgabnhmjlhhojaa.A
open Go
set_option maxRecDepth 10000
set_option linter.unusedSimpArgs false
set_option linter.unusedVariables false
attribute [-simp] List.all_eq_true put slot_def ld idxA lenOf elems canA app hand add64A

theorem gr_hand0 {lo ty sz n : Nat} {o : List Obj} {v : AV} {es : List (List AV)} (h : Gr lo ty sz o v es) (hn : n ≤ lo) (hf : AV.flatLL es = true) : hand0 n o v = some (.sl sz es) := by
  rcases h with rfl | ⟨r, h1, rfl, h3⟩
  · simp [hf]
  · simp [show ¬ r < n by omega, h3, hf]
theorem gr_cells {lo ty sz : Nat} {o : List Obj} {v : AV} {es : List (List AV)} (h : Gr lo ty sz o v es) : AV.one v = true := by
  rcases h with rfl | ⟨r, h1, rfl, h3⟩ <;> rfl

def z64 : List Int := List.replicate 64 0
theorem z64_len : z64.length = 64 := by simp [z64]
/-- forms, each so many times, together: and an error -/
def lsumP (fs : List (Li × Int)) : Li × Int :=
  if inI64 (accK fs 0) ∧ ((accF fs z64).all fun x => decide (inI64 x)) = true then ((accK fs 0, oL 0 (accF fs z64)), 0) else ((0, []), 5)
def FsB (fs : List (Li × Int)) : Prop := Bd (accK fs 0) ∧ ∀ x ∈ accF fs z64, Bd x

theorem lsum_eq (fs : List (Li × Int)) (hf : ∀ f ∈ fs, Fi f) (hl : fs.length ≤ 9223372036854775807) (hB : FsB fs) (o : List Obj) (v : AV) (hv : Ls o 3 v (fs.map fmA)) (ro : Nat) (df : List Nat) :
    (D T).call 110 [v] ⟨o, ro, df⟩ = some (.tup [.agg (liA (lsumP fs).1), .int .i64 (lsumP fs).2], ⟨o, ro, df⟩) := by
  have hlen : lenOf v = some fs.length := by simpa using hv.len
  have hcan := hv.can
  have hP : lsumP fs = if inI64 (accK fs 0) ∧ ((accF fs z64).all fun x => decide (inI64 x)) = true then ((accK fs 0, oL 0 (accF fs z64)), 0) else ((0, []), 5) := rfl
  obtain ⟨hB1, hB2⟩ := hB
  have h64 : (accF fs z64).length = 64 := by rw [accF_len, z64_len]
  have l0 := fun o1 Q fr => lsum_l0 fs hf hl o o1 o.length rfl 0 z64 z64_len (Obj.arr 26 2 [[.int .i64 0, .fsl 2 []]]) v hv Q fr
  have hz : s3 0 = [.int .u64 0, .int .u64 0, .int .u64 0] := rfl
  generalize lsumP fs = R at *
  apply call_by (by exact rfl : T 110 = some _) (by simp)
  intro fr hfr hsl
  have s0 := hsl 0 _ rfl
  simp -implicitDefEqProofs [hfr, s0, hlen, -getElem?_pos, List.getElem?_cons_zero]
  refine l0 _ _ _ (by simp [hfr]) (by simp [hfr]) (by simp [hfr]) (by simp [hfr]) (by simp [hfr, s0]) (by simp [hfr]) (by simp [hfr]) ⟨_, by simp; rfl⟩ (by rw [get_base0]; rfl) (by rw [get_base]; rfl) (by rw [get_base]; rfl) ?_
  clear hfr s0 hsl l0
  clear fr
  intro fr o2 hfr q2 q4 q5 hpre g0 g1 g2
  have hpo := hpre.len
  have l2 := lt_of_getO g2
  have hfK := fits_eq o2 (o.length + 1) 108 3 [] [] (accK fs 0) o.length [] (by simpa using g1) hB1
  have hZ : ([] : List AV).length = 0 := rfl
  rw [hZ] at hfK
  have hft : (if inI64 (accK fs 0) then accK fs 0 else 0) = fit (accK fs 0) := rfl
  rw [hft] at hfK
  simp -implicitDefEqProofs [hfr, q2, q4, q5, hfK, hpo, setO_last, getO_last, -getElem?_pos, List.getElem?_cons_zero]
  refine lsum_l2 (accF fs z64) h64 hB2 _ o.length o2.length (by omega) (by simp; omega) (Obj.arr 26 2 [[.int .i64 0, .fsl 2 []]]) (.int .i64 (fit (accK fs 0))) (decide (inI64 (accK fs 0))) _ _ (by simp [hfr]) (by simp [hfr, q2]) (by simp [hfr, q5]) (by simp [hfr]) (by simp [hfr]) (by simp [hfr]) (getO_push g0 _) (getO_push g2 _) (by simp) ?_
  clear hfr q2 q4 q5 hfK
  clear fr
  intro fr o3 w hfr q2 q11 q12 m0 mq gw hn3
  have lq := lt_of_getO mq
  have hone := gr_cells gw
  have e1 : ∀ X, (o3.set o.length X)[o.length]? = some X := fun X => getO_set (by omega)
  have gw2 := fun X => gr_hand0 (gw.set (i := o.length) (by omega) X) (n := o.length) (by omega) (moA_flat _)
  have hcl : AV.cells w = [w] := by rcases gw with rfl | ⟨r, _, rfl, _⟩ <;> rfl
  by_cases hk : inI64 (accK fs 0)
  · by_cases ha : ((accF fs z64).all fun x => decide (inI64 x)) = true
    · have hk2 : fit (accK fs 0) = accK fs 0 := by simp [fit, hk]
      have h11 : okA (decide (inI64 (accK fs 0))) (accF fs z64) = true := by simp only [okA, ha, hk, decide_true, Bool.and_true]
      rw [h11] at q11
      rw [if_pos ⟨hk, ha⟩] at hP
      rw [hk2] at mq
      subst hP
      have hL : liA (accK fs 0, oL 0 (accF fs z64)) = [.int .i64 (accK fs 0), .sl 2 (moA (oL 0 (accF fs z64)))] := rfl
      rw [hL]
      have hfl := moA_flat (oL 0 (accF fs z64))
      generalize moA (oL 0 (accF fs z64)) = M at *
      rcases gw with rfl | ⟨r, b1, rfl, b3⟩
      · simp -implicitDefEqProofs [hfr, q2, q11, q12, m0, mq, e1, hn3, hfl]
      · have b4 : ∀ X, (o3.set o.length X)[r]? = some (.arr 62 2 M) := fun X => by rw [List.getElem?_set_ne (by omega)]; exact b3
        simp -implicitDefEqProofs [hfr, q2, q11, q12, m0, mq, e1, hn3, b4, hfl, show ¬ r < o.length by omega]
    · have h11 : okA (decide (inI64 (accK fs 0))) (accF fs z64) = false := by
        simp only [okA, hk, decide_true, Bool.true_and]; simpa using ha
      rw [h11] at q11
      rw [if_neg (fun h => ha h.2)] at hP
      subst hP
      simp -implicitDefEqProofs [hfr, q2, q11, q12, m0, mq, e1, hn3, liA, moA]
  · have h11 : okA (decide (inI64 (accK fs 0))) (accF fs z64) = false := by simp [okA, hk]
    rw [h11] at q11
    rw [if_neg (fun h => hk h.1)] at hP
    subst hP
    simp -implicitDefEqProofs [hfr, q2, q11, q12, m0, mq, e1, hn3, liA, moA]

end Go.Proofs.Ytgabnhmjlhhojaa.A
