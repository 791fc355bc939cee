/- The document's Lin, as a whole. -/
import Derived.Test.YtgabnhmjlhhojaaU4
namespace Go.Proofs.Ytgabnhmjlhhojaa.A
open Go
set_option maxRecDepth 10000
set_option linter.unusedSimpArgs false
set_option linter.unusedVariables false
attribute [-simp] List.all_eq_true put slot_def ld idxA lenOf elems canA app hand add64A

theorem td_eq (z : Int) : td z = [.int .i64 (hi (z / 18446744073709551616)), .int .u64 (w0 (z / 18446744073709551616)), .int .u64 (w0 z)] := rfl

theorem rlin_l2 (l : List Li) (b : List Int) (hl : ∀ q ∈ l, LiOk q) (hb : ∀ y ∈ b, inI64 y) (hn : l.length ≤ 1000000) (hlb : l.length = b.length) (o o1 : List Obj) (n : Nat) (hon : o.length = n) (v w : AV) (hv : FsG o 2 v (l.map liA)) (hw : FsG o 1 w (intA b)) (V : Int) (q : Nat) (hq : n ≤ q) (x4 x9 x10 : AV) (Q : AE → List AV → St → Prop) (fr : List AV) (hfr : fr.length = 87)
    (q0 : slot fr 0 = v) (q1 : slot fr 1 = w) (q4 : slot fr 4 = x4) (q9 : slot fr 9 = x9) (q10 : slot fr 10 = x10) (q11 : slot fr 11 = .int .i64 V) (q12 : slot fr 12 = .ptr q 0 0) (q13 : slot fr 13 = .int .i64 0)
    (hpre : Pre o o1) (g1 : o1[q]? = some (.arr 130 3 [td 0]))
    (kk : ∀ (fr' : List AV) (o2 : List Obj), fr'.length = 87 → slot fr' 0 = v → slot fr' 1 = w → slot fr' 4 = x4 → slot fr' 9 = x9 → slot fr' 10 = x10 → slot fr' 11 = .int .i64 V → slot fr' 12 = .ptr q 0 0 → Pre o o2 → o1.length ≤ o2.length → (∀ i, i ≠ q → i < o1.length → o2[i]? = o1[i]?) → o2[q]? = some (.arr 130 3 [td (accV V (l.zip b) 0)]) → Q (.exit 4) fr' ⟨o2, n, []⟩) :
    ∃ e fr' st', (D T).loop false L72_2 fr ⟨o1, n, []⟩ = some (e, fr', st') ∧ Q e fr' st' := by
  have hlen : lenOf v = some l.length := by simpa using hv.len
  have hzl : (l.zip b).length = l.length := by simp [hlb]
  apply loop_inv L72_2.eq_1 List.length (fun (rest : List (Li × Int)) fr st => ∃ pre o2, ∃ x : Int, l.zip b = pre ++ rest ∧ accV V (l.zip b) 0 = accV V rest x ∧ fr.length = 87 ∧ slot fr 0 = v ∧ slot fr 1 = w ∧ slot fr 4 = x4 ∧ slot fr 9 = x9 ∧ slot fr 10 = x10 ∧ slot fr 11 = .int .i64 V ∧ slot fr 12 = .ptr q 0 0 ∧ slot fr 13 = .int .i64 (pre.length : Int) ∧
    st = ⟨o2, n, []⟩ ∧ Pre o o2 ∧ o1.length ≤ o2.length ∧ (∀ i, i ≠ q → i < o1.length → o2[i]? = o1[i]?) ∧ o2[q]? = some (.arr 130 3 [td x])) ?_ (l.zip b)
    ⟨[], o1, 0, rfl, rfl, hfr, q0, q1, q4, q9, q10, q11, q12, q13, rfl, hpre, Nat.le_refl _, fun _ _ _ => rfl, g1⟩
  clear hfr q0 q1 q4 q9 q10 q11 q12 q13 hpre g1
  clear fr
  rintro rest fr _ ⟨pre, o2, x, e, hE, hfr, q0, q1, q4, q9, q10, q11, q12, q13, rfl, hpre, hlo, K, g1⟩
  rw [hE] at kk
  cases rest with
  | nil =>
    have hlt := idx_end e
    rw [hzl] at hlt
    simp -implicitDefEqProofs [hfr, q0, q1, q4, q9, q10, q11, q12, q13, hlt, hlen]
    exact kk _ o2 (by simp [hfr]) (by simp [hfr, q0]) (by simp [hfr, q1]) (by simp [hfr, q4]) (by simp [hfr, q9]) (by simp [hfr, q10]) (by simp [hfr, q11]) (by simp [hfr, q12]) hpre hlo K g1
  | cons f rest =>
    obtain ⟨hlt, hg, hpl⟩ := idx_at e
    have hwi := idx_next e (by omega)
    rw [hzl] at hlt hpl
    obtain ⟨u, y⟩ := f
    have hz := List.getElem?_zip_eq_some.1 hg
    have hu := hl u (List.mem_of_getElem? hz.1)
    have hy := hb y (List.mem_of_getElem? hz.2)
    have hg2 : (l.map liA)[pre.length]? = some (liA u) := by simp [hz.1]
    have hy2 : (intA b)[pre.length]? = some [.int .i64 y] := by simp [intA, hz.2]
    obtain ⟨p, p1, p2⟩ := hv.place hpre n [] hg2
    obtain ⟨p', r1, r2⟩ := hw.place hpre n [] hy2
    have hby := fun o ro df => by_eq u (by have := hu.2.2; omega) V o ro df
    have hmo := fun o ro df => more_eq x (byv V u.2) y (byv_i fun m hm => (hu.2.1 m hm).2) hy o ro df
    have hL : liA u = [.int .i64 u.1, .sl 2 (moA u.2)] := rfl
    have l1 := lt_of_getO g1
    have e1 : ∀ X, (o2.set q X)[q]? = some X := fun X => getO_set l1
    have npre : ∀ X, Pre o (o2.set q X) := fun X => hpre.set (by omega) _
    have nK : ∀ X, ∀ i, i ≠ q → i < o1.length → (o2.set q X)[i]? = o1[i]? := fun X i h1 h2 => by rw [List.getElem?_set_ne (by omega)]; exact K i h1 h2
    rw [hL] at p2 hby
    rw [td_eq] at g1
    simp only [td_eq] at hmo
    simp only [accV] at hE
    generalize byv V u.2 = B at *
    generalize moA u.2 = M at *
    rcases p2 with rfl | ⟨pr, pty, psz, pes, rfl, pg, pe⟩ <;> rcases r2 with rfl | ⟨rr, rty, rsz, res, rfl, rg, re⟩
    · simp -implicitDefEqProofs [hfr, q0, q1, q4, q9, q10, q11, q12, q13, hlt, hpl, hwi, hlen, hq, p1, r1, g1, hby, hmo, e1, -getElem?_pos, List.getElem?_cons_zero, List.getElem?_cons_succ]
      exact ⟨rest, by simp, pre ++ [(u, y)], by simp [e], _, _, hE, by simp, rfl, npre _, by simp; exact hlo, nK _, by rw [e1]; rfl⟩
    · simp -implicitDefEqProofs [hfr, q0, q1, q4, q9, q10, q11, q12, q13, hlt, hpl, hwi, hlen, hq, p1, r1, rg, re, g1, hby, hmo, e1, -getElem?_pos, List.getElem?_cons_zero, List.getElem?_cons_succ]
      exact ⟨rest, by simp, pre ++ [(u, y)], by simp [e], _, _, hE, by simp, rfl, npre _, by simp; exact hlo, nK _, by rw [e1]; rfl⟩
    · simp -implicitDefEqProofs [hfr, q0, q1, q4, q9, q10, q11, q12, q13, hlt, hpl, hwi, hlen, hq, p1, r1, pg, pe, g1, hby, hmo, e1, -getElem?_pos, List.getElem?_cons_zero, List.getElem?_cons_succ]
      exact ⟨rest, by simp, pre ++ [(u, y)], by simp [e], _, _, hE, by simp, rfl, npre _, by simp; exact hlo, nK _, by rw [e1]; rfl⟩
    · simp -implicitDefEqProofs [hfr, q0, q1, q4, q9, q10, q11, q12, q13, hlt, hpl, hwi, hlen, hq, p1, r1, pg, pe, rg, re, g1, hby, hmo, e1, -getElem?_pos, List.getElem?_cons_zero, List.getElem?_cons_succ]
      exact ⟨rest, by simp, pre ++ [(u, y)], by simp [e], _, _, hE, by simp, rfl, npre _, by simp; exact hlo, nK _, by rw [e1]; rfl⟩

theorem Gr.of {lo ty sz : Nat} {o o' : List Obj} {v : AV} {es : List (List AV)} (h : Gr lo ty sz o v es) (hk : ∀ i, i < o.length → o'[i]? = o[i]?) : Gr lo ty sz o' v es := by
  rcases h with h | ⟨r, h1, h2, h3⟩
  · exact .inl h
  · exact .inr ⟨r, h1, h2, by rw [hk _ (lt_of_getO h3)]; exact h3⟩

/-- the coefficients from some variable on -/
def cfs (fs : List (Li × Int)) : Nat → Nat → List Int
  | 0, _ => []
  | k + 1, j => accV j fs 0 :: cfs fs k (j + 1)
theorem cfs_app (fs : List (Li × Int)) : ∀ (k j : Nat), cfs fs (k + 1) j = cfs fs k j ++ [accV ((j + k : Nat) : Int) fs 0]
  | 0, j => by simp [cfs]
  | k + 1, j => by
    have h := cfs_app fs k (j + 1)
    rw [cfs, h]
    simp only [cfs, List.cons_append, show j + 1 + k = j + (k + 1) by omega]
theorem cfs_len (fs : List (Li × Int)) : ∀ k j, (cfs fs k j).length = k
  | 0, _ => rfl
  | k + 1, j => by simp [cfs, cfs_len fs k]

theorem rlin_l1 (l : List Li) (b : List Int) (hl : ∀ q ∈ l, LiOk q) (hb : ∀ y ∈ b, inI64 y) (hn : l.length ≤ 1000000) (hlb : l.length = b.length) (o o1 : List Obj) (n : Nat) (hon : o.length = n) (v w : AV) (hv : FsG o 2 v (l.map liA)) (hw : FsG o 1 w (intA b)) (hB : ∀ j : Nat, j < 64 → Bd (accV j (l.zip b) 0)) (q : Nat) (hq : n + 1 ≤ q) (X0 : Obj) (K : AV) (ok : Bool) (Q : AE → List AV → St → Prop) (fr : List AV) (hfr : fr.length = 87)
    (q0 : slot fr 0 = v) (q1 : slot fr 1 = w) (q4 : slot fr 4 = .ptr n 0 0) (q9 : slot fr 9 = .bool ok) (q10 : slot fr 10 = .ptr q 0 0) (q11 : slot fr 11 = .int .i64 0)
    (hpre : Pre o o1) (g0 : o1[n]? = some X0) (gq : o1[q]? = some (.arr 26 2 [[K, .fsl 2 []]]))
    (kk : ∀ (fr' : List AV) (o2 : List Obj) (u : AV), fr'.length = 87 → slot fr' 4 = .ptr n 0 0 → slot fr' 9 = .bool (okA ok (cfs (l.zip b) 64 0)) → slot fr' 10 = .ptr q 0 0 → n ≤ o2.length → o2[n]? = some X0 → o2[q]? = some (.arr 26 2 [[K, u]]) → Gr (q + 1) 62 2 o2 u (moA (oL 0 (cfs (l.zip b) 64 0))) → Q (.exit 2) fr' ⟨o2, n, []⟩) :
    ∃ e fr' st', (D T).loop false L72_1 fr ⟨o1, n, []⟩ = some (e, fr', st') ∧ Q e fr' st' := by
  have l2 := fun o1 V p hp x4 x9 x10 Q fr => rlin_l2 l b hl hb hn hlb o o1 n hon v w hv hw V p hp x4 x9 x10 Q fr
  apply loop_inv L72_1.eq_1 (fun (j : Nat) => 64 - j) (fun (j : Nat) fr st => ∃ o2 u, j ≤ 64 ∧ fr.length = 87 ∧ slot fr 0 = v ∧ slot fr 1 = w ∧ slot fr 4 = .ptr n 0 0 ∧ slot fr 9 = .bool (okA ok (cfs (l.zip b) j 0)) ∧ slot fr 10 = .ptr q 0 0 ∧ slot fr 11 = .int .i64 (j : Int) ∧
    st = ⟨o2, n, []⟩ ∧ Pre o o2 ∧ o2[n]? = some X0 ∧ o2[q]? = some (.arr 26 2 [[K, u]]) ∧ Gr (q + 1) 62 2 o2 u (moA (oL 0 (cfs (l.zip b) j 0)))) ?_ 0
    ⟨o1, .fsl 2 [], by omega, hfr, q0, q1, q4, by rw [cfs, okA_nil]; exact q9, q10, q11, rfl, hpre, g0, gq, .inl rfl⟩
  clear hfr q0 q1 q4 q9 q10 q11 hpre g0 gq
  clear fr o1
  rintro j fr _ ⟨o2, u, hj, hfr, q0, q1, q4, q9, q10, q11, rfl, hpre, g0, gq, gu⟩
  have hpo := hpre.len
  by_cases hj64 : j = 64
  · subst hj64
    simp -implicitDefEqProofs [hfr, q0, q1, q4, q9, q10, q11]
    exact kk _ o2 u (by simp [hfr]) (by simp [hfr, q4]) (by simp [hfr, q9]) (by simp [hfr, q10]) (by omega) g0 gq gu
  · have hlt : (j : Int) < 64 := by omega
    have wj : IntKind.i64.wrap ((j : Int) + 1) = (j : Int) + 1 := wrap_id (by omega) (by omega)
    have lq := lt_of_getO gq
    have hc0 : cfs (l.zip b) (j + 1) 0 = cfs (l.zip b) j 0 ++ [accV j (l.zip b) 0] := by rw [cfs_app]; simp
    have hcl := cfs_len (l.zip b) j 0
    have hB := hB j (by omega)
    have hal := okA_app ok (cfs (l.zip b) j 0) (accV j (l.zip b) 0)
    rw [← hc0] at hal
    have hoL : oL 0 (cfs (l.zip b) (j + 1) 0) = oL 0 (cfs (l.zip b) j 0) ++ (if fit (accV j (l.zip b) 0) ≠ 0 then [((j : Int), fit (accV j (l.zip b) 0))] else []) := by
      rw [hc0, oL_app]; simp only [oL, Nat.zero_add, hcl]
    have hol := oL_len (cfs (l.zip b) j 0) 0
    have hf := fun o ro df => fits28_eq (accV j (l.zip b) 0) hB o ro df
    have ht0 : td 0 = [.int .i64 0, .int .u64 0, .int .u64 0] := rfl
    simp -implicitDefEqProofs [hfr, q0, q1, q4, q9, q10, q11, hlt, hpo, show n ≤ o2.length by omega, setO_last, getO_last, -getElem?_pos, List.getElem?_cons_zero, List.getElem?_cons_succ]
    refine l2 _ (j : Int) o2.length (by omega) (.ptr n 0 0) (.bool (okA ok (cfs (l.zip b) j 0))) (.ptr q 0 0) _ _ (by simp [hfr]) (by simp [hfr, q0]) (by simp [hfr, q1]) (by simp [hfr, q4]) (by simp [hfr, q9]) (by simp [hfr, q10]) (by simp [hfr, q11]) (by simp [hfr]) (by simp [hfr]) (hpre.push _) (by rw [ht0]; simp) ?_
    clear hfr q0 q1 q4 q9 q10 q11
    clear fr
    intro fr o3 hfr q0 q1 q4 q9 q10 q11 q12 hpre3 hlo K3 g3
    simp only [List.length_append, List.length_cons, List.length_nil] at hlo K3
    have K4 : ∀ i, i < o2.length → o3[i]? = o2[i]? := fun i hi => by rw [K3 i (by omega) (by omega), List.getElem?_append_left hi]
    have g0' : o3[n]? = some X0 := by rw [K4 _ (lt_of_getO g0)]; exact g0
    have gq' : o3[q]? = some (.arr 26 2 [[K, u]]) := by rw [K4 _ lq]; exact gq
    have gu' := gu.of K4
    rw [td_eq] at g3
    simp only [td_eq] at hf
    generalize hb1 : okA ok (cfs (l.zip b) j 0) = bb at *
    generalize decide (inI64 (accV j (l.zip b) 0)) = d at *
    generalize fit (accV j (l.zip b) 0) = F at *
    by_cases hz : F = 0
    · have hzb : (F != 0) = false := by simpa using hz
      rw [if_neg (by simpa using hz), List.append_nil] at hoL
      rw [← hoL] at gu'
      cases bb <;>
      · simp only [Bool.false_and, Bool.true_and] at hal
        simp -implicitDefEqProofs [hfr, q0, q1, q4, q9, q10, q11, q12, wj, g3, hf, hzb, -getElem?_pos, List.getElem?_cons_zero, List.getElem?_cons_succ]
        exact ⟨j + 1, by omega, by omega, by first | exact hal | exact hal.symm, by simp, hpre3, g0', u, gq', gu'⟩
    · have hzb : (F != 0) = true := by simpa using hz
      rw [if_pos (by simpa using hz)] at hoL
      have hE : moA (oL 0 (cfs (l.zip b) (j + 1) 0)) = moA (oL 0 (cfs (l.zip b) j 0)) ++ [[.int .i64 (j : Int), .int .i64 F]] := by rw [hoL, moA_app]; rfl
      have ml := moA_len (oL 0 (cfs (l.zip b) j 0))
      obtain ⟨o4, a1, a2, a3, a4, a5⟩ := app_getP (bytes := 16) (ro := n) (df := []) hpre3 (by omega) gu' (by omega) (x := .fsl 2 [[.int .i64 (j : Int), .int .i64 F]]) (xs := [[.int .i64 (j : Int), .int .i64 F]]) rfl (.inr (by simp)) (by simp [room]; omega)
      have b0 := a4 _ _ g0' (gu'.not (by omega))
      have bq := a4 _ _ gq' (gu'.not (by omega))
      have gu2 := gr_new (lo := q + 1) a3 (by omega) (n := (moA (oL 0 (cfs (l.zip b) j 0))).length + 1) (by simp)
      rw [← hE] at gu2
      simp only [List.length_cons, List.length_nil, Nat.zero_add] at a1
      have lq4 : q < o4.length := by omega
      have c0 : ∀ X, (o4.set q X)[n]? = some X0 := fun X => by rw [List.getElem?_set_ne (by omega)]; exact b0
      have cq : ∀ X, (o4.set q X)[q]? = some X := fun X => getO_set lq4
      have cw : ∀ X, Gr (q + 1) 62 2 (o4.set q X) (.own o3.length 0 ((moA (oL 0 (cfs (l.zip b) j 0))).length + 1) false) (moA (oL 0 (cfs (l.zip b) (j + 1) 0))) := fun X => gu2.set (by omega) _
      have cp : ∀ X, Pre o (o4.set q X) := fun X => a5.set (by omega) _
      have hnq : n ≤ q := by omega
      cases bb <;>
      · simp only [Bool.false_and, Bool.true_and] at hal
        simp -implicitDefEqProofs [hfr, q0, q1, q4, q9, q10, q11, q12, wj, g3, hf, hzb, gq', a1, bq, hnq, -getElem?_pos, List.getElem?_cons_zero, List.getElem?_cons_succ]
        exact ⟨j + 1, by omega, by omega, by first | exact hal | exact hal.symm, by simp, cp _, c0 _, _, cq _, cw _⟩

end Go.Proofs.Ytgabnhmjlhhojaa.A
