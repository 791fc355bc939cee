/- lin.sum, lin.Sum, Scale and Add. -/
import Derived.Test.YtgabnhmjlhhojaaQ5
namespace Go.Proofs.Ytgabnhmjlhhojaa.A
open Go
set_option maxRecDepth 10000
set_option linter.unusedSimpArgs false
set_option linter.unusedVariables false
attribute [-simp] List.all_eq_true put slot_def ld idxA lenOf elems canA app hand add64A

theorem gr_hand0 {lo ty sz n : Nat} {o : List Obj} {v : AV} {es : List (List AV)} (h : Gr lo ty sz o v es) (hn : n ≤ lo) (hf : AV.flatLL es = true) : hand0 n o v = some (.sl sz es) := by
  rcases h with rfl | ⟨r, h1, rfl, h3⟩
  · simp [hf]
  · simp [show ¬ r < n by omega, h3, hf]
theorem gr_cells {lo ty sz : Nat} {o : List Obj} {v : AV} {es : List (List AV)} (h : Gr lo ty sz o v es) : AV.one v = true := by
  rcases h with rfl | ⟨r, h1, rfl, h3⟩ <;> rfl

def z64 : List Int := List.replicate 64 0
theorem z64_len : z64.length = 64 := by simp [z64]
/-- forms, each so many times, together: and an error -/
def lsumP (fs : List (Li × Int)) : Li × Int :=
  if inI64 (accK fs 0) ∧ ((accF fs z64).all fun x => decide (inI64 x)) = true then ((accK fs 0, oL 0 (accF fs z64)), 0) else ((0, []), 5)
def FsB (fs : List (Li × Int)) : Prop := Bd (accK fs 0) ∧ ∀ x ∈ accF fs z64, Bd x

theorem lsum_eq (fs : List (Li × Int)) (hf : ∀ f ∈ fs, Fi f) (hl : fs.length ≤ 9223372036854775807) (hB : FsB fs) (o : List Obj) (v : AV) (hv : Ls o 3 v (fs.map fmA)) (ro : Nat) (df : List Nat) :
    (D T).call 110 [v] ⟨o, ro, df⟩ = some (.tup [.agg (liA (lsumP fs).1), .int .i64 (lsumP fs).2], ⟨o, ro, df⟩) := by
  have hlen : lenOf v = some fs.length := by simpa using hv.len
  have hcan := hv.can
  have hP : lsumP fs = if inI64 (accK fs 0) ∧ ((accF fs z64).all fun x => decide (inI64 x)) = true then ((accK fs 0, oL 0 (accF fs z64)), 0) else ((0, []), 5) := rfl
  obtain ⟨hB1, hB2⟩ := hB
  have h64 : (accF fs z64).length = 64 := by rw [accF_len, z64_len]
  have l0 := fun o1 Q fr => lsum_l0 fs hf hl o o1 o.length rfl 0 z64 z64_len (Obj.arr 26 2 [[.int .i64 0, .fsl 2 []]]) v hv Q fr
  have hz : s3 0 = [.int .u64 0, .int .u64 0, .int .u64 0] := rfl
  generalize lsumP fs = R at *
  apply call_by (by exact rfl : T 110 = some _) (by simp)
  intro fr hfr hsl
  have s0 := hsl 0 _ rfl
  simp -implicitDefEqProofs [hfr, s0, hlen, -getElem?_pos, List.getElem?_cons_zero]
  refine l0 _ _ _ (by simp [hfr]) (by simp [hfr]) (by simp [hfr]) (by simp [hfr]) (by simp [hfr, s0]) (by simp [hfr]) (by simp [hfr]) ⟨_, by simp; rfl⟩ (by rw [get_base0]; rfl) (by rw [get_base]; rfl) (by rw [get_base]; rfl) ?_
  clear hfr s0 hsl l0
  clear fr
  intro fr o2 hfr q2 q4 q5 hpre g0 g1 g2
  have hpo := hpre.len
  have l2 := lt_of_getO g2
  have hfK := fits_eq o2 (o.length + 1) 108 3 [] [] (accK fs 0) o.length [] (by simpa using g1) hB1
  have hZ : ([] : List AV).length = 0 := rfl
  rw [hZ] at hfK
  have hft : (if inI64 (accK fs 0) then accK fs 0 else 0) = fit (accK fs 0) := rfl
  rw [hft] at hfK
  simp -implicitDefEqProofs [hfr, q2, q4, q5, hfK, hpo, setO_last, getO_last, -getElem?_pos, List.getElem?_cons_zero]
  refine lsum_l2 (accF fs z64) h64 hB2 _ o.length o2.length (by omega) (by simp; omega) (Obj.arr 26 2 [[.int .i64 0, .fsl 2 []]]) (.int .i64 (fit (accK fs 0))) (decide (inI64 (accK fs 0))) _ _ (by simp [hfr]) (by simp [hfr, q2]) (by simp [hfr, q5]) (by simp [hfr]) (by simp [hfr]) (by simp [hfr]) (getO_push g0 _) (getO_push g2 _) (by simp) ?_
  clear hfr q2 q4 q5 hfK
  clear fr
  intro fr o3 w hfr q2 q11 q12 m0 mq gw hn3
  have lq := lt_of_getO mq
  have hone := gr_cells gw
  have e1 : ∀ X, (o3.set o.length X)[o.length]? = some X := fun X => getO_set (by omega)
  have gw2 := fun X => gr_hand0 (gw.set (i := o.length) (by omega) X) (n := o.length) (by omega) (moA_flat _)
  have hcl : AV.cells w = [w] := by rcases gw with rfl | ⟨r, _, rfl, _⟩ <;> rfl
  by_cases hk : inI64 (accK fs 0)
  · by_cases ha : ((accF fs z64).all fun x => decide (inI64 x)) = true
    · have hk2 : fit (accK fs 0) = accK fs 0 := by simp [fit, hk]
      have h11 : okA (decide (inI64 (accK fs 0))) (accF fs z64) = true := by simp only [okA, ha, hk, decide_true, Bool.and_true]
      rw [h11] at q11
      rw [if_pos ⟨hk, ha⟩] at hP
      rw [hk2] at mq
      subst hP
      have hL : liA (accK fs 0, oL 0 (accF fs z64)) = [.int .i64 (accK fs 0), .sl 2 (moA (oL 0 (accF fs z64)))] := rfl
      rw [hL]
      have hfl := moA_flat (oL 0 (accF fs z64))
      generalize moA (oL 0 (accF fs z64)) = M at *
      rcases gw with rfl | ⟨r, b1, rfl, b3⟩
      · simp -implicitDefEqProofs [hfr, q2, q11, q12, m0, mq, e1, hn3, hfl]
      · have b4 : ∀ X, (o3.set o.length X)[r]? = some (.arr 62 2 M) := fun X => by rw [List.getElem?_set_ne (by omega)]; exact b3
        simp -implicitDefEqProofs [hfr, q2, q11, q12, m0, mq, e1, hn3, b4, hfl, show ¬ r < o.length by omega]
    · have h11 : okA (decide (inI64 (accK fs 0))) (accF fs z64) = false := by
        simp only [okA, hk, decide_true, Bool.true_and]; simpa using ha
      rw [h11] at q11
      rw [if_neg (fun h => ha h.2)] at hP
      subst hP
      simp -implicitDefEqProofs [hfr, q2, q11, q12, m0, mq, e1, hn3, liA, moA]
  · have h11 : okA (decide (inI64 (accK fs 0))) (accF fs z64) = false := by simp [okA, hk]
    rw [h11] at q11
    rw [if_neg (fun h => hk h.1)] at hP
    subst hP
    simp -implicitDefEqProofs [hfr, q2, q11, q12, m0, mq, e1, hn3, liA, moA]

end Go.Proofs.Ytgabnhmjlhhojaa.A
