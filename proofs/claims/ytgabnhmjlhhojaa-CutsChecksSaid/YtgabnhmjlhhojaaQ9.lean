/- The document's Lin gives what the program's sum gives. -/
import Derived.Test.YtgabnhmjlhhojaaU5
import Derived.Test.YtgabnhmjlhhojaaU2
namespace Go.Proofs.Ytgabnhmjlhhojaa.A
open Go
set_option maxRecDepth 10000
set_option linter.unusedSimpArgs false
set_option linter.unusedVariables false
attribute [-simp] List.all_eq_true put slot_def ld idxA lenOf elems canA app hand add64A

theorem byv_zero : ∀ (l : List (Int × Int)) (n v : Int), lrt n l = true → v ≤ n → byv v l = 0
  | [], _, _, _, _ => rfl
  | m :: l, n, v, h, hv => by
    simp only [lrt, Bool.and_eq_true, decide_eq_true_eq] at h
    simp only [byv]
    rw [if_neg (by omega)]
    exact byv_zero l m.1 v h.2 (by omega)
theorem accM_get (b : Int) : ∀ (l : List (Int × Int)) (n : Int) (xs : List Int) (j : Nat), -1 ≤ n → lrt n l = true → j < xs.length → (accM b l xs).getD j 0 = xs.getD j 0 + byv j l * b
  | [], _, _, _, _, _, _ => by simp [accM, byv]
  | m :: l, n, xs, j, hn, h, hj => by
    simp only [lrt, Bool.and_eq_true, decide_eq_true_eq] at h
    have ih := accM_get b l m.1 (xs.set m.1.toNat (xs.getD m.1.toNat 0 + m.2 * b)) j (by omega) h.2 (by simpa using hj)
    simp only [accM, byv, ih]
    by_cases e : m.1 = (j : Int)
    · have ej : m.1.toNat = j := by omega
      rw [if_pos e, byv_zero l m.1 j h.2 (by omega), ej]
      simp [List.getD_eq_getElem?_getD, hj]
    · rw [if_neg e]
      congr 1
      rw [List.getD_eq_getElem?_getD, List.getElem?_set_ne (by omega), List.getD_eq_getElem?_getD]
theorem accF_get : ∀ (fs : List (Li × Int)) (xs : List Int) (j : Nat), (∀ f ∈ fs, lok f.1 = true) → j < xs.length → (accF fs xs).getD j 0 = accV j fs (xs.getD j 0)
  | [], _, _, _, _ => rfl
  | f :: l, xs, j, h, hj => by
    simp only [accF, accV]
    rw [accF_get l _ j (fun g hg => h g (by simp [hg])) (by rw [accM_len]; exact hj), accM_get f.2 f.1.2 (-1) xs j (by omega) (h f (by simp)) hj]
theorem cfs_get (fs : List (Li × Int)) : ∀ (k j i : Nat), i < k → (cfs fs k j).getD i 0 = accV ((j + i : Nat) : Int) fs 0
  | k + 1, j, 0, _ => by simp [cfs]
  | k + 1, j, i + 1, h => by
    have := cfs_get fs k (j + 1) i (by omega)
    simp only [cfs, List.getD_cons_succ, this, show j + 1 + i = j + (i + 1) by omega]
theorem z64_get (i : Nat) : z64.getD i 0 = 0 := by
  rw [List.getD_eq_getElem?_getD]
  rcases h : z64[i]? with _ | y
  · rfl
  · exact List.eq_of_mem_replicate (List.mem_of_getElem? h)
theorem cfs_acc (fs : List (Li × Int)) (h : ∀ f ∈ fs, lok f.1 = true) : cfs fs 64 0 = accF fs z64 := by
  apply List.ext_getElem
  · rw [cfs_len, accF_len, z64_len]
  · intro i h1 h2
    have hi : i < 64 := by rw [cfs_len] at h1; exact h1
    have e1 := cfs_get fs 64 0 i hi
    have e2 := accF_get fs z64 i h (by rw [z64_len]; exact hi)
    have e3 : z64.getD i 0 = 0 := z64_get i
    rw [e3] at e2
    rw [List.getD_eq_getElem?_getD, List.getElem?_eq_getElem h1] at e1
    rw [List.getD_eq_getElem?_getD, List.getElem?_eq_getElem h2] at e2
    simp only [Option.getD_some, Nat.zero_add] at e1 e2
    rw [e1, e2]

theorem rlin_eq (l : List Li) (b : List Int) (hl : ∀ q ∈ l, LiOk q) (hk : ∀ q ∈ l, lok q = true) (hb : ∀ y ∈ b, inI64 y) (hn : l.length ≤ 1000000) (hlb : l.length = b.length) (o : List Obj) (v w : AV) (hv : FsG o 2 v (l.map liA)) (hw : FsG o 1 w (intA b)) (ro : Nat) (df : List Nat) :
    (D T).call 72 [v, w] ⟨o, ro, df⟩ = some (.tup [.agg (liA (lsumP (l.zip b)).1), .int .i64 (lsumP (l.zip b)).2], ⟨o, ro, df⟩) := by
  have hcan := hv.can
  have hmem : ∀ f ∈ l.zip b, f.1 ∈ l ∧ f.2 ∈ b := fun f hf => ⟨(List.of_mem_zip hf).1, (List.of_mem_zip hf).2⟩
  have hcf := cfs_acc (l.zip b) (fun f hf => hk _ (hmem f hf).1)
  have hB := fsB_of (fs := l.zip b) (fun f hf => ⟨hl _ (hmem f hf).1, hb _ (hmem f hf).2⟩) (by simp; omega)
  have hBv : ∀ j : Nat, j < 64 → Bd (accV j (l.zip b) 0) := fun j hj => by
    have e1 := cfs_get (l.zip b) 64 0 j hj
    rw [hcf, Nat.zero_add] at e1
    rw [← e1]
    refine hB.2 _ ?_
    rw [List.getD_eq_getElem?_getD, List.getElem?_eq_getElem (by rw [accF_len, z64_len]; exact hj)]
    simp
  have hP : lsumP (l.zip b) = if inI64 (accK (l.zip b) 0) ∧ ((accF (l.zip b) z64).all fun x => decide (inI64 x)) = true then ((accK (l.zip b) 0, oL 0 (accF (l.zip b) z64)), 0) else ((0, []), 5) := rfl
  have l0 := fun o1 X0 Q fr => rlin_l0 l b hl hb hn hlb o o1 o.length rfl v w hv hw X0 Q fr
  have l1 := fun o1 q hq X0 K ok Q fr => rlin_l1 l b hl hb hn hlb o o1 o.length rfl v w hv hw hBv q hq X0 K ok Q fr
  have hfK := fun o ro df => fits28_eq (accK (l.zip b) 0) hB.1 o ro df
  rw [hcf] at l1
  simp only [td_eq] at hfK
  generalize lsumP (l.zip b) = R at *
  generalize hA : accF (l.zip b) z64 = A at *
  have ht0 : td 0 = [.int .i64 0, .int .u64 0, .int .u64 0] := rfl
  apply call_by (by exact rfl : T 72 = some _) (by simp)
  intro fr hfr hsl
  have s0 := hsl 0 _ rfl
  have s1 := hsl 1 _ rfl
  simp -implicitDefEqProofs [hfr, s0, s1, get_base0, get_base, set_base0, set_base, -getElem?_pos, List.getElem?_cons_zero, List.getElem?_cons_succ]
  refine l0 _ (Obj.arr 26 2 [[.int .i64 0, .fsl 2 []]]) _ _ (by simp [hfr]) (by simp [hfr, s0]) (by simp [hfr, s1]) (by simp [hfr]) (by simp [hfr]) (by simp [hfr]) ⟨_, rfl⟩ (by rw [get_base0]; rfl) (by rw [get_base, ht0]; rfl) ?_
  clear hfr s0 s1 hsl l0
  clear fr
  intro fr o2 hfr q0 q1 q4 q6 hpre g0 g1
  rw [td_eq] at g1
  have hpo := hpre.len
  have hl1 := lt_of_getO g1
  have hft : fit (accK (l.zip b) 0) = fit (accK (l.zip b) 0) := rfl
  simp -implicitDefEqProofs [hfr, q0, q1, q4, q6, g1, hfK, hpo, setO_last, getO_last, -getElem?_pos, List.getElem?_cons_zero, List.getElem?_cons_succ]
  refine l1 _ o2.length (by omega) (Obj.arr 26 2 [[.int .i64 0, .fsl 2 []]]) (.int .i64 (fit (accK (l.zip b) 0))) (decide (inI64 (accK (l.zip b) 0))) _ _ (by simp [hfr]) (by simp [hfr, q0]) (by simp [hfr, q1]) (by simp [hfr, q4]) (by simp [hfr]) (by simp [hfr]) (by simp [hfr]) (hpre.push _) (getO_push g0 _) (by simp) ?_
  clear hfr q0 q1 q4 q6
  clear fr
  intro fr o3 u hfr q4 q9 q10 hn3 m0 mq gw
  have lq := lt_of_getO mq
  have e1 : ∀ X, (o3.set o.length X)[o.length]? = some X := fun X => getO_set (by omega)
  have hfl := moA_flat (oL 0 A)
  by_cases hk : inI64 (accK (l.zip b) 0)
  · by_cases ha : (A.all fun x => decide (inI64 x)) = true
    · have hk2 : fit (accK (l.zip b) 0) = accK (l.zip b) 0 := by simp [fit, hk]
      have h11 : okA (decide (inI64 (accK (l.zip b) 0))) A = true := by simp only [okA, ha, hk, decide_true, Bool.and_true]
      rw [h11] at q9
      rw [if_pos ⟨hk, ha⟩] at hP
      rw [hk2] at mq
      subst hP
      have hL : liA (accK (l.zip b) 0, oL 0 A) = [.int .i64 (accK (l.zip b) 0), .sl 2 (moA (oL 0 A))] := rfl
      rw [hL]
      generalize moA (oL 0 A) = M at *
      rcases gw with rfl | ⟨r, b1, rfl, b3⟩
      · simp -implicitDefEqProofs [hfr, q4, q9, q10, m0, mq, e1, hn3, hfl]
      · have b4 : ∀ X, (o3.set o.length X)[r]? = some (.arr 62 2 M) := fun X => by rw [List.getElem?_set_ne (by omega)]; exact b3
        simp -implicitDefEqProofs [hfr, q4, q9, q10, m0, mq, e1, hn3, b4, hfl, show ¬ r < o.length by omega]
    · have h11 : okA (decide (inI64 (accK (l.zip b) 0))) A = false := by
        simp only [okA, hk, decide_true, Bool.true_and]; simpa using ha
      rw [h11] at q9
      rw [if_neg (fun h => ha h.2)] at hP
      subst hP
      simp -implicitDefEqProofs [hfr, q4, q9, q10, m0, mq, e1, hn3, liA, moA]
  · have h11 : okA (decide (inI64 (accK (l.zip b) 0))) A = false := by simp [okA, hk]
    rw [h11] at q9
    rw [if_neg (fun h => hk h.1)] at hP
    subst hP
    simp -implicitDefEqProofs [hfr, q4, q9, q10, m0, mq, e1, hn3, liA, moA]

end Go.Proofs.Ytgabnhmjlhhojaa.A
/- A quotient rounded up; a form divided. -/
namespace Go.Proofs.Ytgabnhmjlhhojaa.A
open Go
set_option maxRecDepth 10000
set_option linter.unusedSimpArgs false
set_option linter.unusedVariables false
attribute [-simp] List.all_eq_true put slot_def ld idxA lenOf elems canA app hand add64A

theorem over_eq (a b : Int) (hb : 1 ≤ b) (o : List Obj) (ro : Nat) (df : List Nat) : (D T).call 124 [.int .i64 a, .int .i64 b] ⟨o, ro, df⟩ = some (.bool false, ⟨o, ro, df⟩) := by
  have c1 : (b == 0) = false := beq_eq_false_iff_ne.2 (by omega)
  have c2 : (b == -1) = false := beq_eq_false_iff_ne.2 (by omega)
  apply call_by (by exact rfl : T 124 = some _) (by simp)
  intro fr hfr hsl
  have s0 := hsl 0 _ rfl
  have s1 := hsl 1 _ rfl
  cases c3 : (a == -9223372036854775808) <;> simp -implicitDefEqProofs [hfr, s0, s1, c1, c2, c3, -getElem?_pos, List.getElem?_cons_zero]

/-- a quotient, rounded up -/
def ceilP (a b : Int) : Int := -((-a) / b)
theorem ceil_tdiv (a b : Int) (hb : 1 ≤ b) : ceilP a b = if a.tmod b ≠ 0 ∧ ¬ a < 0 then a.tdiv b + 1 else a.tdiv b := by
  unfold ceilP
  by_cases ha : a < 0
  · rw [if_neg (fun h => h.2 ha)]
    have : a.tdiv b = -((-a).tdiv b) := by rw [Int.neg_tdiv]; omega
    rw [this, Int.tdiv_eq_ediv_of_nonneg (by omega)]
  · have e1 : a.tdiv b = a / b := Int.tdiv_eq_ediv_of_nonneg (by omega)
    have e2 : a.tmod b = a % b := Int.tmod_eq_emod_of_nonneg (by omega)
    rw [e1, e2]
    have h1 := Int.mul_ediv_add_emod a b
    have h2 := Int.emod_nonneg a (show b ≠ 0 by omega)
    have h3 := Int.emod_lt_of_pos a (show 0 < b by omega)
    by_cases hz : a % b = 0
    · rw [if_neg (fun h => h.1 hz)]
      have := (Int.ediv_emod_unique (a := -a) (r := 0) (q := -(a / b)) (show 0 < b by omega)).2 ⟨by rw [Int.mul_neg]; omega, by omega, by omega⟩
      rw [this.1]; omega
    · rw [if_pos ⟨hz, ha⟩]
      have := (Int.ediv_emod_unique (a := -a) (r := b - a % b) (q := -(a / b) - 1) (show 0 < b by omega)).2 ⟨by rw [Int.mul_sub, Int.mul_neg]; omega, by omega, by omega⟩
      rw [this.1]; omega
theorem ceil_rng {a b : Int} (ha : inI64 a) (hb : 1 ≤ b) : inI64 (ceilP a b) := by
  unfold inI64 at *
  unfold ceilP
  have h1 : (-a) / b ≤ 9223372036854775808 := by
    rcases Int.le_total 0 (-a) with h | h
    · have := Int.ediv_le_self b h; omega
    · have : (-a) / b < 1 := (Int.ediv_lt_iff_lt_mul (by omega)).2 (by omega)
      omega
  have h2 : -9223372036854775807 ≤ (-a) / b := by
    rw [Int.le_ediv_iff_mul_le (by omega)]
    have : -9223372036854775807 * b ≤ -9223372036854775807 * 1 := Int.mul_le_mul_of_nonpos_left (by omega) (by omega)
    omega
  omega
theorem tdiv_rng {a b : Int} (ha : inI64 a) (hb : 1 ≤ b) : inI64 (a.tdiv b) := by
  unfold inI64 at *
  by_cases h : a < 0
  · have e : a.tdiv b = -((-a).tdiv b) := by rw [Int.neg_tdiv]; omega
    rw [e, Int.tdiv_eq_ediv_of_nonneg (by omega)]
    have h1 := Int.ediv_le_self (a := -a) b (by omega)
    have h2 : 0 ≤ (-a) / b := Int.ediv_nonneg (by omega) (by omega)
    omega
  · rw [Int.tdiv_eq_ediv_of_nonneg (by omega)]
    have h1 := Int.ediv_le_self (a := a) b (by omega)
    have h2 : 0 ≤ a / b := Int.ediv_nonneg (by omega) (by omega)
    omega

theorem ceilC_eq (a b : Int) (ha : inI64 a) (hb : 1 ≤ b) (o : List Obj) (ro : Nat) (df : List Nat) :
    (D T).call 113 [.int .i64 a, .int .i64 b] ⟨o, ro, df⟩ = some (.tup [.int .i64 (ceilP a b), .bool true], ⟨o, ro, df⟩) := by
  have h := fun o ro df => over_eq a b hb o ro df
  have e := ceil_tdiv a b hb
  have r1 := ceil_rng ha hb
  have r2 := tdiv_rng ha hb
  unfold inI64 at r1 r2
  have w2 := wrap_id r2.1 r2.2
  have c0 : ¬ b = 0 := by omega
  have c1 : ¬ b < 0 := by omega
  apply call_by (by exact rfl : T 113 = some _) (by simp)
  intro fr hfr hsl
  have s0 := hsl 0 _ rfl
  have s1 := hsl 1 _ rfl
  generalize ceilP a b = C at *
  by_cases hz : a.tmod b = 0
  · rw [if_neg (fun h => h.1 hz)] at e
    subst e
    have hzb : (a.tmod b != 0) = false := by simpa using hz
    simp -implicitDefEqProofs [hfr, s0, s1, h, w2, c0, hzb, -getElem?_pos, List.getElem?_cons_zero]
  · have hzb : (a.tmod b != 0) = true := by simpa using hz
    by_cases ha2 : a < 0
    · rw [if_neg (fun h => h.2 ha2)] at e
      subst e
      simp -implicitDefEqProofs [hfr, s0, s1, h, w2, c0, c1, hzb, ha2, -getElem?_pos, List.getElem?_cons_zero]
    · rw [if_pos ⟨hz, ha2⟩] at e
      have w1 := wrap_id r1.1 r1.2
      rw [e] at w1 ⊢
      simp -implicitDefEqProofs [hfr, s0, s1, h, w1, w2, c0, c1, hzb, ha2, -getElem?_pos, List.getElem?_cons_zero]

def dvM (b : Int) (l : List (Int × Int)) : List (Int × Int) := l.map fun m => (m.1, m.2.tdiv b)
def divP (l : Li) (b : Int) : Li := (ceilP l.1 b, dvM b l.2)
theorem cloneMo_eq (l : List (Int × Int)) (hl : l.length ≤ 1000000) (h0 : l ≠ []) (st : St) : (D T).call 1000044 [.sl 2 (moA l)] st = some (.own st.objs.length 0 l.length false, st.push (.arr 62 2 (moA l))) := by
  rw [D_ext _ _ (by rfl)]
  cases l with
  | nil => exact absurd rfl h0
  | cons x l =>
    have hr : room (l.length + 1) 16 = true := by simp [room] at hl ⊢; omega
    have e : moA (x :: l) = [.int .i64 x.1, .int .i64 x.2] :: moA l := rfl
    have e2 : (moA l).length = l.length := moA_len l
    simp only [ext, exClone, e, elems, hr, and_self, if_true, cond_true, List.length_cons, e2]
theorem cloneMo_nil (st : St) : (D T).call 1000044 [.sl 2 []] st = some (.sl 2 [], st) := by
  rw [D_ext _ _ (by rfl)]; rfl

theorem div_l0 (ms : List (Int × Int)) (hl : ms.length ≤ 1000000) (hm : ∀ m ∈ ms, inI64 m.2) (b : Int) (hb : 1 ≤ b) (o : List Obj) (B R : Obj) (K : AV) (Q : AE → List AV → St → Prop) (fr : List AV) (hfr : fr.length = 37)
    (q1 : slot fr 1 = .int .i64 b) (q4 : slot fr 4 = .ptr (o.length + 1) 0 0) (q5 : slot fr 5 = .ptr (o.length + 3) 0 0) (q21 : slot fr 21 = .int .i64 (ms.length : Int)) (q22 : slot fr 22 = .int .i64 0)
    (kk : ∀ fr' : List AV, fr'.length = 37 → slot fr' 4 = .ptr (o.length + 1) 0 0 → slot fr' 5 = .ptr (o.length + 3) 0 0 →
      Q (.exit 0) fr' ⟨o ++ [B, R, .arr 62 2 (moA (dvM b ms)), .arr 26 2 [[K, .own (o.length + 2) 0 ms.length false]]], o.length, []⟩) :
    ∃ e fr' st', (D T).loop false L92_0 fr ⟨o ++ [B, R, .arr 62 2 (moA ms), .arr 26 2 [[K, .own (o.length + 2) 0 ms.length false]]], o.length, []⟩ = some (e, fr', st') ∧ Q e fr' st' := by
  have mx : ms.length ≤ 9223372036854775807 := by omega
  have c0 : ¬ b = 0 := by omega
  apply loop_inv L92_0.eq_1 List.length (fun (rest : List (Int × Int)) fr st => ∃ pre, ms = pre ++ rest ∧ fr.length = 37 ∧ slot fr 1 = .int .i64 b ∧ slot fr 4 = .ptr (o.length + 1) 0 0 ∧ slot fr 5 = .ptr (o.length + 3) 0 0 ∧ slot fr 21 = .int .i64 (ms.length : Int) ∧ slot fr 22 = .int .i64 (pre.length : Int) ∧
    st = ⟨o ++ [B, R, .arr 62 2 (moA (dvM b pre ++ rest)), .arr 26 2 [[K, .own (o.length + 2) 0 ms.length false]]], o.length, []⟩) ?_ ms ⟨[], rfl, hfr, q1, q4, q5, q21, q22, rfl⟩
  clear hfr q1 q4 q5 q21 q22
  clear fr
  rintro rest fr _ ⟨pre, e, hfr, q1, q4, q5, q21, q22, rfl⟩
  cases rest with
  | nil =>
    have hlt := idx_end e
    have ee : pre = ms := by simpa using e.symm
    simp -implicitDefEqProofs [hfr, q1, q4, q5, q21, q22, hlt]
    rw [ee]
    exact kk _ (by simp [hfr]) (by simp [hfr, q4]) (by simp [hfr, q5])
  | cons x rest =>
    obtain ⟨hlt, hg, hpl⟩ := idx_at e
    have hw := idx_next e mx
    obtain ⟨x1, x2⟩ := x
    have hi := tdiv_rng (hm (x1, x2) (by simp [e])) hb
    have w2 := wrap_id hi.1 hi.2
    simp only at w2
    have hlp : (dvM b pre).length = pre.length := by simp [dvM]
    have hG1 : (moA (dvM b pre ++ (x1, x2) :: rest))[pre.length]? = some [.int .i64 x1, .int .i64 x2] := by simp [moA, ← hlp]
    have hG2 : (moA (dvM b pre ++ (x1, x2) :: rest)).length = ms.length := by rw [moA_len, e]; simp [hlp]
    have hG3 : (moA (dvM b pre ++ (x1, x2) :: rest)).set pre.length [.int .i64 x1, .int .i64 (x2.tdiv b)] = moA (dvM b (pre ++ [(x1, x2)]) ++ rest) := by
      simp only [moA, List.map_append, List.map_cons]
      rw [List.set_append_right _ _ (by simp [hlp])]
      simp [hlp, dvM]
    generalize moA (dvM b pre ++ (x1, x2) :: rest) = G at *
    simp -implicitDefEqProofs [hfr, q1, q4, q5, q21, q22, hlt, hw, hpl, c0, w2, hG1, hG2, hG3, get_base0, get_base, set_base0, set_base, -getElem?_pos, List.getElem?_cons_zero, List.getElem?_cons_succ]
    exact ⟨rest, by simp, pre ++ [(x1, x2)], by simp [e], by simp, by simp⟩

theorem divided_eq (l : Li) (b : Int) (hl : LiOk l) (hb : 1 ≤ b) (o : List Obj) (ro : Nat) (df : List Nat) :
    (D T).call 92 [.agg (liA l), .int .i64 b] ⟨o, ro, df⟩ = some (.agg (liA (divP l b)), ⟨o, ro, df⟩) := by
  obtain ⟨k, ms⟩ := l
  obtain ⟨h1, h2, h3⟩ := hl
  simp only at h1 h2 h3
  have hc := fun o ro df => ceilC_eq k b h1 hb o ro df
  have hL : liA (divP (k, ms) b) = [.int .i64 (ceilP k b), .sl 2 (moA (dvM b ms))] := rfl
  have hL2 : liA (k, ms) = [.int .i64 k, .sl 2 (moA ms)] := rfl
  rw [hL, hL2]
  have hf := moA_flat (dvM b ms)
  have hd : (moA (dvM b ms)).length = ms.length := by rw [moA_len]; simp [dvM]
  apply call_by (by exact rfl : T 92 = some _) (by simp)
  intro fr hfr hsl
  have s0 := hsl 0 _ rfl
  have s1 := hsl 1 _ rfl
  generalize ceilP k b = C at *
  by_cases h0 : ms = []
  · subst h0
    have e1 : dvM b [] = [] := rfl
    have e2 : moA [] = [] := rfl
    have ci := fun st => cloneMo_nil st
    rw [e2] at s0
    rw [e1, e2]
    simp -implicitDefEqProofs [hfr, s0, s1, ci, hc, get_base0, get_base, set_base0, set_base, -getElem?_pos, List.getElem?_cons_zero, List.getElem?_cons_succ]
    apply loop_inv L92_0.eq_1 (fun _ : Unit => 0) (fun _ fr st => fr.length = 37 ∧ slot fr 4 = .ptr (o.length + 1) 0 0 ∧ slot fr 5 = .ptr (o.length + 2) 0 0 ∧ slot fr 21 = .int .i64 0 ∧ slot fr 22 = .int .i64 0 ∧ ∃ X, st = ⟨o ++ [X, Obj.arr 26 2 [[.int .i64 0, .fsl 2 []]], .arr 26 2 [[.int .i64 C, .sl 2 []]]], o.length, []⟩) ?_ () ⟨by simp [hfr], by simp [hfr], by simp [hfr], by simp [hfr], by simp [hfr], _, rfl⟩
    clear hfr s0 s1 hsl
    clear fr
    rintro _ fr _ ⟨hfr, q4, q5, q21, q22, X, rfl⟩
    simp -implicitDefEqProofs [hfr, q4, q5, q21, q22, get_base0, get_base, set_base0, set_base, -getElem?_pos, List.getElem?_cons_zero, List.getElem?_cons_succ]
  · have ci := fun st => cloneMo_eq ms h3 h0 st
    have l0 := fun B R K Q fr => div_l0 ms h3 (fun m hm => (h2 m hm).2) b hb o B R K Q fr
    generalize moA ms = M at *
    generalize moA (dvM b ms) = M2 at *
    simp -implicitDefEqProofs [hfr, s0, s1, ci, hc, get_base0, get_base, set_base0, set_base, -getElem?_pos, List.getElem?_cons_zero, List.getElem?_cons_succ]
    refine l0 _ _ _ _ _ (by simp [hfr]) (by simp [hfr, s1]) (by simp [hfr]) (by simp [hfr]) (by simp [hfr]) (by simp [hfr]) ?_
    clear hfr s0 s1 hsl
    clear fr
    intro fr hfr q4 q5
    have t1 : List.take ms.length M2 = M2 := by rw [← hd, List.take_length]
    simp -implicitDefEqProofs [hfr, q4, q5, hf, hd, t1, show ¬ o.length + 2 < o.length by omega, get_base0, get_base, set_base0, set_base, -getElem?_pos, List.getElem?_cons_zero, List.getElem?_cons_succ]

end Go.Proofs.Ytgabnhmjlhhojaa.A
