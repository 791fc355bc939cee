/- The document's Absurd, Ceil, by and Not. -/
import Derived.Test.YtgabnhmjlhhojaaQ9
namespace Go.Proofs.Ytgabnhmjlhhojaa.A
open Go
set_option maxRecDepth 10000
set_option linter.unusedSimpArgs false
set_option linter.unusedVariables false
attribute [-simp] List.all_eq_true put slot_def ld idxA lenOf elems canA app hand add64A

theorem rabs_eq (q : Iq) (hk : lok q.1 = true) (o : List Obj) (ro : Nat) (df : List Nat) :
    (D T).call 59 [.agg (iqA q)] ⟨o, ro, df⟩ = some (.bool (iabs q), ⟨o, ro, df⟩) := by
  have ml := moA_len q.1.2
  have hE : iabs q = if q.1.2.length = 0 then (decide (q.1.1 > 0) || (q.2 && decide (q.1.1 ≠ 0))) else false := by
    unfold iabs iplain; rw [hk]; by_cases h : q.1.2.length = 0 <;> simp [h]
  rw [hE]
  simp only [iqA]
  obtain ⟨⟨k, ms⟩, b⟩ := q
  simp only at *
  generalize ms.length = n at *
  generalize moA ms = M at *
  apply call_by (by exact rfl : T 59 = some _) (by simp)
  intro fr hfr hsl
  have s0 := hsl 0 _ rfl
  by_cases hn : n = 0
  · have hnb : ((n : Int) == 0) = true := by simpa using hn
    rw [if_pos hn]
    by_cases c1 : k > 0
    · have c1' : 0 < k := c1
      simp -implicitDefEqProofs [hfr, s0, ml, hn, c1, c1', get_base0, -getElem?_pos, List.getElem?_cons_zero, List.getElem?_cons_succ]
    · have c1' : ¬ 0 < k := c1
      cases b with
      | false => simp -implicitDefEqProofs [hfr, s0, ml, hn, c1, c1', get_base0, -getElem?_pos, List.getElem?_cons_zero, List.getElem?_cons_succ]
      | true =>
        have c2 : decide (k ≠ 0) = decide (k < 0) := by
          rw [Bool.eq_iff_iff]; simp only [decide_eq_true_eq]; omega
        by_cases c3 : k < 0
        · simp -implicitDefEqProofs [hfr, s0, ml, hn, c1, c1', c2, c3, get_base0, -getElem?_pos, List.getElem?_cons_zero, List.getElem?_cons_succ]
        · have c4 : k = 0 := by omega
          subst c4
          simp -implicitDefEqProofs [hfr, s0, ml, hn, get_base0, -getElem?_pos, List.getElem?_cons_zero, List.getElem?_cons_succ]
  · have hnb : ((n : Int) == 0) = false := beq_eq_false_iff_ne.2 (by omega)
    rw [if_neg hn]
    simp -implicitDefEqProofs [hfr, s0, ml, hnb, get_base0, -getElem?_pos, List.getElem?_cons_zero, List.getElem?_cons_succ]

theorem tmod_of {a b : Int} (hb : 1 ≤ b) : (a.tmod b = if a < 0 then -((-a) % b) else a % b) ∧ (a.tdiv b = if a < 0 then -((-a) / b) else a / b) := by
  by_cases ha : a < 0
  · rw [if_pos ha, if_pos ha]
    have e1 : a.tmod b = -((-a).tmod b) := by rw [Int.neg_tmod]; omega
    have e2 : a.tdiv b = -((-a).tdiv b) := by rw [Int.neg_tdiv]; omega
    rw [e1, e2, Int.tmod_eq_emod_of_nonneg (by omega), Int.tdiv_eq_ediv_of_nonneg (by omega)]
    exact ⟨rfl, rfl⟩
  · rw [if_neg ha, if_neg ha]
    exact ⟨Int.tmod_eq_emod_of_nonneg (by omega), Int.tdiv_eq_ediv_of_nonneg (by omega)⟩

theorem div_facts {a b : Int} (hb : 1 ≤ b) : (a / b = if a.tmod b ≠ 0 ∧ a < 0 then a.tdiv b - 1 else a.tdiv b) ∧ (a % b = if a.tmod b ≠ 0 ∧ a.tmod b < 0 then a.tmod b + b else a.tmod b) ∧ (ceilP a b = if a % b ≠ 0 then a / b + 1 else a / b) := by
  obtain ⟨h1, h2⟩ := tmod_of (a := a) hb
  have e1 := Int.mul_ediv_add_emod a b
  have e2 := Int.mul_ediv_add_emod (-a) b
  have r1 := Int.emod_nonneg a (show b ≠ 0 by omega)
  have r2 := Int.emod_lt_of_pos a (show 0 < b by omega)
  have r3 := Int.emod_nonneg (-a) (show b ≠ 0 by omega)
  have r4 := Int.emod_lt_of_pos (-a) (show 0 < b by omega)
  -- the quotients of a and of -a
  have key : (a % b = 0 ∧ (-a) % b = 0 ∧ (-a) / b = -(a / b)) ∨ (a % b ≠ 0 ∧ (-a) % b = b - a % b ∧ (-a) / b = -(a / b) - 1) := by
    by_cases hz : a % b = 0
    · have := (Int.ediv_emod_unique (a := -a) (r := 0) (q := -(a / b)) (show 0 < b by omega)).2 ⟨by rw [Int.mul_neg]; omega, by omega, by omega⟩
      exact .inl ⟨hz, this.2, this.1⟩
    · have := (Int.ediv_emod_unique (a := -a) (r := b - a % b) (q := -(a / b) - 1) (show 0 < b by omega)).2 ⟨by rw [Int.mul_sub, Int.mul_neg]; omega, by omega, by omega⟩
      exact .inr ⟨hz, this.2, this.1⟩
  unfold ceilP
  rw [h1, h2]
  generalize a / b = q at *
  generalize a % b = r at *
  generalize (-a) / b = q' at *
  generalize (-a) % b = r' at *
  clear e1 e2 h1 h2
  by_cases ha : a < 0
  · simp only [ha, if_true, and_true]
    refine ⟨?_, ?_, ?_⟩ <;> split <;> omega
  · simp only [ha, if_false, and_false]
    refine ⟨?_, ?_, ?_⟩ <;> first | trivial | omega | (split <;> omega)

theorem rdiv_eq (a b : Int) (ha : inI64 a) (hb : 1 ≤ b) (o : List Obj) (ro : Nat) (df : List Nat) :
    (D T).call 118 [.int .i64 a, .int .i64 b] ⟨o, ro, df⟩ = some (.tup [.int .i64 (a / b), .bool true], ⟨o, ro, df⟩) := by
  have h1 := (div_facts (a := a) hb).1
  have r2 := tdiv_rng ha hb
  have r1 : inI64 (a / b) := by
    have h2 : a / b ≤ 9223372036854775807 ∧ -9223372036854775808 ≤ a / b := by
      unfold inI64 at ha
      have h3 : a / b < 9223372036854775808 := (Int.ediv_lt_iff_lt_mul (by omega)).2 (by have : 9223372036854775808 * 1 ≤ 9223372036854775808 * b := Int.mul_le_mul_of_nonneg_left hb (by omega); omega)
      have h4 : -9223372036854775808 ≤ a / b := (Int.le_ediv_iff_mul_le (by omega)).2 (by have : -9223372036854775808 * b ≤ -9223372036854775808 * 1 := Int.mul_le_mul_of_nonpos_left (by omega) hb; omega)
      omega
    unfold inI64; omega
  unfold inI64 at r1 r2
  have w2 := wrap_id r2.1 r2.2
  have c0 : ¬ b = 0 := by omega
  have c0b : (b == 0) = false := beq_eq_false_iff_ne.2 c0
  have c1 : ¬ b < 0 := by omega
  have c2 : (b == -1) = false := beq_eq_false_iff_ne.2 (by omega)
  apply call_by (by exact rfl : T 118 = some _) (by simp)
  intro fr hfr hsl
  have s0 := hsl 0 _ rfl
  have s1 := hsl 1 _ rfl
  generalize a / b = q at *
  by_cases hz : a.tmod b = 0
  · have hzb : (a.tmod b != 0) = false := by simpa using hz
    rw [if_neg (fun h => h.1 hz)] at h1
    subst h1
    simp -implicitDefEqProofs [hfr, s0, s1, w2, c0, c0b, c2, hzb, -getElem?_pos, List.getElem?_cons_zero]
  · have hzb : (a.tmod b != 0) = true := by simpa using hz
    by_cases ha2 : a < 0
    · rw [if_pos ⟨hz, ha2⟩] at h1
      have w1 := wrap_id r1.1 r1.2
      rw [h1] at w1 ⊢
      simp -implicitDefEqProofs [hfr, s0, s1, w1, w2, c0, c0b, c1, c2, hzb, ha2, -getElem?_pos, List.getElem?_cons_zero]
    · rw [if_neg (fun h => ha2 h.2)] at h1
      subst h1
      simp -implicitDefEqProofs [hfr, s0, s1, w2, c0, c0b, c1, c2, hzb, ha2, -getElem?_pos, List.getElem?_cons_zero]

theorem rmod_eq (a b : Int) (hb : 1 ≤ b ∧ b ≤ 9223372036854775807) (o : List Obj) (ro : Nat) (df : List Nat) :
    (D T).call 119 [.int .i64 a, .int .i64 b] ⟨o, ro, df⟩ = some (.tup [.int .i64 (a % b), .bool true], ⟨o, ro, df⟩) := by
  have h1 := (div_facts (a := a) hb.1).2.1
  have r1 := Int.emod_nonneg a (show b ≠ 0 by omega)
  have r2 := Int.emod_lt_of_pos a (show 0 < b by omega)
  have c0 : ¬ b = 0 := by omega
  have c0b : (b == 0) = false := beq_eq_false_iff_ne.2 c0
  have c1 : ¬ b < 0 := by omega
  have c2 : (b == -1) = false := beq_eq_false_iff_ne.2 (by omega)
  have w1 : IntKind.i64.wrap (a % b) = a % b := wrap_id (by omega) (by omega)
  apply call_by (by exact rfl : T 119 = some _) (by simp)
  intro fr hfr hsl
  have s0 := hsl 0 _ rfl
  have s1 := hsl 1 _ rfl
  generalize a % b = q at *
  generalize hm : a.tmod b = m at *
  by_cases hz : m = 0
  · have hzb : (m != 0) = false := by simpa using hz
    rw [if_neg (fun h => h.1 hz)] at h1
    subst h1
    simp -implicitDefEqProofs [hfr, s0, s1, hm, c0, c0b, c2, hzb, -getElem?_pos, List.getElem?_cons_zero]
  · have hzb : (m != 0) = true := by simpa using hz
    by_cases ha2 : m < 0
    · rw [if_pos ⟨hz, ha2⟩] at h1
      rw [h1] at w1 ⊢
      simp -implicitDefEqProofs [hfr, s0, s1, hm, w1, c0, c0b, c1, c2, hzb, ha2, -getElem?_pos, List.getElem?_cons_zero]
    · rw [if_neg (fun h => ha2 h.2)] at h1
      subst h1
      simp -implicitDefEqProofs [hfr, s0, s1, hm, c0, c0b, c1, c2, hzb, ha2, -getElem?_pos, List.getElem?_cons_zero]

theorem rceil_eq (a b : Int) (ha : inI64 a) (hb : 1 ≤ b ∧ b ≤ 9223372036854775807) (o : List Obj) (ro : Nat) (df : List Nat) :
    (D T).call 98 [.int .i64 a, .int .i64 b] ⟨o, ro, df⟩ = some (.tup [.int .i64 (ceilP a b), .bool true], ⟨o, ro, df⟩) := by
  have h1 := fun o ro df => rdiv_eq a b ha hb.1 o ro df
  have h2 := fun o ro df => rmod_eq a b hb o ro df
  have h3 := (div_facts (a := a) hb.1).2.2
  have r1 := ceil_rng ha hb.1
  unfold inI64 at r1
  have w1 := wrap_id r1.1 r1.2
  apply call_by (by exact rfl : T 98 = some _) (by simp)
  intro fr hfr hsl
  have s0 := hsl 0 _ rfl
  have s1 := hsl 1 _ rfl
  generalize ceilP a b = C at *
  generalize a % b = m at *
  generalize a / b = q at *
  by_cases hz : m = 0
  · rw [if_neg (by simpa using hz)] at h3
    subst h3
    have hzb : (m != 0) = false := by simpa using hz
    simp -implicitDefEqProofs [hfr, s0, s1, h1, h2, hzb, -getElem?_pos, List.getElem?_cons_zero]
  · rw [if_pos (by simpa using hz)] at h3
    rw [h3] at w1 ⊢
    have hzb : (m != 0) = true := by simpa using hz
    simp -implicitDefEqProofs [hfr, s0, s1, h1, h2, w1, hzb, -getElem?_pos, List.getElem?_cons_zero]

end Go.Proofs.Ytgabnhmjlhhojaa.A
/- The document's by and Not. -/
namespace Go.Proofs.Ytgabnhmjlhhojaa.A
open Go
set_option maxRecDepth 10000
set_option linter.unusedSimpArgs false
set_option linter.unusedVariables false
attribute [-simp] List.all_eq_true put slot_def ld idxA lenOf elems canA app hand add64A

theorem rby_l0 (ms : List (Int × Int)) (k : Int) (hl : ms.length ≤ 1000000) (hm : ∀ m ∈ ms, inI64 m.2) (g : Int) (hg : 1 ≤ g) (o1 : List Obj) (n : Nat) (hn : n ≤ o1.length) (R : Obj) (C : AV) (Q : AE → List AV → St → Prop) (fr : List AV) (hfr : fr.length = 44)
    (q1 : slot fr 1 = .int .i64 g) (q2 : slot fr 2 = .ptr n 0 0) (q4 : slot fr 4 = .ptr (n + 1) 0 0) (q5 : slot fr 5 = .ptr (n + 2) 0 0) (q6 : slot fr 6 = .int .i64 0)
    (g0 : o1[n]? = some (.arr 26 2 [[.int .i64 k, .sl 2 (moA ms)]])) (g1 : o1[n + 1]? = some R) (g2 : o1[n + 2]? = some (.arr 26 2 [[C, .fsl 2 []]]))
    (kk : ∀ (fr' : List AV) (o2 : List Obj) (u : AV), fr'.length = 44 → slot fr' 4 = .ptr (n + 1) 0 0 → slot fr' 5 = .ptr (n + 2) 0 0 → n ≤ o2.length → o2[n + 1]? = some R → o2[n + 2]? = some (.arr 26 2 [[C, u]]) → Gr (n + 3) 62 2 o2 u (moA (dvM g ms)) → Q (.exit 0) fr' ⟨o2, n, []⟩) :
    ∃ e fr' st', (D T).loop false L73_0 fr ⟨o1, n, []⟩ = some (e, fr', st') ∧ Q e fr' st' := by
  have c0 : ¬ g = 0 := by omega
  apply loop_inv L73_0.eq_1 List.length (fun (rest : List (Int × Int)) fr st => ∃ pre o2 u, ms = pre ++ rest ∧ fr.length = 44 ∧ slot fr 1 = .int .i64 g ∧ slot fr 2 = .ptr n 0 0 ∧ slot fr 4 = .ptr (n + 1) 0 0 ∧ slot fr 5 = .ptr (n + 2) 0 0 ∧ slot fr 6 = .int .i64 (pre.length : Int) ∧
    st = ⟨o2, n, []⟩ ∧ n ≤ o2.length ∧ o2[n]? = some (.arr 26 2 [[.int .i64 k, .sl 2 (moA ms)]]) ∧ o2[n + 1]? = some R ∧ o2[n + 2]? = some (.arr 26 2 [[C, u]]) ∧ Gr (n + 3) 62 2 o2 u (moA (dvM g pre))) ?_ ms
    ⟨[], o1, .fsl 2 [], rfl, hfr, q1, q2, q4, q5, q6, rfl, hn, g0, g1, g2, .inl rfl⟩
  clear hfr q1 q2 q4 q5 q6 g0 g1 g2 hn
  clear fr o1
  rintro rest fr _ ⟨pre, o2, u, e, hfr, q1, q2, q4, q5, q6, rfl, hn, g0, g1, g2, gu⟩
  have ml := moA_len ms
  cases rest with
  | nil =>
    have hlt := idx_end e
    have ee : pre = ms := by simpa using e.symm
    have kk2 := kk
    generalize moA ms = M at *
    simp -implicitDefEqProofs [hfr, q1, q2, q4, q5, q6, hlt, g0, ml, -getElem?_pos, List.getElem?_cons_zero, List.getElem?_cons_succ]
    exact kk2 _ o2 u (by simp [hfr]) (by simp [hfr, q4]) (by simp [hfr, q5]) hn g1 g2 (by rw [← ee]; exact gu)
  | cons x rest =>
    obtain ⟨hlt, hg2, hpl⟩ := idx_at e
    have hw := idx_next e (by omega)
    have hi := tdiv_rng (hm x (by simp [e])) hg
    obtain ⟨x1, x2⟩ := x
    have w2 := wrap_id hi.1 hi.2
    simp only at w2
    have hG : (moA ms)[pre.length]? = some [.int .i64 x1, .int .i64 x2] := by simp [moA, hg2]
    have hdl : (moA (dvM g pre)).length = pre.length := by rw [moA_len]; simp [dvM]
    have hE : moA (dvM g (pre ++ [(x1, x2)])) = moA (dvM g pre) ++ [[.int .i64 x1, .int .i64 (x2.tdiv g)]] := by simp [moA, dvM]
    obtain ⟨o3, a1, a2, a3, a4⟩ := app_get (bytes := 16) (ro := n) (df := []) gu (by omega) (x := .fsl 2 [[.int .i64 x1, .int .i64 (x2.tdiv g)]]) (xs := [[.int .i64 x1, .int .i64 (x2.tdiv g)]]) rfl (.inr (by simp)) (by simp [room]; omega)
    have l2 := lt_of_getO g2
    have b0 := a4 _ _ g0 (gu.not (by omega))
    have b1 := a4 _ _ g1 (gu.not (by omega))
    have b2 := a4 _ _ g2 (gu.not (by omega))
    have gu2 := gr_new (lo := n + 3) a3 (by omega) (n := pre.length + 1) (by simp [hdl])
    rw [← hE] at gu2
    simp only [List.length_cons, List.length_nil, Nat.zero_add, hdl] at a1
    have d0 : ∀ X, (o3.set (n + 2) X)[n]? = some (.arr 26 2 [[.int .i64 k, .sl 2 (moA ms)]]) := fun X => by rw [List.getElem?_set_ne (by omega)]; exact b0
    have d1 : ∀ X, (o3.set (n + 2) X)[n + 1]? = some R := fun X => by rw [List.getElem?_set_ne (by omega)]; exact b1
    have d2 : ∀ X, (o3.set (n + 2) X)[n + 2]? = some X := fun X => getO_set (by omega)
    have d3 := fun X => gu2.set (i := n + 2) (by omega) X
    generalize moA ms = M at *
    simp -implicitDefEqProofs [hfr, q1, q2, q4, q5, q6, hlt, hw, hpl, c0, w2, hG, ml, g0, g2, b2, a1, -getElem?_pos, List.getElem?_cons_zero, List.getElem?_cons_succ]
    exact ⟨rest, by simp, pre ++ [(x1, x2)], by simp [e], by simp, by omega, by first | exact b0 | exact d0 _, by first | exact b1 | exact d1 _, _, d2 _, d3 _⟩

theorem rby_eq (l : Li) (g : Int) (hl : LiOk l) (hg : 1 ≤ g ∧ g ≤ 9223372036854775807) (o : List Obj) (ro : Nat) (df : List Nat) :
    (D T).call 73 [.agg (liA l), .int .i64 g] ⟨o, ro, df⟩ = some (.agg (liA (divP l g)), ⟨o, ro, df⟩) := by
  obtain ⟨k, ms⟩ := l
  obtain ⟨h1, h2, h3⟩ := hl
  simp only at h1 h2 h3
  have hc := fun o ro df => rceil_eq k g h1 hg o ro df
  have hL : liA (divP (k, ms) g) = [.int .i64 (ceilP k g), .sl 2 (moA (dvM g ms))] := rfl
  have hL2 : liA (k, ms) = [.int .i64 k, .sl 2 (moA ms)] := rfl
  rw [hL, hL2]
  have hf := moA_flat (dvM g ms)
  have l0 := fun o1 n hn R C Q fr => rby_l0 ms k h3 (fun m hm => (h2 m hm).2) g hg.1 o1 n hn R C Q fr
  generalize ceilP k g = C at *
  generalize hM2 : moA (dvM g ms) = M2 at *
  generalize moA ms = M at *
  apply call_by (by exact rfl : T 73 = some _) (by simp)
  intro fr hfr hsl
  have s0 := hsl 0 _ rfl
  have s1 := hsl 1 _ rfl
  simp -implicitDefEqProofs [hfr, s0, s1, hc, get_base0, get_base, set_base0, set_base, -getElem?_pos, List.getElem?_cons_zero, List.getElem?_cons_succ]
  refine l0 _ o.length (by simp) _ (.int .i64 C) _ _ (by simp [hfr]) (by simp [hfr, s1]) (by simp [hfr]) (by simp [hfr]) (by simp [hfr]) (by simp [hfr]) (by rw [get_base0]; rfl) (by rw [get_base]; rfl) (by rw [get_base]; rfl) ?_
  clear hfr s0 s1 hsl l0
  clear fr
  intro fr o2 u hfr q4 q5 hn g1 g2 gu
  have l1 := lt_of_getO g1
  have e1 : ∀ X, (o2.set (o.length + 1) X)[o.length + 1]? = some X := fun X => getO_set l1
  rcases gu with rfl | ⟨r, b1, rfl, b3⟩
  · simp -implicitDefEqProofs [hfr, q4, q5, g1, g2, e1, hf, hn, -getElem?_pos, List.getElem?_cons_zero, List.getElem?_cons_succ]
  · have b4 : ∀ X, (o2.set (o.length + 1) X)[r]? = some (.arr 62 2 M2) := fun X => by rw [List.getElem?_set_ne (by omega)]; exact b3
    simp -implicitDefEqProofs [hfr, q4, q5, g1, g2, e1, b4, hf, hn, show ¬ r < o.length by omega, -getElem?_pos, List.getElem?_cons_zero, List.getElem?_cons_succ]

def rnotP (q : Iq) : Iq × Int := if lok q.1 = false ∨ q.2 = true then (iz, 1) else (((lsumP [(q.1, -1), ((1, []), 1)]).1, false), (lsumP [(q.1, -1), ((1, []), 1)]).2)
theorem rnot_eq (q : Iq) (hl : LiOk q.1) (o : List Obj) (ro : Nat) (df : List Nat) :
    (D T).call 62 [.agg (iqA q)] ⟨o, ro, df⟩ = some (.tup [.agg (iqA (rnotP q).1), .int .i64 (rnotP q).2], ⟨o, ro, df⟩) := by
  have h := fun o ro df => form_eq q.1 (by have := hl.2.2; omega) o ro df
  have hE : rnotP q = if lok q.1 = false ∨ q.2 = true then (iz, 1) else (((lsumP [(q.1, -1), ((1, []), 1)]).1, false), (lsumP [(q.1, -1), ((1, []), 1)]).2) := rfl
  have hZ : iqA iz = [.int .i64 0, .sl 2 [], .bool false] := rfl
  have h1 := fun (hk : lok q.1 = true) o ro df => rlin_eq [q.1, (1, [])] [-1, 1] (by simp; exact ⟨hl, by simp [inI64], by simp, by simp⟩) (by simp; exact ⟨hk, rfl⟩) (by simp [inI64]) (by simp) (by simp) o (.fsl 2 [liA q.1, liA (1, [])]) (.fsl 1 [[.int .i64 (-1)], [.int .i64 1]]) (.inr (.inl (by simp))) (.inr (.inl (by simp [intA]))) ro df
  have hz : ([q.1, (1, [])] : List Li).zip [-1, 1] = [(q.1, -1), ((1, []), 1)] := rfl
  rw [hz] at h1
  generalize lsumP [(q.1, -1), ((1, []), 1)] = V at *
  generalize rnotP q = R at *
  generalize lok q.1 = L at *
  obtain ⟨⟨k, ms⟩, b⟩ := q
  obtain ⟨⟨v1, v2⟩, v3⟩ := V
  have mv := moA_flat v2
  have hq : iqA ((k, ms), b) = [.int .i64 k, .sl 2 (moA ms), .bool b] := rfl
  have hV : iqA ((v1, v2), false) = [.int .i64 v1, .sl 2 (moA v2), .bool false] := rfl
  have m0 : moA [] = [] := rfl
  simp only [liA, m0] at h h1
  rw [hq]
  simp only at hE
  clear hl hq
  generalize moA ms = M at *
  generalize hMv : moA v2 = Mv at *
  apply call_by (by exact rfl : T 62 = some _) (by simp)
  intro fr hfr hsl
  have s0 := hsl 0 _ rfl
  cases L with
  | false =>
    simp at hE
    subst hE
    simp -implicitDefEqProofs [hfr, s0, h, hZ, get_base0, get_base, set_base0, set_base, -getElem?_pos, List.getElem?_cons_zero, List.getElem?_cons_succ]
  | true =>
    have h1 := h1 rfl
    cases b with
    | true =>
      simp at hE
      subst hE
      simp -implicitDefEqProofs [hfr, s0, h, hZ, get_base0, get_base, set_base0, set_base, -getElem?_pos, List.getElem?_cons_zero, List.getElem?_cons_succ]
    | false =>
      simp at hE
      subst hE
      rw [hV]
      simp -implicitDefEqProofs [hfr, s0, h, h1, mv, get_base0, get_base, set_base0, set_base, -getElem?_pos, List.getElem?_cons_zero, List.getElem?_cons_succ]

end Go.Proofs.Ytgabnhmjlhhojaa.A
