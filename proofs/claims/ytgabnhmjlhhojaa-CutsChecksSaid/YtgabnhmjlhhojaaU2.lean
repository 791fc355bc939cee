/- Inequalities: Right, Absurd, Not; a quotient rounded up, a form divided. -/
import Derived.Test.YtgabnhmjlhhojaaQ7
import Derived.Test.YtgabnhmjlhhojaaU1
namespace Go.Proofs.Ytgabnhmjlhhojaa.A
open Go
set_option maxRecDepth 10000
set_option linter.unusedSimpArgs false
set_option linter.unusedVariables false
attribute [-simp] List.all_eq_true put slot_def ld idxA lenOf elems canA app hand add64A

abbrev Iq := Li × Bool
def iqA (q : Iq) : List AV := [.int .i64 q.1.1, .sl 2 (moA q.1.2), .bool q.2]
def iz : Iq := ((0, []), false)

theorem iRight_eq (q : Iq) (hl : q.1.2.length ≤ 9223372036854775807) (o : List Obj) (ro : Nat) (df : List Nat) :
    (D T).call 24 [.agg (iqA q)] ⟨o, ro, df⟩ = some (.int .i64 (lrE q.1), ⟨o, ro, df⟩) := by
  have h := fun o ro df => lRight_eq q.1 hl o ro df
  have hL : liA q.1 = [.int .i64 q.1.1, .sl 2 (moA q.1.2)] := rfl
  rw [hL] at h
  simp only [iqA]
  generalize moA q.1.2 = M at *
  generalize lrE q.1 = E at *
  apply call_by (by exact rfl : T 24 = some _) (by simp)
  intro fr hfr hsl
  have s0 := hsl 0 _ rfl
  simp -implicitDefEqProofs [hfr, s0, h, get_base0, -getElem?_pos, List.getElem?_cons_zero]

def iplain (q : Iq) : Bool := lok q.1 && decide (q.1.2.length = 0)
theorem iplain_eq (q : Iq) (hl : q.1.2.length ≤ 9223372036854775807) (o : List Obj) (ro : Nat) (df : List Nat) :
    (D T).call 88 [.agg (iqA q)] ⟨o, ro, df⟩ = some (.bool (iplain q), ⟨o, ro, df⟩) := by
  have h := fun o ro df => iRight_eq q hl o ro df
  have ml := moA_len q.1.2
  have hE : iplain q = if lrE q.1 = 0 then decide (q.1.2.length = 0) else false := by unfold iplain lrE; cases lok q.1 <;> simp
  rw [hE]
  simp only [iqA] at h ⊢
  generalize q.1.2.length = n at *
  generalize moA q.1.2 = M at *
  generalize lrE q.1 = E at *
  apply call_by (by exact rfl : T 88 = some _) (by simp)
  intro fr hfr hsl
  have s0 := hsl 0 _ rfl
  have hn : ((n : Int) == 0) = decide (n = 0) := by rw [Bool.eq_iff_iff]; simp
  by_cases hz : E = 0
  · have hzb : (E == 0) = true := by simpa using hz
    rw [if_pos hz]
    simp -implicitDefEqProofs [hfr, s0, h, ml, hzb, hn, get_base0, -getElem?_pos, List.getElem?_cons_zero]
  · have hzb : (E == 0) = false := by simpa using hz
    rw [if_neg hz]
    simp -implicitDefEqProofs [hfr, s0, h, ml, hzb, hn, get_base0, -getElem?_pos, List.getElem?_cons_zero]

def iabs (q : Iq) : Bool := iplain q && (decide (q.1.1 > 0) || (q.2 && decide (q.1.1 ≠ 0)))
theorem iabs_eq (q : Iq) (hl : q.1.2.length ≤ 9223372036854775807) (o : List Obj) (ro : Nat) (df : List Nat) :
    (D T).call 68 [.agg (iqA q)] ⟨o, ro, df⟩ = some (.bool (iabs q), ⟨o, ro, df⟩) := by
  have h := fun o ro df => iplain_eq q hl o ro df
  unfold iabs
  simp only [iqA] at h ⊢
  generalize moA q.1.2 = M at *
  generalize iplain q = E at *
  obtain ⟨⟨k, ms⟩, b⟩ := q
  simp only at *
  apply call_by (by exact rfl : T 68 = some _) (by simp)
  intro fr hfr hsl
  have s0 := hsl 0 _ rfl
  cases E with
  | false => simp -implicitDefEqProofs [hfr, s0, h, get_base0, -getElem?_pos, List.getElem?_cons_zero]
  | true =>
    by_cases c1 : k > 0
    · have c1' : 0 < k := c1
      have d1 : decide (k > 0) = true := by simpa using c1
      simp -implicitDefEqProofs [hfr, s0, h, c1, c1', get_base0, -getElem?_pos, List.getElem?_cons_zero]
    · have c1' : ¬ 0 < k := c1
      cases b with
      | false => simp -implicitDefEqProofs [hfr, s0, h, c1, c1', get_base0, -getElem?_pos, List.getElem?_cons_zero]
      | true =>
        by_cases c2 : k = 0
        · subst c2
          simp -implicitDefEqProofs [hfr, s0, h, get_base0, -getElem?_pos, List.getElem?_cons_zero]
        · have c2b : (k != 0) = true := by simpa using c2
          simp -implicitDefEqProofs [hfr, s0, h, c1, c1', c2b, c2, get_base0, -getElem?_pos, List.getElem?_cons_zero]

theorem oL_ok : ∀ (xs : List Int) (j : Nat), j + xs.length ≤ 64 → (∀ m ∈ oL j xs, inI64 m.1 ∧ inI64 m.2)
  | [], j, _, m, hm => by simp [oL] at hm
  | x :: l, j, h, m, hm => by
    simp only [List.length_cons] at h
    have ih := oL_ok l (j + 1) (by omega) m
    have hf : inI64 (fit x) := by unfold fit; split; assumption; unfold inI64; omega
    simp only [oL] at hm
    split at hm
    · rcases List.mem_cons.1 hm with rfl | hm
      · exact ⟨by unfold inI64; simp; omega, hf⟩
      · exact ih hm
    · exact ih hm
theorem lsumP_ok (fs : List (Li × Int)) : LiOk (lsumP fs).1 := by
  unfold lsumP
  split
  · rename_i h
    have h64 : (accF fs z64).length = 64 := by rw [accF_len, z64_len]
    refine ⟨h.1, oL_ok _ 0 (by omega), ?_⟩
    have := oL_len (accF fs z64) 0
    show (oL 0 (accF fs z64)).length ≤ _
    omega
  · exact ⟨by simp [inI64], by simp, by simp⟩
theorem lSumP_ok (l : List Li) (b : List Int) : LiOk (lSumP l b).1 := by
  unfold lSumP
  split
  · exact lsumP_ok _
  · exact ⟨by simp [inI64], by simp, by simp⟩

def inotP (q : Iq) : Iq × Int :=
  if lok q.1 = false ∨ q.2 = true then (iz, 1) else if (lSumP [q.1] [-1]).2 ≠ 0 then (iz, (lSumP [q.1] [-1]).2) else
    if (lSumP [(lSumP [q.1] [-1]).1, (1, [])] [1, 1]).2 ≠ 0 then (iz, (lSumP [(lSumP [q.1] [-1]).1, (1, [])] [1, 1]).2) else (((lSumP [(lSumP [q.1] [-1]).1, (1, [])] [1, 1]).1, false), 0)
theorem iNot_eq (q : Iq) (hl : LiOk q.1) (o : List Obj) (ro : Nat) (df : List Nat) :
    (D T).call 71 [.agg (iqA q)] ⟨o, ro, df⟩ = some (.tup [.agg (iqA (inotP q).1), .int .i64 (inotP q).2], ⟨o, ro, df⟩) := by
  have h := fun o ro df => iRight_eq q (by have := hl.2.2; omega) o ro df
  have h1 := fun o ro df => lScale_eq q.1 (-1) hl (by simp [inI64]) o ro df
  have h2 := fun o ro df => lAdd_eq (lSumP [q.1] [-1]).1 (1, []) (lSumP_ok _ _) ⟨by simp [inI64], by simp, by simp⟩ o ro df
  have hE : inotP q = if lok q.1 = false ∨ q.2 = true then (iz, 1) else if (lSumP [q.1] [-1]).2 ≠ 0 then (iz, (lSumP [q.1] [-1]).2) else
    if (lSumP [(lSumP [q.1] [-1]).1, (1, [])] [1, 1]).2 ≠ 0 then (iz, (lSumP [(lSumP [q.1] [-1]).1, (1, [])] [1, 1]).2) else (((lSumP [(lSumP [q.1] [-1]).1, (1, [])] [1, 1]).1, false), 0) := rfl
  have hlr : lrE q.1 = if lok q.1 then 0 else 1 := rfl
  have hZ : iqA iz = [.int .i64 0, .sl 2 [], .bool false] := rfl
  generalize lSumP [(lSumP [q.1] [-1]).1, (1, [])] [1, 1] = V at *
  generalize lSumP [q.1] [-1] = U at *
  generalize inotP q = R at *
  generalize lrE q.1 = E at *
  generalize lok q.1 = L at *
  obtain ⟨⟨k, ms⟩, b⟩ := q
  obtain ⟨⟨u1, u2⟩, u3⟩ := U
  obtain ⟨⟨v1, v2⟩, v3⟩ := V
  have mv := moA_flat v2
  have mu := moA_flat u2
  have hq : iqA ((k, ms), b) = [.int .i64 k, .sl 2 (moA ms), .bool b] := rfl
  have hV : iqA ((v1, v2), false) = [.int .i64 v1, .sl 2 (moA v2), .bool false] := rfl
  have m0 : moA [] = [] := rfl
  simp only [liA, m0] at h1 h2
  rw [hq] at h ⊢
  simp only at hE
  clear hl hq
  generalize moA ms = M at *
  generalize hMu : moA u2 = Mu at *
  generalize hMv : moA v2 = Mv at *
  apply call_by (by exact rfl : T 71 = some _) (by simp)
  intro fr hfr hsl
  have s0 := hsl 0 _ rfl
  cases L with
  | false =>
    simp at hE hlr
    subst hE hlr
    simp -implicitDefEqProofs [hfr, s0, h, hZ, get_base0, get_base, set_base0, set_base, -getElem?_pos, List.getElem?_cons_zero, List.getElem?_cons_succ]
  | true =>
    simp only [if_true] at hlr
    subst hlr
    cases b with
    | true =>
      simp at hE
      subst hE
      simp -implicitDefEqProofs [hfr, s0, h, hZ, get_base0, get_base, set_base0, set_base, -getElem?_pos, List.getElem?_cons_zero, List.getElem?_cons_succ]
    | false =>
      by_cases c1 : u3 = 0
      · subst c1
        by_cases c2 : v3 = 0
        · subst c2
          simp at hE
          subst hE
          rw [hV]
          simp -implicitDefEqProofs [hfr, s0, h, h1, h2, mv, mu, get_base0, get_base, set_base0, set_base, -getElem?_pos, List.getElem?_cons_zero, List.getElem?_cons_succ]
        · have c2b : (v3 != 0) = true := by simpa using c2
          simp [c2] at hE
          subst hE
          simp -implicitDefEqProofs [hfr, s0, h, h1, h2, hZ, c2b, mv, mu, get_base0, get_base, set_base0, set_base, -getElem?_pos, List.getElem?_cons_zero, List.getElem?_cons_succ]
      · have c1b : (u3 != 0) = true := by simpa using c1
        simp [c1] at hE
        subst hE
        simp -implicitDefEqProofs [hfr, s0, h, h1, hZ, c1b, mv, mu, get_base0, get_base, set_base0, set_base, -getElem?_pos, List.getElem?_cons_zero, List.getElem?_cons_succ]

end Go.Proofs.Ytgabnhmjlhhojaa.A
/- The document's product, and its sums of products. -/
namespace Go.Proofs.Ytgabnhmjlhhojaa.A
open Go
set_option maxRecDepth 10000
set_option linter.unusedSimpArgs false
set_option linter.unusedVariables false
attribute [-simp] List.all_eq_true put slot_def ld idxA lenOf elems canA app hand add64A

theorem times_eq (a b : Int) (ha : inI64 a) (hb : inI64 b) (o : List Obj) (ro : Nat) (df : List Nat) : (D T).call 114 [.int .i64 a, .int .i64 b] ⟨o, ro, df⟩ = some (.agg (wd (a * b)), ⟨o, ro, df⟩) := by
  have h1 := fun o ro df => of_eq a ha o ro df
  have h2 := fun o ro df => minus_eq a o ro df
  have h3 := fun o ro df => far_eq b hb o ro df
  have lp : ∀ (xx : Int) (u0 : Int), 0 ≤ u0 ∧ u0 < 18446744073709551616 → ∀ (R : Obj) (Q : AE → List AV → St → Prop) (fr : List AV), fr.length = 31 → slot fr 4 = .ptr o.length 0 0 → slot fr 5 = .ptr (o.length + 1) 0 0 → slot fr 6 = .ptr (o.length + 2) 0 0 → slot fr 7 = .int .u64 u0 →
      (∀ (fr' : List AV) (X : Obj), fr'.length = 31 → slot fr' 4 = .ptr o.length 0 0 → slot fr' 6 = .ptr (o.length + 2) 0 0 → Q (.exit 0) fr' ⟨o ++ [R, X, .arr 128 2 [[.int .i64 (hi (xx * u0)), .int .u64 (w0 (xx * u0))]]], o.length, []⟩) →
      ∃ e fr' st', (D T).loop false L114_0 fr ⟨o ++ [R, .arr 128 2 [[.int .i64 (hi xx), .int .u64 (w0 xx)]], .arr 128 2 [[.int .i64 0, .int .u64 0]]], o.length, []⟩ = some (e, fr', st') ∧ Q e fr' st' := by
    intro xx u0 hu0 R Q fr hfr q4 q5 q6 q7 kk
    have z0 : hi 0 = 0 := rfl
    have z1 : w0 0 = 0 := rfl
    apply loop_inv L114_0.eq_1 (fun (u : Int) => u.toNat) (fun (u : Int) fr st => ∃ x y : Int, (0 ≤ u ∧ u < 18446744073709551616) ∧ y + x * u = xx * u0 ∧ fr.length = 31 ∧ slot fr 4 = .ptr o.length 0 0 ∧ slot fr 5 = .ptr (o.length + 1) 0 0 ∧ slot fr 6 = .ptr (o.length + 2) 0 0 ∧ slot fr 7 = .int .u64 u ∧
      st = ⟨o ++ [R, .arr 128 2 [[.int .i64 (hi x), .int .u64 (w0 x)]], .arr 128 2 [[.int .i64 (hi y), .int .u64 (w0 y)]]], o.length, []⟩) ?_ u0
      ⟨xx, 0, hu0, by omega, hfr, q4, q5, q6, q7, by rw [z0, z1]⟩
    clear hfr q4 q5 q6 q7
    clear fr
    rintro u fr _ ⟨x, y, ⟨hu, hu64⟩, hxy, hfr, q4, q5, q6, q7, rfl⟩
    have p1 := fun o ro df => plus_eq y x o ro df
    have p2 := fun o ro df => plus_eq x x o ro df
    unfold wd at p1 p2
    by_cases h0 : u = 0
    · subst h0
      have e : y = xx * u0 := by simpa using hxy
      rw [e]
      simp -implicitDefEqProofs [hfr, q4, q5, q6, q7]
      exact kk _ _ (by simp [hfr]) (by simp [hfr, q4]) (by simp [hfr, q6])
    · have hgt : 0 < u := by omega
      have t1 : u.tmod 2 = u % 2 := Int.tmod_eq_emod_of_nonneg hu
      have t2 : u.tdiv 2 = u / 2 := Int.tdiv_eq_ediv_of_nonneg hu
      have t3 : ∀ z : Int, z < 18446744073709551616 → 0 ≤ z → IntKind.u64.wrap z = z := fun z h1 h2 => by rw [wrap_u]; omega
      have xd : x * (2 * (u / 2)) = (x + x) * (u / 2) := by rw [← Int.mul_assoc]; congr 1; omega
      have t4 := t3 (u / 2) (by omega) (by omega)
      by_cases hm : u % 2 = 1
      · have hmb : (u % 2 == 1) = true := by simpa using hm
        have hn : (y + x) + (x + x) * (u / 2) = xx * u0 := by
          rw [← hxy, ← xd, Int.add_assoc]; congr 1
          have : x * u = x * (2 * (u / 2)) + x := by
            conv => lhs; rw [show u = 2 * (u / 2) + 1 by omega, Int.mul_add, Int.mul_one]
          omega
        simp -implicitDefEqProofs [hfr, q4, q5, q6, q7, hgt, t1, t2, t4, hm, p1, p2, get_base0, get_base, set_base0, set_base, -getElem?_pos, List.getElem?_cons_zero, List.getElem?_cons_succ]
        exact ⟨u / 2, by omega, by omega, x + x, y + x, hn, by simp⟩
      · have hmb : (u % 2 == 1) = false := by simpa using hm
        have hn : y + (x + x) * (u / 2) = xx * u0 := by
          rw [← hxy, ← xd]; congr 2; omega
        simp -implicitDefEqProofs [hfr, q4, q5, q6, q7, hgt, t1, t2, t4, hm, p1, p2, get_base0, get_base, set_base0, set_base, -getElem?_pos, List.getElem?_cons_zero, List.getElem?_cons_succ]
        exact ⟨u / 2, by omega, by omega, x + x, y, hn, by simp⟩
  unfold inI64 at ha hb
  unfold wd at h1 h2
  unfold wd
  by_cases hc : b < 0
  · have e : -a * -b = a * b := by rw [Int.neg_mul_neg]
    have hu : (0 : Int) ≤ -b ∧ -b < 18446744073709551616 := by omega
    rw [if_pos hc] at h3
    have l0 := fun R Q fr => lp (-a) (-b) hu R Q fr
    rw [e] at l0
    clear lp
    apply call_by (by exact rfl : T 114 = some _) (by simp)
    intro fr hfr hsl
    have s0 := hsl 0 _ rfl
    have s1 := hsl 1 _ rfl
    simp -implicitDefEqProofs [hfr, s0, s1, hc, h1, h2, h3, get_base0, get_base, set_base0, set_base, -getElem?_pos, List.getElem?_cons_zero, List.getElem?_cons_succ]
    refine l0 _ _ _ (by simp [hfr]) (by simp [hfr]) (by simp [hfr]) (by simp [hfr]) (by simp [hfr]) ?_
    clear hfr s0 s1 hsl
    clear fr
    intro fr X hfr q4 q6
    simp -implicitDefEqProofs [hfr, q4, q6, get_base0, get_base, set_base0, set_base, -getElem?_pos, List.getElem?_cons_zero, List.getElem?_cons_succ]
  · have hu : (0 : Int) ≤ b ∧ b < 18446744073709551616 := by omega
    rw [if_neg hc] at h3
    have l0 := fun R Q fr => lp a b hu R Q fr
    clear lp
    apply call_by (by exact rfl : T 114 = some _) (by simp)
    intro fr hfr hsl
    have s0 := hsl 0 _ rfl
    have s1 := hsl 1 _ rfl
    simp -implicitDefEqProofs [hfr, s0, s1, hc, h1, h2, h3, get_base0, get_base, set_base0, set_base, -getElem?_pos, List.getElem?_cons_zero, List.getElem?_cons_succ]
    refine l0 _ _ _ (by simp [hfr]) (by simp [hfr]) (by simp [hfr]) (by simp [hfr]) (by simp [hfr]) ?_
    clear hfr s0 s1 hsl
    clear fr
    intro fr X hfr q4 q6
    simp -implicitDefEqProofs [hfr, q4, q6, get_base0, get_base, set_base0, set_base, -getElem?_pos, List.getElem?_cons_zero, List.getElem?_cons_succ]

/-- a sum's three cells -/
def td (x : Int) : List AV := [.int .i64 (hi (x / 18446744073709551616)), .int .u64 (w0 (x / 18446744073709551616)), .int .u64 (w0 x)]
theorem more_eq (x a b : Int) (ha : inI64 a) (hb : inI64 b) (o : List Obj) (ro : Nat) (df : List Nat) : (D T).call 95 [.agg (td x), .int .i64 a, .int .i64 b] ⟨o, ro, df⟩ = some (.agg (td (x + a * b)), ⟨o, ro, df⟩) := by
  have h1 := fun o ro df => times_eq a b ha hb o ro df
  have pr := prod_rng ha hb
  have hh : hi (a * b) = a * b / 18446744073709551616 := by unfold hi; omega
  have hir : inI64 (hi (a * b)) := hi_rng _
  have h2 := fun o ro df => of_eq (hi (a * b)) hir o ro df
  have h3 := fun o ro df => of_eq 1 (by simp [inI64]) o ro df
  have p1 := fun o ro df => plus_eq (x / 18446744073709551616) (hi (a * b)) o ro df
  have p2 := fun o ro df => plus_eq (x / 18446744073709551616 + hi (a * b)) 1 o ro df
  have e1 := wrap_u (w0 x + w0 (a * b))
  rw [w0_add] at e1
  have k1 : w0 (x + a * b) < w0 x → x / 18446744073709551616 + hi (a * b) + 1 = (x + a * b) / 18446744073709551616 := by
    rw [hh]; intro h; unfold w0 at h; generalize a * b = p at *; omega
  have k2 : ¬ w0 (x + a * b) < w0 x → x / 18446744073709551616 + hi (a * b) = (x + a * b) / 18446744073709551616 := by
    rw [hh]; intro h; unfold w0 at h; generalize a * b = p at *; omega
  clear hh pr
  unfold wd at h1 h2 h3 p1 p2
  unfold td
  generalize hi (a * b) = H at *
  apply call_by (by exact rfl : T 95 = some _) (by simp)
  intro fr hfr hsl
  have s0 := hsl 0 _ rfl
  have s1 := hsl 1 _ rfl
  have s2 := hsl 2 _ rfl
  by_cases hc : w0 (x + a * b) < w0 x
  · have k1 := k1 hc
    rw [k1] at p2
    simp -implicitDefEqProofs [hfr, s0, s1, s2, hc, e1, h1, h2, h3, p1, p2, get_base0, get_base, set_base0, set_base, -getElem?_pos, List.getElem?_cons_zero, List.getElem?_cons_succ]
  · have k2 := k2 hc
    rw [k2] at p1
    simp -implicitDefEqProofs [hfr, s0, s1, s2, hc, e1, h1, h2, p1, get_base0, get_base, set_base0, set_base, -getElem?_pos, List.getElem?_cons_zero, List.getElem?_cons_succ]

theorem fits28_eq (x : Int) (hx : Bd x) (o : List Obj) (ro : Nat) (df : List Nat) :
    (D T).call 96 [.agg (td x)] ⟨o, ro, df⟩ = some (.tup [.int .i64 (fit x), .bool (decide (inI64 x))], ⟨o, ro, df⟩) := by
  unfold Bd at hx
  have h1 := fun o ro df => fits01_eq (x / 18446744073709551616) (by omega) o ro df
  unfold wd at h1
  unfold td
  by_cases c1 : inI64 (x / 18446744073709551616)
  · simp only [c1, if_true, decide_true] at h1
    have hh : hi x = x / 18446744073709551616 := by unfold inI64 at c1; unfold hi; omega
    have h2 := fun o ro df => fits01_eq x (by unfold inI64 at c1; omega) o ro df
    unfold wd at h2
    rw [hh] at h2
    have hf : (if inI64 x then x else 0) = fit x := rfl
    rw [hf] at h2
    generalize decide (inI64 x) = d at *
    generalize fit x = F at *
    apply call_by (by exact rfl : T 96 = some _) (by simp)
    intro fr hfr hsl
    have s0 := hsl 0 _ rfl
    simp -implicitDefEqProofs [hfr, s0, h1, h2, get_base0, get_base, set_base0, set_base, -getElem?_pos, List.getElem?_cons_zero, List.getElem?_cons_succ]
  · simp only [c1, if_false, decide_false] at h1
    have c2 : ¬ inI64 x := by unfold inI64 at c1 ⊢; omega
    have hf : fit x = 0 := by simp [fit, c2]
    rw [hf]
    apply call_by (by exact rfl : T 96 = some _) (by simp)
    intro fr hfr hsl
    have s0 := hsl 0 _ rfl
    simp -implicitDefEqProofs [hfr, s0, h1, c2, get_base0, get_base, set_base0, set_base, -getElem?_pos, List.getElem?_cons_zero, List.getElem?_cons_succ]

end Go.Proofs.Ytgabnhmjlhhojaa.A
