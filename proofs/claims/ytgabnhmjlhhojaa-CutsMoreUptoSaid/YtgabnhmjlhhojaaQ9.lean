/- Inequalities: Right, Absurd, Not; a quotient rounded up, a form divided. -/
import Derived.Test.YtgabnhmjlhhojaaQ7
namespace Go.Proofs.Ytgabnhmjlhhojaa.A
open Go
set_option maxRecDepth 10000
set_option linter.unusedSimpArgs false
set_option linter.unusedVariables false
attribute [-simp] List.all_eq_true put slot_def ld idxA lenOf elems canA app hand add64A

abbrev Iq := Li × Bool
def iqA (q : Iq) : List AV := [.int .i64 q.1.1, .sl 2 (moA q.1.2), .bool q.2]
def iz : Iq := ((0, []), false)

theorem iRight_eq (q : Iq) (hl : q.1.2.length ≤ 9223372036854775807) (o : List Obj) (ro : Nat) (df : List Nat) :
    (D T).call 24 [.agg (iqA q)] ⟨o, ro, df⟩ = some (.int .i64 (lrE q.1), ⟨o, ro, df⟩) := by
  have h := fun o ro df => lRight_eq q.1 hl o ro df
  have hL : liA q.1 = [.int .i64 q.1.1, .sl 2 (moA q.1.2)] := rfl
  rw [hL] at h
  simp only [iqA]
  generalize moA q.1.2 = M at *
  generalize lrE q.1 = E at *
  apply call_by (by exact rfl : T 24 = some _) (by simp)
  intro fr hfr hsl
  have s0 := hsl 0 _ rfl
  simp -implicitDefEqProofs [hfr, s0, h, get_base0, -getElem?_pos, List.getElem?_cons_zero]

def iplain (q : Iq) : Bool := lok q.1 && decide (q.1.2.length = 0)
theorem iplain_eq (q : Iq) (hl : q.1.2.length ≤ 9223372036854775807) (o : List Obj) (ro : Nat) (df : List Nat) :
    (D T).call 88 [.agg (iqA q)] ⟨o, ro, df⟩ = some (.bool (iplain q), ⟨o, ro, df⟩) := by
  have h := fun o ro df => iRight_eq q hl o ro df
  have ml := moA_len q.1.2
  have hE : iplain q = if lrE q.1 = 0 then decide (q.1.2.length = 0) else false := by unfold iplain lrE; cases lok q.1 <;> simp
  rw [hE]
  simp only [iqA] at h ⊢
  generalize q.1.2.length = n at *
  generalize moA q.1.2 = M at *
  generalize lrE q.1 = E at *
  apply call_by (by exact rfl : T 88 = some _) (by simp)
  intro fr hfr hsl
  have s0 := hsl 0 _ rfl
  have hn : ((n : Int) == 0) = decide (n = 0) := by rw [Bool.eq_iff_iff]; simp
  by_cases hz : E = 0
  · have hzb : (E == 0) = true := by simpa using hz
    rw [if_pos hz]
    simp -implicitDefEqProofs [hfr, s0, h, ml, hzb, hn, get_base0, -getElem?_pos, List.getElem?_cons_zero]
  · have hzb : (E == 0) = false := by simpa using hz
    rw [if_neg hz]
    simp -implicitDefEqProofs [hfr, s0, h, ml, hzb, hn, get_base0, -getElem?_pos, List.getElem?_cons_zero]

def iabs (q : Iq) : Bool := iplain q && (decide (q.1.1 > 0) || (q.2 && decide (q.1.1 ≠ 0)))
theorem iabs_eq (q : Iq) (hl : q.1.2.length ≤ 9223372036854775807) (o : List Obj) (ro : Nat) (df : List Nat) :
    (D T).call 68 [.agg (iqA q)] ⟨o, ro, df⟩ = some (.bool (iabs q), ⟨o, ro, df⟩) := by
  have h := fun o ro df => iplain_eq q hl o ro df
  unfold iabs
  simp only [iqA] at h ⊢
  generalize moA q.1.2 = M at *
  generalize iplain q = E at *
  obtain ⟨⟨k, ms⟩, b⟩ := q
  simp only at *
  apply call_by (by exact rfl : T 68 = some _) (by simp)
  intro fr hfr hsl
  have s0 := hsl 0 _ rfl
  cases E with
  | false => simp -implicitDefEqProofs [hfr, s0, h, get_base0, -getElem?_pos, List.getElem?_cons_zero]
  | true =>
    by_cases c1 : k > 0
    · have c1' : 0 < k := c1
      have d1 : decide (k > 0) = true := by simpa using c1
      simp -implicitDefEqProofs [hfr, s0, h, c1, c1', get_base0, -getElem?_pos, List.getElem?_cons_zero]
    · have c1' : ¬ 0 < k := c1
      cases b with
      | false => simp -implicitDefEqProofs [hfr, s0, h, c1, c1', get_base0, -getElem?_pos, List.getElem?_cons_zero]
      | true =>
        by_cases c2 : k = 0
        · subst c2
          simp -implicitDefEqProofs [hfr, s0, h, get_base0, -getElem?_pos, List.getElem?_cons_zero]
        · have c2b : (k != 0) = true := by simpa using c2
          simp -implicitDefEqProofs [hfr, s0, h, c1, c1', c2b, c2, get_base0, -getElem?_pos, List.getElem?_cons_zero]

theorem oL_ok : ∀ (xs : List Int) (j : Nat), j + xs.length ≤ 64 → (∀ m ∈ oL j xs, inI64 m.1 ∧ inI64 m.2)
  | [], j, _, m, hm => by simp [oL] at hm
  | x :: l, j, h, m, hm => by
    simp only [List.length_cons] at h
    have ih := oL_ok l (j + 1) (by omega) m
    have hf : inI64 (fit x) := by unfold fit; split; assumption; unfold inI64; omega
    simp only [oL] at hm
    split at hm
    · rcases List.mem_cons.1 hm with rfl | hm
      · exact ⟨by unfold inI64; simp; omega, hf⟩
      · exact ih hm
    · exact ih hm
theorem lsumP_ok (fs : List (Li × Int)) : LiOk (lsumP fs).1 := by
  unfold lsumP
  split
  · rename_i h
    have h64 : (accF fs z64).length = 64 := by rw [accF_len, z64_len]
    refine ⟨h.1, oL_ok _ 0 (by omega), ?_⟩
    have := oL_len (accF fs z64) 0
    show (oL 0 (accF fs z64)).length ≤ _
    omega
  · exact ⟨by simp [inI64], by simp, by simp⟩
theorem lSumP_ok (l : List Li) (b : List Int) : LiOk (lSumP l b).1 := by
  unfold lSumP
  split
  · exact lsumP_ok _
  · exact ⟨by simp [inI64], by simp, by simp⟩

def inotP (q : Iq) : Iq × Int :=
  if lok q.1 = false ∨ q.2 = true then (iz, 1) else if (lSumP [q.1] [-1]).2 ≠ 0 then (iz, (lSumP [q.1] [-1]).2) else
    if (lSumP [(lSumP [q.1] [-1]).1, (1, [])] [1, 1]).2 ≠ 0 then (iz, (lSumP [(lSumP [q.1] [-1]).1, (1, [])] [1, 1]).2) else (((lSumP [(lSumP [q.1] [-1]).1, (1, [])] [1, 1]).1, false), 0)
theorem iNot_eq (q : Iq) (hl : LiOk q.1) (o : List Obj) (ro : Nat) (df : List Nat) :
    (D T).call 71 [.agg (iqA q)] ⟨o, ro, df⟩ = some (.tup [.agg (iqA (inotP q).1), .int .i64 (inotP q).2], ⟨o, ro, df⟩) := by
  have h := fun o ro df => iRight_eq q (by have := hl.2.2; omega) o ro df
  have h1 := fun o ro df => lScale_eq q.1 (-1) hl (by simp [inI64]) o ro df
  have h2 := fun o ro df => lAdd_eq (lSumP [q.1] [-1]).1 (1, []) (lSumP_ok _ _) ⟨by simp [inI64], by simp, by simp⟩ o ro df
  have hE : inotP q = if lok q.1 = false ∨ q.2 = true then (iz, 1) else if (lSumP [q.1] [-1]).2 ≠ 0 then (iz, (lSumP [q.1] [-1]).2) else
    if (lSumP [(lSumP [q.1] [-1]).1, (1, [])] [1, 1]).2 ≠ 0 then (iz, (lSumP [(lSumP [q.1] [-1]).1, (1, [])] [1, 1]).2) else (((lSumP [(lSumP [q.1] [-1]).1, (1, [])] [1, 1]).1, false), 0) := rfl
  have hlr : lrE q.1 = if lok q.1 then 0 else 1 := rfl
  have hZ : iqA iz = [.int .i64 0, .sl 2 [], .bool false] := rfl
  generalize lSumP [(lSumP [q.1] [-1]).1, (1, [])] [1, 1] = V at *
  generalize lSumP [q.1] [-1] = U at *
  generalize inotP q = R at *
  generalize lrE q.1 = E at *
  generalize lok q.1 = L at *
  obtain ⟨⟨k, ms⟩, b⟩ := q
  obtain ⟨⟨u1, u2⟩, u3⟩ := U
  obtain ⟨⟨v1, v2⟩, v3⟩ := V
  have mv := moA_flat v2
  have mu := moA_flat u2
  have hq : iqA ((k, ms), b) = [.int .i64 k, .sl 2 (moA ms), .bool b] := rfl
  have hV : iqA ((v1, v2), false) = [.int .i64 v1, .sl 2 (moA v2), .bool false] := rfl
  have m0 : moA [] = [] := rfl
  simp only [liA, m0] at h1 h2
  rw [hq] at h ⊢
  simp only at hE
  clear hl hq
  generalize moA ms = M at *
  generalize hMu : moA u2 = Mu at *
  generalize hMv : moA v2 = Mv at *
  apply call_by (by exact rfl : T 71 = some _) (by simp)
  intro fr hfr hsl
  have s0 := hsl 0 _ rfl
  cases L with
  | false =>
    simp at hE hlr
    subst hE hlr
    simp -implicitDefEqProofs [hfr, s0, h, hZ, get_base0, get_base, set_base0, set_base, -getElem?_pos, List.getElem?_cons_zero, List.getElem?_cons_succ]
  | true =>
    simp only [if_true] at hlr
    subst hlr
    cases b with
    | true =>
      simp at hE
      subst hE
      simp -implicitDefEqProofs [hfr, s0, h, hZ, get_base0, get_base, set_base0, set_base, -getElem?_pos, List.getElem?_cons_zero, List.getElem?_cons_succ]
    | false =>
      by_cases c1 : u3 = 0
      · subst c1
        by_cases c2 : v3 = 0
        · subst c2
          simp at hE
          subst hE
          rw [hV]
          simp -implicitDefEqProofs [hfr, s0, h, h1, h2, mv, mu, get_base0, get_base, set_base0, set_base, -getElem?_pos, List.getElem?_cons_zero, List.getElem?_cons_succ]
        · have c2b : (v3 != 0) = true := by simpa using c2
          simp [c2] at hE
          subst hE
          simp -implicitDefEqProofs [hfr, s0, h, h1, h2, hZ, c2b, mv, mu, get_base0, get_base, set_base0, set_base, -getElem?_pos, List.getElem?_cons_zero, List.getElem?_cons_succ]
      · have c1b : (u3 != 0) = true := by simpa using c1
        simp [c1] at hE
        subst hE
        simp -implicitDefEqProofs [hfr, s0, h, h1, hZ, c1b, mv, mu, get_base0, get_base, set_base0, set_base, -getElem?_pos, List.getElem?_cons_zero, List.getElem?_cons_succ]

end Go.Proofs.Ytgabnhmjlhhojaa.A
/- A quotient rounded up; a form divided. -/
namespace Go.Proofs.Ytgabnhmjlhhojaa.A
open Go
set_option maxRecDepth 10000
set_option linter.unusedSimpArgs false
set_option linter.unusedVariables false
attribute [-simp] List.all_eq_true put slot_def ld idxA lenOf elems canA app hand add64A

theorem over_eq (a b : Int) (hb : 1 ≤ b) (o : List Obj) (ro : Nat) (df : List Nat) : (D T).call 124 [.int .i64 a, .int .i64 b] ⟨o, ro, df⟩ = some (.bool false, ⟨o, ro, df⟩) := by
  have c1 : (b == 0) = false := beq_eq_false_iff_ne.2 (by omega)
  have c2 : (b == -1) = false := beq_eq_false_iff_ne.2 (by omega)
  apply call_by (by exact rfl : T 124 = some _) (by simp)
  intro fr hfr hsl
  have s0 := hsl 0 _ rfl
  have s1 := hsl 1 _ rfl
  cases c3 : (a == -9223372036854775808) <;> simp -implicitDefEqProofs [hfr, s0, s1, c1, c2, c3, -getElem?_pos, List.getElem?_cons_zero]

/-- a quotient, rounded up -/
def ceilP (a b : Int) : Int := -((-a) / b)
theorem ceil_tdiv (a b : Int) (hb : 1 ≤ b) : ceilP a b = if a.tmod b ≠ 0 ∧ ¬ a < 0 then a.tdiv b + 1 else a.tdiv b := by
  unfold ceilP
  by_cases ha : a < 0
  · rw [if_neg (fun h => h.2 ha)]
    have : a.tdiv b = -((-a).tdiv b) := by rw [Int.neg_tdiv]; omega
    rw [this, Int.tdiv_eq_ediv_of_nonneg (by omega)]
  · have e1 : a.tdiv b = a / b := Int.tdiv_eq_ediv_of_nonneg (by omega)
    have e2 : a.tmod b = a % b := Int.tmod_eq_emod_of_nonneg (by omega)
    rw [e1, e2]
    have h1 := Int.mul_ediv_add_emod a b
    have h2 := Int.emod_nonneg a (show b ≠ 0 by omega)
    have h3 := Int.emod_lt_of_pos a (show 0 < b by omega)
    by_cases hz : a % b = 0
    · rw [if_neg (fun h => h.1 hz)]
      have := (Int.ediv_emod_unique (a := -a) (r := 0) (q := -(a / b)) (show 0 < b by omega)).2 ⟨by rw [Int.mul_neg]; omega, by omega, by omega⟩
      rw [this.1]; omega
    · rw [if_pos ⟨hz, ha⟩]
      have := (Int.ediv_emod_unique (a := -a) (r := b - a % b) (q := -(a / b) - 1) (show 0 < b by omega)).2 ⟨by rw [Int.mul_sub, Int.mul_neg]; omega, by omega, by omega⟩
      rw [this.1]; omega
theorem ceil_rng {a b : Int} (ha : inI64 a) (hb : 1 ≤ b) : inI64 (ceilP a b) := by
  unfold inI64 at *
  unfold ceilP
  have h1 : (-a) / b ≤ 9223372036854775808 := by
    rcases Int.le_total 0 (-a) with h | h
    · have := Int.ediv_le_self b h; omega
    · have : (-a) / b < 1 := (Int.ediv_lt_iff_lt_mul (by omega)).2 (by omega)
      omega
  have h2 : -9223372036854775807 ≤ (-a) / b := by
    rw [Int.le_ediv_iff_mul_le (by omega)]
    have : -9223372036854775807 * b ≤ -9223372036854775807 * 1 := Int.mul_le_mul_of_nonpos_left (by omega) (by omega)
    omega
  omega
theorem tdiv_rng {a b : Int} (ha : inI64 a) (hb : 1 ≤ b) : inI64 (a.tdiv b) := by
  unfold inI64 at *
  by_cases h : a < 0
  · have e : a.tdiv b = -((-a).tdiv b) := by rw [Int.neg_tdiv]; omega
    rw [e, Int.tdiv_eq_ediv_of_nonneg (by omega)]
    have h1 := Int.ediv_le_self (a := -a) b (by omega)
    have h2 : 0 ≤ (-a) / b := Int.ediv_nonneg (by omega) (by omega)
    omega
  · rw [Int.tdiv_eq_ediv_of_nonneg (by omega)]
    have h1 := Int.ediv_le_self (a := a) b (by omega)
    have h2 : 0 ≤ a / b := Int.ediv_nonneg (by omega) (by omega)
    omega

theorem ceilC_eq (a b : Int) (ha : inI64 a) (hb : 1 ≤ b) (o : List Obj) (ro : Nat) (df : List Nat) :
    (D T).call 113 [.int .i64 a, .int .i64 b] ⟨o, ro, df⟩ = some (.tup [.int .i64 (ceilP a b), .bool true], ⟨o, ro, df⟩) := by
  have h := fun o ro df => over_eq a b hb o ro df
  have e := ceil_tdiv a b hb
  have r1 := ceil_rng ha hb
  have r2 := tdiv_rng ha hb
  unfold inI64 at r1 r2
  have w2 := wrap_id r2.1 r2.2
  have c0 : ¬ b = 0 := by omega
  have c1 : ¬ b < 0 := by omega
  apply call_by (by exact rfl : T 113 = some _) (by simp)
  intro fr hfr hsl
  have s0 := hsl 0 _ rfl
  have s1 := hsl 1 _ rfl
  generalize ceilP a b = C at *
  by_cases hz : a.tmod b = 0
  · rw [if_neg (fun h => h.1 hz)] at e
    subst e
    have hzb : (a.tmod b != 0) = false := by simpa using hz
    simp -implicitDefEqProofs [hfr, s0, s1, h, w2, c0, hzb, -getElem?_pos, List.getElem?_cons_zero]
  · have hzb : (a.tmod b != 0) = true := by simpa using hz
    by_cases ha2 : a < 0
    · rw [if_neg (fun h => h.2 ha2)] at e
      subst e
      simp -implicitDefEqProofs [hfr, s0, s1, h, w2, c0, c1, hzb, ha2, -getElem?_pos, List.getElem?_cons_zero]
    · rw [if_pos ⟨hz, ha2⟩] at e
      have w1 := wrap_id r1.1 r1.2
      rw [e] at w1 ⊢
      simp -implicitDefEqProofs [hfr, s0, s1, h, w1, w2, c0, c1, hzb, ha2, -getElem?_pos, List.getElem?_cons_zero]

def dvM (b : Int) (l : List (Int × Int)) : List (Int × Int) := l.map fun m => (m.1, m.2.tdiv b)
def divP (l : Li) (b : Int) : Li := (ceilP l.1 b, dvM b l.2)
theorem cloneMo_eq (l : List (Int × Int)) (hl : l.length ≤ 1000000) (h0 : l ≠ []) (st : St) : (D T).call 1000044 [.sl 2 (moA l)] st = some (.own st.objs.length 0 l.length false, st.push (.arr 62 2 (moA l))) := by
  rw [D_ext _ _ (by rfl)]
  cases l with
  | nil => exact absurd rfl h0
  | cons x l =>
    have hr : room (l.length + 1) 16 = true := by simp [room] at hl ⊢; omega
    have e : moA (x :: l) = [.int .i64 x.1, .int .i64 x.2] :: moA l := rfl
    have e2 : (moA l).length = l.length := moA_len l
    simp only [ext, exClone, e, elems, hr, and_self, if_true, cond_true, List.length_cons, e2]
theorem cloneMo_nil (st : St) : (D T).call 1000044 [.sl 2 []] st = some (.sl 2 [], st) := by
  rw [D_ext _ _ (by rfl)]; rfl

theorem div_l0 (ms : List (Int × Int)) (hl : ms.length ≤ 1000000) (hm : ∀ m ∈ ms, inI64 m.2) (b : Int) (hb : 1 ≤ b) (o : List Obj) (B R : Obj) (K : AV) (Q : AE → List AV → St → Prop) (fr : List AV) (hfr : fr.length = 37)
    (q1 : slot fr 1 = .int .i64 b) (q4 : slot fr 4 = .ptr (o.length + 1) 0 0) (q5 : slot fr 5 = .ptr (o.length + 3) 0 0) (q21 : slot fr 21 = .int .i64 (ms.length : Int)) (q22 : slot fr 22 = .int .i64 0)
    (kk : ∀ fr' : List AV, fr'.length = 37 → slot fr' 4 = .ptr (o.length + 1) 0 0 → slot fr' 5 = .ptr (o.length + 3) 0 0 →
      Q (.exit 0) fr' ⟨o ++ [B, R, .arr 62 2 (moA (dvM b ms)), .arr 26 2 [[K, .own (o.length + 2) 0 ms.length false]]], o.length, []⟩) :
    ∃ e fr' st', (D T).loop false L92_0 fr ⟨o ++ [B, R, .arr 62 2 (moA ms), .arr 26 2 [[K, .own (o.length + 2) 0 ms.length false]]], o.length, []⟩ = some (e, fr', st') ∧ Q e fr' st' := by
  have mx : ms.length ≤ 9223372036854775807 := by omega
  have c0 : ¬ b = 0 := by omega
  apply loop_inv L92_0.eq_1 List.length (fun (rest : List (Int × Int)) fr st => ∃ pre, ms = pre ++ rest ∧ fr.length = 37 ∧ slot fr 1 = .int .i64 b ∧ slot fr 4 = .ptr (o.length + 1) 0 0 ∧ slot fr 5 = .ptr (o.length + 3) 0 0 ∧ slot fr 21 = .int .i64 (ms.length : Int) ∧ slot fr 22 = .int .i64 (pre.length : Int) ∧
    st = ⟨o ++ [B, R, .arr 62 2 (moA (dvM b pre ++ rest)), .arr 26 2 [[K, .own (o.length + 2) 0 ms.length false]]], o.length, []⟩) ?_ ms ⟨[], rfl, hfr, q1, q4, q5, q21, q22, rfl⟩
  clear hfr q1 q4 q5 q21 q22
  clear fr
  rintro rest fr _ ⟨pre, e, hfr, q1, q4, q5, q21, q22, rfl⟩
  cases rest with
  | nil =>
    have hlt := idx_end e
    have ee : pre = ms := by simpa using e.symm
    simp -implicitDefEqProofs [hfr, q1, q4, q5, q21, q22, hlt]
    rw [ee]
    exact kk _ (by simp [hfr]) (by simp [hfr, q4]) (by simp [hfr, q5])
  | cons x rest =>
    obtain ⟨hlt, hg, hpl⟩ := idx_at e
    have hw := idx_next e mx
    obtain ⟨x1, x2⟩ := x
    have hi := tdiv_rng (hm (x1, x2) (by simp [e])) hb
    have w2 := wrap_id hi.1 hi.2
    simp only at w2
    have hlp : (dvM b pre).length = pre.length := by simp [dvM]
    have hG1 : (moA (dvM b pre ++ (x1, x2) :: rest))[pre.length]? = some [.int .i64 x1, .int .i64 x2] := by simp [moA, ← hlp]
    have hG2 : (moA (dvM b pre ++ (x1, x2) :: rest)).length = ms.length := by rw [moA_len, e]; simp [hlp]
    have hG3 : (moA (dvM b pre ++ (x1, x2) :: rest)).set pre.length [.int .i64 x1, .int .i64 (x2.tdiv b)] = moA (dvM b (pre ++ [(x1, x2)]) ++ rest) := by
      simp only [moA, List.map_append, List.map_cons]
      rw [List.set_append_right _ _ (by simp [hlp])]
      simp [hlp, dvM]
    generalize moA (dvM b pre ++ (x1, x2) :: rest) = G at *
    simp -implicitDefEqProofs [hfr, q1, q4, q5, q21, q22, hlt, hw, hpl, c0, w2, hG1, hG2, hG3, get_base0, get_base, set_base0, set_base, -getElem?_pos, List.getElem?_cons_zero, List.getElem?_cons_succ]
    exact ⟨rest, by simp, pre ++ [(x1, x2)], by simp [e], by simp, by simp⟩

theorem divided_eq (l : Li) (b : Int) (hl : LiOk l) (hb : 1 ≤ b) (o : List Obj) (ro : Nat) (df : List Nat) :
    (D T).call 92 [.agg (liA l), .int .i64 b] ⟨o, ro, df⟩ = some (.agg (liA (divP l b)), ⟨o, ro, df⟩) := by
  obtain ⟨k, ms⟩ := l
  obtain ⟨h1, h2, h3⟩ := hl
  simp only at h1 h2 h3
  have hc := fun o ro df => ceilC_eq k b h1 hb o ro df
  have hL : liA (divP (k, ms) b) = [.int .i64 (ceilP k b), .sl 2 (moA (dvM b ms))] := rfl
  have hL2 : liA (k, ms) = [.int .i64 k, .sl 2 (moA ms)] := rfl
  rw [hL, hL2]
  have hf := moA_flat (dvM b ms)
  have hd : (moA (dvM b ms)).length = ms.length := by rw [moA_len]; simp [dvM]
  apply call_by (by exact rfl : T 92 = some _) (by simp)
  intro fr hfr hsl
  have s0 := hsl 0 _ rfl
  have s1 := hsl 1 _ rfl
  generalize ceilP k b = C at *
  by_cases h0 : ms = []
  · subst h0
    have e1 : dvM b [] = [] := rfl
    have e2 : moA [] = [] := rfl
    have ci := fun st => cloneMo_nil st
    rw [e2] at s0
    rw [e1, e2]
    simp -implicitDefEqProofs [hfr, s0, s1, ci, hc, get_base0, get_base, set_base0, set_base, -getElem?_pos, List.getElem?_cons_zero, List.getElem?_cons_succ]
    apply loop_inv L92_0.eq_1 (fun _ : Unit => 0) (fun _ fr st => fr.length = 37 ∧ slot fr 4 = .ptr (o.length + 1) 0 0 ∧ slot fr 5 = .ptr (o.length + 2) 0 0 ∧ slot fr 21 = .int .i64 0 ∧ slot fr 22 = .int .i64 0 ∧ ∃ X, st = ⟨o ++ [X, Obj.arr 26 2 [[.int .i64 0, .fsl 2 []]], .arr 26 2 [[.int .i64 C, .sl 2 []]]], o.length, []⟩) ?_ () ⟨by simp [hfr], by simp [hfr], by simp [hfr], by simp [hfr], by simp [hfr], _, rfl⟩
    clear hfr s0 s1 hsl
    clear fr
    rintro _ fr _ ⟨hfr, q4, q5, q21, q22, X, rfl⟩
    simp -implicitDefEqProofs [hfr, q4, q5, q21, q22, get_base0, get_base, set_base0, set_base, -getElem?_pos, List.getElem?_cons_zero, List.getElem?_cons_succ]
  · have ci := fun st => cloneMo_eq ms h3 h0 st
    have l0 := fun B R K Q fr => div_l0 ms h3 (fun m hm => (h2 m hm).2) b hb o B R K Q fr
    generalize moA ms = M at *
    generalize moA (dvM b ms) = M2 at *
    simp -implicitDefEqProofs [hfr, s0, s1, ci, hc, get_base0, get_base, set_base0, set_base, -getElem?_pos, List.getElem?_cons_zero, List.getElem?_cons_succ]
    refine l0 _ _ _ _ _ (by simp [hfr]) (by simp [hfr, s1]) (by simp [hfr]) (by simp [hfr]) (by simp [hfr]) (by simp [hfr]) ?_
    clear hfr s0 s1 hsl
    clear fr
    intro fr hfr q4 q5
    have t1 : List.take ms.length M2 = M2 := by rw [← hd, List.take_length]
    simp -implicitDefEqProofs [hfr, q4, q5, hf, hd, t1, show ¬ o.length + 2 < o.length by omega, get_base0, get_base, set_base0, set_base, -getElem?_pos, List.getElem?_cons_zero, List.getElem?_cons_succ]

end Go.Proofs.Ytgabnhmjlhhojaa.A
