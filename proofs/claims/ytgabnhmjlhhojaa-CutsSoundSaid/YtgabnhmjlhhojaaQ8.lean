/- Inequalities: Right, Absurd, Not; a quotient rounded up, a form divided. -/
import Derived.Test.YtgabnhmjlhhojaaQ7
namespace Go.Proofs.Ytgabnhmjlhhojaa.A
open Go
set_option maxRecDepth 10000
set_option linter.unusedSimpArgs false
set_option linter.unusedVariables false
attribute [-simp] List.all_eq_true put slot_def ld idxA lenOf elems canA app hand add64A

abbrev Iq := Li × Bool
def iqA (q : Iq) : List AV := [.int .i64 q.1.1, .sl 2 (moA q.1.2), .bool q.2]
def iz : Iq := ((0, []), false)

theorem iRight_eq (q : Iq) (hl : q.1.2.length ≤ 9223372036854775807) (o : List Obj) (ro : Nat) (df : List Nat) :
    (D T).call 24 [.agg (iqA q)] ⟨o, ro, df⟩ = some (.int .i64 (lrE q.1), ⟨o, ro, df⟩) := by
  have h := fun o ro df => lRight_eq q.1 hl o ro df
  have hL : liA q.1 = [.int .i64 q.1.1, .sl 2 (moA q.1.2)] := rfl
  rw [hL] at h
  simp only [iqA]
  generalize moA q.1.2 = M at *
  generalize lrE q.1 = E at *
  apply call_by (by exact rfl : T 24 = some _) (by simp)
  intro fr hfr hsl
  have s0 := hsl 0 _ rfl
  simp -implicitDefEqProofs [hfr, s0, h, get_base0, -getElem?_pos, List.getElem?_cons_zero]

def iplain (q : Iq) : Bool := lok q.1 && decide (q.1.2.length = 0)
theorem iplain_eq (q : Iq) (hl : q.1.2.length ≤ 9223372036854775807) (o : List Obj) (ro : Nat) (df : List Nat) :
    (D T).call 88 [.agg (iqA q)] ⟨o, ro, df⟩ = some (.bool (iplain q), ⟨o, ro, df⟩) := by
  have h := fun o ro df => iRight_eq q hl o ro df
  have ml := moA_len q.1.2
  have hE : iplain q = if lrE q.1 = 0 then decide (q.1.2.length = 0) else false := by unfold iplain lrE; cases lok q.1 <;> simp
  rw [hE]
  simp only [iqA] at h ⊢
  generalize q.1.2.length = n at *
  generalize moA q.1.2 = M at *
  generalize lrE q.1 = E at *
  apply call_by (by exact rfl : T 88 = some _) (by simp)
  intro fr hfr hsl
  have s0 := hsl 0 _ rfl
  have hn : ((n : Int) == 0) = decide (n = 0) := by rw [Bool.eq_iff_iff]; simp
  by_cases hz : E = 0
  · have hzb : (E == 0) = true := by simpa using hz
    rw [if_pos hz]
    simp -implicitDefEqProofs [hfr, s0, h, ml, hzb, hn, get_base0, -getElem?_pos, List.getElem?_cons_zero]
  · have hzb : (E == 0) = false := by simpa using hz
    rw [if_neg hz]
    simp -implicitDefEqProofs [hfr, s0, h, ml, hzb, hn, get_base0, -getElem?_pos, List.getElem?_cons_zero]

def iabs (q : Iq) : Bool := iplain q && (decide (q.1.1 > 0) || (q.2 && decide (q.1.1 ≠ 0)))
theorem iabs_eq (q : Iq) (hl : q.1.2.length ≤ 9223372036854775807) (o : List Obj) (ro : Nat) (df : List Nat) :
    (D T).call 68 [.agg (iqA q)] ⟨o, ro, df⟩ = some (.bool (iabs q), ⟨o, ro, df⟩) := by
  have h := fun o ro df => iplain_eq q hl o ro df
  unfold iabs
  simp only [iqA] at h ⊢
  generalize moA q.1.2 = M at *
  generalize iplain q = E at *
  obtain ⟨⟨k, ms⟩, b⟩ := q
  simp only at *
  apply call_by (by exact rfl : T 68 = some _) (by simp)
  intro fr hfr hsl
  have s0 := hsl 0 _ rfl
  cases E with
  | false => simp -implicitDefEqProofs [hfr, s0, h, get_base0, -getElem?_pos, List.getElem?_cons_zero]
  | true =>
    by_cases c1 : k > 0
    · have c1' : 0 < k := c1
      have d1 : decide (k > 0) = true := by simpa using c1
      simp -implicitDefEqProofs [hfr, s0, h, c1, c1', get_base0, -getElem?_pos, List.getElem?_cons_zero]
    · have c1' : ¬ 0 < k := c1
      cases b with
      | false => simp -implicitDefEqProofs [hfr, s0, h, c1, c1', get_base0, -getElem?_pos, List.getElem?_cons_zero]
      | true =>
        by_cases c2 : k = 0
        · subst c2
          simp -implicitDefEqProofs [hfr, s0, h, get_base0, -getElem?_pos, List.getElem?_cons_zero]
        · have c2b : (k != 0) = true := by simpa using c2
          simp -implicitDefEqProofs [hfr, s0, h, c1, c1', c2b, c2, get_base0, -getElem?_pos, List.getElem?_cons_zero]

theorem oL_ok : ∀ (xs : List Int) (j : Nat), j + xs.length ≤ 64 → (∀ m ∈ oL j xs, inI64 m.1 ∧ inI64 m.2)
  | [], j, _, m, hm => by simp [oL] at hm
  | x :: l, j, h, m, hm => by
    simp only [List.length_cons] at h
    have ih := oL_ok l (j + 1) (by omega) m
    have hf : inI64 (fit x) := by unfold fit; split; assumption; unfold inI64; omega
    simp only [oL] at hm
    split at hm
    · rcases List.mem_cons.1 hm with rfl | hm
      · exact ⟨by unfold inI64; simp; omega, hf⟩
      · exact ih hm
    · exact ih hm
theorem lsumP_ok (fs : List (Li × Int)) : LiOk (lsumP fs).1 := by
  unfold lsumP
  split
  · rename_i h
    have h64 : (accF fs z64).length = 64 := by rw [accF_len, z64_len]
    refine ⟨h.1, oL_ok _ 0 (by omega), ?_⟩
    have := oL_len (accF fs z64) 0
    show (oL 0 (accF fs z64)).length ≤ _
    omega
  · exact ⟨by simp [inI64], by simp, by simp⟩
theorem lSumP_ok (l : List Li) (b : List Int) : LiOk (lSumP l b).1 := by
  unfold lSumP
  split
  · exact lsumP_ok _
  · exact ⟨by simp [inI64], by simp, by simp⟩

def inotP (q : Iq) : Iq × Int :=
  if lok q.1 = false ∨ q.2 = true then (iz, 1) else if (lSumP [q.1] [-1]).2 ≠ 0 then (iz, (lSumP [q.1] [-1]).2) else
    if (lSumP [(lSumP [q.1] [-1]).1, (1, [])] [1, 1]).2 ≠ 0 then (iz, (lSumP [(lSumP [q.1] [-1]).1, (1, [])] [1, 1]).2) else (((lSumP [(lSumP [q.1] [-1]).1, (1, [])] [1, 1]).1, false), 0)
theorem iNot_eq (q : Iq) (hl : LiOk q.1) (o : List Obj) (ro : Nat) (df : List Nat) :
    (D T).call 71 [.agg (iqA q)] ⟨o, ro, df⟩ = some (.tup [.agg (iqA (inotP q).1), .int .i64 (inotP q).2], ⟨o, ro, df⟩) := by
  have h := fun o ro df => iRight_eq q (by have := hl.2.2; omega) o ro df
  have h1 := fun o ro df => lScale_eq q.1 (-1) hl (by simp [inI64]) o ro df
  have h2 := fun o ro df => lAdd_eq (lSumP [q.1] [-1]).1 (1, []) (lSumP_ok _ _) ⟨by simp [inI64], by simp, by simp⟩ o ro df
  have hE : inotP q = if lok q.1 = false ∨ q.2 = true then (iz, 1) else if (lSumP [q.1] [-1]).2 ≠ 0 then (iz, (lSumP [q.1] [-1]).2) else
    if (lSumP [(lSumP [q.1] [-1]).1, (1, [])] [1, 1]).2 ≠ 0 then (iz, (lSumP [(lSumP [q.1] [-1]).1, (1, [])] [1, 1]).2) else (((lSumP [(lSumP [q.1] [-1]).1, (1, [])] [1, 1]).1, false), 0) := rfl
  have hlr : lrE q.1 = if lok q.1 then 0 else 1 := rfl
  have hZ : iqA iz = [.int .i64 0, .sl 2 [], .bool false] := rfl
  generalize lSumP [(lSumP [q.1] [-1]).1, (1, [])] [1, 1] = V at *
  generalize lSumP [q.1] [-1] = U at *
  generalize inotP q = R at *
  generalize lrE q.1 = E at *
  generalize lok q.1 = L at *
  obtain ⟨⟨k, ms⟩, b⟩ := q
  obtain ⟨⟨u1, u2⟩, u3⟩ := U
  obtain ⟨⟨v1, v2⟩, v3⟩ := V
  have mv := moA_flat v2
  have mu := moA_flat u2
  have hq : iqA ((k, ms), b) = [.int .i64 k, .sl 2 (moA ms), .bool b] := rfl
  have hV : iqA ((v1, v2), false) = [.int .i64 v1, .sl 2 (moA v2), .bool false] := rfl
  have m0 : moA [] = [] := rfl
  simp only [liA, m0] at h1 h2
  rw [hq] at h ⊢
  simp only at hE
  clear hl hq
  generalize moA ms = M at *
  generalize hMu : moA u2 = Mu at *
  generalize hMv : moA v2 = Mv at *
  apply call_by (by exact rfl : T 71 = some _) (by simp)
  intro fr hfr hsl
  have s0 := hsl 0 _ rfl
  cases L with
  | false =>
    simp at hE hlr
    subst hE hlr
    simp -implicitDefEqProofs [hfr, s0, h, hZ, get_base0, get_base, set_base0, set_base, -getElem?_pos, List.getElem?_cons_zero, List.getElem?_cons_succ]
  | true =>
    simp only [if_true] at hlr
    subst hlr
    cases b with
    | true =>
      simp at hE
      subst hE
      simp -implicitDefEqProofs [hfr, s0, h, hZ, get_base0, get_base, set_base0, set_base, -getElem?_pos, List.getElem?_cons_zero, List.getElem?_cons_succ]
    | false =>
      by_cases c1 : u3 = 0
      · subst c1
        by_cases c2 : v3 = 0
        · subst c2
          simp at hE
          subst hE
          rw [hV]
          simp -implicitDefEqProofs [hfr, s0, h, h1, h2, mv, mu, get_base0, get_base, set_base0, set_base, -getElem?_pos, List.getElem?_cons_zero, List.getElem?_cons_succ]
        · have c2b : (v3 != 0) = true := by simpa using c2
          simp [c2] at hE
          subst hE
          simp -implicitDefEqProofs [hfr, s0, h, h1, h2, hZ, c2b, mv, mu, get_base0, get_base, set_base0, set_base, -getElem?_pos, List.getElem?_cons_zero, List.getElem?_cons_succ]
      · have c1b : (u3 != 0) = true := by simpa using c1
        simp [c1] at hE
        subst hE
        simp -implicitDefEqProofs [hfr, s0, h, h1, hZ, c1b, mv, mu, get_base0, get_base, set_base0, set_base, -getElem?_pos, List.getElem?_cons_zero, List.getElem?_cons_succ]

end Go.Proofs.Ytgabnhmjlhhojaa.A
