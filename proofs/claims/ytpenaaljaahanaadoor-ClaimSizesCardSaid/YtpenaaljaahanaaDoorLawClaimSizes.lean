/- ClaimSizes: for any two claims the law's function answers true, and its arguments read as before, where term.needs reads as the program's text lays it. No other condition. -/
import Derived.Test.YtpenaaljaahanaaDoorD6
import Derived.Test.YtpenaaljaahanaaDoorG
namespace Go.Proofs.YtpenaaljaahanaaDoor.A
open Go
set_option maxRecDepth 10000
set_option linter.unusedSimpArgs false
attribute [-simp] List.all_eq_true put slot_def ld idxA lenOf elems canA app hand

def andC (a b : Cl) : Cl := .mk 7 ⟨#[]⟩ ⟨#[]⟩ [] [a, b]
def notC (c : Cl) : Cl := .mk 6 ⟨#[]⟩ ⟨#[]⟩ [] [c]

theorem not_eq (c : Cl) (o : List Obj) (ro : Nat) (df : List Nat) : (D T).call 14 [c.av] ⟨o, ro, df⟩ = some ((notC c).av, ⟨o, ro, df⟩) := by
  apply call_by (by exact rfl : T 14 = some _) (by simp)
  intro fr hfr hsl
  have s0 := hsl 0 _ rfl
  simp only [Cl.av] at s0
  simp -implicitDefEqProofs [hfr, s0, get_base0, get_base, set_base0, set_base, notC, Cl.av, Cl.cells_mk]

theorem join2_eq (a b : Cl) (o : List Obj) (ro : Nat) (df : List Nat) : (D T).call 28 [.int .i64 7, .int .i64 1, .fsl 5 [a.cells, b.cells]] ⟨o, ro, df⟩ = some ((andC a b).av, ⟨o, ro, df⟩) := by
  have w1 : IntKind.i64.wrap 1 = 1 := wrap_id (by omega) (by omega)
  have w0 : IntKind.i64.wrap 0 = 0 := wrap_id (by omega) (by omega)
  have wm : IntKind.i64.wrap (-1) = -1 := wrap_id (by omega) (by omega)
  obtain ⟨a', s', u', ts', cs'⟩ := b
  have h1 := flat_list ts'
  have h2 := cflat_list cs'
  apply call_by (by exact rfl : T 28 = some _) (by simp)
  intro fr hfr hsl
  have s0 := hsl 0 _ rfl
  have s1 := hsl 1 _ rfl
  have s2 := hsl 2 _ rfl
  simp only [Cl.cells_mk] at s2
  simp -implicitDefEqProofs [hfr, s0, s1, s2, get_base0, get_base, set_base0, set_base, w1, w0, wm, h1, h2]
  apply loop_step L28_0.eq_1
  simp -implicitDefEqProofs [hfr, s0, s1, s2, get_base0, get_base, set_base0, set_base, w1, w0, wm, h1, h2]
  apply loop_step L28_0.eq_1
  simp -implicitDefEqProofs [hfr, s0, s1, s2, get_base0, get_base, set_base0, set_base, w1, w0, wm, h1, h2, andC, Cl.av, Cl.cells_mk]

theorem and2_eq (a b : Cl) (o : List Obj) (ro : Nat) (df : List Nat) : (D T).call 13 [.fsl 5 [a.cells, b.cells]] ⟨o, ro, df⟩ = some ((andC a b).av, ⟨o, ro, df⟩) := by
  have hj := fun o ro df => join2_eq a b o ro df
  simp only [andC, Cl.av, Cl.cells_mk, List.map_cons, List.map_nil] at hj
  apply call_by (by exact rfl : T 13 = some _) (by simp)
  intro fr hfr hsl
  have s0 := hsl 0 _ rfl
  simp -implicitDefEqProofs [hfr, s0, get_base0, get_base, set_base0, set_base, hj, andC, Cl.av, Cl.cells_mk]

theorem nil_size : (⟨#[]⟩ : ByteArray).size ≤ maxLen := by decide
theorem andC_ok (a b : Cl) (ha : a.ok) (hb : b.ok) : (andC a b).ok := by
  simp only [andC, Cl.ok, okL, okC]
  exact ⟨by omega, nil_size, nil_size, Nat.zero_le _, trivial, by simp [maxLen], ha, hb, trivial⟩
theorem notC_ok (c : Cl) (h : c.ok) : (notC c).ok := by
  simp only [notC, Cl.ok, okL, okC]
  exact ⟨by omega, nil_size, nil_size, Nat.zero_le _, trivial, by simp [maxLen], h, trivial⟩

theorem csz_and (a b : Cl) : csz (andC a b) = csz a + csz b + 1 := by simp [andC, csz, cszL, allL]; omega
theorem csz_not (c : Cl) : csz (notC c) = csz c + 1 := by simp [notC, csz, cszL, allL]; omega
theorem dC_and (a b : Cl) : dC (andC a b) = 1 + max (dC a) (dC b) := by
  have h1 := dC_pos a
  have h2 := dC_pos b
  have h0 : dCL ([] : List Cl) = 0 := by simp [dCL]
  have e1 : dCL [b] = dC b := by
    rw [dCL]
    exact if_pos (by omega)
  have e2 : dC (andC a b) = 1 + dCL [a, b] := by rw [andC, dC]
  rw [e2, dCL, e1]
  split <;> omega
theorem prt_and (a b : Cl) : prt (andC a b) = if prt a = 0 then prt b else prt a := by
  have e : errC 7 ⟨#[]⟩ ⟨#[]⟩ 0 2 = 0 := by simp [errC, arT, arS, binder, bytesEq_self]
  have h2 : prt (andC a b) = if errC 7 ⟨#[]⟩ ⟨#[]⟩ 0 2 = 0 then (if fstR [] = 0 then prtL [a, b] else fstR []) else errC 7 ⟨#[]⟩ ⟨#[]⟩ 0 2 := by
    rw [andC, prt]; rfl
  rw [h2, if_pos e]
  simp only [fstR, if_true, prtL]
  by_cases h : prt a = 0
  · simp only [if_pos h]
    by_cases h' : prt b = 0
    · simp [h']
    · simp [h']
  · simp only [if_neg h]

theorem right_small {c : Cl} (h : csz c ≤ 4096) : rightC c = if 64 < dC c then 6 else prt c := by
  unfold rightC
  by_cases k : 64 < dC c
  · rw [if_pos (by omega), if_pos k]
  · rw [if_neg (by omega), if_neg (by omega), if_neg k]

set_option maxHeartbeats 4000000 in
theorem law_csizes (a b : Cl) (ha : a.ok) (hb : b.ok) : (D T).call 4 [a.av, b.av] st0 = some (.bool true, st0) := by
  have sa := fun st => big_eq a ha 400 (by omega) (by omega) st
  have sb := fun st => big_eq b hb 400 (by omega) (by omega) st
  have hAnd := fun o ro df => and2_eq a b o ro df
  have hnot := fun o ro df => not_eq a o ro df
  have cok := andC_ok a b ha hb
  have nok := notC_ok a ha
  have zA := fun o ro df => cSize_eq a ha o ro df
  have zB := fun o ro df => cSize_eq b hb o ro df
  have zC := fun o ro df => cSize_eq _ cok o ro df
  have zN := fun o ro df => cSize_eq _ nok o ro df
  have dA := fun o ro df => cDepth_eq a ha o ro df
  have dB := fun o ro df => cDepth_eq b hb o ro df
  have dD := fun o ro df => cDepth_eq _ cok o ro df
  have rA := fun o ro df => cRight_eq a ha o ro df
  have rB := fun o ro df => cRight_eq b hb o ro df
  have rC := fun o ro df => cRight_eq _ cok o ro df
  simp only [Cl.av] at sa sb hAnd hnot zA zB zC zN dA dB dD rA rB rC
  apply call_by (by exact rfl : T 4 = some _) (by simp)
  intro fr hfr hsl
  have s0 := hsl 0 _ rfl
  have s1 := hsl 1 _ rfl
  simp only [Cl.av] at s0 s1
  by_cases k1 : 400 < wt a 400
  · simp -implicitDefEqProofs [hfr, s0, s1, Cl.av, st0, sa, k1, alive2]
  · by_cases k2 : 400 < wt b 400
    · simp -implicitDefEqProofs [hfr, s0, s1, Cl.av, st0, sa, sb, k1, k2, alive2]
    · have m1 := wt_min a 400 (by omega)
      have m2 := wt_min b 400 (by omega)
      have p1 := csz_pos a
      have p2 := csz_pos b
      have q1 := dC_pos a
      have q2 := dC_pos b
      have zc := csz_and a b
      have zn := csz_not a
      have dc := dC_and a b
      have ra : rightC a = if 64 < dC a then 6 else prt a := right_small (by omega)
      have rb : rightC b = if 64 < dC b then 6 else prt b := right_small (by omega)
      have rc : rightC (andC a b) = if 64 < dC (andC a b) then 6 else prt (andC a b) := right_small (by omega)
      rw [prt_and] at rc
      obtain ⟨zcN, hzcN⟩ : ∃ x, x = min (csz (andC a b)) 4097 := ⟨_, rfl⟩
      have e1 : min (csz a) 4097 = csz a := by omega
      have e2 : min (csz b) 4097 = csz b := by omega
      have e3 : min (csz (andC a b)) 4097 = csz a + csz b + 1 := by omega
      have e4 : min (csz (notC a)) 4097 = csz a + 1 := by omega
      rw [e1] at zA
      rw [e2] at zB
      rw [e3] at zC
      rw [e4] at zN
      have w1 : IntKind.i64.wrap (csz a + csz b) = csz a + csz b := wrap_id (by omega) (by omega)
      have w2 : IntKind.i64.wrap (csz a + csz b + 1) = csz a + csz b + 1 := wrap_id (by omega) (by omega)
      have w3 : IntKind.i64.wrap (csz a + 1) = csz a + 1 := wrap_id (by omega) (by omega)
      obtain ⟨DA, hDA⟩ : ∃ x, x = min (dC a) 65 := ⟨_, rfl⟩
      obtain ⟨DB, hDB⟩ : ∃ x, x = min (dC b) 65 := ⟨_, rfl⟩
      obtain ⟨DD, hDD⟩ : ∃ x, x = min (dC (andC a b)) 65 := ⟨_, rfl⟩
      rw [← hDA] at dA
      rw [← hDB] at dB
      rw [← hDD] at dD
      by_cases hm : DA < DB
      · skip
        have w4 : IntKind.i64.wrap (DB + 1) = DB + 1 := wrap_id (by omega) (by omega)
        by_cases h65 : 65 < DB + 1
        · obtain rfl : DD = 65 := by omega
          by_cases ra0 : rightC a = 0
          · by_cases rb0 : rightC b = 0
            · have rc0 : ¬ rightC (andC a b) = 0 := by rw [rc, if_pos (by omega)]; omega
              have rcb : (rightC (andC a b) == 0) = false := by simpa using rc0
              simp -implicitDefEqProofs [hfr, s0, s1, Cl.av, st0, sa, sb, k1, k2, hAnd, hnot, zA, zB, zC, zN, dA, dB, dD, rA, rB, rC, w1, w2, w3, alive3, hm, w4, h65, ra0, rb0, rc0, rcb]
            · have rbb : (rightC b == 0) = false := by simpa using rb0
              have rc0 : ¬ rightC (andC a b) = 0 := by
                rw [rc]
                by_cases h : 64 < dC (andC a b)
                · rw [if_pos h]; omega
                · rw [if_neg (by omega)] at ra rb
                  rw [if_neg h, ← ra, ← rb, if_pos ra0]; exact rb0
              have rcb : (rightC (andC a b) == 0) = false := by simpa using rc0
              simp -implicitDefEqProofs [hfr, s0, s1, Cl.av, st0, sa, sb, k1, k2, hAnd, hnot, zA, zB, zC, zN, dA, dB, dD, rA, rB, rC, w1, w2, w3, alive3, hm, w4, h65, ra0, rb0, rbb, rc0, rcb]
          · have rab : (rightC a == 0) = false := by simpa using ra0
            have rc0 : ¬ rightC (andC a b) = 0 := by
              rw [rc]
              by_cases h : 64 < dC (andC a b)
              · rw [if_pos h]; omega
              · rw [if_neg (by omega)] at ra rb
                rw [if_neg h, ← ra, if_neg ra0]; exact ra0
            have rcb : (rightC (andC a b) == 0) = false := by simpa using rc0
            simp -implicitDefEqProofs [hfr, s0, s1, Cl.av, st0, sa, sb, k1, k2, hAnd, hnot, zA, zB, zC, zN, dA, dB, dD, rA, rB, rC, w1, w2, w3, alive3, hm, w4, h65, ra0, rab, rc0, rcb]
        · obtain rfl : DD = DB + 1 := by omega
          by_cases ra0 : rightC a = 0
          · by_cases rb0 : rightC b = 0
            · by_cases hD : DB + 1 ≤ 64
              · have rc0 : rightC (andC a b) = 0 := by
                  rw [if_neg (by omega)] at ra rb
                  rw [rc, if_neg (by omega), ← ra, ← rb, ra0, rb0]; rfl
                simp -implicitDefEqProofs [hfr, s0, s1, Cl.av, st0, sa, sb, k1, k2, hAnd, hnot, zA, zB, zC, zN, dA, dB, dD, rA, rB, rC, w1, w2, w3, alive3, hm, w4, h65, ra0, rb0, rc0, hD]
              · have rc0 : ¬ rightC (andC a b) = 0 := by rw [rc, if_pos (by omega)]; omega
                have rcb : (rightC (andC a b) == 0) = false := by simpa using rc0
                simp -implicitDefEqProofs [hfr, s0, s1, Cl.av, st0, sa, sb, k1, k2, hAnd, hnot, zA, zB, zC, zN, dA, dB, dD, rA, rB, rC, w1, w2, w3, alive3, hm, w4, h65, ra0, rb0, rc0, rcb, hD]
            · have rbb : (rightC b == 0) = false := by simpa using rb0
              have rc0 : ¬ rightC (andC a b) = 0 := by
                rw [rc]
                by_cases h : 64 < dC (andC a b)
                · rw [if_pos h]; omega
                · rw [if_neg (by omega)] at ra rb
                  rw [if_neg h, ← ra, ← rb, if_pos ra0]; exact rb0
              have rcb : (rightC (andC a b) == 0) = false := by simpa using rc0
              simp -implicitDefEqProofs [hfr, s0, s1, Cl.av, st0, sa, sb, k1, k2, hAnd, hnot, zA, zB, zC, zN, dA, dB, dD, rA, rB, rC, w1, w2, w3, alive3, hm, w4, h65, ra0, rb0, rbb, rc0, rcb]
          · have rab : (rightC a == 0) = false := by simpa using ra0
            have rc0 : ¬ rightC (andC a b) = 0 := by
              rw [rc]
              by_cases h : 64 < dC (andC a b)
              · rw [if_pos h]; omega
              · rw [if_neg (by omega)] at ra rb
                rw [if_neg h, ← ra, if_neg ra0]; exact ra0
            have rcb : (rightC (andC a b) == 0) = false := by simpa using rc0
            simp -implicitDefEqProofs [hfr, s0, s1, Cl.av, st0, sa, sb, k1, k2, hAnd, hnot, zA, zB, zC, zN, dA, dB, dD, rA, rB, rC, w1, w2, w3, alive3, hm, w4, h65, ra0, rab, rc0, rcb]
      · skip
        have w4 : IntKind.i64.wrap (DA + 1) = DA + 1 := wrap_id (by omega) (by omega)
        by_cases h65 : 65 < DA + 1
        · obtain rfl : DD = 65 := by omega
          by_cases ra0 : rightC a = 0
          · by_cases rb0 : rightC b = 0
            · have rc0 : ¬ rightC (andC a b) = 0 := by rw [rc, if_pos (by omega)]; omega
              have rcb : (rightC (andC a b) == 0) = false := by simpa using rc0
              simp -implicitDefEqProofs [hfr, s0, s1, Cl.av, st0, sa, sb, k1, k2, hAnd, hnot, zA, zB, zC, zN, dA, dB, dD, rA, rB, rC, w1, w2, w3, alive3, hm, w4, h65, ra0, rb0, rc0, rcb]
            · have rbb : (rightC b == 0) = false := by simpa using rb0
              have rc0 : ¬ rightC (andC a b) = 0 := by
                rw [rc]
                by_cases h : 64 < dC (andC a b)
                · rw [if_pos h]; omega
                · rw [if_neg (by omega)] at ra rb
                  rw [if_neg h, ← ra, ← rb, if_pos ra0]; exact rb0
              have rcb : (rightC (andC a b) == 0) = false := by simpa using rc0
              simp -implicitDefEqProofs [hfr, s0, s1, Cl.av, st0, sa, sb, k1, k2, hAnd, hnot, zA, zB, zC, zN, dA, dB, dD, rA, rB, rC, w1, w2, w3, alive3, hm, w4, h65, ra0, rb0, rbb, rc0, rcb]
          · have rab : (rightC a == 0) = false := by simpa using ra0
            have rc0 : ¬ rightC (andC a b) = 0 := by
              rw [rc]
              by_cases h : 64 < dC (andC a b)
              · rw [if_pos h]; omega
              · rw [if_neg (by omega)] at ra rb
                rw [if_neg h, ← ra, if_neg ra0]; exact ra0
            have rcb : (rightC (andC a b) == 0) = false := by simpa using rc0
            simp -implicitDefEqProofs [hfr, s0, s1, Cl.av, st0, sa, sb, k1, k2, hAnd, hnot, zA, zB, zC, zN, dA, dB, dD, rA, rB, rC, w1, w2, w3, alive3, hm, w4, h65, ra0, rab, rc0, rcb]
        · obtain rfl : DD = DA + 1 := by omega
          by_cases ra0 : rightC a = 0
          · by_cases rb0 : rightC b = 0
            · by_cases hD : DA + 1 ≤ 64
              · have rc0 : rightC (andC a b) = 0 := by
                  rw [if_neg (by omega)] at ra rb
                  rw [rc, if_neg (by omega), ← ra, ← rb, ra0, rb0]; rfl
                simp -implicitDefEqProofs [hfr, s0, s1, Cl.av, st0, sa, sb, k1, k2, hAnd, hnot, zA, zB, zC, zN, dA, dB, dD, rA, rB, rC, w1, w2, w3, alive3, hm, w4, h65, ra0, rb0, rc0, hD]
              · have rc0 : ¬ rightC (andC a b) = 0 := by rw [rc, if_pos (by omega)]; omega
                have rcb : (rightC (andC a b) == 0) = false := by simpa using rc0
                simp -implicitDefEqProofs [hfr, s0, s1, Cl.av, st0, sa, sb, k1, k2, hAnd, hnot, zA, zB, zC, zN, dA, dB, dD, rA, rB, rC, w1, w2, w3, alive3, hm, w4, h65, ra0, rb0, rc0, rcb, hD]
            · have rbb : (rightC b == 0) = false := by simpa using rb0
              have rc0 : ¬ rightC (andC a b) = 0 := by
                rw [rc]
                by_cases h : 64 < dC (andC a b)
                · rw [if_pos h]; omega
                · rw [if_neg (by omega)] at ra rb
                  rw [if_neg h, ← ra, ← rb, if_pos ra0]; exact rb0
              have rcb : (rightC (andC a b) == 0) = false := by simpa using rc0
              simp -implicitDefEqProofs [hfr, s0, s1, Cl.av, st0, sa, sb, k1, k2, hAnd, hnot, zA, zB, zC, zN, dA, dB, dD, rA, rB, rC, w1, w2, w3, alive3, hm, w4, h65, ra0, rb0, rbb, rc0, rcb]
          · have rab : (rightC a == 0) = false := by simpa using ra0
            have rc0 : ¬ rightC (andC a b) = 0 := by
              rw [rc]
              by_cases h : 64 < dC (andC a b)
              · rw [if_pos h]; omega
              · rw [if_neg (by omega)] at ra rb
                rw [if_neg h, ← ra, if_neg ra0]; exact ra0
            have rcb : (rightC (andC a b) == 0) = false := by simpa using rc0
            simp -implicitDefEqProofs [hfr, s0, s1, Cl.av, st0, sa, sb, k1, k2, hAnd, hnot, zA, zB, zC, zN, dA, dB, dD, rA, rB, rC, w1, w2, w3, alive3, hm, w4, h65, ra0, rab, rc0, rcb]

end Go.Proofs.YtpenaaljaahanaaDoor.A
