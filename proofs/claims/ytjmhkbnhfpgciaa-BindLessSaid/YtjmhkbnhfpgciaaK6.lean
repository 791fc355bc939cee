/- The first error of a claim: the document's. -/
import Derived.Test.YtjmhkbnhfpgciaaK5
namespace Go.Proofs.Ytjmhkbnhfpgciaa.A
open Go
set_option maxRecDepth 10000
set_option linter.unusedSimpArgs false
attribute [-simp] List.all_eq_true put slot_def ld idxA lenOf elems canA app hand

set_option maxHeartbeats 8000000 in
theorem crparts_eq : ∀ (c : Cl), c.ok → ∀ (o : List Obj) (ro : Nat) (df : List Nat), (D T).call 44 [c.av] ⟨o, ro, df⟩ = some (.int .i64 (prt c), ⟨o, ro, df⟩)
  | .mk a s u ts cs, hok, o, ro, df => by
    simp only [Cl.ok] at hok
    have hl := okC_iff.1 hok.2.2.2.2.2.2
    have ht := okL_iff.1 hok.2.2.2.2.1
    have mx1 : ts.length ≤ 9223372036854775807 := Nat.le_trans hok.2.2.2.1 (by decide)
    have mx2 : cs.length ≤ 9223372036854775807 := Nat.le_trans hok.2.2.2.2.2.1 (by decide)
    have ih := fun x (hx : x ∈ cs) o ro df => crparts_eq x (hl x hx) o ro df
    have hR := fun x (hx : x ∈ ts) o ro df => tRight8_eq x (ht x hx) o ro df
    simp only [Cl.av, Tm.av] at ih hR
    have lp0 : ∀ (fr : List AV) (Q : AE → List AV → St → Prop), fr.length = 107 → slot fr 1 = .ptr o.length 0 0 → slot fr 6 = .int .i64 0 →
        (fstR ts = 0 → ∀ (fr' : List AV), fr'.length = 107 → slot fr' 1 = .ptr o.length 0 0 → Q (.exit 0) fr' ⟨o ++ [.arr 25 5 [[.int .i64 a, .str s, .str u, .sl 4 (ts.map Tm.cells), .sl 5 (cs.map Cl.cells)]]], o.length, []⟩) →
        (fstR ts ≠ 0 → ∀ (fr' : List AV), fr'.length = 107 → slot fr' 2 = .int .i64 (fstR ts) → Q .ret fr' ⟨o ++ [.arr 25 5 [[.int .i64 a, .str s, .str u, .sl 4 (ts.map Tm.cells), .sl 5 (cs.map Cl.cells)]]], o.length, []⟩) →
        ∃ e fr' st', (D T).loop false L44_0 fr ⟨o ++ [.arr 25 5 [[.int .i64 a, .str s, .str u, .sl 4 (ts.map Tm.cells), .sl 5 (cs.map Cl.cells)]]], o.length, []⟩ = some (e, fr', st') ∧ Q e fr' st' := by
      intro fr Q f f1 fix k1 k2
      apply loop_inv L44_0.eq_1 List.length (fun (rest : List Tm) fr st => ∃ pre, ts = pre ++ rest ∧ fr.length = 107 ∧ slot fr 1 = .ptr o.length 0 0 ∧ slot fr 6 = .int .i64 (pre.length : Int) ∧
        st = ⟨o ++ [.arr 25 5 [[.int .i64 a, .str s, .str u, .sl 4 (ts.map Tm.cells), .sl 5 (cs.map Cl.cells)]]], o.length, []⟩ ∧ fstR ts = fstR rest) ?_ ts ⟨[], rfl, f, f1, fix, rfl, rfl⟩
      rintro rest fr _ ⟨pre, e, hfr, q1, qix, rfl, hin⟩
      cases rest with
      | nil =>
        have hlt := idx_end e
        simp -implicitDefEqProofs [hfr, q1, qix, hlt, get_base0]
        exact k1 (by rw [hin]; simp [fstR]) _ (by simp [hfr]) (by simp [hfr, q1])
      | cons t rest =>
        obtain ⟨hlt, hg, _⟩ := idx_at e
        have hw := idx_next e mx1
        have hc := fun o ro df => hR t (by simp [e]) o ro df
        simp only [fstR] at hin
        by_cases h : rightP t = 0
        · rw [if_pos h] at hin
          simp -implicitDefEqProofs [hfr, q1, qix, hlt, hg, hw, hc, h, get_base0]
          exact ⟨rest, by simp, pre ++ [t], by simp [e], by simp, hin⟩
        · rw [if_neg h] at hin
          have hb : (rightP t != 0) = true := by simpa using h
          simp -implicitDefEqProofs [hfr, q1, qix, hlt, hg, hw, hc, h, hb, get_base0]
          exact k2 (by rw [hin]; exact h) _ (by simp [hfr]) (by simp [hfr, hin])
    have lp1 : ∀ (fr : List AV) (Q : AE → List AV → St → Prop), fr.length = 107 → slot fr 1 = .ptr o.length 0 0 → slot fr 8 = .int .i64 0 →
        (prtL cs = 0 → ∀ (fr' : List AV), fr'.length = 107 → slot fr' 1 = .ptr o.length 0 0 → Q (.exit 2) fr' ⟨o ++ [.arr 25 5 [[.int .i64 a, .str s, .str u, .sl 4 (ts.map Tm.cells), .sl 5 (cs.map Cl.cells)]]], o.length, []⟩) →
        (prtL cs ≠ 0 → ∀ (fr' : List AV), fr'.length = 107 → slot fr' 2 = .int .i64 (prtL cs) → Q .ret fr' ⟨o ++ [.arr 25 5 [[.int .i64 a, .str s, .str u, .sl 4 (ts.map Tm.cells), .sl 5 (cs.map Cl.cells)]]], o.length, []⟩) →
        ∃ e fr' st', (D T).loop false L44_1 fr ⟨o ++ [.arr 25 5 [[.int .i64 a, .str s, .str u, .sl 4 (ts.map Tm.cells), .sl 5 (cs.map Cl.cells)]]], o.length, []⟩ = some (e, fr', st') ∧ Q e fr' st' := by
      intro fr Q f f1 fix k1 k2
      apply loop_inv L44_1.eq_1 List.length (fun (rest : List Cl) fr st => ∃ pre, cs = pre ++ rest ∧ fr.length = 107 ∧ slot fr 1 = .ptr o.length 0 0 ∧ slot fr 8 = .int .i64 (pre.length : Int) ∧
        st = ⟨o ++ [.arr 25 5 [[.int .i64 a, .str s, .str u, .sl 4 (ts.map Tm.cells), .sl 5 (cs.map Cl.cells)]]], o.length, []⟩ ∧ prtL cs = prtL rest) ?_ cs ⟨[], rfl, f, f1, fix, rfl, rfl⟩
      rintro rest fr _ ⟨pre, e, hfr, q1, qix, rfl, hin⟩
      cases rest with
      | nil =>
        have hlt := idx_end e
        simp -implicitDefEqProofs [hfr, q1, qix, hlt, get_base0]
        exact k1 (by rw [hin]; simp [prtL]) _ (by simp [hfr]) (by simp [hfr, q1])
      | cons t rest =>
        obtain ⟨hlt, hg, _⟩ := idx_at e
        have hw := idx_next e mx2
        have hc := fun o ro df => ih t (by simp [e]) o ro df
        simp only [prtL] at hin
        by_cases h : prt t = 0
        · rw [if_pos h] at hin
          simp -implicitDefEqProofs [hfr, q1, qix, hlt, hg, hw, hc, h, get_base0]
          exact ⟨rest, by simp, pre ++ [t], by simp [e], by simp, hin⟩
        · rw [if_neg h] at hin
          have hb : (prt t != 0) = true := by simpa using h
          simp -implicitDefEqProofs [hfr, q1, qix, hlt, hg, hw, hc, h, hb, get_base0]
          exact k2 (by rw [hin]; exact h) _ (by simp [hfr]) (by simp [hfr, hin])
    apply call_by (by exact rfl : T 44 = some _) (by simp)
    intro fr hfr hsl
    have s0 := hsl 0 _ rfl
    simp only [Cl.av, Cl.cells_mk] at s0
    clear ih hR
    simp only [prt]
    by_cases a1 : a < 1
    · have e : errC a s u ts.length cs.length = 7 := by simp only [errC]; rw [if_pos (.inl a1)]
      rw [e]
      have k11 : ¬ a = 11 ∧ ¬ a = 12 ∧ (a == 11) = false ∧ (a == 12) = false := by refine ⟨by omega, by omega, by simp; omega, by simp; omega⟩
      simp -implicitDefEqProofs [hfr, s0, get_base0, a1, k11.1, k11.2.1, k11.2.2.1, k11.2.2.2]
    · by_cases a8 : 12 < a
      · have e : errC a s u ts.length cs.length = 7 := by simp only [errC]; rw [if_pos (.inr (.inl a8))]
        rw [e]
        have k11 : ¬ a = 11 ∧ ¬ a = 12 ∧ (a == 11) = false ∧ (a == 12) = false := by refine ⟨by omega, by omega, by simp; omega, by simp; omega⟩
        simp -implicitDefEqProofs [hfr, s0, get_base0, a1, a8, k11.1, k11.2.1, k11.2.2.1, k11.2.2.2]
      · obtain ⟨n, hn⟩ : ∃ n : Int, n = (ts.length : Int) := ⟨_, rfl⟩
        obtain ⟨m, hm⟩ : ∃ m : Int, m = (cs.length : Int) := ⟨_, rfl⟩
        rcases lit_range a1 a8 with rfl | rfl | rfl | rfl | rfl | rfl | rfl | rfl | rfl | rfl | rfl | rfl
        · rcases Bool.eq_false_or_eq_true (bytesEq s ⟨#[]⟩) with hs | hs
          · rcases Bool.eq_false_or_eq_true (bytesEq u ⟨#[]⟩) with hu | hu
            · skip
              by_cases n1 : n = 0
              · skip
                by_cases m1 : m = 0
                · skip
                  have e : errC 1 s u n m = 0 := by simp [errC, arT, arS, binder, hs, hu, n1, m1]
                  rw [← hn, ← hm, e]
                  simp -implicitDefEqProofs [hfr, s0, get_base0, wants_eq, arT, arS, binder, ← hn, ← hm, hs, hu, n1, m1]
                  apply lp0
                  · simp [hfr]
                  · simp [hfr]
                  · simp [hfr]
                  · intro z fr' hf p1
                    simp -implicitDefEqProofs [hf, p1, z]
                    apply lp1
                    · simp [hf]
                    · simp [hf, p1]
                    · simp [hf]
                    · intro z2 fr'' hf2 p2
                      simp -implicitDefEqProofs [hf2, z2]
                    · intro z2 fr'' hf2 p2
                      simp -implicitDefEqProofs [hf2, p2]
                  · intro z fr' hf p2
                    simp -implicitDefEqProofs [hf, p2, z]
                · have mb : (m != 0) = true := by simpa using m1
                  have e : errC 1 s u n m = 12 := by simp [errC, arT, arS, binder, hs, hu, n1, m1, mb]
                  rw [← hn, ← hm, e]
                  simp -implicitDefEqProofs [hfr, s0, get_base0, wants_eq, arT, arS, binder, ← hn, ← hm, hs, hu, n1, m1, mb]
              · have nb : (n != 0) = true := by simpa using n1
                have e : errC 1 s u n m = 12 := by simp [errC, arT, arS, binder, hs, hu, n1, nb]
                rw [← hn, ← hm, e]
                simp -implicitDefEqProofs [hfr, s0, get_base0, wants_eq, arT, arS, binder, ← hn, ← hm, hs, hu, n1, nb]
            · skip
              have e : errC 1 s u n m = 7 := by simp [errC, arT, arS, binder, hs, hu]
              rw [← hn, ← hm, e]
              simp -implicitDefEqProofs [hfr, s0, get_base0, wants_eq, arT, arS, binder, ← hn, ← hm, hs, hu]
          · skip
            have e : errC 1 s u n m = 7 := by simp [errC, arT, arS, binder, hs]
            rw [← hn, ← hm, e]
            simp -implicitDefEqProofs [hfr, s0, get_base0, wants_eq, arT, arS, binder, ← hn, ← hm, hs]
        · rcases Bool.eq_false_or_eq_true (bytesEq s ⟨#[]⟩) with hs | hs
          · rcases Bool.eq_false_or_eq_true (bytesEq u ⟨#[]⟩) with hu | hu
            · skip
              by_cases n1 : n = 0
              · skip
                by_cases m1 : m = 0
                · skip
                  have e : errC 2 s u n m = 0 := by simp [errC, arT, arS, binder, hs, hu, n1, m1]
                  rw [← hn, ← hm, e]
                  simp -implicitDefEqProofs [hfr, s0, get_base0, wants_eq, arT, arS, binder, ← hn, ← hm, hs, hu, n1, m1]
                  apply lp0
                  · simp [hfr]
                  · simp [hfr]
                  · simp [hfr]
                  · intro z fr' hf p1
                    simp -implicitDefEqProofs [hf, p1, z]
                    apply lp1
                    · simp [hf]
                    · simp [hf, p1]
                    · simp [hf]
                    · intro z2 fr'' hf2 p2
                      simp -implicitDefEqProofs [hf2, z2]
                    · intro z2 fr'' hf2 p2
                      simp -implicitDefEqProofs [hf2, p2]
                  · intro z fr' hf p2
                    simp -implicitDefEqProofs [hf, p2, z]
                · have mb : (m != 0) = true := by simpa using m1
                  have e : errC 2 s u n m = 12 := by simp [errC, arT, arS, binder, hs, hu, n1, m1, mb]
                  rw [← hn, ← hm, e]
                  simp -implicitDefEqProofs [hfr, s0, get_base0, wants_eq, arT, arS, binder, ← hn, ← hm, hs, hu, n1, m1, mb]
              · have nb : (n != 0) = true := by simpa using n1
                have e : errC 2 s u n m = 12 := by simp [errC, arT, arS, binder, hs, hu, n1, nb]
                rw [← hn, ← hm, e]
                simp -implicitDefEqProofs [hfr, s0, get_base0, wants_eq, arT, arS, binder, ← hn, ← hm, hs, hu, n1, nb]
            · skip
              have e : errC 2 s u n m = 7 := by simp [errC, arT, arS, binder, hs, hu]
              rw [← hn, ← hm, e]
              simp -implicitDefEqProofs [hfr, s0, get_base0, wants_eq, arT, arS, binder, ← hn, ← hm, hs, hu]
          · skip
            have e : errC 2 s u n m = 7 := by simp [errC, arT, arS, binder, hs]
            rw [← hn, ← hm, e]
            simp -implicitDefEqProofs [hfr, s0, get_base0, wants_eq, arT, arS, binder, ← hn, ← hm, hs]
        · rcases Bool.eq_false_or_eq_true (bytesEq s ⟨#[]⟩) with hs | hs
          · rcases Bool.eq_false_or_eq_true (bytesEq u ⟨#[]⟩) with hu | hu
            · skip
              by_cases n1 : 8 < n
              · skip
                have e : errC 3 s u n m = 12 := by simp [errC, arT, arS, binder, hs, hu, n1]
                rw [← hn, ← hm, e]
                simp -implicitDefEqProofs [hfr, s0, get_base0, wants_eq, arT, arS, binder, ← hn, ← hm, hs, hu, n1]
              · skip
                by_cases m1 : m = 0
                · skip
                  have e : errC 3 s u n m = 0 := by simp [errC, arT, arS, binder, hs, hu, n1, m1]
                  rw [← hn, ← hm, e]
                  simp -implicitDefEqProofs [hfr, s0, get_base0, wants_eq, arT, arS, binder, ← hn, ← hm, hs, hu, n1, m1]
                  apply lp0
                  · simp [hfr]
                  · simp [hfr]
                  · simp [hfr]
                  · intro z fr' hf p1
                    simp -implicitDefEqProofs [hf, p1, z]
                    apply lp1
                    · simp [hf]
                    · simp [hf, p1]
                    · simp [hf]
                    · intro z2 fr'' hf2 p2
                      simp -implicitDefEqProofs [hf2, z2]
                    · intro z2 fr'' hf2 p2
                      simp -implicitDefEqProofs [hf2, p2]
                  · intro z fr' hf p2
                    simp -implicitDefEqProofs [hf, p2, z]
                · have mb : (m != 0) = true := by simpa using m1
                  have e : errC 3 s u n m = 12 := by simp [errC, arT, arS, binder, hs, hu, n1, m1, mb]
                  rw [← hn, ← hm, e]
                  simp -implicitDefEqProofs [hfr, s0, get_base0, wants_eq, arT, arS, binder, ← hn, ← hm, hs, hu, n1, m1, mb]
            · skip
              have e : errC 3 s u n m = 7 := by simp [errC, arT, arS, binder, hs, hu]
              rw [← hn, ← hm, e]
              simp -implicitDefEqProofs [hfr, s0, get_base0, wants_eq, arT, arS, binder, ← hn, ← hm, hs, hu]
          · rcases Bool.eq_false_or_eq_true (bytesEq u ⟨#[]⟩) with hu | hu
            · skip
              by_cases n1 : 8 < n
              · skip
                have e : errC 3 s u n m = 12 := by simp [errC, arT, arS, binder, hs, hu, n1]
                rw [← hn, ← hm, e]
                simp -implicitDefEqProofs [hfr, s0, get_base0, wants_eq, arT, arS, binder, ← hn, ← hm, hs, hu, n1]
              · skip
                by_cases m1 : m = 0
                · skip
                  have e : errC 3 s u n m = 0 := by simp [errC, arT, arS, binder, hs, hu, n1, m1]
                  rw [← hn, ← hm, e]
                  simp -implicitDefEqProofs [hfr, s0, get_base0, wants_eq, arT, arS, binder, ← hn, ← hm, hs, hu, n1, m1]
                  apply lp0
                  · simp [hfr]
                  · simp [hfr]
                  · simp [hfr]
                  · intro z fr' hf p1
                    simp -implicitDefEqProofs [hf, p1, z]
                    apply lp1
                    · simp [hf]
                    · simp [hf, p1]
                    · simp [hf]
                    · intro z2 fr'' hf2 p2
                      simp -implicitDefEqProofs [hf2, z2]
                    · intro z2 fr'' hf2 p2
                      simp -implicitDefEqProofs [hf2, p2]
                  · intro z fr' hf p2
                    simp -implicitDefEqProofs [hf, p2, z]
                · have mb : (m != 0) = true := by simpa using m1
                  have e : errC 3 s u n m = 12 := by simp [errC, arT, arS, binder, hs, hu, n1, m1, mb]
                  rw [← hn, ← hm, e]
                  simp -implicitDefEqProofs [hfr, s0, get_base0, wants_eq, arT, arS, binder, ← hn, ← hm, hs, hu, n1, m1, mb]
            · skip
              have e : errC 3 s u n m = 7 := by simp [errC, arT, arS, binder, hs, hu]
              rw [← hn, ← hm, e]
              simp -implicitDefEqProofs [hfr, s0, get_base0, wants_eq, arT, arS, binder, ← hn, ← hm, hs, hu]
        · rcases Bool.eq_false_or_eq_true (bytesEq s ⟨#[]⟩) with hs | hs
          · rcases Bool.eq_false_or_eq_true (bytesEq u ⟨#[]⟩) with hu | hu
            · skip
              by_cases n1 : n = 2
              · skip
                by_cases m1 : m = 0
                · skip
                  have e : errC 4 s u n m = 0 := by simp [errC, arT, arS, binder, hs, hu, n1, m1]
                  rw [← hn, ← hm, e]
                  simp -implicitDefEqProofs [hfr, s0, get_base0, wants_eq, arT, arS, binder, ← hn, ← hm, hs, hu, n1, m1]
                  apply lp0
                  · simp [hfr]
                  · simp [hfr]
                  · simp [hfr]
                  · intro z fr' hf p1
                    simp -implicitDefEqProofs [hf, p1, z]
                    apply lp1
                    · simp [hf]
                    · simp [hf, p1]
                    · simp [hf]
                    · intro z2 fr'' hf2 p2
                      simp -implicitDefEqProofs [hf2, z2]
                    · intro z2 fr'' hf2 p2
                      simp -implicitDefEqProofs [hf2, p2]
                  · intro z fr' hf p2
                    simp -implicitDefEqProofs [hf, p2, z]
                · have mb : (m != 0) = true := by simpa using m1
                  have e : errC 4 s u n m = 12 := by simp [errC, arT, arS, binder, hs, hu, n1, m1, mb]
                  rw [← hn, ← hm, e]
                  simp -implicitDefEqProofs [hfr, s0, get_base0, wants_eq, arT, arS, binder, ← hn, ← hm, hs, hu, n1, m1, mb]
              · have nb : (n != 2) = true := by simpa using n1
                have e : errC 4 s u n m = 12 := by simp [errC, arT, arS, binder, hs, hu, n1, nb]
                rw [← hn, ← hm, e]
                simp -implicitDefEqProofs [hfr, s0, get_base0, wants_eq, arT, arS, binder, ← hn, ← hm, hs, hu, n1, nb]
            · skip
              have e : errC 4 s u n m = 7 := by simp [errC, arT, arS, binder, hs, hu]
              rw [← hn, ← hm, e]
              simp -implicitDefEqProofs [hfr, s0, get_base0, wants_eq, arT, arS, binder, ← hn, ← hm, hs, hu]
          · skip
            have e : errC 4 s u n m = 7 := by simp [errC, arT, arS, binder, hs]
            rw [← hn, ← hm, e]
            simp -implicitDefEqProofs [hfr, s0, get_base0, wants_eq, arT, arS, binder, ← hn, ← hm, hs]
        · rcases Bool.eq_false_or_eq_true (bytesEq s ⟨#[]⟩) with hs | hs
          · rcases Bool.eq_false_or_eq_true (bytesEq u ⟨#[]⟩) with hu | hu
            · skip
              by_cases n1 : n = 2
              · skip
                by_cases m1 : m = 0
                · skip
                  have e : errC 5 s u n m = 0 := by simp [errC, arT, arS, binder, hs, hu, n1, m1]
                  rw [← hn, ← hm, e]
                  simp -implicitDefEqProofs [hfr, s0, get_base0, wants_eq, arT, arS, binder, ← hn, ← hm, hs, hu, n1, m1]
                  apply lp0
                  · simp [hfr]
                  · simp [hfr]
                  · simp [hfr]
                  · intro z fr' hf p1
                    simp -implicitDefEqProofs [hf, p1, z]
                    apply lp1
                    · simp [hf]
                    · simp [hf, p1]
                    · simp [hf]
                    · intro z2 fr'' hf2 p2
                      simp -implicitDefEqProofs [hf2, z2]
                    · intro z2 fr'' hf2 p2
                      simp -implicitDefEqProofs [hf2, p2]
                  · intro z fr' hf p2
                    simp -implicitDefEqProofs [hf, p2, z]
                · have mb : (m != 0) = true := by simpa using m1
                  have e : errC 5 s u n m = 12 := by simp [errC, arT, arS, binder, hs, hu, n1, m1, mb]
                  rw [← hn, ← hm, e]
                  simp -implicitDefEqProofs [hfr, s0, get_base0, wants_eq, arT, arS, binder, ← hn, ← hm, hs, hu, n1, m1, mb]
              · have nb : (n != 2) = true := by simpa using n1
                have e : errC 5 s u n m = 12 := by simp [errC, arT, arS, binder, hs, hu, n1, nb]
                rw [← hn, ← hm, e]
                simp -implicitDefEqProofs [hfr, s0, get_base0, wants_eq, arT, arS, binder, ← hn, ← hm, hs, hu, n1, nb]
            · skip
              have e : errC 5 s u n m = 7 := by simp [errC, arT, arS, binder, hs, hu]
              rw [← hn, ← hm, e]
              simp -implicitDefEqProofs [hfr, s0, get_base0, wants_eq, arT, arS, binder, ← hn, ← hm, hs, hu]
          · skip
            have e : errC 5 s u n m = 7 := by simp [errC, arT, arS, binder, hs]
            rw [← hn, ← hm, e]
            simp -implicitDefEqProofs [hfr, s0, get_base0, wants_eq, arT, arS, binder, ← hn, ← hm, hs]
        · rcases Bool.eq_false_or_eq_true (bytesEq s ⟨#[]⟩) with hs | hs
          · rcases Bool.eq_false_or_eq_true (bytesEq u ⟨#[]⟩) with hu | hu
            · skip
              by_cases n1 : n = 0
              · skip
                by_cases m1 : m = 1
                · skip
                  have e : errC 6 s u n m = 0 := by simp [errC, arT, arS, binder, hs, hu, n1, m1]
                  rw [← hn, ← hm, e]
                  simp -implicitDefEqProofs [hfr, s0, get_base0, wants_eq, arT, arS, binder, ← hn, ← hm, hs, hu, n1, m1]
                  apply lp0
                  · simp [hfr]
                  · simp [hfr]
                  · simp [hfr]
                  · intro z fr' hf p1
                    simp -implicitDefEqProofs [hf, p1, z]
                    apply lp1
                    · simp [hf]
                    · simp [hf, p1]
                    · simp [hf]
                    · intro z2 fr'' hf2 p2
                      simp -implicitDefEqProofs [hf2, z2]
                    · intro z2 fr'' hf2 p2
                      simp -implicitDefEqProofs [hf2, p2]
                  · intro z fr' hf p2
                    simp -implicitDefEqProofs [hf, p2, z]
                · have mb : (m != 1) = true := by simpa using m1
                  have e : errC 6 s u n m = 12 := by simp [errC, arT, arS, binder, hs, hu, n1, m1, mb]
                  rw [← hn, ← hm, e]
                  simp -implicitDefEqProofs [hfr, s0, get_base0, wants_eq, arT, arS, binder, ← hn, ← hm, hs, hu, n1, m1, mb]
              · have nb : (n != 0) = true := by simpa using n1
                have e : errC 6 s u n m = 12 := by simp [errC, arT, arS, binder, hs, hu, n1, nb]
                rw [← hn, ← hm, e]
                simp -implicitDefEqProofs [hfr, s0, get_base0, wants_eq, arT, arS, binder, ← hn, ← hm, hs, hu, n1, nb]
            · skip
              have e : errC 6 s u n m = 7 := by simp [errC, arT, arS, binder, hs, hu]
              rw [← hn, ← hm, e]
              simp -implicitDefEqProofs [hfr, s0, get_base0, wants_eq, arT, arS, binder, ← hn, ← hm, hs, hu]
          · skip
            have e : errC 6 s u n m = 7 := by simp [errC, arT, arS, binder, hs]
            rw [← hn, ← hm, e]
            simp -implicitDefEqProofs [hfr, s0, get_base0, wants_eq, arT, arS, binder, ← hn, ← hm, hs]
        · rcases Bool.eq_false_or_eq_true (bytesEq s ⟨#[]⟩) with hs | hs
          · rcases Bool.eq_false_or_eq_true (bytesEq u ⟨#[]⟩) with hu | hu
            · skip
              by_cases n1 : n = 0
              · skip
                by_cases m1 : m = 2
                · skip
                  have e : errC 7 s u n m = 0 := by simp [errC, arT, arS, binder, hs, hu, n1, m1]
                  rw [← hn, ← hm, e]
                  simp -implicitDefEqProofs [hfr, s0, get_base0, wants_eq, arT, arS, binder, ← hn, ← hm, hs, hu, n1, m1]
                  apply lp0
                  · simp [hfr]
                  · simp [hfr]
                  · simp [hfr]
                  · intro z fr' hf p1
                    simp -implicitDefEqProofs [hf, p1, z]
                    apply lp1
                    · simp [hf]
                    · simp [hf, p1]
                    · simp [hf]
                    · intro z2 fr'' hf2 p2
                      simp -implicitDefEqProofs [hf2, z2]
                    · intro z2 fr'' hf2 p2
                      simp -implicitDefEqProofs [hf2, p2]
                  · intro z fr' hf p2
                    simp -implicitDefEqProofs [hf, p2, z]
                · have mb : (m != 2) = true := by simpa using m1
                  have e : errC 7 s u n m = 12 := by simp [errC, arT, arS, binder, hs, hu, n1, m1, mb]
                  rw [← hn, ← hm, e]
                  simp -implicitDefEqProofs [hfr, s0, get_base0, wants_eq, arT, arS, binder, ← hn, ← hm, hs, hu, n1, m1, mb]
              · have nb : (n != 0) = true := by simpa using n1
                have e : errC 7 s u n m = 12 := by simp [errC, arT, arS, binder, hs, hu, n1, nb]
                rw [← hn, ← hm, e]
                simp -implicitDefEqProofs [hfr, s0, get_base0, wants_eq, arT, arS, binder, ← hn, ← hm, hs, hu, n1, nb]
            · skip
              have e : errC 7 s u n m = 7 := by simp [errC, arT, arS, binder, hs, hu]
              rw [← hn, ← hm, e]
              simp -implicitDefEqProofs [hfr, s0, get_base0, wants_eq, arT, arS, binder, ← hn, ← hm, hs, hu]
          · skip
            have e : errC 7 s u n m = 7 := by simp [errC, arT, arS, binder, hs]
            rw [← hn, ← hm, e]
            simp -implicitDefEqProofs [hfr, s0, get_base0, wants_eq, arT, arS, binder, ← hn, ← hm, hs]
        · rcases Bool.eq_false_or_eq_true (bytesEq s ⟨#[]⟩) with hs | hs
          · rcases Bool.eq_false_or_eq_true (bytesEq u ⟨#[]⟩) with hu | hu
            · skip
              by_cases n1 : n = 0
              · skip
                by_cases m1 : m = 2
                · skip
                  have e : errC 8 s u n m = 0 := by simp [errC, arT, arS, binder, hs, hu, n1, m1]
                  rw [← hn, ← hm, e]
                  simp -implicitDefEqProofs [hfr, s0, get_base0, wants_eq, arT, arS, binder, ← hn, ← hm, hs, hu, n1, m1]
                  apply lp0
                  · simp [hfr]
                  · simp [hfr]
                  · simp [hfr]
                  · intro z fr' hf p1
                    simp -implicitDefEqProofs [hf, p1, z]
                    apply lp1
                    · simp [hf]
                    · simp [hf, p1]
                    · simp [hf]
                    · intro z2 fr'' hf2 p2
                      simp -implicitDefEqProofs [hf2, z2]
                    · intro z2 fr'' hf2 p2
                      simp -implicitDefEqProofs [hf2, p2]
                  · intro z fr' hf p2
                    simp -implicitDefEqProofs [hf, p2, z]
                · have mb : (m != 2) = true := by simpa using m1
                  have e : errC 8 s u n m = 12 := by simp [errC, arT, arS, binder, hs, hu, n1, m1, mb]
                  rw [← hn, ← hm, e]
                  simp -implicitDefEqProofs [hfr, s0, get_base0, wants_eq, arT, arS, binder, ← hn, ← hm, hs, hu, n1, m1, mb]
              · have nb : (n != 0) = true := by simpa using n1
                have e : errC 8 s u n m = 12 := by simp [errC, arT, arS, binder, hs, hu, n1, nb]
                rw [← hn, ← hm, e]
                simp -implicitDefEqProofs [hfr, s0, get_base0, wants_eq, arT, arS, binder, ← hn, ← hm, hs, hu, n1, nb]
            · skip
              have e : errC 8 s u n m = 7 := by simp [errC, arT, arS, binder, hs, hu]
              rw [← hn, ← hm, e]
              simp -implicitDefEqProofs [hfr, s0, get_base0, wants_eq, arT, arS, binder, ← hn, ← hm, hs, hu]
          · skip
            have e : errC 8 s u n m = 7 := by simp [errC, arT, arS, binder, hs]
            rw [← hn, ← hm, e]
            simp -implicitDefEqProofs [hfr, s0, get_base0, wants_eq, arT, arS, binder, ← hn, ← hm, hs]
        · rcases Bool.eq_false_or_eq_true (bytesEq s ⟨#[]⟩) with hs | hs
          · rcases Bool.eq_false_or_eq_true (bytesEq u ⟨#[]⟩) with hu | hu
            · skip
              by_cases n1 : n = 0
              · skip
                by_cases m1 : m = 2
                · skip
                  have e : errC 9 s u n m = 0 := by simp [errC, arT, arS, binder, hs, hu, n1, m1]
                  rw [← hn, ← hm, e]
                  simp -implicitDefEqProofs [hfr, s0, get_base0, wants_eq, arT, arS, binder, ← hn, ← hm, hs, hu, n1, m1]
                  apply lp0
                  · simp [hfr]
                  · simp [hfr]
                  · simp [hfr]
                  · intro z fr' hf p1
                    simp -implicitDefEqProofs [hf, p1, z]
                    apply lp1
                    · simp [hf]
                    · simp [hf, p1]
                    · simp [hf]
                    · intro z2 fr'' hf2 p2
                      simp -implicitDefEqProofs [hf2, z2]
                    · intro z2 fr'' hf2 p2
                      simp -implicitDefEqProofs [hf2, p2]
                  · intro z fr' hf p2
                    simp -implicitDefEqProofs [hf, p2, z]
                · have mb : (m != 2) = true := by simpa using m1
                  have e : errC 9 s u n m = 12 := by simp [errC, arT, arS, binder, hs, hu, n1, m1, mb]
                  rw [← hn, ← hm, e]
                  simp -implicitDefEqProofs [hfr, s0, get_base0, wants_eq, arT, arS, binder, ← hn, ← hm, hs, hu, n1, m1, mb]
              · have nb : (n != 0) = true := by simpa using n1
                have e : errC 9 s u n m = 12 := by simp [errC, arT, arS, binder, hs, hu, n1, nb]
                rw [← hn, ← hm, e]
                simp -implicitDefEqProofs [hfr, s0, get_base0, wants_eq, arT, arS, binder, ← hn, ← hm, hs, hu, n1, nb]
            · skip
              have e : errC 9 s u n m = 7 := by simp [errC, arT, arS, binder, hs, hu]
              rw [← hn, ← hm, e]
              simp -implicitDefEqProofs [hfr, s0, get_base0, wants_eq, arT, arS, binder, ← hn, ← hm, hs, hu]
          · skip
            have e : errC 9 s u n m = 7 := by simp [errC, arT, arS, binder, hs]
            rw [← hn, ← hm, e]
            simp -implicitDefEqProofs [hfr, s0, get_base0, wants_eq, arT, arS, binder, ← hn, ← hm, hs]
        · rcases Bool.eq_false_or_eq_true (bytesEq s ⟨#[]⟩) with hs | hs
          · rcases Bool.eq_false_or_eq_true (bytesEq u ⟨#[]⟩) with hu | hu
            · skip
              by_cases n1 : n = 0
              · skip
                by_cases m1 : m = 2
                · skip
                  have e : errC 10 s u n m = 0 := by simp [errC, arT, arS, binder, hs, hu, n1, m1]
                  rw [← hn, ← hm, e]
                  simp -implicitDefEqProofs [hfr, s0, get_base0, wants_eq, arT, arS, binder, ← hn, ← hm, hs, hu, n1, m1]
                  apply lp0
                  · simp [hfr]
                  · simp [hfr]
                  · simp [hfr]
                  · intro z fr' hf p1
                    simp -implicitDefEqProofs [hf, p1, z]
                    apply lp1
                    · simp [hf]
                    · simp [hf, p1]
                    · simp [hf]
                    · intro z2 fr'' hf2 p2
                      simp -implicitDefEqProofs [hf2, z2]
                    · intro z2 fr'' hf2 p2
                      simp -implicitDefEqProofs [hf2, p2]
                  · intro z fr' hf p2
                    simp -implicitDefEqProofs [hf, p2, z]
                · have mb : (m != 2) = true := by simpa using m1
                  have e : errC 10 s u n m = 12 := by simp [errC, arT, arS, binder, hs, hu, n1, m1, mb]
                  rw [← hn, ← hm, e]
                  simp -implicitDefEqProofs [hfr, s0, get_base0, wants_eq, arT, arS, binder, ← hn, ← hm, hs, hu, n1, m1, mb]
              · have nb : (n != 0) = true := by simpa using n1
                have e : errC 10 s u n m = 12 := by simp [errC, arT, arS, binder, hs, hu, n1, nb]
                rw [← hn, ← hm, e]
                simp -implicitDefEqProofs [hfr, s0, get_base0, wants_eq, arT, arS, binder, ← hn, ← hm, hs, hu, n1, nb]
            · skip
              have e : errC 10 s u n m = 7 := by simp [errC, arT, arS, binder, hs, hu]
              rw [← hn, ← hm, e]
              simp -implicitDefEqProofs [hfr, s0, get_base0, wants_eq, arT, arS, binder, ← hn, ← hm, hs, hu]
          · skip
            have e : errC 10 s u n m = 7 := by simp [errC, arT, arS, binder, hs]
            rw [← hn, ← hm, e]
            simp -implicitDefEqProofs [hfr, s0, get_base0, wants_eq, arT, arS, binder, ← hn, ← hm, hs]
        · rcases Bool.eq_false_or_eq_true (bytesEq s ⟨#[]⟩) with hs | hs
          · rcases Bool.eq_false_or_eq_true (bytesEq u ⟨#[]⟩) with hu | hu
            · skip
              by_cases n1 : n = 0
              · skip
                by_cases m1 : m = 1
                · skip
                  have e : errC 11 s u n m = 0 := by simp [errC, arT, arS, binder, hs, hu, n1, m1]
                  rw [← hn, ← hm, e]
                  simp -implicitDefEqProofs [hfr, s0, get_base0, wants_eq, arT, arS, binder, ← hn, ← hm, hs, hu, n1, m1]
                  apply lp0
                  · simp [hfr]
                  · simp [hfr]
                  · simp [hfr]
                  · intro z fr' hf p1
                    simp -implicitDefEqProofs [hf, p1, z]
                    apply lp1
                    · simp [hf]
                    · simp [hf, p1]
                    · simp [hf]
                    · intro z2 fr'' hf2 p2
                      simp -implicitDefEqProofs [hf2, z2]
                    · intro z2 fr'' hf2 p2
                      simp -implicitDefEqProofs [hf2, p2]
                  · intro z fr' hf p2
                    simp -implicitDefEqProofs [hf, p2, z]
                · have mb : (m != 1) = true := by simpa using m1
                  have e : errC 11 s u n m = 12 := by simp [errC, arT, arS, binder, hs, hu, n1, m1, mb]
                  rw [← hn, ← hm, e]
                  simp -implicitDefEqProofs [hfr, s0, get_base0, wants_eq, arT, arS, binder, ← hn, ← hm, hs, hu, n1, m1, mb]
              · have nb : (n != 0) = true := by simpa using n1
                have e : errC 11 s u n m = 12 := by simp [errC, arT, arS, binder, hs, hu, n1, nb]
                rw [← hn, ← hm, e]
                simp -implicitDefEqProofs [hfr, s0, get_base0, wants_eq, arT, arS, binder, ← hn, ← hm, hs, hu, n1, nb]
            · skip
              by_cases n1 : n = 0
              · skip
                by_cases m1 : m = 1
                · skip
                  have e : errC 11 s u n m = 0 := by simp [errC, arT, arS, binder, hs, hu, n1, m1]
                  rw [← hn, ← hm, e]
                  simp -implicitDefEqProofs [hfr, s0, get_base0, wants_eq, arT, arS, binder, ← hn, ← hm, hs, hu, n1, m1]
                  apply lp0
                  · simp [hfr]
                  · simp [hfr]
                  · simp [hfr]
                  · intro z fr' hf p1
                    simp -implicitDefEqProofs [hf, p1, z]
                    apply lp1
                    · simp [hf]
                    · simp [hf, p1]
                    · simp [hf]
                    · intro z2 fr'' hf2 p2
                      simp -implicitDefEqProofs [hf2, z2]
                    · intro z2 fr'' hf2 p2
                      simp -implicitDefEqProofs [hf2, p2]
                  · intro z fr' hf p2
                    simp -implicitDefEqProofs [hf, p2, z]
                · have mb : (m != 1) = true := by simpa using m1
                  have e : errC 11 s u n m = 12 := by simp [errC, arT, arS, binder, hs, hu, n1, m1, mb]
                  rw [← hn, ← hm, e]
                  simp -implicitDefEqProofs [hfr, s0, get_base0, wants_eq, arT, arS, binder, ← hn, ← hm, hs, hu, n1, m1, mb]
              · have nb : (n != 0) = true := by simpa using n1
                have e : errC 11 s u n m = 12 := by simp [errC, arT, arS, binder, hs, hu, n1, nb]
                rw [← hn, ← hm, e]
                simp -implicitDefEqProofs [hfr, s0, get_base0, wants_eq, arT, arS, binder, ← hn, ← hm, hs, hu, n1, nb]
          · rcases Bool.eq_false_or_eq_true (bytesEq u ⟨#[]⟩) with hu | hu
            · skip
              by_cases n1 : n = 0
              · skip
                by_cases m1 : m = 1
                · skip
                  have e : errC 11 s u n m = 0 := by simp [errC, arT, arS, binder, hs, hu, n1, m1]
                  rw [← hn, ← hm, e]
                  simp -implicitDefEqProofs [hfr, s0, get_base0, wants_eq, arT, arS, binder, ← hn, ← hm, hs, hu, n1, m1]
                  apply lp0
                  · simp [hfr]
                  · simp [hfr]
                  · simp [hfr]
                  · intro z fr' hf p1
                    simp -implicitDefEqProofs [hf, p1, z]
                    apply lp1
                    · simp [hf]
                    · simp [hf, p1]
                    · simp [hf]
                    · intro z2 fr'' hf2 p2
                      simp -implicitDefEqProofs [hf2, z2]
                    · intro z2 fr'' hf2 p2
                      simp -implicitDefEqProofs [hf2, p2]
                  · intro z fr' hf p2
                    simp -implicitDefEqProofs [hf, p2, z]
                · have mb : (m != 1) = true := by simpa using m1
                  have e : errC 11 s u n m = 12 := by simp [errC, arT, arS, binder, hs, hu, n1, m1, mb]
                  rw [← hn, ← hm, e]
                  simp -implicitDefEqProofs [hfr, s0, get_base0, wants_eq, arT, arS, binder, ← hn, ← hm, hs, hu, n1, m1, mb]
              · have nb : (n != 0) = true := by simpa using n1
                have e : errC 11 s u n m = 12 := by simp [errC, arT, arS, binder, hs, hu, n1, nb]
                rw [← hn, ← hm, e]
                simp -implicitDefEqProofs [hfr, s0, get_base0, wants_eq, arT, arS, binder, ← hn, ← hm, hs, hu, n1, nb]
            · skip
              by_cases n1 : n = 0
              · skip
                by_cases m1 : m = 1
                · skip
                  have e : errC 11 s u n m = 0 := by simp [errC, arT, arS, binder, hs, hu, n1, m1]
                  rw [← hn, ← hm, e]
                  simp -implicitDefEqProofs [hfr, s0, get_base0, wants_eq, arT, arS, binder, ← hn, ← hm, hs, hu, n1, m1]
                  apply lp0
                  · simp [hfr]
                  · simp [hfr]
                  · simp [hfr]
                  · intro z fr' hf p1
                    simp -implicitDefEqProofs [hf, p1, z]
                    apply lp1
                    · simp [hf]
                    · simp [hf, p1]
                    · simp [hf]
                    · intro z2 fr'' hf2 p2
                      simp -implicitDefEqProofs [hf2, z2]
                    · intro z2 fr'' hf2 p2
                      simp -implicitDefEqProofs [hf2, p2]
                  · intro z fr' hf p2
                    simp -implicitDefEqProofs [hf, p2, z]
                · have mb : (m != 1) = true := by simpa using m1
                  have e : errC 11 s u n m = 12 := by simp [errC, arT, arS, binder, hs, hu, n1, m1, mb]
                  rw [← hn, ← hm, e]
                  simp -implicitDefEqProofs [hfr, s0, get_base0, wants_eq, arT, arS, binder, ← hn, ← hm, hs, hu, n1, m1, mb]
              · have nb : (n != 0) = true := by simpa using n1
                have e : errC 11 s u n m = 12 := by simp [errC, arT, arS, binder, hs, hu, n1, nb]
                rw [← hn, ← hm, e]
                simp -implicitDefEqProofs [hfr, s0, get_base0, wants_eq, arT, arS, binder, ← hn, ← hm, hs, hu, n1, nb]
        · rcases Bool.eq_false_or_eq_true (bytesEq s ⟨#[]⟩) with hs | hs
          · rcases Bool.eq_false_or_eq_true (bytesEq u ⟨#[]⟩) with hu | hu
            · skip
              by_cases n1 : n = 0
              · skip
                by_cases m1 : m = 1
                · skip
                  have e : errC 12 s u n m = 0 := by simp [errC, arT, arS, binder, hs, hu, n1, m1]
                  rw [← hn, ← hm, e]
                  simp -implicitDefEqProofs [hfr, s0, get_base0, wants_eq, arT, arS, binder, ← hn, ← hm, hs, hu, n1, m1]
                  apply lp0
                  · simp [hfr]
                  · simp [hfr]
                  · simp [hfr]
                  · intro z fr' hf p1
                    simp -implicitDefEqProofs [hf, p1, z]
                    apply lp1
                    · simp [hf]
                    · simp [hf, p1]
                    · simp [hf]
                    · intro z2 fr'' hf2 p2
                      simp -implicitDefEqProofs [hf2, z2]
                    · intro z2 fr'' hf2 p2
                      simp -implicitDefEqProofs [hf2, p2]
                  · intro z fr' hf p2
                    simp -implicitDefEqProofs [hf, p2, z]
                · have mb : (m != 1) = true := by simpa using m1
                  have e : errC 12 s u n m = 12 := by simp [errC, arT, arS, binder, hs, hu, n1, m1, mb]
                  rw [← hn, ← hm, e]
                  simp -implicitDefEqProofs [hfr, s0, get_base0, wants_eq, arT, arS, binder, ← hn, ← hm, hs, hu, n1, m1, mb]
              · have nb : (n != 0) = true := by simpa using n1
                have e : errC 12 s u n m = 12 := by simp [errC, arT, arS, binder, hs, hu, n1, nb]
                rw [← hn, ← hm, e]
                simp -implicitDefEqProofs [hfr, s0, get_base0, wants_eq, arT, arS, binder, ← hn, ← hm, hs, hu, n1, nb]
            · skip
              by_cases n1 : n = 0
              · skip
                by_cases m1 : m = 1
                · skip
                  have e : errC 12 s u n m = 0 := by simp [errC, arT, arS, binder, hs, hu, n1, m1]
                  rw [← hn, ← hm, e]
                  simp -implicitDefEqProofs [hfr, s0, get_base0, wants_eq, arT, arS, binder, ← hn, ← hm, hs, hu, n1, m1]
                  apply lp0
                  · simp [hfr]
                  · simp [hfr]
                  · simp [hfr]
                  · intro z fr' hf p1
                    simp -implicitDefEqProofs [hf, p1, z]
                    apply lp1
                    · simp [hf]
                    · simp [hf, p1]
                    · simp [hf]
                    · intro z2 fr'' hf2 p2
                      simp -implicitDefEqProofs [hf2, z2]
                    · intro z2 fr'' hf2 p2
                      simp -implicitDefEqProofs [hf2, p2]
                  · intro z fr' hf p2
                    simp -implicitDefEqProofs [hf, p2, z]
                · have mb : (m != 1) = true := by simpa using m1
                  have e : errC 12 s u n m = 12 := by simp [errC, arT, arS, binder, hs, hu, n1, m1, mb]
                  rw [← hn, ← hm, e]
                  simp -implicitDefEqProofs [hfr, s0, get_base0, wants_eq, arT, arS, binder, ← hn, ← hm, hs, hu, n1, m1, mb]
              · have nb : (n != 0) = true := by simpa using n1
                have e : errC 12 s u n m = 12 := by simp [errC, arT, arS, binder, hs, hu, n1, nb]
                rw [← hn, ← hm, e]
                simp -implicitDefEqProofs [hfr, s0, get_base0, wants_eq, arT, arS, binder, ← hn, ← hm, hs, hu, n1, nb]
          · rcases Bool.eq_false_or_eq_true (bytesEq u ⟨#[]⟩) with hu | hu
            · skip
              by_cases n1 : n = 0
              · skip
                by_cases m1 : m = 1
                · skip
                  have e : errC 12 s u n m = 0 := by simp [errC, arT, arS, binder, hs, hu, n1, m1]
                  rw [← hn, ← hm, e]
                  simp -implicitDefEqProofs [hfr, s0, get_base0, wants_eq, arT, arS, binder, ← hn, ← hm, hs, hu, n1, m1]
                  apply lp0
                  · simp [hfr]
                  · simp [hfr]
                  · simp [hfr]
                  · intro z fr' hf p1
                    simp -implicitDefEqProofs [hf, p1, z]
                    apply lp1
                    · simp [hf]
                    · simp [hf, p1]
                    · simp [hf]
                    · intro z2 fr'' hf2 p2
                      simp -implicitDefEqProofs [hf2, z2]
                    · intro z2 fr'' hf2 p2
                      simp -implicitDefEqProofs [hf2, p2]
                  · intro z fr' hf p2
                    simp -implicitDefEqProofs [hf, p2, z]
                · have mb : (m != 1) = true := by simpa using m1
                  have e : errC 12 s u n m = 12 := by simp [errC, arT, arS, binder, hs, hu, n1, m1, mb]
                  rw [← hn, ← hm, e]
                  simp -implicitDefEqProofs [hfr, s0, get_base0, wants_eq, arT, arS, binder, ← hn, ← hm, hs, hu, n1, m1, mb]
              · have nb : (n != 0) = true := by simpa using n1
                have e : errC 12 s u n m = 12 := by simp [errC, arT, arS, binder, hs, hu, n1, nb]
                rw [← hn, ← hm, e]
                simp -implicitDefEqProofs [hfr, s0, get_base0, wants_eq, arT, arS, binder, ← hn, ← hm, hs, hu, n1, nb]
            · skip
              by_cases n1 : n = 0
              · skip
                by_cases m1 : m = 1
                · skip
                  have e : errC 12 s u n m = 0 := by simp [errC, arT, arS, binder, hs, hu, n1, m1]
                  rw [← hn, ← hm, e]
                  simp -implicitDefEqProofs [hfr, s0, get_base0, wants_eq, arT, arS, binder, ← hn, ← hm, hs, hu, n1, m1]
                  apply lp0
                  · simp [hfr]
                  · simp [hfr]
                  · simp [hfr]
                  · intro z fr' hf p1
                    simp -implicitDefEqProofs [hf, p1, z]
                    apply lp1
                    · simp [hf]
                    · simp [hf, p1]
                    · simp [hf]
                    · intro z2 fr'' hf2 p2
                      simp -implicitDefEqProofs [hf2, z2]
                    · intro z2 fr'' hf2 p2
                      simp -implicitDefEqProofs [hf2, p2]
                  · intro z fr' hf p2
                    simp -implicitDefEqProofs [hf, p2, z]
                · have mb : (m != 1) = true := by simpa using m1
                  have e : errC 12 s u n m = 12 := by simp [errC, arT, arS, binder, hs, hu, n1, m1, mb]
                  rw [← hn, ← hm, e]
                  simp -implicitDefEqProofs [hfr, s0, get_base0, wants_eq, arT, arS, binder, ← hn, ← hm, hs, hu, n1, m1, mb]
              · have nb : (n != 0) = true := by simpa using n1
                have e : errC 12 s u n m = 12 := by simp [errC, arT, arS, binder, hs, hu, n1, nb]
                rw [← hn, ← hm, e]
                simp -implicitDefEqProofs [hfr, s0, get_base0, wants_eq, arT, arS, binder, ← hn, ← hm, hs, hu, n1, nb]
termination_by t => SizeOf.sizeOf t
decreasing_by
  have := List.sizeOf_lt_of_mem hx
  simp
  omega

def rightC (c : Cl) : Int := if 64 < min (dC c) 65 then 6 else if 4096 < min (csz c) 4097 then 2 else prt c

theorem crRight_eq (c : Cl) (hc : c.ok) (o : List Obj) (ro : Nat) (df : List Nat) : (D T).call 15 [c.av] ⟨o, ro, df⟩ = some (.int .i64 (rightC c), ⟨o, ro, df⟩) := by
  have hd := fun o ro df => crDepth_eq c hc o ro df
  have hs := fun o ro df => crSize_eq c hc o ro df
  have hp := fun o ro df => crparts_eq c hc o ro df
  simp only [Cl.av] at hd hs hp
  apply call_by (by exact rfl : T 15 = some _) (by simp)
  intro fr hfr hsl
  have s0 := hsl 0 _ rfl
  simp only [Cl.av] at s0
  unfold rightC
  generalize min (dC c) 65 = md at *
  generalize min (csz c) 4097 = ms at *
  by_cases c1 : 64 < md
  · simp -implicitDefEqProofs [hfr, s0, get_base0, hd, c1]
  · by_cases c2 : 4096 < ms
    · simp -implicitDefEqProofs [hfr, s0, get_base0, hd, hs, c1, c2]
    · simp -implicitDefEqProofs [hfr, s0, get_base0, hd, hs, hp, c1, c2]

end Go.Proofs.Ytjmhkbnhfpgciaa.A
