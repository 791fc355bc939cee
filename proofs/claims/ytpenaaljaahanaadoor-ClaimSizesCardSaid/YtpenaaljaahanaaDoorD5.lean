/- Whether a claim is right: the program's function. -/
import Derived.Test.YtpenaaljaahanaaDoorD4
namespace Go.Proofs.YtpenaaljaahanaaDoor.A
open Go
set_option maxRecDepth 10000
set_option linter.unusedSimpArgs false
attribute [-simp] List.all_eq_true put slot_def ld idxA lenOf elems canA app hand

def arT (a : Int) : Int := if a = 3 then -1 else if a = 4 ∨ a = 5 then 2 else 0
def arS (a : Int) : Int := if a = 6 ∨ a = 11 ∨ a = 12 then 1 else if a = 7 ∨ a = 8 ∨ a = 9 ∨ a = 10 then 2 else 0

/-- a claim's own error -/
def errC (a : Int) (s u : ByteArray) (nT nS : Int) : Int :=
  if a < 1 ∨ 12 < a ∨ (a ≠ 3 ∧ binder a = false ∧ bytesEq s ⟨#[]⟩ = false) ∨ (binder a = false ∧ bytesEq u ⟨#[]⟩ = false) then 7
  else if (0 ≤ arT a ∧ nT ≠ arT a) ∨ 8 < nT ∨ nS ≠ arS a then 12 else 0

def fstR : List Tm → Int
  | [] => 0
  | t :: l => if rightP t = 0 then fstR l else rightP t

mutual
/-- the first error of a claim's parts -/
def prt : Cl → Int
  | .mk a s u ts cs => if errC a s u ts.length cs.length = 0 then (if fstR ts = 0 then prtL cs else fstR ts) else errC a s u ts.length cs.length
def prtL : List Cl → Int
  | [] => 0
  | c :: l => if prt c = 0 then prtL l else prt c
end

theorem lit_range {a : Int} (h1 : ¬ a < 1) (h2 : ¬ 12 < a) : a = 1 ∨ a = 2 ∨ a = 3 ∨ a = 4 ∨ a = 5 ∨ a = 6 ∨ a = 7 ∨ a = 8 ∨ a = 9 ∨ a = 10 ∨ a = 11 ∨ a = 12 := by omega

theorem arity_eq (a : Int) (st : St) : (D T).call 36 [.int .i64 a] st = some (.tup [.int .i64 (arT a), .int .i64 (arS a)], st) := by
  apply call_by (by exact rfl : T 36 = some _) (by simp)
  intro fr hfr hsl
  have s0 := hsl 0 _ rfl
  by_cases h : ¬ a < 1 ∧ ¬ 12 < a
  · rcases lit_range h.1 h.2 with rfl | rfl | rfl | rfl | rfl | rfl | rfl | rfl | rfl | rfl | rfl | rfl
    all_goals simp -implicitDefEqProofs [hfr, s0, arT, arS]
  · have k : ∀ n : Int, 1 ≤ n → n ≤ 12 → ¬ a = n := fun n h1 h2 => by omega
    simp -implicitDefEqProofs [hfr, s0, arT, arS, k 3 (by omega) (by omega), k 4 (by omega) (by omega), k 5 (by omega) (by omega), k 6 (by omega) (by omega), k 7 (by omega) (by omega), k 8 (by omega) (by omega), k 9 (by omega) (by omega), k 10 (by omega) (by omega), k 11 (by omega) (by omega), k 12 (by omega) (by omega)]

theorem wants_eq (a : Int) (st : St) : (D T).call 38 [.int .i64 a] st = some (.tup [.int .i64 (if a = 3 then 0 else arT a), .int .i64 (arS a)], st) := by
  apply call_by (by exact rfl : T 38 = some _) (by simp)
  intro fr hfr hsl
  have s0 := hsl 0 _ rfl
  by_cases h : ¬ a < 1 ∧ ¬ 12 < a
  · rcases lit_range h.1 h.2 with rfl | rfl | rfl | rfl | rfl | rfl | rfl | rfl | rfl | rfl | rfl | rfl
    all_goals simp -implicitDefEqProofs [hfr, s0, arT, arS]
  · have k : ∀ n : Int, 1 ≤ n → n ≤ 12 → ¬ a = n := fun n h1 h2 => by omega
    simp -implicitDefEqProofs [hfr, s0, arT, arS, k 3 (by omega) (by omega), k 4 (by omega) (by omega), k 5 (by omega) (by omega), k 6 (by omega) (by omega), k 7 (by omega) (by omega), k 8 (by omega) (by omega), k 9 (by omega) (by omega), k 10 (by omega) (by omega), k 11 (by omega) (by omega), k 12 (by omega) (by omega)]

set_option maxHeartbeats 8000000 in
theorem cpart_eq : ∀ (c : Cl), c.ok → ∀ (o : List Obj) (ro : Nat) (df : List Nat), (D T).call 21 [c.av] ⟨o, ro, df⟩ = some (.int .i64 (prt c), ⟨o, ro, df⟩)
  | .mk a s u ts cs, hok, o, ro, df => by
    simp only [Cl.ok] at hok
    have hl := okC_iff.1 hok.2.2.2.2.2.2
    have ht := okL_iff.1 hok.2.2.2.2.1
    have mx1 : ts.length ≤ 9223372036854775807 := Nat.le_trans hok.2.2.2.1 (by decide)
    have mx2 : cs.length ≤ 9223372036854775807 := Nat.le_trans hok.2.2.2.2.2.1 (by decide)
    have ih := fun x (hx : x ∈ cs) o ro df => cpart_eq x (hl x hx) o ro df
    have hR := fun x (hx : x ∈ ts) o ro df => Right_eq x (ht x hx) o ro df
    simp only [Cl.av, Tm.av] at ih hR
    have lp0 : ∀ (fr : List AV) (o1 : List Obj) (Q : AE → List AV → St → Prop), fr.length = 98 → slot fr 1 = .ptr o.length 0 0 → slot fr 73 = .sl 4 (ts.map Tm.cells) → slot fr 74 = .int .i64 (ts.length : Int) → slot fr 75 = .int .i64 0 → o1[o.length]? = some (.arr 25 5 [[.int .i64 a, .str s, .str u, .sl 4 (ts.map Tm.cells), .sl 5 (cs.map Cl.cells)]]) →
        (fstR ts = 0 → ∀ (fr' : List AV) o2, fr'.length = 98 → slot fr' 1 = .ptr o.length 0 0 → o2[o.length]? = some (.arr 25 5 [[.int .i64 a, .str s, .str u, .sl 4 (ts.map Tm.cells), .sl 5 (cs.map Cl.cells)]]) → Q (.exit 0) fr' ⟨o2, o.length, []⟩) →
        (fstR ts ≠ 0 → ∀ (fr' : List AV) o2, fr'.length = 98 → slot fr' 2 = .int .i64 (fstR ts) → Q .ret fr' ⟨o2, o.length, []⟩) →
        ∃ e fr' st', (D T).loop false L21_0 fr ⟨o1, o.length, []⟩ = some (e, fr', st') ∧ Q e fr' st' := by
      intro fr o1 Q f f1 fli fln fix g k1 k2
      apply loop_inv L21_0.eq_1 List.length (fun (rest : List Tm) fr st => ∃ pre o2, ts = pre ++ rest ∧ fr.length = 98 ∧ slot fr 1 = .ptr o.length 0 0 ∧ slot fr 73 = .sl 4 (ts.map Tm.cells) ∧ slot fr 74 = .int .i64 (ts.length : Int) ∧ slot fr 75 = .int .i64 (pre.length : Int) ∧
        st = ⟨o2, o.length, []⟩ ∧ o2[o.length]? = some (.arr 25 5 [[.int .i64 a, .str s, .str u, .sl 4 (ts.map Tm.cells), .sl 5 (cs.map Cl.cells)]]) ∧ fstR ts = fstR rest) ?_ ts ⟨[], o1, rfl, f, f1, fli, fln, fix, rfl, g, rfl⟩
      rintro rest fr _ ⟨pre, o2, e, hfr, q1, qli, qln, qix, rfl, h1, hin⟩
      cases rest with
      | nil =>
        have hlt := idx_end e
        simp -implicitDefEqProofs [hfr, q1, qli, qln, qix, hlt]
        exact k1 (by rw [hin]; simp [fstR]) _ o2 (by simp [hfr]) (by simp [hfr, q1]) h1
      | cons t rest =>
        obtain ⟨hlt, hg, _⟩ := idx_at e
        have hw := idx_next e mx1
        have hc := fun o ro df => hR t (by simp [e]) o ro df
        have l3 : o.length ≤ o2.length := by have := lt_of_getO h1; omega
        simp only [fstR] at hin
        by_cases h : rightP t = 0
        · rw [if_pos h] at hin
          simp -implicitDefEqProofs [hfr, q1, qli, qln, qix, hlt, hg, hw, hc, h, setO_last, getO_last, l3, -getElem?_pos, List.getElem?_cons_zero]
          exact ⟨rest, by simp, pre ++ [t], by simp [e], by simp, getO_push h1 _, hin⟩
        · rw [if_neg h] at hin
          have hb : (rightP t != 0) = true := by simpa using h
          simp -implicitDefEqProofs [hfr, q1, qli, qln, qix, hlt, hg, hw, hc, h, hb, setO_last, getO_last, l3, -getElem?_pos, List.getElem?_cons_zero]
          exact k2 (by rw [hin]; exact h) _ _ (by simp [hfr]) (by simp [hfr, hin])
    have lp1 : ∀ (fr : List AV) (o1 : List Obj) (Q : AE → List AV → St → Prop), fr.length = 98 → slot fr 1 = .ptr o.length 0 0 → slot fr 86 = .sl 5 (cs.map Cl.cells) → slot fr 87 = .int .i64 (cs.length : Int) → slot fr 88 = .int .i64 0 → o1[o.length]? = some (.arr 25 5 [[.int .i64 a, .str s, .str u, .sl 4 (ts.map Tm.cells), .sl 5 (cs.map Cl.cells)]]) →
        (prtL cs = 0 → ∀ (fr' : List AV) o2, fr'.length = 98 → slot fr' 1 = .ptr o.length 0 0 → o2[o.length]? = some (.arr 25 5 [[.int .i64 a, .str s, .str u, .sl 4 (ts.map Tm.cells), .sl 5 (cs.map Cl.cells)]]) → Q (.exit 2) fr' ⟨o2, o.length, []⟩) →
        (prtL cs ≠ 0 → ∀ (fr' : List AV) o2, fr'.length = 98 → slot fr' 2 = .int .i64 (prtL cs) → Q .ret fr' ⟨o2, o.length, []⟩) →
        ∃ e fr' st', (D T).loop false L21_1 fr ⟨o1, o.length, []⟩ = some (e, fr', st') ∧ Q e fr' st' := by
      intro fr o1 Q f f1 fli fln fix g k1 k2
      apply loop_inv L21_1.eq_1 List.length (fun (rest : List Cl) fr st => ∃ pre o2, cs = pre ++ rest ∧ fr.length = 98 ∧ slot fr 1 = .ptr o.length 0 0 ∧ slot fr 86 = .sl 5 (cs.map Cl.cells) ∧ slot fr 87 = .int .i64 (cs.length : Int) ∧ slot fr 88 = .int .i64 (pre.length : Int) ∧
        st = ⟨o2, o.length, []⟩ ∧ o2[o.length]? = some (.arr 25 5 [[.int .i64 a, .str s, .str u, .sl 4 (ts.map Tm.cells), .sl 5 (cs.map Cl.cells)]]) ∧ prtL cs = prtL rest) ?_ cs ⟨[], o1, rfl, f, f1, fli, fln, fix, rfl, g, rfl⟩
      rintro rest fr _ ⟨pre, o2, e, hfr, q1, qli, qln, qix, rfl, h1, hin⟩
      cases rest with
      | nil =>
        have hlt := idx_end e
        simp -implicitDefEqProofs [hfr, q1, qli, qln, qix, hlt]
        exact k1 (by rw [hin]; simp [prtL]) _ o2 (by simp [hfr]) (by simp [hfr, q1]) h1
      | cons t rest =>
        obtain ⟨hlt, hg, _⟩ := idx_at e
        have hw := idx_next e mx2
        have hc := fun o ro df => ih t (by simp [e]) o ro df
        have l3 : o.length ≤ o2.length := by have := lt_of_getO h1; omega
        simp only [prtL] at hin
        by_cases h : prt t = 0
        · rw [if_pos h] at hin
          simp -implicitDefEqProofs [hfr, q1, qli, qln, qix, hlt, hg, hw, hc, h, setO_last, getO_last, l3, -getElem?_pos, List.getElem?_cons_zero]
          exact ⟨rest, by simp, pre ++ [t], by simp [e], by simp, getO_push h1 _, hin⟩
        · rw [if_neg h] at hin
          have hb : (prt t != 0) = true := by simpa using h
          simp -implicitDefEqProofs [hfr, q1, qli, qln, qix, hlt, hg, hw, hc, h, hb, setO_last, getO_last, l3, -getElem?_pos, List.getElem?_cons_zero]
          exact k2 (by rw [hin]; exact h) _ _ (by simp [hfr]) (by simp [hfr, hin])
    have hb := fun st => binder_eq (.mk a s u ts cs) st
    simp only [Cl.av, Cl.cells_mk] at hb
    apply call_by (by exact rfl : T 21 = some _) (by simp)
    intro fr hfr hsl
    have s0 := hsl 0 _ rfl
    simp only [Cl.av, Cl.cells_mk] at s0
    clear ih hR
    simp only [prt]
    by_cases a1 : a < 1
    · have e : errC a s u ts.length cs.length = 7 := by simp only [errC]; rw [if_pos (.inl a1)]
      rw [e]
      simp -implicitDefEqProofs [hfr, s0, get_base0, a1]
    · by_cases a8 : 12 < a
      · have e : errC a s u ts.length cs.length = 7 := by simp only [errC]; rw [if_pos (.inr (.inl a8))]
        rw [e]
        simp -implicitDefEqProofs [hfr, s0, get_base0, a1, a8]
      · obtain ⟨n, hn⟩ : ∃ n : Int, n = (ts.length : Int) := ⟨_, rfl⟩
        obtain ⟨m, hm⟩ : ∃ m : Int, m = (cs.length : Int) := ⟨_, rfl⟩
        rcases lit_range a1 a8 with rfl | rfl | rfl | rfl | rfl | rfl | rfl | rfl | rfl | rfl | rfl | rfl
        · rcases Bool.eq_false_or_eq_true (bytesEq s ⟨#[]⟩) with hs | hs
          · rcases Bool.eq_false_or_eq_true (bytesEq u ⟨#[]⟩) with hu | hu
            · skip
              by_cases n1 : n = 0
              · skip
                by_cases m1 : m = 0
                · skip
                  have e : errC 1 s u n m = 0 := by simp [errC, arT, arS, binder, hs, hu, n1, m1]
                  rw [← hn, ← hm, e]
                  simp -implicitDefEqProofs [hfr, s0, get_base0, hb, arity_eq, arT, arS, binder, ← hn, ← hm, hs, hu, n1, m1]
                  apply lp0
                  · simp [hfr]
                  · simp [hfr]
                  · simp [hfr]
                  · first | (simp [hfr]; omega) | simp [hfr, hn]
                  · simp [hfr]
                  · simp [get_base0]
                  · intro z fr' o2 hf p1 g2
                    simp -implicitDefEqProofs [hf, p1, g2, z, -getElem?_pos, List.getElem?_cons_zero]
                    apply lp1
                    · simp [hf]
                    · simp [hf, p1]
                    · simp [hf]
                    · simp [hf]
                    · simp [hf]
                    · exact g2
                    · intro z2 fr'' o3 hf2 p2 g3
                      simp -implicitDefEqProofs [hf2, z2]
                    · intro z2 fr'' o3 hf2 p2
                      simp -implicitDefEqProofs [hf2, p2]
                  · intro z fr' o2 hf p2
                    simp -implicitDefEqProofs [hf, p2, z]
                · have mb : (m != 0) = true := by simpa using m1
                  have e : errC 1 s u n m = 12 := by simp [errC, arT, arS, binder, hs, hu, n1, m1, mb]
                  rw [← hn, ← hm, e]
                  simp -implicitDefEqProofs [hfr, s0, get_base0, hb, arity_eq, arT, arS, binder, ← hn, ← hm, hs, hu, n1, m1, mb]
              · have nb : (n != 0) = true := by simpa using n1
                have e : errC 1 s u n m = 12 := by simp [errC, arT, arS, binder, hs, hu, n1, nb]
                rw [← hn, ← hm, e]
                simp -implicitDefEqProofs [hfr, s0, get_base0, hb, arity_eq, arT, arS, binder, ← hn, ← hm, hs, hu, n1, nb]
            · skip
              have e : errC 1 s u n m = 7 := by simp [errC, arT, arS, binder, hs, hu]
              rw [← hn, ← hm, e]
              simp -implicitDefEqProofs [hfr, s0, get_base0, hb, arity_eq, arT, arS, binder, ← hn, ← hm, hs, hu]
          · skip
            have e : errC 1 s u n m = 7 := by simp [errC, arT, arS, binder, hs]
            rw [← hn, ← hm, e]
            simp -implicitDefEqProofs [hfr, s0, get_base0, hb, arity_eq, arT, arS, binder, ← hn, ← hm, hs]
        · rcases Bool.eq_false_or_eq_true (bytesEq s ⟨#[]⟩) with hs | hs
          · rcases Bool.eq_false_or_eq_true (bytesEq u ⟨#[]⟩) with hu | hu
            · skip
              by_cases n1 : n = 0
              · skip
                by_cases m1 : m = 0
                · skip
                  have e : errC 2 s u n m = 0 := by simp [errC, arT, arS, binder, hs, hu, n1, m1]
                  rw [← hn, ← hm, e]
                  simp -implicitDefEqProofs [hfr, s0, get_base0, hb, arity_eq, arT, arS, binder, ← hn, ← hm, hs, hu, n1, m1]
                  apply lp0
                  · simp [hfr]
                  · simp [hfr]
                  · simp [hfr]
                  · first | (simp [hfr]; omega) | simp [hfr, hn]
                  · simp [hfr]
                  · simp [get_base0]
                  · intro z fr' o2 hf p1 g2
                    simp -implicitDefEqProofs [hf, p1, g2, z, -getElem?_pos, List.getElem?_cons_zero]
                    apply lp1
                    · simp [hf]
                    · simp [hf, p1]
                    · simp [hf]
                    · simp [hf]
                    · simp [hf]
                    · exact g2
                    · intro z2 fr'' o3 hf2 p2 g3
                      simp -implicitDefEqProofs [hf2, z2]
                    · intro z2 fr'' o3 hf2 p2
                      simp -implicitDefEqProofs [hf2, p2]
                  · intro z fr' o2 hf p2
                    simp -implicitDefEqProofs [hf, p2, z]
                · have mb : (m != 0) = true := by simpa using m1
                  have e : errC 2 s u n m = 12 := by simp [errC, arT, arS, binder, hs, hu, n1, m1, mb]
                  rw [← hn, ← hm, e]
                  simp -implicitDefEqProofs [hfr, s0, get_base0, hb, arity_eq, arT, arS, binder, ← hn, ← hm, hs, hu, n1, m1, mb]
              · have nb : (n != 0) = true := by simpa using n1
                have e : errC 2 s u n m = 12 := by simp [errC, arT, arS, binder, hs, hu, n1, nb]
                rw [← hn, ← hm, e]
                simp -implicitDefEqProofs [hfr, s0, get_base0, hb, arity_eq, arT, arS, binder, ← hn, ← hm, hs, hu, n1, nb]
            · skip
              have e : errC 2 s u n m = 7 := by simp [errC, arT, arS, binder, hs, hu]
              rw [← hn, ← hm, e]
              simp -implicitDefEqProofs [hfr, s0, get_base0, hb, arity_eq, arT, arS, binder, ← hn, ← hm, hs, hu]
          · skip
            have e : errC 2 s u n m = 7 := by simp [errC, arT, arS, binder, hs]
            rw [← hn, ← hm, e]
            simp -implicitDefEqProofs [hfr, s0, get_base0, hb, arity_eq, arT, arS, binder, ← hn, ← hm, hs]
        · rcases Bool.eq_false_or_eq_true (bytesEq s ⟨#[]⟩) with hs | hs
          · rcases Bool.eq_false_or_eq_true (bytesEq u ⟨#[]⟩) with hu | hu
            · skip
              by_cases n1 : 8 < n
              · skip
                have e : errC 3 s u n m = 12 := by simp [errC, arT, arS, binder, hs, hu, n1]
                rw [← hn, ← hm, e]
                simp -implicitDefEqProofs [hfr, s0, get_base0, hb, arity_eq, arT, arS, binder, ← hn, ← hm, hs, hu, n1]
              · skip
                by_cases m1 : m = 0
                · skip
                  have e : errC 3 s u n m = 0 := by simp [errC, arT, arS, binder, hs, hu, n1, m1]
                  rw [← hn, ← hm, e]
                  simp -implicitDefEqProofs [hfr, s0, get_base0, hb, arity_eq, arT, arS, binder, ← hn, ← hm, hs, hu, n1, m1]
                  apply lp0
                  · simp [hfr]
                  · simp [hfr]
                  · simp [hfr]
                  · first | (simp [hfr]; omega) | simp [hfr, hn]
                  · simp [hfr]
                  · simp [get_base0]
                  · intro z fr' o2 hf p1 g2
                    simp -implicitDefEqProofs [hf, p1, g2, z, -getElem?_pos, List.getElem?_cons_zero]
                    apply lp1
                    · simp [hf]
                    · simp [hf, p1]
                    · simp [hf]
                    · simp [hf]
                    · simp [hf]
                    · exact g2
                    · intro z2 fr'' o3 hf2 p2 g3
                      simp -implicitDefEqProofs [hf2, z2]
                    · intro z2 fr'' o3 hf2 p2
                      simp -implicitDefEqProofs [hf2, p2]
                  · intro z fr' o2 hf p2
                    simp -implicitDefEqProofs [hf, p2, z]
                · have mb : (m != 0) = true := by simpa using m1
                  have e : errC 3 s u n m = 12 := by simp [errC, arT, arS, binder, hs, hu, n1, m1, mb]
                  rw [← hn, ← hm, e]
                  simp -implicitDefEqProofs [hfr, s0, get_base0, hb, arity_eq, arT, arS, binder, ← hn, ← hm, hs, hu, n1, m1, mb]
            · skip
              have e : errC 3 s u n m = 7 := by simp [errC, arT, arS, binder, hs, hu]
              rw [← hn, ← hm, e]
              simp -implicitDefEqProofs [hfr, s0, get_base0, hb, arity_eq, arT, arS, binder, ← hn, ← hm, hs, hu]
          · rcases Bool.eq_false_or_eq_true (bytesEq u ⟨#[]⟩) with hu | hu
            · skip
              by_cases n1 : 8 < n
              · skip
                have e : errC 3 s u n m = 12 := by simp [errC, arT, arS, binder, hs, hu, n1]
                rw [← hn, ← hm, e]
                simp -implicitDefEqProofs [hfr, s0, get_base0, hb, arity_eq, arT, arS, binder, ← hn, ← hm, hs, hu, n1]
              · skip
                by_cases m1 : m = 0
                · skip
                  have e : errC 3 s u n m = 0 := by simp [errC, arT, arS, binder, hs, hu, n1, m1]
                  rw [← hn, ← hm, e]
                  simp -implicitDefEqProofs [hfr, s0, get_base0, hb, arity_eq, arT, arS, binder, ← hn, ← hm, hs, hu, n1, m1]
                  apply lp0
                  · simp [hfr]
                  · simp [hfr]
                  · simp [hfr]
                  · first | (simp [hfr]; omega) | simp [hfr, hn]
                  · simp [hfr]
                  · simp [get_base0]
                  · intro z fr' o2 hf p1 g2
                    simp -implicitDefEqProofs [hf, p1, g2, z, -getElem?_pos, List.getElem?_cons_zero]
                    apply lp1
                    · simp [hf]
                    · simp [hf, p1]
                    · simp [hf]
                    · simp [hf]
                    · simp [hf]
                    · exact g2
                    · intro z2 fr'' o3 hf2 p2 g3
                      simp -implicitDefEqProofs [hf2, z2]
                    · intro z2 fr'' o3 hf2 p2
                      simp -implicitDefEqProofs [hf2, p2]
                  · intro z fr' o2 hf p2
                    simp -implicitDefEqProofs [hf, p2, z]
                · have mb : (m != 0) = true := by simpa using m1
                  have e : errC 3 s u n m = 12 := by simp [errC, arT, arS, binder, hs, hu, n1, m1, mb]
                  rw [← hn, ← hm, e]
                  simp -implicitDefEqProofs [hfr, s0, get_base0, hb, arity_eq, arT, arS, binder, ← hn, ← hm, hs, hu, n1, m1, mb]
            · skip
              have e : errC 3 s u n m = 7 := by simp [errC, arT, arS, binder, hs, hu]
              rw [← hn, ← hm, e]
              simp -implicitDefEqProofs [hfr, s0, get_base0, hb, arity_eq, arT, arS, binder, ← hn, ← hm, hs, hu]
        · rcases Bool.eq_false_or_eq_true (bytesEq s ⟨#[]⟩) with hs | hs
          · rcases Bool.eq_false_or_eq_true (bytesEq u ⟨#[]⟩) with hu | hu
            · skip
              by_cases n1 : n = 2
              · skip
                by_cases m1 : m = 0
                · skip
                  have e : errC 4 s u n m = 0 := by simp [errC, arT, arS, binder, hs, hu, n1, m1]
                  rw [← hn, ← hm, e]
                  simp -implicitDefEqProofs [hfr, s0, get_base0, hb, arity_eq, arT, arS, binder, ← hn, ← hm, hs, hu, n1, m1]
                  apply lp0
                  · simp [hfr]
                  · simp [hfr]
                  · simp [hfr]
                  · first | (simp [hfr]; omega) | simp [hfr, hn]
                  · simp [hfr]
                  · simp [get_base0]
                  · intro z fr' o2 hf p1 g2
                    simp -implicitDefEqProofs [hf, p1, g2, z, -getElem?_pos, List.getElem?_cons_zero]
                    apply lp1
                    · simp [hf]
                    · simp [hf, p1]
                    · simp [hf]
                    · simp [hf]
                    · simp [hf]
                    · exact g2
                    · intro z2 fr'' o3 hf2 p2 g3
                      simp -implicitDefEqProofs [hf2, z2]
                    · intro z2 fr'' o3 hf2 p2
                      simp -implicitDefEqProofs [hf2, p2]
                  · intro z fr' o2 hf p2
                    simp -implicitDefEqProofs [hf, p2, z]
                · have mb : (m != 0) = true := by simpa using m1
                  have e : errC 4 s u n m = 12 := by simp [errC, arT, arS, binder, hs, hu, n1, m1, mb]
                  rw [← hn, ← hm, e]
                  simp -implicitDefEqProofs [hfr, s0, get_base0, hb, arity_eq, arT, arS, binder, ← hn, ← hm, hs, hu, n1, m1, mb]
              · have nb : (n != 2) = true := by simpa using n1
                have e : errC 4 s u n m = 12 := by simp [errC, arT, arS, binder, hs, hu, n1, nb]
                rw [← hn, ← hm, e]
                simp -implicitDefEqProofs [hfr, s0, get_base0, hb, arity_eq, arT, arS, binder, ← hn, ← hm, hs, hu, n1, nb]
            · skip
              have e : errC 4 s u n m = 7 := by simp [errC, arT, arS, binder, hs, hu]
              rw [← hn, ← hm, e]
              simp -implicitDefEqProofs [hfr, s0, get_base0, hb, arity_eq, arT, arS, binder, ← hn, ← hm, hs, hu]
          · skip
            have e : errC 4 s u n m = 7 := by simp [errC, arT, arS, binder, hs]
            rw [← hn, ← hm, e]
            simp -implicitDefEqProofs [hfr, s0, get_base0, hb, arity_eq, arT, arS, binder, ← hn, ← hm, hs]
        · rcases Bool.eq_false_or_eq_true (bytesEq s ⟨#[]⟩) with hs | hs
          · rcases Bool.eq_false_or_eq_true (bytesEq u ⟨#[]⟩) with hu | hu
            · skip
              by_cases n1 : n = 2
              · skip
                by_cases m1 : m = 0
                · skip
                  have e : errC 5 s u n m = 0 := by simp [errC, arT, arS, binder, hs, hu, n1, m1]
                  rw [← hn, ← hm, e]
                  simp -implicitDefEqProofs [hfr, s0, get_base0, hb, arity_eq, arT, arS, binder, ← hn, ← hm, hs, hu, n1, m1]
                  apply lp0
                  · simp [hfr]
                  · simp [hfr]
                  · simp [hfr]
                  · first | (simp [hfr]; omega) | simp [hfr, hn]
                  · simp [hfr]
                  · simp [get_base0]
                  · intro z fr' o2 hf p1 g2
                    simp -implicitDefEqProofs [hf, p1, g2, z, -getElem?_pos, List.getElem?_cons_zero]
                    apply lp1
                    · simp [hf]
                    · simp [hf, p1]
                    · simp [hf]
                    · simp [hf]
                    · simp [hf]
                    · exact g2
                    · intro z2 fr'' o3 hf2 p2 g3
                      simp -implicitDefEqProofs [hf2, z2]
                    · intro z2 fr'' o3 hf2 p2
                      simp -implicitDefEqProofs [hf2, p2]
                  · intro z fr' o2 hf p2
                    simp -implicitDefEqProofs [hf, p2, z]
                · have mb : (m != 0) = true := by simpa using m1
                  have e : errC 5 s u n m = 12 := by simp [errC, arT, arS, binder, hs, hu, n1, m1, mb]
                  rw [← hn, ← hm, e]
                  simp -implicitDefEqProofs [hfr, s0, get_base0, hb, arity_eq, arT, arS, binder, ← hn, ← hm, hs, hu, n1, m1, mb]
              · have nb : (n != 2) = true := by simpa using n1
                have e : errC 5 s u n m = 12 := by simp [errC, arT, arS, binder, hs, hu, n1, nb]
                rw [← hn, ← hm, e]
                simp -implicitDefEqProofs [hfr, s0, get_base0, hb, arity_eq, arT, arS, binder, ← hn, ← hm, hs, hu, n1, nb]
            · skip
              have e : errC 5 s u n m = 7 := by simp [errC, arT, arS, binder, hs, hu]
              rw [← hn, ← hm, e]
              simp -implicitDefEqProofs [hfr, s0, get_base0, hb, arity_eq, arT, arS, binder, ← hn, ← hm, hs, hu]
          · skip
            have e : errC 5 s u n m = 7 := by simp [errC, arT, arS, binder, hs]
            rw [← hn, ← hm, e]
            simp -implicitDefEqProofs [hfr, s0, get_base0, hb, arity_eq, arT, arS, binder, ← hn, ← hm, hs]
        · rcases Bool.eq_false_or_eq_true (bytesEq s ⟨#[]⟩) with hs | hs
          · rcases Bool.eq_false_or_eq_true (bytesEq u ⟨#[]⟩) with hu | hu
            · skip
              by_cases n1 : n = 0
              · skip
                by_cases m1 : m = 1
                · skip
                  have e : errC 6 s u n m = 0 := by simp [errC, arT, arS, binder, hs, hu, n1, m1]
                  rw [← hn, ← hm, e]
                  simp -implicitDefEqProofs [hfr, s0, get_base0, hb, arity_eq, arT, arS, binder, ← hn, ← hm, hs, hu, n1, m1]
                  apply lp0
                  · simp [hfr]
                  · simp [hfr]
                  · simp [hfr]
                  · first | (simp [hfr]; omega) | simp [hfr, hn]
                  · simp [hfr]
                  · simp [get_base0]
                  · intro z fr' o2 hf p1 g2
                    simp -implicitDefEqProofs [hf, p1, g2, z, -getElem?_pos, List.getElem?_cons_zero]
                    apply lp1
                    · simp [hf]
                    · simp [hf, p1]
                    · simp [hf]
                    · simp [hf]
                    · simp [hf]
                    · exact g2
                    · intro z2 fr'' o3 hf2 p2 g3
                      simp -implicitDefEqProofs [hf2, z2]
                    · intro z2 fr'' o3 hf2 p2
                      simp -implicitDefEqProofs [hf2, p2]
                  · intro z fr' o2 hf p2
                    simp -implicitDefEqProofs [hf, p2, z]
                · have mb : (m != 1) = true := by simpa using m1
                  have e : errC 6 s u n m = 12 := by simp [errC, arT, arS, binder, hs, hu, n1, m1, mb]
                  rw [← hn, ← hm, e]
                  simp -implicitDefEqProofs [hfr, s0, get_base0, hb, arity_eq, arT, arS, binder, ← hn, ← hm, hs, hu, n1, m1, mb]
              · have nb : (n != 0) = true := by simpa using n1
                have e : errC 6 s u n m = 12 := by simp [errC, arT, arS, binder, hs, hu, n1, nb]
                rw [← hn, ← hm, e]
                simp -implicitDefEqProofs [hfr, s0, get_base0, hb, arity_eq, arT, arS, binder, ← hn, ← hm, hs, hu, n1, nb]
            · skip
              have e : errC 6 s u n m = 7 := by simp [errC, arT, arS, binder, hs, hu]
              rw [← hn, ← hm, e]
              simp -implicitDefEqProofs [hfr, s0, get_base0, hb, arity_eq, arT, arS, binder, ← hn, ← hm, hs, hu]
          · skip
            have e : errC 6 s u n m = 7 := by simp [errC, arT, arS, binder, hs]
            rw [← hn, ← hm, e]
            simp -implicitDefEqProofs [hfr, s0, get_base0, hb, arity_eq, arT, arS, binder, ← hn, ← hm, hs]
        · rcases Bool.eq_false_or_eq_true (bytesEq s ⟨#[]⟩) with hs | hs
          · rcases Bool.eq_false_or_eq_true (bytesEq u ⟨#[]⟩) with hu | hu
            · skip
              by_cases n1 : n = 0
              · skip
                by_cases m1 : m = 2
                · skip
                  have e : errC 7 s u n m = 0 := by simp [errC, arT, arS, binder, hs, hu, n1, m1]
                  rw [← hn, ← hm, e]
                  simp -implicitDefEqProofs [hfr, s0, get_base0, hb, arity_eq, arT, arS, binder, ← hn, ← hm, hs, hu, n1, m1]
                  apply lp0
                  · simp [hfr]
                  · simp [hfr]
                  · simp [hfr]
                  · first | (simp [hfr]; omega) | simp [hfr, hn]
                  · simp [hfr]
                  · simp [get_base0]
                  · intro z fr' o2 hf p1 g2
                    simp -implicitDefEqProofs [hf, p1, g2, z, -getElem?_pos, List.getElem?_cons_zero]
                    apply lp1
                    · simp [hf]
                    · simp [hf, p1]
                    · simp [hf]
                    · simp [hf]
                    · simp [hf]
                    · exact g2
                    · intro z2 fr'' o3 hf2 p2 g3
                      simp -implicitDefEqProofs [hf2, z2]
                    · intro z2 fr'' o3 hf2 p2
                      simp -implicitDefEqProofs [hf2, p2]
                  · intro z fr' o2 hf p2
                    simp -implicitDefEqProofs [hf, p2, z]
                · have mb : (m != 2) = true := by simpa using m1
                  have e : errC 7 s u n m = 12 := by simp [errC, arT, arS, binder, hs, hu, n1, m1, mb]
                  rw [← hn, ← hm, e]
                  simp -implicitDefEqProofs [hfr, s0, get_base0, hb, arity_eq, arT, arS, binder, ← hn, ← hm, hs, hu, n1, m1, mb]
              · have nb : (n != 0) = true := by simpa using n1
                have e : errC 7 s u n m = 12 := by simp [errC, arT, arS, binder, hs, hu, n1, nb]
                rw [← hn, ← hm, e]
                simp -implicitDefEqProofs [hfr, s0, get_base0, hb, arity_eq, arT, arS, binder, ← hn, ← hm, hs, hu, n1, nb]
            · skip
              have e : errC 7 s u n m = 7 := by simp [errC, arT, arS, binder, hs, hu]
              rw [← hn, ← hm, e]
              simp -implicitDefEqProofs [hfr, s0, get_base0, hb, arity_eq, arT, arS, binder, ← hn, ← hm, hs, hu]
          · skip
            have e : errC 7 s u n m = 7 := by simp [errC, arT, arS, binder, hs]
            rw [← hn, ← hm, e]
            simp -implicitDefEqProofs [hfr, s0, get_base0, hb, arity_eq, arT, arS, binder, ← hn, ← hm, hs]
        · rcases Bool.eq_false_or_eq_true (bytesEq s ⟨#[]⟩) with hs | hs
          · rcases Bool.eq_false_or_eq_true (bytesEq u ⟨#[]⟩) with hu | hu
            · skip
              by_cases n1 : n = 0
              · skip
                by_cases m1 : m = 2
                · skip
                  have e : errC 8 s u n m = 0 := by simp [errC, arT, arS, binder, hs, hu, n1, m1]
                  rw [← hn, ← hm, e]
                  simp -implicitDefEqProofs [hfr, s0, get_base0, hb, arity_eq, arT, arS, binder, ← hn, ← hm, hs, hu, n1, m1]
                  apply lp0
                  · simp [hfr]
                  · simp [hfr]
                  · simp [hfr]
                  · first | (simp [hfr]; omega) | simp [hfr, hn]
                  · simp [hfr]
                  · simp [get_base0]
                  · intro z fr' o2 hf p1 g2
                    simp -implicitDefEqProofs [hf, p1, g2, z, -getElem?_pos, List.getElem?_cons_zero]
                    apply lp1
                    · simp [hf]
                    · simp [hf, p1]
                    · simp [hf]
                    · simp [hf]
                    · simp [hf]
                    · exact g2
                    · intro z2 fr'' o3 hf2 p2 g3
                      simp -implicitDefEqProofs [hf2, z2]
                    · intro z2 fr'' o3 hf2 p2
                      simp -implicitDefEqProofs [hf2, p2]
                  · intro z fr' o2 hf p2
                    simp -implicitDefEqProofs [hf, p2, z]
                · have mb : (m != 2) = true := by simpa using m1
                  have e : errC 8 s u n m = 12 := by simp [errC, arT, arS, binder, hs, hu, n1, m1, mb]
                  rw [← hn, ← hm, e]
                  simp -implicitDefEqProofs [hfr, s0, get_base0, hb, arity_eq, arT, arS, binder, ← hn, ← hm, hs, hu, n1, m1, mb]
              · have nb : (n != 0) = true := by simpa using n1
                have e : errC 8 s u n m = 12 := by simp [errC, arT, arS, binder, hs, hu, n1, nb]
                rw [← hn, ← hm, e]
                simp -implicitDefEqProofs [hfr, s0, get_base0, hb, arity_eq, arT, arS, binder, ← hn, ← hm, hs, hu, n1, nb]
            · skip
              have e : errC 8 s u n m = 7 := by simp [errC, arT, arS, binder, hs, hu]
              rw [← hn, ← hm, e]
              simp -implicitDefEqProofs [hfr, s0, get_base0, hb, arity_eq, arT, arS, binder, ← hn, ← hm, hs, hu]
          · skip
            have e : errC 8 s u n m = 7 := by simp [errC, arT, arS, binder, hs]
            rw [← hn, ← hm, e]
            simp -implicitDefEqProofs [hfr, s0, get_base0, hb, arity_eq, arT, arS, binder, ← hn, ← hm, hs]
        · rcases Bool.eq_false_or_eq_true (bytesEq s ⟨#[]⟩) with hs | hs
          · rcases Bool.eq_false_or_eq_true (bytesEq u ⟨#[]⟩) with hu | hu
            · skip
              by_cases n1 : n = 0
              · skip
                by_cases m1 : m = 2
                · skip
                  have e : errC 9 s u n m = 0 := by simp [errC, arT, arS, binder, hs, hu, n1, m1]
                  rw [← hn, ← hm, e]
                  simp -implicitDefEqProofs [hfr, s0, get_base0, hb, arity_eq, arT, arS, binder, ← hn, ← hm, hs, hu, n1, m1]
                  apply lp0
                  · simp [hfr]
                  · simp [hfr]
                  · simp [hfr]
                  · first | (simp [hfr]; omega) | simp [hfr, hn]
                  · simp [hfr]
                  · simp [get_base0]
                  · intro z fr' o2 hf p1 g2
                    simp -implicitDefEqProofs [hf, p1, g2, z, -getElem?_pos, List.getElem?_cons_zero]
                    apply lp1
                    · simp [hf]
                    · simp [hf, p1]
                    · simp [hf]
                    · simp [hf]
                    · simp [hf]
                    · exact g2
                    · intro z2 fr'' o3 hf2 p2 g3
                      simp -implicitDefEqProofs [hf2, z2]
                    · intro z2 fr'' o3 hf2 p2
                      simp -implicitDefEqProofs [hf2, p2]
                  · intro z fr' o2 hf p2
                    simp -implicitDefEqProofs [hf, p2, z]
                · have mb : (m != 2) = true := by simpa using m1
                  have e : errC 9 s u n m = 12 := by simp [errC, arT, arS, binder, hs, hu, n1, m1, mb]
                  rw [← hn, ← hm, e]
                  simp -implicitDefEqProofs [hfr, s0, get_base0, hb, arity_eq, arT, arS, binder, ← hn, ← hm, hs, hu, n1, m1, mb]
              · have nb : (n != 0) = true := by simpa using n1
                have e : errC 9 s u n m = 12 := by simp [errC, arT, arS, binder, hs, hu, n1, nb]
                rw [← hn, ← hm, e]
                simp -implicitDefEqProofs [hfr, s0, get_base0, hb, arity_eq, arT, arS, binder, ← hn, ← hm, hs, hu, n1, nb]
            · skip
              have e : errC 9 s u n m = 7 := by simp [errC, arT, arS, binder, hs, hu]
              rw [← hn, ← hm, e]
              simp -implicitDefEqProofs [hfr, s0, get_base0, hb, arity_eq, arT, arS, binder, ← hn, ← hm, hs, hu]
          · skip
            have e : errC 9 s u n m = 7 := by simp [errC, arT, arS, binder, hs]
            rw [← hn, ← hm, e]
            simp -implicitDefEqProofs [hfr, s0, get_base0, hb, arity_eq, arT, arS, binder, ← hn, ← hm, hs]
        · rcases Bool.eq_false_or_eq_true (bytesEq s ⟨#[]⟩) with hs | hs
          · rcases Bool.eq_false_or_eq_true (bytesEq u ⟨#[]⟩) with hu | hu
            · skip
              by_cases n1 : n = 0
              · skip
                by_cases m1 : m = 2
                · skip
                  have e : errC 10 s u n m = 0 := by simp [errC, arT, arS, binder, hs, hu, n1, m1]
                  rw [← hn, ← hm, e]
                  simp -implicitDefEqProofs [hfr, s0, get_base0, hb, arity_eq, arT, arS, binder, ← hn, ← hm, hs, hu, n1, m1]
                  apply lp0
                  · simp [hfr]
                  · simp [hfr]
                  · simp [hfr]
                  · first | (simp [hfr]; omega) | simp [hfr, hn]
                  · simp [hfr]
                  · simp [get_base0]
                  · intro z fr' o2 hf p1 g2
                    simp -implicitDefEqProofs [hf, p1, g2, z, -getElem?_pos, List.getElem?_cons_zero]
                    apply lp1
                    · simp [hf]
                    · simp [hf, p1]
                    · simp [hf]
                    · simp [hf]
                    · simp [hf]
                    · exact g2
                    · intro z2 fr'' o3 hf2 p2 g3
                      simp -implicitDefEqProofs [hf2, z2]
                    · intro z2 fr'' o3 hf2 p2
                      simp -implicitDefEqProofs [hf2, p2]
                  · intro z fr' o2 hf p2
                    simp -implicitDefEqProofs [hf, p2, z]
                · have mb : (m != 2) = true := by simpa using m1
                  have e : errC 10 s u n m = 12 := by simp [errC, arT, arS, binder, hs, hu, n1, m1, mb]
                  rw [← hn, ← hm, e]
                  simp -implicitDefEqProofs [hfr, s0, get_base0, hb, arity_eq, arT, arS, binder, ← hn, ← hm, hs, hu, n1, m1, mb]
              · have nb : (n != 0) = true := by simpa using n1
                have e : errC 10 s u n m = 12 := by simp [errC, arT, arS, binder, hs, hu, n1, nb]
                rw [← hn, ← hm, e]
                simp -implicitDefEqProofs [hfr, s0, get_base0, hb, arity_eq, arT, arS, binder, ← hn, ← hm, hs, hu, n1, nb]
            · skip
              have e : errC 10 s u n m = 7 := by simp [errC, arT, arS, binder, hs, hu]
              rw [← hn, ← hm, e]
              simp -implicitDefEqProofs [hfr, s0, get_base0, hb, arity_eq, arT, arS, binder, ← hn, ← hm, hs, hu]
          · skip
            have e : errC 10 s u n m = 7 := by simp [errC, arT, arS, binder, hs]
            rw [← hn, ← hm, e]
            simp -implicitDefEqProofs [hfr, s0, get_base0, hb, arity_eq, arT, arS, binder, ← hn, ← hm, hs]
        · rcases Bool.eq_false_or_eq_true (bytesEq s ⟨#[]⟩) with hs | hs
          · rcases Bool.eq_false_or_eq_true (bytesEq u ⟨#[]⟩) with hu | hu
            · skip
              by_cases n1 : n = 0
              · skip
                by_cases m1 : m = 1
                · skip
                  have e : errC 11 s u n m = 0 := by simp [errC, arT, arS, binder, hs, hu, n1, m1]
                  rw [← hn, ← hm, e]
                  simp -implicitDefEqProofs [hfr, s0, get_base0, hb, arity_eq, arT, arS, binder, ← hn, ← hm, hs, hu, n1, m1]
                  apply lp0
                  · simp [hfr]
                  · simp [hfr]
                  · simp [hfr]
                  · first | (simp [hfr]; omega) | simp [hfr, hn]
                  · simp [hfr]
                  · simp [get_base0]
                  · intro z fr' o2 hf p1 g2
                    simp -implicitDefEqProofs [hf, p1, g2, z, -getElem?_pos, List.getElem?_cons_zero]
                    apply lp1
                    · simp [hf]
                    · simp [hf, p1]
                    · simp [hf]
                    · simp [hf]
                    · simp [hf]
                    · exact g2
                    · intro z2 fr'' o3 hf2 p2 g3
                      simp -implicitDefEqProofs [hf2, z2]
                    · intro z2 fr'' o3 hf2 p2
                      simp -implicitDefEqProofs [hf2, p2]
                  · intro z fr' o2 hf p2
                    simp -implicitDefEqProofs [hf, p2, z]
                · have mb : (m != 1) = true := by simpa using m1
                  have e : errC 11 s u n m = 12 := by simp [errC, arT, arS, binder, hs, hu, n1, m1, mb]
                  rw [← hn, ← hm, e]
                  simp -implicitDefEqProofs [hfr, s0, get_base0, hb, arity_eq, arT, arS, binder, ← hn, ← hm, hs, hu, n1, m1, mb]
              · have nb : (n != 0) = true := by simpa using n1
                have e : errC 11 s u n m = 12 := by simp [errC, arT, arS, binder, hs, hu, n1, nb]
                rw [← hn, ← hm, e]
                simp -implicitDefEqProofs [hfr, s0, get_base0, hb, arity_eq, arT, arS, binder, ← hn, ← hm, hs, hu, n1, nb]
            · skip
              by_cases n1 : n = 0
              · skip
                by_cases m1 : m = 1
                · skip
                  have e : errC 11 s u n m = 0 := by simp [errC, arT, arS, binder, hs, hu, n1, m1]
                  rw [← hn, ← hm, e]
                  simp -implicitDefEqProofs [hfr, s0, get_base0, hb, arity_eq, arT, arS, binder, ← hn, ← hm, hs, hu, n1, m1]
                  apply lp0
                  · simp [hfr]
                  · simp [hfr]
                  · simp [hfr]
                  · first | (simp [hfr]; omega) | simp [hfr, hn]
                  · simp [hfr]
                  · simp [get_base0]
                  · intro z fr' o2 hf p1 g2
                    simp -implicitDefEqProofs [hf, p1, g2, z, -getElem?_pos, List.getElem?_cons_zero]
                    apply lp1
                    · simp [hf]
                    · simp [hf, p1]
                    · simp [hf]
                    · simp [hf]
                    · simp [hf]
                    · exact g2
                    · intro z2 fr'' o3 hf2 p2 g3
                      simp -implicitDefEqProofs [hf2, z2]
                    · intro z2 fr'' o3 hf2 p2
                      simp -implicitDefEqProofs [hf2, p2]
                  · intro z fr' o2 hf p2
                    simp -implicitDefEqProofs [hf, p2, z]
                · have mb : (m != 1) = true := by simpa using m1
                  have e : errC 11 s u n m = 12 := by simp [errC, arT, arS, binder, hs, hu, n1, m1, mb]
                  rw [← hn, ← hm, e]
                  simp -implicitDefEqProofs [hfr, s0, get_base0, hb, arity_eq, arT, arS, binder, ← hn, ← hm, hs, hu, n1, m1, mb]
              · have nb : (n != 0) = true := by simpa using n1
                have e : errC 11 s u n m = 12 := by simp [errC, arT, arS, binder, hs, hu, n1, nb]
                rw [← hn, ← hm, e]
                simp -implicitDefEqProofs [hfr, s0, get_base0, hb, arity_eq, arT, arS, binder, ← hn, ← hm, hs, hu, n1, nb]
          · rcases Bool.eq_false_or_eq_true (bytesEq u ⟨#[]⟩) with hu | hu
            · skip
              by_cases n1 : n = 0
              · skip
                by_cases m1 : m = 1
                · skip
                  have e : errC 11 s u n m = 0 := by simp [errC, arT, arS, binder, hs, hu, n1, m1]
                  rw [← hn, ← hm, e]
                  simp -implicitDefEqProofs [hfr, s0, get_base0, hb, arity_eq, arT, arS, binder, ← hn, ← hm, hs, hu, n1, m1]
                  apply lp0
                  · simp [hfr]
                  · simp [hfr]
                  · simp [hfr]
                  · first | (simp [hfr]; omega) | simp [hfr, hn]
                  · simp [hfr]
                  · simp [get_base0]
                  · intro z fr' o2 hf p1 g2
                    simp -implicitDefEqProofs [hf, p1, g2, z, -getElem?_pos, List.getElem?_cons_zero]
                    apply lp1
                    · simp [hf]
                    · simp [hf, p1]
                    · simp [hf]
                    · simp [hf]
                    · simp [hf]
                    · exact g2
                    · intro z2 fr'' o3 hf2 p2 g3
                      simp -implicitDefEqProofs [hf2, z2]
                    · intro z2 fr'' o3 hf2 p2
                      simp -implicitDefEqProofs [hf2, p2]
                  · intro z fr' o2 hf p2
                    simp -implicitDefEqProofs [hf, p2, z]
                · have mb : (m != 1) = true := by simpa using m1
                  have e : errC 11 s u n m = 12 := by simp [errC, arT, arS, binder, hs, hu, n1, m1, mb]
                  rw [← hn, ← hm, e]
                  simp -implicitDefEqProofs [hfr, s0, get_base0, hb, arity_eq, arT, arS, binder, ← hn, ← hm, hs, hu, n1, m1, mb]
              · have nb : (n != 0) = true := by simpa using n1
                have e : errC 11 s u n m = 12 := by simp [errC, arT, arS, binder, hs, hu, n1, nb]
                rw [← hn, ← hm, e]
                simp -implicitDefEqProofs [hfr, s0, get_base0, hb, arity_eq, arT, arS, binder, ← hn, ← hm, hs, hu, n1, nb]
            · skip
              by_cases n1 : n = 0
              · skip
                by_cases m1 : m = 1
                · skip
                  have e : errC 11 s u n m = 0 := by simp [errC, arT, arS, binder, hs, hu, n1, m1]
                  rw [← hn, ← hm, e]
                  simp -implicitDefEqProofs [hfr, s0, get_base0, hb, arity_eq, arT, arS, binder, ← hn, ← hm, hs, hu, n1, m1]
                  apply lp0
                  · simp [hfr]
                  · simp [hfr]
                  · simp [hfr]
                  · first | (simp [hfr]; omega) | simp [hfr, hn]
                  · simp [hfr]
                  · simp [get_base0]
                  · intro z fr' o2 hf p1 g2
                    simp -implicitDefEqProofs [hf, p1, g2, z, -getElem?_pos, List.getElem?_cons_zero]
                    apply lp1
                    · simp [hf]
                    · simp [hf, p1]
                    · simp [hf]
                    · simp [hf]
                    · simp [hf]
                    · exact g2
                    · intro z2 fr'' o3 hf2 p2 g3
                      simp -implicitDefEqProofs [hf2, z2]
                    · intro z2 fr'' o3 hf2 p2
                      simp -implicitDefEqProofs [hf2, p2]
                  · intro z fr' o2 hf p2
                    simp -implicitDefEqProofs [hf, p2, z]
                · have mb : (m != 1) = true := by simpa using m1
                  have e : errC 11 s u n m = 12 := by simp [errC, arT, arS, binder, hs, hu, n1, m1, mb]
                  rw [← hn, ← hm, e]
                  simp -implicitDefEqProofs [hfr, s0, get_base0, hb, arity_eq, arT, arS, binder, ← hn, ← hm, hs, hu, n1, m1, mb]
              · have nb : (n != 0) = true := by simpa using n1
                have e : errC 11 s u n m = 12 := by simp [errC, arT, arS, binder, hs, hu, n1, nb]
                rw [← hn, ← hm, e]
                simp -implicitDefEqProofs [hfr, s0, get_base0, hb, arity_eq, arT, arS, binder, ← hn, ← hm, hs, hu, n1, nb]
        · rcases Bool.eq_false_or_eq_true (bytesEq s ⟨#[]⟩) with hs | hs
          · rcases Bool.eq_false_or_eq_true (bytesEq u ⟨#[]⟩) with hu | hu
            · skip
              by_cases n1 : n = 0
              · skip
                by_cases m1 : m = 1
                · skip
                  have e : errC 12 s u n m = 0 := by simp [errC, arT, arS, binder, hs, hu, n1, m1]
                  rw [← hn, ← hm, e]
                  simp -implicitDefEqProofs [hfr, s0, get_base0, hb, arity_eq, arT, arS, binder, ← hn, ← hm, hs, hu, n1, m1]
                  apply lp0
                  · simp [hfr]
                  · simp [hfr]
                  · simp [hfr]
                  · first | (simp [hfr]; omega) | simp [hfr, hn]
                  · simp [hfr]
                  · simp [get_base0]
                  · intro z fr' o2 hf p1 g2
                    simp -implicitDefEqProofs [hf, p1, g2, z, -getElem?_pos, List.getElem?_cons_zero]
                    apply lp1
                    · simp [hf]
                    · simp [hf, p1]
                    · simp [hf]
                    · simp [hf]
                    · simp [hf]
                    · exact g2
                    · intro z2 fr'' o3 hf2 p2 g3
                      simp -implicitDefEqProofs [hf2, z2]
                    · intro z2 fr'' o3 hf2 p2
                      simp -implicitDefEqProofs [hf2, p2]
                  · intro z fr' o2 hf p2
                    simp -implicitDefEqProofs [hf, p2, z]
                · have mb : (m != 1) = true := by simpa using m1
                  have e : errC 12 s u n m = 12 := by simp [errC, arT, arS, binder, hs, hu, n1, m1, mb]
                  rw [← hn, ← hm, e]
                  simp -implicitDefEqProofs [hfr, s0, get_base0, hb, arity_eq, arT, arS, binder, ← hn, ← hm, hs, hu, n1, m1, mb]
              · have nb : (n != 0) = true := by simpa using n1
                have e : errC 12 s u n m = 12 := by simp [errC, arT, arS, binder, hs, hu, n1, nb]
                rw [← hn, ← hm, e]
                simp -implicitDefEqProofs [hfr, s0, get_base0, hb, arity_eq, arT, arS, binder, ← hn, ← hm, hs, hu, n1, nb]
            · skip
              by_cases n1 : n = 0
              · skip
                by_cases m1 : m = 1
                · skip
                  have e : errC 12 s u n m = 0 := by simp [errC, arT, arS, binder, hs, hu, n1, m1]
                  rw [← hn, ← hm, e]
                  simp -implicitDefEqProofs [hfr, s0, get_base0, hb, arity_eq, arT, arS, binder, ← hn, ← hm, hs, hu, n1, m1]
                  apply lp0
                  · simp [hfr]
                  · simp [hfr]
                  · simp [hfr]
                  · first | (simp [hfr]; omega) | simp [hfr, hn]
                  · simp [hfr]
                  · simp [get_base0]
                  · intro z fr' o2 hf p1 g2
                    simp -implicitDefEqProofs [hf, p1, g2, z, -getElem?_pos, List.getElem?_cons_zero]
                    apply lp1
                    · simp [hf]
                    · simp [hf, p1]
                    · simp [hf]
                    · simp [hf]
                    · simp [hf]
                    · exact g2
                    · intro z2 fr'' o3 hf2 p2 g3
                      simp -implicitDefEqProofs [hf2, z2]
                    · intro z2 fr'' o3 hf2 p2
                      simp -implicitDefEqProofs [hf2, p2]
                  · intro z fr' o2 hf p2
                    simp -implicitDefEqProofs [hf, p2, z]
                · have mb : (m != 1) = true := by simpa using m1
                  have e : errC 12 s u n m = 12 := by simp [errC, arT, arS, binder, hs, hu, n1, m1, mb]
                  rw [← hn, ← hm, e]
                  simp -implicitDefEqProofs [hfr, s0, get_base0, hb, arity_eq, arT, arS, binder, ← hn, ← hm, hs, hu, n1, m1, mb]
              · have nb : (n != 0) = true := by simpa using n1
                have e : errC 12 s u n m = 12 := by simp [errC, arT, arS, binder, hs, hu, n1, nb]
                rw [← hn, ← hm, e]
                simp -implicitDefEqProofs [hfr, s0, get_base0, hb, arity_eq, arT, arS, binder, ← hn, ← hm, hs, hu, n1, nb]
          · rcases Bool.eq_false_or_eq_true (bytesEq u ⟨#[]⟩) with hu | hu
            · skip
              by_cases n1 : n = 0
              · skip
                by_cases m1 : m = 1
                · skip
                  have e : errC 12 s u n m = 0 := by simp [errC, arT, arS, binder, hs, hu, n1, m1]
                  rw [← hn, ← hm, e]
                  simp -implicitDefEqProofs [hfr, s0, get_base0, hb, arity_eq, arT, arS, binder, ← hn, ← hm, hs, hu, n1, m1]
                  apply lp0
                  · simp [hfr]
                  · simp [hfr]
                  · simp [hfr]
                  · first | (simp [hfr]; omega) | simp [hfr, hn]
                  · simp [hfr]
                  · simp [get_base0]
                  · intro z fr' o2 hf p1 g2
                    simp -implicitDefEqProofs [hf, p1, g2, z, -getElem?_pos, List.getElem?_cons_zero]
                    apply lp1
                    · simp [hf]
                    · simp [hf, p1]
                    · simp [hf]
                    · simp [hf]
                    · simp [hf]
                    · exact g2
                    · intro z2 fr'' o3 hf2 p2 g3
                      simp -implicitDefEqProofs [hf2, z2]
                    · intro z2 fr'' o3 hf2 p2
                      simp -implicitDefEqProofs [hf2, p2]
                  · intro z fr' o2 hf p2
                    simp -implicitDefEqProofs [hf, p2, z]
                · have mb : (m != 1) = true := by simpa using m1
                  have e : errC 12 s u n m = 12 := by simp [errC, arT, arS, binder, hs, hu, n1, m1, mb]
                  rw [← hn, ← hm, e]
                  simp -implicitDefEqProofs [hfr, s0, get_base0, hb, arity_eq, arT, arS, binder, ← hn, ← hm, hs, hu, n1, m1, mb]
              · have nb : (n != 0) = true := by simpa using n1
                have e : errC 12 s u n m = 12 := by simp [errC, arT, arS, binder, hs, hu, n1, nb]
                rw [← hn, ← hm, e]
                simp -implicitDefEqProofs [hfr, s0, get_base0, hb, arity_eq, arT, arS, binder, ← hn, ← hm, hs, hu, n1, nb]
            · skip
              by_cases n1 : n = 0
              · skip
                by_cases m1 : m = 1
                · skip
                  have e : errC 12 s u n m = 0 := by simp [errC, arT, arS, binder, hs, hu, n1, m1]
                  rw [← hn, ← hm, e]
                  simp -implicitDefEqProofs [hfr, s0, get_base0, hb, arity_eq, arT, arS, binder, ← hn, ← hm, hs, hu, n1, m1]
                  apply lp0
                  · simp [hfr]
                  · simp [hfr]
                  · simp [hfr]
                  · first | (simp [hfr]; omega) | simp [hfr, hn]
                  · simp [hfr]
                  · simp [get_base0]
                  · intro z fr' o2 hf p1 g2
                    simp -implicitDefEqProofs [hf, p1, g2, z, -getElem?_pos, List.getElem?_cons_zero]
                    apply lp1
                    · simp [hf]
                    · simp [hf, p1]
                    · simp [hf]
                    · simp [hf]
                    · simp [hf]
                    · exact g2
                    · intro z2 fr'' o3 hf2 p2 g3
                      simp -implicitDefEqProofs [hf2, z2]
                    · intro z2 fr'' o3 hf2 p2
                      simp -implicitDefEqProofs [hf2, p2]
                  · intro z fr' o2 hf p2
                    simp -implicitDefEqProofs [hf, p2, z]
                · have mb : (m != 1) = true := by simpa using m1
                  have e : errC 12 s u n m = 12 := by simp [errC, arT, arS, binder, hs, hu, n1, m1, mb]
                  rw [← hn, ← hm, e]
                  simp -implicitDefEqProofs [hfr, s0, get_base0, hb, arity_eq, arT, arS, binder, ← hn, ← hm, hs, hu, n1, m1, mb]
              · have nb : (n != 0) = true := by simpa using n1
                have e : errC 12 s u n m = 12 := by simp [errC, arT, arS, binder, hs, hu, n1, nb]
                rw [← hn, ← hm, e]
                simp -implicitDefEqProofs [hfr, s0, get_base0, hb, arity_eq, arT, arS, binder, ← hn, ← hm, hs, hu, n1, nb]
termination_by t => SizeOf.sizeOf t
decreasing_by
  have := List.sizeOf_lt_of_mem hx
  simp
  omega

end Go.Proofs.YtpenaaljaahanaaDoor.A
