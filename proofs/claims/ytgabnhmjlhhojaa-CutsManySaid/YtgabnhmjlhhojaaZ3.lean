/- What is wrong with a cut's first part, and the first error: the program's functions and the document's. -/
import Derived.Test.YtgabnhmjlhhojaaZ2
namespace Go.Proofs.Ytgabnhmjlhhojaa.A
open Go
set_option maxRecDepth 10000
set_option linter.unusedSimpArgs false
set_option linter.unusedVariables false
attribute [-simp] List.all_eq_true put slot_def ld idxA lenOf elems canA app hand

/-- is a part's arity wrong? -/
def ar31 (kd : Int) (n f b : Nat) : Bool := decide ((n : Int) ≠ kd - 1) || (decide (kd = 1) && decide (f ≠ 1)) || (decide (kd = 2) && (decide (f = 0) || decide (f ≠ b)))
/-- what is wrong with a part -/
def er31 : Cu → Int
  | .mk kd fr by' _ _ _ cs => if kd < 1 ∨ 3 < kd then 7 else bif ar31 kd cs.length fr.length by'.length then 12 else 0
mutual
/-- the first error -/
def pe : Cu → Int
  | .mk kd fr by' dv kk ms cs => if er31 (.mk kd fr by' dv kk ms cs) ≠ 0 then er31 (.mk kd fr by' dv kk ms cs) else peL cs
def peL : List Cu → Int
  | [] => 0
  | c :: l => if pe c ≠ 0 then pe c else peL l
end

theorem shape_eq (c : Cu) (v : AV) (hv : canA v = v) (o : List Obj) (ro : Nat) (df : List Nat) : (D T).call 33 [c.av, v] ⟨o, ro, df⟩ = some (.int .i64 (er31 c), ⟨o, ro, df⟩) := by
  obtain ⟨kd, fr0, by0, dv, kk, ms, cs⟩ := c
  have hE : er31 (.mk kd fr0 by0 dv kk ms cs) = if kd < 1 ∨ 3 < kd then 7 else bif ar31 kd cs.length fr0.length by0.length then 12 else 0 := rfl
  generalize er31 (.mk kd fr0 by0 dv kk ms cs) = R at *
  apply call_by (by exact rfl : T 33 = some _) (by simp [hv])
  intro fr hfr hsl
  have s0 := hsl 0 _ rfl
  simp only [Cu.av, Cu.cells_mk] at s0
  by_cases h1 : kd = 1
  · subst h1
    by_cases e1 : cs.length = 0
    · by_cases e2 : fr0.length = 1
      · simp [ar31, e1, e2] at hE
        subst hE
        simp -implicitDefEqProofs [hfr, s0, get_base0, get_base, set_base0, set_base, intA_len, e1, e2, -getElem?_pos, List.getElem?_cons_zero, List.getElem?_cons_succ]
      · have e2' : ¬ ((fr0.length : Int) = 1) := by omega
        have e2'b : ((fr0.length : Int) != 1) = true := bne_iff_ne.2 e2'
        have e2'q : ((fr0.length : Int) == 1) = false := by simpa using e2'
        simp [ar31, e1, e2] at hE
        subst hE
        simp -implicitDefEqProofs [hfr, s0, get_base0, get_base, set_base0, set_base, intA_len, e1, e2, e2', e2'b, e2'q, -getElem?_pos, List.getElem?_cons_zero, List.getElem?_cons_succ]
    · have e1' : ¬ ((cs.length : Int) = 0) := by omega
      have e1'b : ((cs.length : Int) != 0) = true := bne_iff_ne.2 e1'
      have e1'q : ((cs.length : Int) == 0) = false := by simpa using e1'
      simp [ar31, e1, e1'] at hE
      subst hE
      simp -implicitDefEqProofs [hfr, s0, get_base0, get_base, set_base0, set_base, intA_len, e1, e1', e1'b, e1'q, -getElem?_pos, List.getElem?_cons_zero, List.getElem?_cons_succ]
  by_cases h2 : kd = 2
  · subst h2
    by_cases e1 : cs.length = 1
    · by_cases e2 : fr0.length = by0.length
      · by_cases e3 : by0.length = 0
        · simp [ar31, e1, e2, e3] at hE
          subst hE
          simp -implicitDefEqProofs [hfr, s0, get_base0, get_base, set_base0, set_base, intA_len, e1, e2, e3, -getElem?_pos, List.getElem?_cons_zero, List.getElem?_cons_succ]
        · have e3' : ¬ ((by0.length : Int) = 0) := by omega
          have e3'b : ((by0.length : Int) != 0) = true := bne_iff_ne.2 e3'
          have e3'q : ((by0.length : Int) == 0) = false := by simpa using e3'
          simp [ar31, e1, e2, e3] at hE
          subst hE
          simp -implicitDefEqProofs [hfr, s0, get_base0, get_base, set_base0, set_base, intA_len, e1, e2, e3, e3', e3'b, e3'q, -getElem?_pos, List.getElem?_cons_zero, List.getElem?_cons_succ]
      · have e2' : ¬ ((fr0.length : Int) = (by0.length : Int)) := by omega
        have e2'b : ((fr0.length : Int) != (by0.length : Int)) = true := bne_iff_ne.2 e2'
        have e2'q : ((fr0.length : Int) == (by0.length : Int)) = false := by simpa using e2'
        simp [ar31, e1, e2] at hE
        subst hE
        simp -implicitDefEqProofs [hfr, s0, get_base0, get_base, set_base0, set_base, intA_len, e1, e2, e2', e2'b, e2'q, -getElem?_pos, List.getElem?_cons_zero, List.getElem?_cons_succ]
    · have e1' : ¬ ((cs.length : Int) = 1) := by omega
      have e1'b : ((cs.length : Int) != 1) = true := bne_iff_ne.2 e1'
      have e1'q : ((cs.length : Int) == 1) = false := by simpa using e1'
      simp [ar31, e1, e1'] at hE
      subst hE
      simp -implicitDefEqProofs [hfr, s0, get_base0, get_base, set_base0, set_base, intA_len, e1, e1', e1'b, e1'q, -getElem?_pos, List.getElem?_cons_zero, List.getElem?_cons_succ]
  by_cases h3 : kd = 3
  · subst h3
    by_cases e1 : cs.length = 2
    · simp [ar31, e1] at hE
      subst hE
      simp -implicitDefEqProofs [hfr, s0, get_base0, get_base, set_base0, set_base, intA_len, e1, -getElem?_pos, List.getElem?_cons_zero, List.getElem?_cons_succ]
    · have e1' : ¬ ((cs.length : Int) = 2) := by omega
      have e1'b : ((cs.length : Int) != 2) = true := bne_iff_ne.2 e1'
      have e1'q : ((cs.length : Int) == 2) = false := by simpa using e1'
      simp [ar31, e1, e1'] at hE
      subst hE
      simp -implicitDefEqProofs [hfr, s0, get_base0, get_base, set_base0, set_base, intA_len, e1, e1', e1'b, e1'q, -getElem?_pos, List.getElem?_cons_zero, List.getElem?_cons_succ]
  have h1' : (kd == 1) = false := by simpa using h1
  have h2' : (kd == 2) = false := by simpa using h2
  have h3' : (kd == 3) = false := by simpa using h3
  rw [if_pos (by omega)] at hE
  subst hE
  simp -implicitDefEqProofs [hfr, s0, get_base0, get_base, set_base0, set_base, intA_len, h1, h2, h3, h1', h2', h3', -getElem?_pos, List.getElem?_cons_zero, List.getElem?_cons_succ]

end Go.Proofs.Ytgabnhmjlhhojaa.A
