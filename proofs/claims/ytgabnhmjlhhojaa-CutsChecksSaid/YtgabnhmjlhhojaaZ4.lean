/- What is wrong with a cut's first part, and the first error: the program's functions and the document's. -/
import Derived.Test.YtgabnhmjlhhojaaZ2
namespace Go.Proofs.Ytgabnhmjlhhojaa.A
open Go
set_option maxRecDepth 10000
set_option linter.unusedSimpArgs false
set_option linter.unusedVariables false
attribute [-simp] List.all_eq_true put slot_def ld idxA lenOf elems canA app hand

/-- is a part's arity wrong? -/
def ar31 (kd : Int) (n f b : Nat) : Bool := decide ((n : Int) ≠ kd - 1) || (decide (kd = 1) && decide (f ≠ 1)) || (decide (kd = 2) && (decide (f = 0) || decide (f ≠ b)))
/-- what is wrong with a part -/
def er31 : Cu → Int
  | .mk kd fr by' _ _ _ cs => if kd < 1 ∨ 3 < kd then 7 else bif ar31 kd cs.length fr.length by'.length then 12 else 0
mutual
/-- the first error -/
def pe : Cu → Int
  | .mk kd fr by' dv kk ms cs => if er31 (.mk kd fr by' dv kk ms cs) ≠ 0 then er31 (.mk kd fr by' dv kk ms cs) else peL cs
def peL : List Cu → Int
  | [] => 0
  | c :: l => if pe c ≠ 0 then pe c else peL l
end

theorem shape_eq (c : Cu) (v : AV) (hv : canA v = v) (o : List Obj) (ro : Nat) (df : List Nat) : (D T).call 33 [c.av, v] ⟨o, ro, df⟩ = some (.int .i64 (er31 c), ⟨o, ro, df⟩) := by
  obtain ⟨kd, fr0, by0, dv, kk, ms, cs⟩ := c
  have hE : er31 (.mk kd fr0 by0 dv kk ms cs) = if kd < 1 ∨ 3 < kd then 7 else bif ar31 kd cs.length fr0.length by0.length then 12 else 0 := rfl
  generalize er31 (.mk kd fr0 by0 dv kk ms cs) = R at *
  apply call_by (by exact rfl : T 33 = some _) (by simp [hv])
  intro fr hfr hsl
  have s0 := hsl 0 _ rfl
  simp only [Cu.av, Cu.cells_mk] at s0
  by_cases h1 : kd = 1
  · subst h1
    by_cases e1 : cs.length = 0
    · by_cases e2 : fr0.length = 1
      · simp [ar31, e1, e2] at hE
        subst hE
        simp -implicitDefEqProofs [hfr, s0, get_base0, get_base, set_base0, set_base, intA_len, e1, e2, -getElem?_pos, List.getElem?_cons_zero, List.getElem?_cons_succ]
      · have e2' : ¬ ((fr0.length : Int) = 1) := by omega
        have e2'b : ((fr0.length : Int) != 1) = true := bne_iff_ne.2 e2'
        have e2'q : ((fr0.length : Int) == 1) = false := by simpa using e2'
        simp [ar31, e1, e2] at hE
        subst hE
        simp -implicitDefEqProofs [hfr, s0, get_base0, get_base, set_base0, set_base, intA_len, e1, e2, e2', e2'b, e2'q, -getElem?_pos, List.getElem?_cons_zero, List.getElem?_cons_succ]
    · have e1' : ¬ ((cs.length : Int) = 0) := by omega
      have e1'b : ((cs.length : Int) != 0) = true := bne_iff_ne.2 e1'
      have e1'q : ((cs.length : Int) == 0) = false := by simpa using e1'
      simp [ar31, e1, e1'] at hE
      subst hE
      simp -implicitDefEqProofs [hfr, s0, get_base0, get_base, set_base0, set_base, intA_len, e1, e1', e1'b, e1'q, -getElem?_pos, List.getElem?_cons_zero, List.getElem?_cons_succ]
  by_cases h2 : kd = 2
  · subst h2
    by_cases e1 : cs.length = 1
    · by_cases e2 : fr0.length = by0.length
      · by_cases e3 : by0.length = 0
        · simp [ar31, e1, e2, e3] at hE
          subst hE
          simp -implicitDefEqProofs [hfr, s0, get_base0, get_base, set_base0, set_base, intA_len, e1, e2, e3, -getElem?_pos, List.getElem?_cons_zero, List.getElem?_cons_succ]
        · have e3' : ¬ ((by0.length : Int) = 0) := by omega
          have e3'b : ((by0.length : Int) != 0) = true := bne_iff_ne.2 e3'
          have e3'q : ((by0.length : Int) == 0) = false := by simpa using e3'
          simp [ar31, e1, e2, e3] at hE
          subst hE
          simp -implicitDefEqProofs [hfr, s0, get_base0, get_base, set_base0, set_base, intA_len, e1, e2, e3, e3', e3'b, e3'q, -getElem?_pos, List.getElem?_cons_zero, List.getElem?_cons_succ]
      · have e2' : ¬ ((fr0.length : Int) = (by0.length : Int)) := by omega
        have e2'b : ((fr0.length : Int) != (by0.length : Int)) = true := bne_iff_ne.2 e2'
        have e2'q : ((fr0.length : Int) == (by0.length : Int)) = false := by simpa using e2'
        simp [ar31, e1, e2] at hE
        subst hE
        simp -implicitDefEqProofs [hfr, s0, get_base0, get_base, set_base0, set_base, intA_len, e1, e2, e2', e2'b, e2'q, -getElem?_pos, List.getElem?_cons_zero, List.getElem?_cons_succ]
    · have e1' : ¬ ((cs.length : Int) = 1) := by omega
      have e1'b : ((cs.length : Int) != 1) = true := bne_iff_ne.2 e1'
      have e1'q : ((cs.length : Int) == 1) = false := by simpa using e1'
      simp [ar31, e1, e1'] at hE
      subst hE
      simp -implicitDefEqProofs [hfr, s0, get_base0, get_base, set_base0, set_base, intA_len, e1, e1', e1'b, e1'q, -getElem?_pos, List.getElem?_cons_zero, List.getElem?_cons_succ]
  by_cases h3 : kd = 3
  · subst h3
    by_cases e1 : cs.length = 2
    · simp [ar31, e1] at hE
      subst hE
      simp -implicitDefEqProofs [hfr, s0, get_base0, get_base, set_base0, set_base, intA_len, e1, -getElem?_pos, List.getElem?_cons_zero, List.getElem?_cons_succ]
    · have e1' : ¬ ((cs.length : Int) = 2) := by omega
      have e1'b : ((cs.length : Int) != 2) = true := bne_iff_ne.2 e1'
      have e1'q : ((cs.length : Int) == 2) = false := by simpa using e1'
      simp [ar31, e1, e1'] at hE
      subst hE
      simp -implicitDefEqProofs [hfr, s0, get_base0, get_base, set_base0, set_base, intA_len, e1, e1', e1'b, e1'q, -getElem?_pos, List.getElem?_cons_zero, List.getElem?_cons_succ]
  have h1' : (kd == 1) = false := by simpa using h1
  have h2' : (kd == 2) = false := by simpa using h2
  have h3' : (kd == 3) = false := by simpa using h3
  rw [if_pos (by omega)] at hE
  subst hE
  simp -implicitDefEqProofs [hfr, s0, get_base0, get_base, set_base0, set_base, intA_len, h1, h2, h3, h1', h2', h3', -getElem?_pos, List.getElem?_cons_zero, List.getElem?_cons_succ]

end Go.Proofs.Ytgabnhmjlhhojaa.A
/- The first error of a cut, with its way: the program's walk, and the document's part. -/
namespace Go.Proofs.Ytgabnhmjlhhojaa.A
open Go
set_option maxRecDepth 10000
set_option linter.unusedSimpArgs false
set_option linter.unusedVariables false
attribute [-simp] List.all_eq_true put slot_def ld idxA lenOf elems canA app hand slc

theorem er31_cases (kd : Int) (n f b : Nat) : (kd < 1 ∨ 3 < kd) ∨ (kd = 1 ∧ ((n ≠ 0) ∨ (n = 0 ∧ f ≠ 1) ∨ (n = 0 ∧ f = 1))) ∨ (kd = 2 ∧ ((n ≠ 1) ∨ (n = 1 ∧ f = 0) ∨ (n = 1 ∧ f ≠ 0 ∧ f ≠ b) ∨ (n = 1 ∧ f ≠ 0 ∧ f = b))) ∨ (kd = 3 ∧ (n ≠ 2 ∨ n = 2)) := by omega

theorem rpart_eq : ∀ (c : Cu), c.ok → ∀ (o : List Obj) (ro : Nat) (df : List Nat), (D T).call 34 [c.av] ⟨o, ro, df⟩ = some (.int .i64 (pe c), ⟨o, ro, df⟩)
  | .mk kd fr0 by0 dv kk ms cs, hok, o, ro, df => by
    simp only [Cu.ok] at hok
    obtain ⟨_, _, _, _, _, _, o4, o5⟩ := hok
    have hl := okCu_iff.1 o5
    unfold mxB at o4
    have mx : cs.length ≤ 9223372036854775807 := by omega
    have ih := fun x (hx : x ∈ cs) o ro df => rpart_eq x (hl x hx) o ro df
    have hE : pe (.mk kd fr0 by0 dv kk ms cs) = if er31 (.mk kd fr0 by0 dv kk ms cs) ≠ 0 then er31 (.mk kd fr0 by0 dv kk ms cs) else peL cs := rfl
    have hE2 : er31 (.mk kd fr0 by0 dv kk ms cs) = if kd < 1 ∨ 3 < kd then 7 else bif ar31 kd cs.length fr0.length by0.length then 12 else 0 := rfl
    generalize er31 (.mk kd fr0 by0 dv kk ms cs) = ER at hE hE2
    generalize pe (.mk kd fr0 by0 dv kk ms cs) = R at hE ⊢
    simp only [Cu.av] at ih
    obtain ⟨B, hB⟩ : ∃ B, B = Obj.arr 29 7 [[.int .i64 kd, .sl 1 (intA fr0), .sl 1 (intA by0), .int .i64 dv, .int .i64 kk, .sl 2 (moA ms), .sl 7 (cs.map Cu.cells)]] := ⟨_, rfl⟩
    have lp : ∀ (fr : List AV) (Q : AE → List AV → St → Prop), fr.length = 67 → slot fr 1 = .ptr o.length 0 0 → slot fr 3 = .int .i64 0 →
        (peL cs = 0 → ∀ fr' : List AV, fr'.length = 67 → Q (.exit 0) fr' ⟨o ++ [B], o.length, []⟩) → (∀ fr' : List AV, fr'.length = 67 → slot fr' 2 = .int .i64 (peL cs) → Q .ret fr' ⟨o ++ [B], o.length, []⟩) →
        ∃ e fr' st', (D T).loop false L34_0 fr ⟨o ++ [B], o.length, []⟩ = some (e, fr', st') ∧ Q e fr' st' := by
      intro fr Q hfr q1 q3 k1 k2
      apply loop_inv L34_0.eq_1 List.length (fun (rest : List Cu) fr st => ∃ pre, cs = pre ++ rest ∧ fr.length = 67 ∧ slot fr 1 = .ptr o.length 0 0 ∧ slot fr 3 = .int .i64 (pre.length : Int) ∧ st = ⟨o ++ [B], o.length, []⟩ ∧ peL cs = peL rest) ?_ cs ⟨[], rfl, hfr, q1, q3, rfl, rfl⟩
      clear hfr q1 q3
      rintro rest fr _ ⟨pre, e, hfr, q1, q3, rfl, hn⟩
      cases rest with
      | nil =>
        have hlt := idx_end e
        simp only [peL] at hn
        rw [hB]
        simp -implicitDefEqProofs [hfr, q1, q3, hlt, get_base0, -getElem?_pos, List.getElem?_cons_zero]
        rw [← hB]
        exact k1 hn _ (by simp [hfr])
      | cons x rest =>
        obtain ⟨hlt, hg, hpl⟩ := idx_at e
        have hw := idx_next e mx
        have hx : x ∈ cs := by simp [e]
        have hc := fun o ro df => ih x hx o ro df
        have y1 := cu_take x
        have y2 := cu_can x
        have y3 := culen x
        simp only [peL] at hn
        by_cases hz : pe x = 0
        · rw [if_neg (by simpa using hz)] at hn
          rw [hz] at hc
          rw [hB]
          simp -implicitDefEqProofs [hfr, q1, q3, hlt, get_base0, hg, hpl, hw, hc, y1, y2, y3, -List.getElem_map, -getElem?_pos, List.getElem?_cons_zero]
          try rw [← hB]
          exact ⟨rest, by simp, pre ++ [x], by simp [e], by simp, hn⟩
        · rw [if_pos hz] at hn
          have hzb : (pe x != 0) = true := bne_iff_ne.2 hz
          have hzq : (pe x == 0) = false := by simpa using hz
          rw [hB]
          simp -implicitDefEqProofs [hfr, q1, q3, hlt, get_base0, hg, hpl, hw, hc, hz, hzb, hzq, y1, y2, y3, -List.getElem_map, -getElem?_pos, List.getElem?_cons_zero]
          rw [← hB]
          exact k2 _ (by simp [hfr]) (by simp [hfr, hn])
    apply call_by (by exact rfl : T 34 = some _) (by simp)
    intro fr hfr hsl
    have s0 := hsl 0 _ rfl
    simp only [Cu.av, Cu.cells_mk] at s0
    rcases er31_cases kd cs.length fr0.length by0.length with h | ⟨rfl, h⟩ | ⟨rfl, h⟩ | ⟨rfl, h⟩
    · rw [if_pos h] at hE2
      subst hE2
      rw [if_pos (by omega)] at hE
      subst hE
      by_cases h1 : kd < 1
      · simp -implicitDefEqProofs [hfr, s0, get_base0, h1, -getElem?_pos, List.getElem?_cons_zero]
      · have h2 : 3 < kd := by omega
        simp -implicitDefEqProofs [hfr, s0, get_base0, h1, h2, -getElem?_pos, List.getElem?_cons_zero]
    · have w0 : IntKind.i64.wrap 0 = 0 := wrap_id (by omega) (by omega)
      rcases h with e1 | ⟨e1, e2⟩ | ⟨e1, e2⟩
      · have e1' : ¬ ((cs.length : Int) = 0) := by omega
        have e1'b : ((cs.length : Int) != 0) = true := bne_iff_ne.2 e1'
        have e1'q : ((cs.length : Int) == 0) = false := by simpa using e1'
        simp [ar31, e1, e1'] at hE2
        subst hE2
        simp at hE
        subst hE
        simp -implicitDefEqProofs [hfr, s0, get_base0, intA_len, w0, e1, e1', e1'b, e1'q, -getElem?_pos, List.getElem?_cons_zero, List.getElem?_cons_succ]
      · have e2' : ¬ ((fr0.length : Int) = 1) := by omega
        have e2'b : ((fr0.length : Int) != 1) = true := bne_iff_ne.2 e2'
        have e2'q : ((fr0.length : Int) == 1) = false := by simpa using e2'
        simp [ar31, e1, e2, e2'] at hE2
        subst hE2
        simp at hE
        subst hE
        simp -implicitDefEqProofs [hfr, s0, get_base0, intA_len, w0, e1, e2, e2', e2'b, e2'q, -getElem?_pos, List.getElem?_cons_zero, List.getElem?_cons_succ]
      · simp [ar31, e1, e2] at hE2
        subst hE2
        simp at hE
        subst hE
        simp -implicitDefEqProofs [hfr, s0, get_base0, intA_len, w0, e1, e2, -getElem?_pos, List.getElem?_cons_zero, List.getElem?_cons_succ]
        try rw [← hB]
        apply lp _ _ (by simp [hfr]) (by simp [hfr]) (by simp [hfr])
        · intro hz fr' g1
          simp -implicitDefEqProofs [g1, hz]
        · intro fr' g1 g2
          simp -implicitDefEqProofs [g1, g2]
    · have w0 : IntKind.i64.wrap 1 = 1 := wrap_id (by omega) (by omega)
      rcases h with e1 | ⟨e1, e2⟩ | ⟨e1, e2, e3⟩ | ⟨e1, e2, e3⟩
      · have e1' : ¬ ((cs.length : Int) = 1) := by omega
        have e1'b : ((cs.length : Int) != 1) = true := bne_iff_ne.2 e1'
        have e1'q : ((cs.length : Int) == 1) = false := by simpa using e1'
        simp [ar31, e1, e1'] at hE2
        subst hE2
        simp at hE
        subst hE
        simp -implicitDefEqProofs [hfr, s0, get_base0, intA_len, w0, e1, e1', e1'b, e1'q, -getElem?_pos, List.getElem?_cons_zero, List.getElem?_cons_succ]
      · simp [ar31, e1, e2] at hE2
        subst hE2
        simp at hE
        subst hE
        simp -implicitDefEqProofs [hfr, s0, get_base0, intA_len, w0, e1, e2, -getElem?_pos, List.getElem?_cons_zero, List.getElem?_cons_succ]
      · have e2' : ¬ ((fr0.length : Int) = 0) := by omega
        have e2'b : ((fr0.length : Int) != 0) = true := bne_iff_ne.2 e2'
        have e2'q : ((fr0.length : Int) == 0) = false := by simpa using e2'
        have e3' : ¬ ((fr0.length : Int) = (by0.length : Int)) := by omega
        have e3'b : ((fr0.length : Int) != (by0.length : Int)) = true := bne_iff_ne.2 e3'
        simp [ar31, e1, e2, e3, e2', e3'] at hE2
        subst hE2
        simp at hE
        subst hE
        simp -implicitDefEqProofs [hfr, s0, get_base0, intA_len, w0, e1, e2, e2', e2'b, e2'q, e3, e3', e3'b, -getElem?_pos, List.getElem?_cons_zero, List.getElem?_cons_succ]
      · rw [e3] at e2
        have e2' : ¬ ((by0.length : Int) = 0) := by omega
        have e2'b : ((by0.length : Int) != 0) = true := bne_iff_ne.2 e2'
        have e2'q : ((by0.length : Int) == 0) = false := by simpa using e2'
        simp [ar31, e1, e2, e3, e2'] at hE2
        subst hE2
        simp at hE
        subst hE
        simp -implicitDefEqProofs [hfr, s0, get_base0, intA_len, w0, e1, e2, e2', e2'b, e2'q, e3, -getElem?_pos, List.getElem?_cons_zero, List.getElem?_cons_succ]
        try rw [← hB]
        apply lp _ _ (by simp [hfr]) (by simp [hfr]) (by simp [hfr])
        · intro hz fr' g1
          simp -implicitDefEqProofs [g1, hz]
        · intro fr' g1 g2
          simp -implicitDefEqProofs [g1, g2]
    · have w0 : IntKind.i64.wrap 2 = 2 := wrap_id (by omega) (by omega)
      rcases h with e1 | e1
      · have e1' : ¬ ((cs.length : Int) = 2) := by omega
        have e1'b : ((cs.length : Int) != 2) = true := bne_iff_ne.2 e1'
        have e1'q : ((cs.length : Int) == 2) = false := by simpa using e1'
        simp [ar31, e1, e1'] at hE2
        subst hE2
        simp at hE
        subst hE
        simp -implicitDefEqProofs [hfr, s0, get_base0, intA_len, w0, e1, e1', e1'b, e1'q, -getElem?_pos, List.getElem?_cons_zero, List.getElem?_cons_succ]
      · simp [ar31, e1] at hE2
        subst hE2
        simp at hE
        subst hE
        simp -implicitDefEqProofs [hfr, s0, get_base0, intA_len, w0, e1, -getElem?_pos, List.getElem?_cons_zero, List.getElem?_cons_succ]
        try rw [← hB]
        apply lp _ _ (by simp [hfr]) (by simp [hfr]) (by simp [hfr])
        · intro hz fr' g1
          simp -implicitDefEqProofs [g1, hz]
        · intro fr' g1 g2
          simp -implicitDefEqProofs [g1, g2]
termination_by t => SizeOf.sizeOf t
decreasing_by
  have := List.sizeOf_lt_of_mem hx
  simp
  omega

end Go.Proofs.Ytgabnhmjlhhojaa.A
