/- Lists of clauses, lemmas and proofs: when two are the same, by slices.EqualFunc (printed by genx1.py). -/
import Derived.Test.YtkecobdhgabknaaDoorX1
namespace Go.Proofs.YtkecobdhgabknaaDoor.A
open Go
set_option maxRecDepth 10000
set_option linter.unusedSimpArgs false
set_option linter.unusedVariables false
attribute [-simp] List.all_eq_true put slot_def ld idxA lenOf elems canA app hand

section
variable {ceq : Cu → Cu → Bool} {heq' : Ch → Ch → Bool} {lmeq : Lm → Lm → Bool} {peq : Pf → Pf → Bool}

theorem schains_eq (l k : List Ch) (g : Nat) (hl : l.length ≤ mxB) (ih : ∀ t ∈ l, ∀ u ∈ k, ∀ st, (D T).call g [.agg (Ch.cells t), .agg (Ch.cells u)] st = some (.bool (heq' t u), st)) (st : St) :
    (D T).call 55 [.sl 2 (l.map Ch.cells), .sl 2 (k.map Ch.cells), .fn (.func g) [] []] st = some (.bool (l.length == k.length && leq heq' l k), st) := by
  obtain ⟨o, ro, df⟩ := st
  have hmx : l.length ≤ 9223372036854775807 := Nat.le_trans hl (by decide)
  have sa : ∀ (cs : List AV) (t : Ch), cs.length = 2 → setMany cs 0 (Ch.cells t) = Ch.cells t := fun cs t h => set_all _ _ (by rw [h, chlen])
  apply call_by (by exact rfl : T 55 = some _) (by simp)
  intro fr hfr hsl
  have s0 := hsl 0 _ rfl
  have s1 := hsl 1 _ rfl
  have s2 := hsl 2 _ rfl
  by_cases hlk : l.length = k.length
  · simp -implicitDefEqProofs [hfr, s0, s1, s2, hlk]
    apply loop_inv L55_0.eq_1 (fun s : List Ch × List Ch => s.1.length) (fun s fr st => ∃ pre pre' o', l = pre ++ s.1 ∧ k = pre' ++ s.2 ∧ pre.length = pre'.length ∧ fr.length = 32 ∧ slot fr 1 = .sl 2 (k.map Ch.cells) ∧ slot fr 2 = .fn (.func g) [] [] ∧ slot fr 15 = .sl 2 (l.map Ch.cells) ∧ slot fr 16 = .int .i64 (k.length : Int) ∧ slot fr 17 = .int .i64 (pre.length : Int) ∧
      st = ⟨o', o.length, []⟩ ∧ o.length ≤ o'.length ∧ leq heq' l k = leq heq' s.1 s.2) ?_ (l, k) ⟨[], [], o, rfl, rfl, rfl, by simp [hfr], by simp [hfr, s1], by simp [hfr, s2], by simp [hfr, s0], by simp [hfr, hlk], by simp [hfr], rfl, Nat.le_refl _, rfl⟩
    rintro ⟨rest, rest'⟩ fr _ ⟨pre, pre', o', e, e', hp, hfr, q1, q2, q15, q16, q17, rfl, hle, hin⟩
    simp only at e e' hin
    cases rest with
    | nil =>
      have hlt := idx_end e
      have hlt2 : ¬ ((pre.length : Int) < (k.length : Int)) := by rw [← hlk]; exact hlt
      cases rest' with
      | nil => simp -implicitDefEqProofs [hfr, q1, q2, q15, q16, q17, hlt2, hin, leq]
      | cons u rest' => simp [e, e'] at hlk; omega
    | cons t rest =>
      cases rest' with
      | nil => simp [e, e'] at hlk; omega
      | cons u rest' =>
        obtain ⟨hlt, hg, hpl⟩ := idx_at e
        obtain ⟨hlt', hg', hpl'⟩ := idx_at e'
        rw [← hp] at hlt' hg' hpl'
        have hw := idx_next e hmx
        have hu := ih t (by simp [e]) u (by simp [e'])
        have c1 := ch_can t
        have c2 := ch_can u
        have t1 := ch_take t
        have t2 := ch_take u
        have n1 := chlen t
        have n2 := chlen u
        have a1 := ch_one t
        have a2 := ch_one u
        have b1 : o.length ≤ o'.length + 1 := by omega
        simp only [leq] at hin
        cases h : heq' t u with
        | true =>
          simp -implicitDefEqProofs [hfr, q1, q2, q15, q16, q17, hlt', hlt, hg, hg', hpl, hpl', c1, c2, t1, t2, n1, n2, a1, a2, sa, hle, b1, hu, h, hw, get_base0, get_base, set_base0, set_base, -List.getElem_map, -getElem?_pos, List.getElem?_cons_zero, List.getElem?_cons_succ, setO_last, getO_last, List.append_assoc]
          exact ⟨rest, by simp, rest', pre ++ [t], by simp [e], pre' ++ [u], by simp [e'], by simp [hp], by simp, by first | omega | (simp; omega), by simpa [h] using hin⟩
        | false =>
          simp -implicitDefEqProofs [hfr, q1, q2, q15, q16, q17, hlt', hlt, hg, hg', hpl, hpl', c1, c2, t1, t2, n1, n2, a1, a2, sa, hle, b1, hu, h, hw, get_base0, get_base, set_base0, set_base, -List.getElem_map, -getElem?_pos, List.getElem?_cons_zero, List.getElem?_cons_succ, setO_last, getO_last, List.append_assoc]
          simp [hin, h]
  · have hne : ¬ ((l.length : Int) = (k.length : Int)) := by omega
    simp -implicitDefEqProofs [hfr, s0, s1, s2, hlk, hne]

theorem slemmas_eq (l k : List Lm) (g : Nat) (hl : l.length ≤ mxB) (ih : ∀ t ∈ l, ∀ u ∈ k, ∀ st, (D T).call g [.agg (Lm.cells t), .agg (Lm.cells u)] st = some (.bool (lmeq t u), st)) (st : St) :
    (D T).call 53 [.sl 8 (l.map Lm.cells), .sl 8 (k.map Lm.cells), .fn (.func g) [] []] st = some (.bool (l.length == k.length && leq lmeq l k), st) := by
  obtain ⟨o, ro, df⟩ := st
  have hmx : l.length ≤ 9223372036854775807 := Nat.le_trans hl (by decide)
  have sa : ∀ (cs : List AV) (t : Lm), cs.length = 8 → setMany cs 0 (Lm.cells t) = Lm.cells t := fun cs t h => set_all _ _ (by rw [h, lelen])
  apply call_by (by exact rfl : T 53 = some _) (by simp)
  intro fr hfr hsl
  have s0 := hsl 0 _ rfl
  have s1 := hsl 1 _ rfl
  have s2 := hsl 2 _ rfl
  by_cases hlk : l.length = k.length
  · simp -implicitDefEqProofs [hfr, s0, s1, s2, hlk]
    apply loop_inv L53_0.eq_1 (fun s : List Lm × List Lm => s.1.length) (fun s fr st => ∃ pre pre' o', l = pre ++ s.1 ∧ k = pre' ++ s.2 ∧ pre.length = pre'.length ∧ fr.length = 32 ∧ slot fr 1 = .sl 8 (k.map Lm.cells) ∧ slot fr 2 = .fn (.func g) [] [] ∧ slot fr 15 = .sl 8 (l.map Lm.cells) ∧ slot fr 16 = .int .i64 (k.length : Int) ∧ slot fr 17 = .int .i64 (pre.length : Int) ∧
      st = ⟨o', o.length, []⟩ ∧ o.length ≤ o'.length ∧ leq lmeq l k = leq lmeq s.1 s.2) ?_ (l, k) ⟨[], [], o, rfl, rfl, rfl, by simp [hfr], by simp [hfr, s1], by simp [hfr, s2], by simp [hfr, s0], by simp [hfr, hlk], by simp [hfr], rfl, Nat.le_refl _, rfl⟩
    rintro ⟨rest, rest'⟩ fr _ ⟨pre, pre', o', e, e', hp, hfr, q1, q2, q15, q16, q17, rfl, hle, hin⟩
    simp only at e e' hin
    cases rest with
    | nil =>
      have hlt := idx_end e
      have hlt2 : ¬ ((pre.length : Int) < (k.length : Int)) := by rw [← hlk]; exact hlt
      cases rest' with
      | nil => simp -implicitDefEqProofs [hfr, q1, q2, q15, q16, q17, hlt2, hin, leq]
      | cons u rest' => simp [e, e'] at hlk; omega
    | cons t rest =>
      cases rest' with
      | nil => simp [e, e'] at hlk; omega
      | cons u rest' =>
        obtain ⟨hlt, hg, hpl⟩ := idx_at e
        obtain ⟨hlt', hg', hpl'⟩ := idx_at e'
        rw [← hp] at hlt' hg' hpl'
        have hw := idx_next e hmx
        have hu := ih t (by simp [e]) u (by simp [e'])
        have c1 := le_can t
        have c2 := le_can u
        have t1 := le_take t
        have t2 := le_take u
        have n1 := lelen t
        have n2 := lelen u
        have a1 := le_one t
        have a2 := le_one u
        have b1 : o.length ≤ o'.length + 1 := by omega
        simp only [leq] at hin
        cases h : lmeq t u with
        | true =>
          simp -implicitDefEqProofs [hfr, q1, q2, q15, q16, q17, hlt', hlt, hg, hg', hpl, hpl', c1, c2, t1, t2, n1, n2, a1, a2, sa, hle, b1, hu, h, hw, get_base0, get_base, set_base0, set_base, -List.getElem_map, -getElem?_pos, List.getElem?_cons_zero, List.getElem?_cons_succ, setO_last, getO_last, List.append_assoc]
          exact ⟨rest, by simp, rest', pre ++ [t], by simp [e], pre' ++ [u], by simp [e'], by simp [hp], by simp, by first | omega | (simp; omega), by simpa [h] using hin⟩
        | false =>
          simp -implicitDefEqProofs [hfr, q1, q2, q15, q16, q17, hlt', hlt, hg, hg', hpl, hpl', c1, c2, t1, t2, n1, n2, a1, a2, sa, hle, b1, hu, h, hw, get_base0, get_base, set_base0, set_base, -List.getElem_map, -getElem?_pos, List.getElem?_cons_zero, List.getElem?_cons_succ, setO_last, getO_last, List.append_assoc]
          simp [hin, h]
  · have hne : ¬ ((l.length : Int) = (k.length : Int)) := by omega
    simp -implicitDefEqProofs [hfr, s0, s1, s2, hlk, hne]

theorem sproofs_eq (l k : List Pf) (g : Nat) (hl : l.length ≤ mxB) (ih : ∀ t ∈ l, ∀ u ∈ k, ∀ st, (D T).call g [.agg (Pf.cells t), .agg (Pf.cells u)] st = some (.bool (peq t u), st)) (st : St) :
    (D T).call 58 [.sl 24 (l.map Pf.cells), .sl 24 (k.map Pf.cells), .fn (.func g) [] []] st = some (.bool (l.length == k.length && leq peq l k), st) := by
  obtain ⟨o, ro, df⟩ := st
  have hmx : l.length ≤ 9223372036854775807 := Nat.le_trans hl (by decide)
  have sa : ∀ (cs : List AV) (t : Pf), cs.length = 24 → setMany cs 0 (Pf.cells t) = Pf.cells t := fun cs t h => set_all _ _ (by rw [h, plen])
  apply call_by (by exact rfl : T 58 = some _) (by simp)
  intro fr hfr hsl
  have s0 := hsl 0 _ rfl
  have s1 := hsl 1 _ rfl
  have s2 := hsl 2 _ rfl
  by_cases hlk : l.length = k.length
  · simp -implicitDefEqProofs [hfr, s0, s1, s2, hlk]
    apply loop_inv L58_0.eq_1 (fun s : List Pf × List Pf => s.1.length) (fun s fr st => ∃ pre pre' o', l = pre ++ s.1 ∧ k = pre' ++ s.2 ∧ pre.length = pre'.length ∧ fr.length = 32 ∧ slot fr 1 = .sl 24 (k.map Pf.cells) ∧ slot fr 2 = .fn (.func g) [] [] ∧ slot fr 15 = .sl 24 (l.map Pf.cells) ∧ slot fr 16 = .int .i64 (k.length : Int) ∧ slot fr 17 = .int .i64 (pre.length : Int) ∧
      st = ⟨o', o.length, []⟩ ∧ o.length ≤ o'.length ∧ leq peq l k = leq peq s.1 s.2) ?_ (l, k) ⟨[], [], o, rfl, rfl, rfl, by simp [hfr], by simp [hfr, s1], by simp [hfr, s2], by simp [hfr, s0], by simp [hfr, hlk], by simp [hfr], rfl, Nat.le_refl _, rfl⟩
    rintro ⟨rest, rest'⟩ fr _ ⟨pre, pre', o', e, e', hp, hfr, q1, q2, q15, q16, q17, rfl, hle, hin⟩
    simp only at e e' hin
    cases rest with
    | nil =>
      have hlt := idx_end e
      have hlt2 : ¬ ((pre.length : Int) < (k.length : Int)) := by rw [← hlk]; exact hlt
      cases rest' with
      | nil => simp -implicitDefEqProofs [hfr, q1, q2, q15, q16, q17, hlt2, hin, leq]
      | cons u rest' => simp [e, e'] at hlk; omega
    | cons t rest =>
      cases rest' with
      | nil => simp [e, e'] at hlk; omega
      | cons u rest' =>
        obtain ⟨hlt, hg, hpl⟩ := idx_at e
        obtain ⟨hlt', hg', hpl'⟩ := idx_at e'
        rw [← hp] at hlt' hg' hpl'
        have hw := idx_next e hmx
        have hu := ih t (by simp [e]) u (by simp [e'])
        have c1 := p_can t
        have c2 := p_can u
        have t1 := p_take t
        have t2 := p_take u
        have n1 := plen t
        have n2 := plen u
        have a1 := p_one t
        have a2 := p_one u
        have b1 : o.length ≤ o'.length + 1 := by omega
        simp only [leq] at hin
        cases h : peq t u with
        | true =>
          simp -implicitDefEqProofs [hfr, q1, q2, q15, q16, q17, hlt', hlt, hg, hg', hpl, hpl', c1, c2, t1, t2, n1, n2, a1, a2, sa, hle, b1, hu, h, hw, get_base0, get_base, set_base0, set_base, -List.getElem_map, -getElem?_pos, List.getElem?_cons_zero, List.getElem?_cons_succ, setO_last, getO_last, List.append_assoc]
          exact ⟨rest, by simp, rest', pre ++ [t], by simp [e], pre' ++ [u], by simp [e'], by simp [hp], by simp, by first | omega | (simp; omega), by simpa [h] using hin⟩
        | false =>
          simp -implicitDefEqProofs [hfr, q1, q2, q15, q16, q17, hlt', hlt, hg, hg', hpl, hpl', c1, c2, t1, t2, n1, n2, a1, a2, sa, hle, b1, hu, h, hw, get_base0, get_base, set_base0, set_base, -List.getElem_map, -getElem?_pos, List.getElem?_cons_zero, List.getElem?_cons_succ, setO_last, getO_last, List.append_assoc]
          simp [hin, h]
  · have hne : ¬ ((l.length : Int) = (k.length : Int)) := by omega
    simp -implicitDefEqProofs [hfr, s0, s1, s2, hlk, hne]

end
end Go.Proofs.YtkecobdhgabknaaDoor.A
