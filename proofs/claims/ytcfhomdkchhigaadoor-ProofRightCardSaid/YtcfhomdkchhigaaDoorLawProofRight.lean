/- ProofRight: for any proof the law's function answers true, and its argument reads as before. No condition beyond the given statement's. -/
import Derived.Test.YtcfhomdkchhigaaDoorXV
import Derived.Test.YtcfhomdkchhigaaDoorG
namespace Go.Proofs.YtcfhomdkchhigaaDoor.A
open Go
set_option maxRecDepth 10000
set_option linter.unusedSimpArgs false
set_option linter.unusedVariables false
attribute [-simp] List.all_eq_true put slot_def ld idxA lenOf elems canA app hand

theorem leq_self (l : List Int) : leq ieq l l = true := by
  induction l with
  | nil => rfl
  | cons a l ih => simp [leq, ieq, ih]

mutual
theorem wk_len : ∀ (p : Pf) (w : List Int), ((wk p w).1.length : Int) ≤ w.length + dP p
  | .mk r h nw v b t c les chs cu ps, w => by
    have h0 := dPL_pos ps
    simp only [wk, dP]
    split
    · simp only; omega
    · have := wkL_len ps 0 w
      omega
theorem wkL_len : ∀ (l : List Pf) (i : Int) (w : List Int), ((wkL l i w).1.length : Int) ≤ w.length + 1 + dPL l
  | [], _, _ => by simp [wkL, dPL]; omega
  | c :: l, i, w => by
    have h1 := wk_len c (w ++ [i])
    have h2 := wkL_len l (i + 1) w
    simp only [wkL, dPL]
    simp only [List.length_append, List.length_cons, List.length_nil, Nat.zero_add] at h1
    split <;> split <;> omega
end

theorem law_right38 (p : Pf) (hp : p.ok) : (D T).call 3 [p.av] st0 = some (.bool true, st0) := by
  have f1 := fun st => few_eq p hp 20000 (by omega) (by omega) st
  have al := fun o ro df => alive_any o ro df
  have h1 := fun o ro df => pRight_eq p hp o ro df
  have h2 := fun o ro df => rRight_eq p hp o ro df
  have h3 := fun o ro df => psize_eq p hp o ro df
  have h4 := fun o ro df => rsize_eq p hp o ro df
  have h5 := fun o ro df => pDepth_eq p hp o ro df
  have h6 := fun o ro df => prDepth_eq p hp o ro df
  obtain ⟨l, e, hl, hv⟩ : ∃ (l : List Int) (e : Int), l.length ≤ mxB ∧ (if 64 < dP p then AV.tup [.sl 1 [], .int .i64 6] else if 4096 < psz p then .tup [.sl 1 [], .int .i64 2] else .tup [.sl 1 (intA (wk p []).1), .int .i64 (wk p []).2]) = .tup [.sl 1 (intA l), .int .i64 e] := by
    by_cases k1 : 64 < dP p
    · exact ⟨[], 6, by simp, by rw [if_pos k1]; rfl⟩
    · by_cases k2 : 4096 < psz p
      · exact ⟨[], 2, by simp, by rw [if_neg k1, if_pos k2]; rfl⟩
      · refine ⟨(wk p []).1, (wk p []).2, ?_, by rw [if_neg k1, if_neg k2]⟩
        have := wk_len p []
        unfold mxB
        simp at this
        omega
  rw [hv] at h1 h2
  have h7 := fun st => bints_eq l l hl st
  simp only [leq_self, beq_self_eq_true, Bool.and_true] at h7
  have x1 := p_take p
  have x2 := p_can p
  have x3 := plen p
  have x4 := p_one p
  simp only [Pf.av] at f1 h1 h2 h3 h4 h5 h6
  apply call_by (by exact rfl : T 3 = some _) (by simp)
  intro fr hfr hsl
  have s0 := hsl 0 _ rfl
  simp only [Pf.av] at s0
  by_cases k : pw p 20000 ≤ 20000
  · simp -implicitDefEqProofs [hfr, s0, st0, f1, al, k, h1, h2, h3, h4, h5, h6, h7, x1, x2, x3, x4, get_base0, -getElem?_pos, List.getElem?_cons_zero]
  · simp -implicitDefEqProofs [hfr, s0, st0, f1, al, k, x1, x2, x3, x4, get_base0, -getElem?_pos, List.getElem?_cons_zero]

end Go.Proofs.YtcfhomdkchhigaaDoor.A
