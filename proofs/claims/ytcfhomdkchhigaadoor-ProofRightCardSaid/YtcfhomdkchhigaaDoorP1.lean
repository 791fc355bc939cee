/- The plain laws of comparing terms. -/
import Derived.Test.YtcfhomdkchhigaaDoorS2
namespace Go.Proofs.YtcfhomdkchhigaaDoor.A
open Go

theorem orL_append : ∀ (l : List Int) (y : Int), orL (l ++ [y]) = if orL l = 0 then y else orL l
  | [], y => by by_cases h : y = 0 <;> simp [orL, h]
  | x :: l, y => by
    simp only [List.cons_append, orL]
    by_cases h : x = 0
    · simp only [h, if_true]; exact orL_append l y
    · simp [h]

theorem orL_zero_iff : ∀ l : List Int, orL l = 0 ↔ ∀ x ∈ l, x = 0
  | [] => by simp [orL]
  | x :: l => by
    simp only [orL, List.mem_cons, forall_eq_or_imp]
    by_cases h : x = 0
    · simp only [h, if_true, true_and]; exact orL_zero_iff l
    · simp [h]

theorem cmpI_zero (a b : Int) : cmpI a b = 0 ↔ a = b := by
  unfold cmpI
  by_cases h1 : a < b
  · simp [h1]; omega
  · by_cases h2 : b < a
    · simp [h1, h2]; omega
    · simp [h1, h2]; omega

theorem bytesLess_self : ∀ l : List UInt8, Op.bytesLess l l = false
  | [] => rfl
  | a :: l => by simp [Op.bytesLess, bytesLess_self l]

theorem bytesEq_iff (a b : ByteArray) : bytesEq a b = true ↔ a.toList = b.toList := by simp [bytesEq]

theorem cmpS_zero (a b : ByteArray) : cmpS a b = 0 ↔ bytesEq a b = true := by
  unfold cmpS
  cases h : bytesEq a b with
  | true =>
    have : bytesLt a b = false := by
      unfold bytesLt
      rw [(bytesEq_iff a b).1 h]
      exact bytesLess_self _
    simp [this]
  | false => cases h2 : bytesLt a b <;> simp

mutual
theorem cm_tm : ∀ t u : Tm, cm t u = 0 ↔ tmEq t u = true
  | .mk a s b l, .mk a' s' b' l' => by
    rw [cm, tmEq, orL_zero_iff]
    simp only [List.mem_cons, List.not_mem_nil, or_false, forall_eq_or_imp, forall_eq, cmpI_zero, cmpS_zero, Bool.and_eq_true, beq_iff_eq]
    constructor
    · rintro ⟨h1, h2, h3, h4, h5⟩
      have h4' : l.length = l'.length := by omega
      exact ⟨⟨⟨h1, h3⟩, h2⟩, h4', (cmL_ts l l' h4').1 h5⟩
    · rintro ⟨⟨⟨h1, h3⟩, h2⟩, h4, h5⟩
      exact ⟨h1, h2, h3, by omega, (cmL_ts l l' h4).2 h5⟩
theorem cmL_ts : ∀ l k : List Tm, l.length = k.length → (cmL l k = 0 ↔ tsEq l k = true)
  | [], [], _ => by simp [cmL, tsEq]
  | [], _ :: _, h => by simp at h
  | _ :: _, [], h => by simp at h
  | t :: l, u :: k, h => by
    simp only [cmL, tsEq, Bool.and_eq_true]
    by_cases hz : cm t u = 0
    · rw [if_pos hz, cmL_ts l k (by simpa using h)]
      simp [(cm_tm t u).1 hz]
    · rw [if_neg hz]
      have : ¬ tmEq t u = true := fun q => hz ((cm_tm t u).2 q)
      simp [hz, this]
end

end Go.Proofs.YtcfhomdkchhigaaDoor.A
