/- How many parts there are in what is gathered of claims that are not too great. -/
import Derived.Test.YtpenaaljaahanaaE7
namespace Go.Proofs.Ytpenaaljaahanaa.A
open Go

mutual
theorem sz_allC : ∀ (t : Tm) (m : Int), 0 ≤ m → sz t m ≤ m → (t.all.length : Int) = sz t m
  | .mk a s b l, m, h0, h => by
    simp only [sz] at h ⊢
    have := szL_allC l m 1 h
    simp only [Tm.all, List.length_cons]
    omega
theorem szL_allC : ∀ (l : List Tm) (m n : Int), szL l m n ≤ m → n + ((allL l).length : Int) = szL l m n
  | [], m, n, h => by simp [szL, allL]
  | t :: l, m, n, h => by
    simp only [szL] at h ⊢
    by_cases hn : n ≤ m
    · rw [if_pos hn] at h ⊢
      by_cases ht : sz t (m - n) ≤ m - n
      · have h1 := sz_allC t (m - n) (by omega) ht
        have h2 := szL_allC l m _ h
        simp only [allL, List.length_append]
        omega
      · rw [szL_out _ _ _ (by omega)] at h
        omega
    · rw [if_neg hn] at h
      omega
end

theorem allL_apC : ∀ (l k : List Tm), allL (l ++ k) = allL l ++ allL k
  | [], k => rfl
  | t :: l, k => by simp [allL, allL_apC l k]

theorem wtL_low : ∀ (l : List Cl) (m n : Int), n ≤ m + 1 → n ≤ wtL l m n
  | [], _, _, _ => by simp [wtL]
  | t :: l, m, n, h => by
    simp only [wtL]
    split
    · have := wt_le t (m - n) (by omega)
      have := wtL_low l m (n + wt t (m - n)) (by omega)
      omega
    · omega

mutual
theorem wt_parts : ∀ (c : Cl) (m : Int), 0 ≤ m → wt c m ≤ m → ((allL (partTs c)).length : Int) + cnt c = wt c m
  | .mk a s u ts cs, m, h0, h => by
    simp only [wt] at h ⊢
    have h3 : szL ts m 1 ≤ m := by
      have := szL_le ts m 1 (by omega) (by omega)
      have := wtL_low cs m (szL ts m 1) (by omega)
      omega
    have h1 := szL_allC ts m 1 h3
    have := wtL_parts cs m _ h
    simp only [cnt, partTs, allL_apC, List.length_append]
    omega
theorem wtL_parts : ∀ (l : List Cl) (m n : Int), wtL l m n ≤ m → n + ((allL (partTsL l)).length : Int) + cntL l = wtL l m n
  | [], m, n, h => by simp [wtL, cntL, partTsL, allL]
  | c :: l, m, n, h => by
    simp only [wtL] at h ⊢
    by_cases hn : n ≤ m
    · rw [if_pos hn] at h ⊢
      by_cases ht : wt c (m - n) ≤ m - n
      · have h1 := wt_parts c (m - n) (by omega) ht
        have h2 := wtL_parts l m _ h
        simp only [cntL, partTsL, allL_apC, List.length_append]
        omega
      · rw [wtL_out _ _ _ (by omega)] at h
        omega
    · rw [if_neg hn] at h
      omega
end

theorem few_all {l : List Cl} {m : Nat} (h : few l m = true) {c : Cl} (hc : c ∈ l) : (allL (partTs c)).length + cnt c ≤ m := by
  have := List.all_eq_true.1 h c hc
  simp only [Bool.not_eq_true', decide_eq_false_iff_not] at this
  have := wt_parts c m (by omega) (by omega)
  omega

theorem few_sum {l : List Cl} {m : Nat} (h : few l m = true) : (allL (partTsL l)).length + cntL l ≤ l.length * m := by
  have key : ∀ k : List Cl, (∀ c ∈ k, c ∈ l) → (allL (partTsL k)).length + cntL k ≤ k.length * m := by
    intro k
    induction k with
    | nil => intro _; simp [partTsL, allL, cntL]
    | cons c k ih =>
      intro hk
      have h1 := few_all h (hk c (List.mem_cons_self ..))
      have h2 := ih fun x hx => hk x (List.mem_cons_of_mem _ hx)
      simp only [partTsL, cntL, allL_apC, List.length_append, List.length_cons]
      rw [Nat.succ_mul]
      omega
  exact key l fun c hc => hc

theorem le_allL : ∀ l : List Tm, l.length ≤ (allL l).length
  | [] => Nat.le_refl _
  | t :: l => by
    have h1 := le_allL l
    have h2 : 1 ≤ t.all.length := by cases t; simp [Tm.all]
    simp only [allL, List.length_append, List.length_cons]
    omega

end Go.Proofs.Ytpenaaljaahanaa.A
