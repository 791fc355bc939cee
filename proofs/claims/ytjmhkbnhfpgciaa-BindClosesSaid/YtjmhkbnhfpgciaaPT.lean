/- The terms of all parts of a claim, and how many parts there are. -/
import Derived.Test.YtjmhkbnhfpgciaaC2A
import Derived.Test.YtjmhkbnhfpgciaaFlat
namespace Go.Proofs.Ytjmhkbnhfpgciaa.A
open Go
set_option maxRecDepth 10000
set_option linter.unusedSimpArgs false

mutual
def partTs : Cl → List Tm
  | .mk _ _ _ ts cs => ts ++ partTsL cs
def partTsL : List Cl → List Tm
  | [] => []
  | c :: l => partTs c ++ partTsL l
end

mutual
theorem partTs_oks : ∀ c : Cl, c.ok → ∀ x ∈ partTs c, x.ok
  | .mk a s u ts cs, h, x, hx => by
    simp only [Cl.ok] at h
    simp only [partTs, List.mem_append] at hx
    rcases hx with hx | hx
    · exact okL_iff.1 h.2.2.2.2.1 x hx
    · exact partTsL_oks cs (okC_iff.1 h.2.2.2.2.2.2) x hx
theorem partTsL_oks : ∀ l : List Cl, (∀ t ∈ l, t.ok) → ∀ x ∈ partTsL l, x.ok
  | [], _, x, hx => by simp [partTsL] at hx
  | c :: l, h, x, hx => by
    simp only [partTsL, List.mem_append] at hx
    rcases hx with hx | hx
    · exact partTs_oks c (h c (List.mem_cons_self ..)) x hx
    · exact partTsL_oks l (fun t ht => h t (List.mem_cons_of_mem _ ht)) x hx
end
theorem partTs_ok {c : Cl} (h : c.ok) : ∀ x ∈ partTs c, x.ok := partTs_oks c h

mutual
/-- how many claims -/
def cnt : Cl → Nat
  | .mk _ _ _ _ cs => 1 + cntL cs
def cntL : List Cl → Nat
  | [] => 0
  | c :: l => cnt c + cntL l
end

theorem szL_low : ∀ (l : List Tm) (m n : Int), n ≤ m + 1 → n ≤ szL l m n
  | [], _, _, _ => by simp [szL]
  | t :: l, m, n, h => by
    simp only [szL]
    split
    · have := sz_le t (m - n) (by omega)
      have := szL_low l m (n + sz t (m - n)) (by omega)
      omega
    · omega

mutual
theorem sz_allC : ∀ (t : Tm) (m : Int), 0 ≤ m → sz t m ≤ m → (t.all.length : Int) = sz t m
  | .mk a s b l, m, h0, h => by
    simp only [sz] at h ⊢
    have := szL_allC l m 1 h
    simp only [Tm.all, List.length_cons]
    omega
theorem szL_allC : ∀ (l : List Tm) (m n : Int), szL l m n ≤ m → n + ((allL l).length : Int) = szL l m n
  | [], m, n, h => by simp [szL, allL]
  | t :: l, m, n, h => by
    simp only [szL] at h ⊢
    by_cases hn : n ≤ m
    · rw [if_pos hn] at h ⊢
      by_cases ht : sz t (m - n) ≤ m - n
      · have h1 := sz_allC t (m - n) (by omega) ht
        have h2 := szL_allC l m _ h
        simp only [allL, List.length_append]
        omega
      · rw [szL_out _ _ _ (by omega)] at h
        omega
    · rw [if_neg hn] at h
      omega
end

theorem allL_apC : ∀ (l k : List Tm), allL (l ++ k) = allL l ++ allL k
  | [], k => rfl
  | t :: l, k => by simp [allL, allL_apC l k]

theorem wtL_low : ∀ (l : List Cl) (m n : Int), n ≤ m + 1 → n ≤ wtL l m n
  | [], _, _, _ => by simp [wtL]
  | t :: l, m, n, h => by
    simp only [wtL]
    split
    · have := wt_le t (m - n) (by omega)
      have := wtL_low l m (n + wt t (m - n)) (by omega)
      omega
    · omega

mutual
theorem wt_parts : ∀ (c : Cl) (m : Int), 0 ≤ m → wt c m ≤ m → ((allL (partTs c)).length : Int) + cnt c = wt c m
  | .mk a s u ts cs, m, h0, h => by
    simp only [wt] at h ⊢
    have h3 : szL ts m 1 ≤ m := by
      have := szL_le ts m 1 (by omega) (by omega)
      have := wtL_low cs m (szL ts m 1) (by omega)
      omega
    have h1 := szL_allC ts m 1 h3
    have := wtL_parts cs m _ h
    simp only [cnt, partTs, allL_apC, List.length_append]
    omega
theorem wtL_parts : ∀ (l : List Cl) (m n : Int), wtL l m n ≤ m → n + ((allL (partTsL l)).length : Int) + cntL l = wtL l m n
  | [], m, n, h => by simp [wtL, cntL, partTsL, allL]
  | c :: l, m, n, h => by
    simp only [wtL] at h ⊢
    by_cases hn : n ≤ m
    · rw [if_pos hn] at h ⊢
      by_cases ht : wt c (m - n) ≤ m - n
      · have h1 := wt_parts c (m - n) (by omega) ht
        have h2 := wtL_parts l m _ h
        simp only [cntL, partTsL, allL_apC, List.length_append]
        omega
      · rw [wtL_out _ _ _ (by omega)] at h
        omega
    · rw [if_neg hn] at h
      omega
end

theorem le_allL : ∀ l : List Tm, l.length ≤ (allL l).length
  | [] => Nat.le_refl _
  | t :: l => by
    have h1 := le_allL l
    have h2 : 1 ≤ t.all.length := by cases t; simp [Tm.all]
    simp only [allL, List.length_append, List.length_cons]
    omega

end Go.Proofs.Ytjmhkbnhfpgciaa.A
