/- Terms stand in an order, whole. -/
import Derived.Test.YtcfhomdkchhigaaDoorP2
namespace Go.Proofs.YtcfhomdkchhigaaDoor.A
open Go

abbrev Rng (x : Int) : Prop := -1 ≤ x ∧ x ≤ 1

theorem orc_rng {x : Int} {l : List Int} (h : Rng x) (k : Rng (orL l)) : Rng (orL (x :: l)) := by
  simp only [orL]; split <;> assumption
theorem orc_neg {x y : Int} {l k : List Int} (h : x = - y) (e : orL l = - orL k) : orL (x :: l) = - orL (y :: k) := by
  simp only [orL]
  by_cases hy : y = 0
  · have hx : x = 0 := by omega
    rw [if_pos hx, if_pos hy, e]
  · have hx : ¬ x = 0 := by omega
    rw [if_neg hx, if_neg hy, h]
theorem lex_tr {x y z a b c : Int} (h : Tr x y z) (e : Tr a b c) : Tr (if x = 0 then a else x) (if y = 0 then b else y) (if z = 0 then c else z) := by
  unfold Tr at *
  intro h1 h2
  have hx : x ≤ 0 := by split at h1 <;> omega
  have hy : y ≤ 0 := by split at h2 <;> omega
  obtain ⟨k1, k2⟩ := h hx hy
  by_cases hz : z = 0
  · obtain ⟨x0, y0⟩ := k2.1 hz
    rw [if_pos hz, if_pos x0, if_pos y0]
    rw [if_pos x0] at h1
    rw [if_pos y0] at h2
    exact e h1 h2
  · rw [if_neg hz]
    refine ⟨k1, fun q => absurd q hz, fun ⟨q1, q2⟩ => ?_⟩
    by_cases x0 : x = 0
    · by_cases y0 : y = 0
      · exact k2.2 ⟨x0, y0⟩
      · rw [if_neg y0] at q2; exact absurd q2 y0
    · rw [if_neg x0] at q1; exact absurd q1 x0
theorem orc_tr {x y z : Int} {l k m : List Int} (h : Tr x y z) (e : Tr (orL l) (orL k) (orL m)) : Tr (orL (x :: l)) (orL (y :: k)) (orL (z :: m)) := by
  exact lex_tr h e
theorem or_nil_tr : Tr (orL []) (orL []) (orL []) := by unfold Tr; simp [orL]

mutual
theorem cm_rng : ∀ t u : Tm, Rng (cm t u)
  | .mk a s b l, .mk a' s' b' l' => by
    rw [cm]
    exact orc_rng (cmpI_rng _ _) (orc_rng (cmpI_rng _ _) (orc_rng (cmpS_rng _ _) (orc_rng (cmpI_rng _ _) (orc_rng (cmL_rng l l') (by simp [orL, Rng])))))
theorem cmL_rng : ∀ l k : List Tm, Rng (cmL l k)
  | [], [] => by simp [cmL, Rng]
  | [], _ :: _ => by simp [cmL, Rng]
  | _ :: _, [] => by simp [cmL, Rng]
  | t :: l, u :: k => by
    rw [cmL]
    split
    · exact cmL_rng l k
    · exact cm_rng t u
end

mutual
theorem cm_neg : ∀ t u : Tm, cm t u = - cm u t
  | .mk a s b l, .mk a' s' b' l' => by
    rw [cm, cm]
    exact orc_neg (cmpI_neg _ _) (orc_neg (cmpI_neg _ _) (orc_neg (cmpS_neg _ _) (orc_neg (cmpI_neg _ _) (orc_neg (cmL_neg l l') (by simp [orL])))))
theorem cmL_neg : ∀ l k : List Tm, cmL l k = - cmL k l
  | [], [] => by simp [cmL]
  | [], _ :: _ => by simp [cmL]
  | _ :: _, [] => by simp [cmL]
  | t :: l, u :: k => by
    have h := cm_neg t u
    rw [cmL, cmL]
    by_cases hz : cm u t = 0
    · have hz' : cm t u = 0 := by omega
      rw [if_pos hz, if_pos hz']
      exact cmL_neg l k
    · have hz' : ¬ cm t u = 0 := by omega
      rw [if_neg hz, if_neg hz', h]
end

mutual
theorem cm_tr : ∀ t u v : Tm, Tr (cm t u) (cm u v) (cm t v)
  | .mk a s b l, .mk a' s' b' l', .mk a2 s2 b2 l2 => by
    rw [cm, cm, cm]
    exact orc_tr (cmpI_tr _ _ _) (orc_tr (cmpI_tr _ _ _) (orc_tr (cmpS_tr _ _ _) (orc_tr (cmpI_tr _ _ _) (orc_tr (cmL_tr l l' l2) or_nil_tr))))
theorem cmL_tr : ∀ l k m : List Tm, Tr (cmL l k) (cmL k m) (cmL l m)
  | [], [], [] => by simp [cmL, Tr]
  | [], [], _ :: _ => by simp [cmL, Tr]
  | [], _ :: _, [] => by simp [cmL, Tr]
  | [], _ :: _, _ :: _ => by simp [cmL, Tr]
  | _ :: _, [], [] => by simp [cmL, Tr]
  | _ :: _, [], _ :: _ => by simp [cmL, Tr]
  | _ :: _, _ :: _, [] => by simp [cmL, Tr]
  | t :: l, u :: k, v :: m => by
    exact lex_tr (cm_tr t u v) (cmL_tr l k m)
end

theorem cm_self (t : Tm) : cm t t = 0 := by have := cm_neg t t; omega

end Go.Proofs.YtcfhomdkchhigaaDoor.A
