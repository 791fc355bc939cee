/- Terms stand in an order. -/
import Derived.Test.YtkecobdhgabknaaDoorP1
namespace Go.Proofs.YtkecobdhgabknaaDoor.A
open Go

theorem bl_trans : ∀ x y z : List UInt8, Op.bytesLess x y = true → Op.bytesLess y z = true → Op.bytesLess x z = true
  | _, _, [], _, h => by simp [Op.bytesLess] at h
  | x, [], _ :: _, h, _ => by simp [Op.bytesLess] at h
  | [], _ :: _, _ :: _, _, _ => by simp [Op.bytesLess]
  | a :: x, b :: y, c :: z, h1, h2 => by
    simp only [Op.bytesLess, Bool.or_eq_true, Bool.and_eq_true, decide_eq_true_eq, beq_iff_eq] at h1 h2 ⊢
    rcases h1 with h1 | ⟨rfl, h1⟩
    · rcases h2 with h2 | ⟨rfl, h2⟩
      · exact .inl (UInt8.lt_trans h1 h2)
      · exact .inl h1
    · rcases h2 with h2 | ⟨rfl, h2⟩
      · exact .inl h2
      · exact .inr ⟨rfl, bl_trans x y z h1 h2⟩

theorem bl_total : ∀ x y : List UInt8, Op.bytesLess x y = false → x ≠ y → Op.bytesLess y x = true
  | [], [], _, h => absurd rfl h
  | [], _ :: _, h, _ => by simp [Op.bytesLess] at h
  | _ :: _, [], _, _ => by simp [Op.bytesLess]
  | a :: x, b :: y, h1, h2 => by
    simp only [Op.bytesLess, Bool.or_eq_false_iff, Bool.and_eq_false_iff, decide_eq_false_iff_not, beq_eq_false_iff_ne, Bool.or_eq_true, Bool.and_eq_true, decide_eq_true_eq, beq_iff_eq] at h1 ⊢
    by_cases hab : a = b
    · subst hab
      right
      refine ⟨rfl, bl_total x y ?_ ?_⟩
      · rcases h1.2 with h | h
        · exact absurd rfl h
        · exact h
      · rintro rfl
        exact h2 rfl
    · left
      rcases UInt8.lt_or_lt_of_ne hab with h | h
      · exact absurd h h1.1
      · exact h

/-- x, y, z stand as three things compared: a with b, b with c, a with c -/
def Tr (x y z : Int) : Prop := x ≤ 0 → y ≤ 0 → z ≤ 0 ∧ (z = 0 ↔ x = 0 ∧ y = 0)

theorem cmpI_tr (a b c : Int) : Tr (cmpI a b) (cmpI b c) (cmpI a c) := by
  unfold Tr cmpI
  intro h1 h2
  by_cases a1 : a < b <;> by_cases a2 : b < a <;> by_cases b1 : b < c <;> by_cases b2 : c < b <;> by_cases c1 : a < c <;> by_cases c2 : c < a <;> simp [a1, a2, b1, b2, c1, c2] at h1 h2 ⊢ <;> omega

theorem cmpI_neg (a b : Int) : cmpI a b = - cmpI b a := by
  unfold cmpI
  by_cases a1 : a < b <;> by_cases a2 : b < a <;> simp [a1, a2]
  omega

theorem cmpI_rng (a b : Int) : -1 ≤ cmpI a b ∧ cmpI a b ≤ 1 := by
  unfold cmpI
  split
  · omega
  · split <;> omega

/-- the three ways -/
theorem cmpS_ways (a b : ByteArray) : (cmpS a b = -1 ∧ bytesLt a b = true) ∨ (cmpS a b = 0 ∧ a.toList = b.toList) ∨ (cmpS a b = 1 ∧ bytesLt b a = true) := by
  unfold cmpS
  cases h : bytesLt a b with
  | true => exact .inl ⟨rfl, rfl⟩
  | false =>
    right
    cases h2 : bytesEq a b with
    | true => exact .inl ⟨rfl, (bytesEq_iff a b).1 h2⟩
    | false =>
      refine .inr ⟨rfl, bl_total _ _ h fun e => ?_⟩
      rw [(bytesEq_iff a b).2 e] at h2
      cases h2

theorem bl_irr {x : List UInt8} (h : Op.bytesLess x x = true) : False := by rw [bytesLess_self] at h; cases h

theorem cmpS_rng (a b : ByteArray) : -1 ≤ cmpS a b ∧ cmpS a b ≤ 1 := by
  rcases cmpS_ways a b with h | h | h <;> omega

theorem cmpS_neg (a b : ByteArray) : cmpS a b = - cmpS b a := by
  rcases cmpS_ways a b with ⟨h, h'⟩ | ⟨h, h'⟩ | ⟨h, h'⟩ <;> rcases cmpS_ways b a with ⟨k, k'⟩ | ⟨k, k'⟩ | ⟨k, k'⟩ <;> rw [h, k] <;> try rfl
  all_goals exfalso
  all_goals simp only [bytesLt] at *
  · exact bl_irr (bl_trans _ _ _ h' k')
  · rw [k'] at h'; exact bl_irr h'
  · rw [h'] at k'; exact bl_irr k'
  · rw [h'] at k'; exact bl_irr k'
  · rw [k'] at h'; exact bl_irr h'
  · exact bl_irr (bl_trans _ _ _ h' k')

theorem cmpS_tr (a b c : ByteArray) : Tr (cmpS a b) (cmpS b c) (cmpS a c) := by
  unfold Tr
  intro h1 h2
  rcases cmpS_ways a b with ⟨h, h'⟩ | ⟨h, h'⟩ | ⟨h, h'⟩ <;> rcases cmpS_ways b c with ⟨k, k'⟩ | ⟨k, k'⟩ | ⟨k, k'⟩ <;> rcases cmpS_ways a c with ⟨m, m'⟩ | ⟨m, m'⟩ | ⟨m, m'⟩ <;> rw [h] at h1 ⊢ <;> rw [k] at h2 ⊢ <;> rw [m] <;> try omega
  all_goals exfalso
  all_goals simp only [bytesLt] at *
  · rw [m'] at h'; exact bl_irr (bl_trans _ _ _ h' k')
  · exact bl_irr (bl_trans _ _ _ m' (bl_trans _ _ _ h' k'))
  · rw [m', k'] at h'; exact bl_irr h'
  · rw [k'] at h'; exact bl_irr (bl_trans _ _ _ m' h')
  · rw [← m', h'] at k'; exact bl_irr k'
  · rw [← h'] at k'; exact bl_irr (bl_trans _ _ _ m' k')
  · rw [h', k'] at m'; exact bl_irr m'
  · rw [h', k'] at m'; exact bl_irr m'

end Go.Proofs.YtkecobdhgabknaaDoor.A
/- Terms stand in an order, whole. -/
namespace Go.Proofs.YtkecobdhgabknaaDoor.A
open Go

abbrev Rng (x : Int) : Prop := -1 ≤ x ∧ x ≤ 1

theorem orc_rng {x : Int} {l : List Int} (h : Rng x) (k : Rng (orL l)) : Rng (orL (x :: l)) := by
  simp only [orL]; split <;> assumption
theorem orc_neg {x y : Int} {l k : List Int} (h : x = - y) (e : orL l = - orL k) : orL (x :: l) = - orL (y :: k) := by
  simp only [orL]
  by_cases hy : y = 0
  · have hx : x = 0 := by omega
    rw [if_pos hx, if_pos hy, e]
  · have hx : ¬ x = 0 := by omega
    rw [if_neg hx, if_neg hy, h]
theorem lex_tr {x y z a b c : Int} (h : Tr x y z) (e : Tr a b c) : Tr (if x = 0 then a else x) (if y = 0 then b else y) (if z = 0 then c else z) := by
  unfold Tr at *
  intro h1 h2
  have hx : x ≤ 0 := by split at h1 <;> omega
  have hy : y ≤ 0 := by split at h2 <;> omega
  obtain ⟨k1, k2⟩ := h hx hy
  by_cases hz : z = 0
  · obtain ⟨x0, y0⟩ := k2.1 hz
    rw [if_pos hz, if_pos x0, if_pos y0]
    rw [if_pos x0] at h1
    rw [if_pos y0] at h2
    exact e h1 h2
  · rw [if_neg hz]
    refine ⟨k1, fun q => absurd q hz, fun ⟨q1, q2⟩ => ?_⟩
    by_cases x0 : x = 0
    · by_cases y0 : y = 0
      · exact k2.2 ⟨x0, y0⟩
      · rw [if_neg y0] at q2; exact absurd q2 y0
    · rw [if_neg x0] at q1; exact absurd q1 x0
theorem orc_tr {x y z : Int} {l k m : List Int} (h : Tr x y z) (e : Tr (orL l) (orL k) (orL m)) : Tr (orL (x :: l)) (orL (y :: k)) (orL (z :: m)) := by
  exact lex_tr h e
theorem or_nil_tr : Tr (orL []) (orL []) (orL []) := by unfold Tr; simp [orL]

mutual
theorem cm_rng : ∀ t u : Tm, Rng (cm t u)
  | .mk a s b l, .mk a' s' b' l' => by
    rw [cm]
    exact orc_rng (cmpI_rng _ _) (orc_rng (cmpI_rng _ _) (orc_rng (cmpS_rng _ _) (orc_rng (cmpI_rng _ _) (orc_rng (cmL_rng l l') (by simp [orL, Rng])))))
theorem cmL_rng : ∀ l k : List Tm, Rng (cmL l k)
  | [], [] => by simp [cmL, Rng]
  | [], _ :: _ => by simp [cmL, Rng]
  | _ :: _, [] => by simp [cmL, Rng]
  | t :: l, u :: k => by
    rw [cmL]
    split
    · exact cmL_rng l k
    · exact cm_rng t u
end

mutual
theorem cm_neg : ∀ t u : Tm, cm t u = - cm u t
  | .mk a s b l, .mk a' s' b' l' => by
    rw [cm, cm]
    exact orc_neg (cmpI_neg _ _) (orc_neg (cmpI_neg _ _) (orc_neg (cmpS_neg _ _) (orc_neg (cmpI_neg _ _) (orc_neg (cmL_neg l l') (by simp [orL])))))
theorem cmL_neg : ∀ l k : List Tm, cmL l k = - cmL k l
  | [], [] => by simp [cmL]
  | [], _ :: _ => by simp [cmL]
  | _ :: _, [] => by simp [cmL]
  | t :: l, u :: k => by
    have h := cm_neg t u
    rw [cmL, cmL]
    by_cases hz : cm u t = 0
    · have hz' : cm t u = 0 := by omega
      rw [if_pos hz, if_pos hz']
      exact cmL_neg l k
    · have hz' : ¬ cm t u = 0 := by omega
      rw [if_neg hz, if_neg hz', h]
end

mutual
theorem cm_tr : ∀ t u v : Tm, Tr (cm t u) (cm u v) (cm t v)
  | .mk a s b l, .mk a' s' b' l', .mk a2 s2 b2 l2 => by
    rw [cm, cm, cm]
    exact orc_tr (cmpI_tr _ _ _) (orc_tr (cmpI_tr _ _ _) (orc_tr (cmpS_tr _ _ _) (orc_tr (cmpI_tr _ _ _) (orc_tr (cmL_tr l l' l2) or_nil_tr))))
theorem cmL_tr : ∀ l k m : List Tm, Tr (cmL l k) (cmL k m) (cmL l m)
  | [], [], [] => by simp [cmL, Tr]
  | [], [], _ :: _ => by simp [cmL, Tr]
  | [], _ :: _, [] => by simp [cmL, Tr]
  | [], _ :: _, _ :: _ => by simp [cmL, Tr]
  | _ :: _, [], [] => by simp [cmL, Tr]
  | _ :: _, [], _ :: _ => by simp [cmL, Tr]
  | _ :: _, _ :: _, [] => by simp [cmL, Tr]
  | t :: l, u :: k, v :: m => by
    exact lex_tr (cm_tr t u v) (cmL_tr l k m)
end

theorem cm_self (t : Tm) : cm t t = 0 := by have := cm_neg t t; omega

end Go.Proofs.YtkecobdhgabknaaDoor.A
