/- A proof with another one at a way: what stands there, what lies elsewhere, and how much there is; the open parts. -/
import Derived.Test.YtkecobdhgabknaaDoorXZD
import Derived.Test.YtkecobdhgabknaaDoorXO
namespace Go.Proofs.YtkecobdhgabknaaDoor.A
open Go
set_option linter.unusedSimpArgs false
set_option linter.unusedVariables false

theorem put_put (p : Pf) (l k : List Pf) : (p.put l).put k = p.put k := by cases p; rfl
theorem put_self (p : Pf) : p.put p.subs = p := by cases p; rfl

/-- how a part is put into one of the parts -/
theorem putP_cons {p q R : Pf} {i : Int} {w : List Int} (h : putP p (i :: w) q = some R) : ∃ k s s', i = ((k : Nat) : Int) ∧ p.subs[k]? = some s ∧ putP s w q = some s' ∧ R = p.put (p.subs.set k s') := by
  simp only [putP] at h
  split at h
  · cases h
  · rename_i hi
    split at h
    · rename_i s hs
      split at h
      · rename_i s' hs'
        simp only [Option.some.injEq] at h
        exact ⟨i.toNat, s, s', by omega, hs, hs', h.symm⟩
      · cases h
    · cases h
theorem atP_cons {p : Pf} {k : Nat} {w : List Int} : atP p ((k : Int) :: w) = match p.subs[k]? with | some s => atP s w | none => none := by
  simp only [atP]
  rw [if_neg (by omega), Int.toNat_natCast]
  cases p.subs[k]? <;> rfl
theorem putP_nat {p q : Pf} {k : Nat} {w : List Int} : putP p ((k : Int) :: w) q = match p.subs[k]? with | some s => (match putP s w q with | some s' => some (p.put (p.subs.set k s')) | none => none) | none => none := by
  simp only [putP]
  rw [if_neg (by omega), Int.toNat_natCast]
  cases p.subs[k]? <;> rfl

theorem ok_put {p : Pf} {k : Nat} {s : Pf} (hp : p.ok) (hs : s.ok) : (p.put (p.subs.set k s)).ok := by
  obtain ⟨r, h, n, v, b, t, c, les, chs, cu, ps⟩ := p
  simp only [Pf.put, Pf.subs, Pf.ok, List.length_set] at hp ⊢
  obtain ⟨h1, h2, h3, h4, h5, h6, h7, h8, h9, h10, h11⟩ := hp
  refine ⟨h1, h2, h3, h4, h5, h6, h7, h8, h9, h10, okPf_iff.2 fun x hx => ?_⟩
  rcases List.mem_or_eq_of_mem_set hx with hx | rfl
  · exact okPf_iff.1 h11 x hx
  · exact hs
theorem sm_put {p : Pf} {k : Nat} {s : Pf} (hp : p.sm) (hs : s.sm) : (p.put (p.subs.set k s)).sm := by
  obtain ⟨r, h, n, v, b, t, c, les, chs, cu, ps⟩ := p
  simp only [Pf.put, Pf.subs, Pf.sm, List.length_set] at hp ⊢
  obtain ⟨h1, h2, h3, h4, h5, h6, h7, h8, h9⟩ := hp
  refine ⟨h1, h2, h3, h4, h5, h6, h7, h8, smPf_iff.2 fun x hx => ?_⟩
  rcases List.mem_or_eq_of_mem_set hx with hx | rfl
  · exact smPf_iff.1 h9 x hx
  · exact hs
theorem putP_ok : ∀ (w : List Int) {p q R : Pf}, p.ok → q.ok → putP p w q = some R → R.ok
  | [], p, q, R, hp, hq, h => by simp only [putP, Option.some.injEq] at h; subst h; exact hq
  | i :: w, p, q, R, hp, hq, h => by
    obtain ⟨k, s, s', rfl, h1, h2, rfl⟩ := putP_cons h
    exact ok_put hp (putP_ok w (sub_ok hp h1) hq h2)
theorem putP_sm : ∀ (w : List Int) {p q R : Pf}, p.sm → q.sm → putP p w q = some R → R.sm
  | [], p, q, R, hp, hq, h => by simp only [putP, Option.some.injEq] at h; subst h; exact hq
  | i :: w, p, q, R, hp, hq, h => by
    obtain ⟨k, s, s', rfl, h1, h2, rfl⟩ := putP_cons h
    exact sm_put hp (putP_sm w (sub_sm hp h1) hq h2)
theorem atP_split {p a : Pf} {i : Int} {w : List Int} (h : atP p (i :: w) = some a) : ∃ k s, i = ((k : Nat) : Int) ∧ p.subs[k]? = some s ∧ atP s w = some a := by
  simp only [atP] at h
  split at h
  · cases h
  · rename_i hi
    split at h
    · rename_i s hs
      exact ⟨i.toNat, s, by omega, hs, h⟩
    · cases h
theorem atP_okq : ∀ (w : List Int) {p a : Pf}, p.ok → atP p w = some a → a.ok
  | [], p, a, hp, h => by simp only [atP, Option.some.injEq] at h; subst h; exact hp
  | i :: w, p, a, hp, h => by
    obtain ⟨k, s, rfl, h1, h2⟩ := atP_split h
    exact atP_okq w (sub_ok hp h1) h2
theorem atP_smq : ∀ (w : List Int) {p a : Pf}, p.sm → atP p w = some a → a.sm
  | [], p, a, hp, h => by simp only [atP, Option.some.injEq] at h; subst h; exact hp
  | i :: w, p, a, hp, h => by
    obtain ⟨k, s, rfl, h1, h2⟩ := atP_split h
    exact atP_smq w (sub_sm hp h1) h2
theorem atP_dP : ∀ (w : List Int) {p a : Pf}, atP p w = some a → dP a ≤ dP p
  | [], p, a, h => by simp only [atP, Option.some.injEq] at h; subst h; omega
  | i :: w, p, a, h => by
    obtain ⟨k, s, rfl, h1, h2⟩ := atP_split h
    have h3 := atP_dP w h2
    have h4 := dPL_mem (List.mem_of_getElem? h1)
    rw [dP_eq p]
    omega

theorem at_put : ∀ (w : List Int) {p q R : Pf}, putP p w q = some R → atP R w = some q
  | [], p, q, R, h => by simp only [putP, Option.some.injEq] at h; subst h; rfl
  | i :: w, p, q, R, h => by
    obtain ⟨k, s, s', rfl, h1, h2, rfl⟩ := putP_cons h
    rw [atP_cons, subs_put, List.getElem?_set_self (List.getElem?_eq_some_iff.1 h1).1]
    exact at_put w h2
theorem put_back : ∀ (w : List Int) {p q R a : Pf}, putP p w q = some R → atP p w = some a → putP R w a = some p
  | [], p, q, R, a, h, g => by simp only [atP, Option.some.injEq] at g; subst g; rfl
  | i :: w, p, q, R, a, h, g => by
    obtain ⟨k, s, s', rfl, h1, h2, rfl⟩ := putP_cons h
    rw [atP_cons, h1] at g
    have h3 := put_back w h2 g
    rw [putP_nat, subs_put, List.getElem?_set_self (List.getElem?_eq_some_iff.1 h1).1]
    simp only [h3, put_put, List.set_set]
    have e : p.subs.set k s = p.subs := by
      apply List.ext_getElem?
      intro j
      by_cases hj : k = j
      · subst hj; rw [List.getElem?_set_self (List.getElem?_eq_some_iff.1 h1).1]; exact h1.symm
      · rw [List.getElem?_set_ne hj]
    rw [e, put_self]

/-- neither of two ways lies within the other -/
def aprt : List Int → List Int → Bool
  | a :: l, b :: k => if a = b then aprt l k else true
  | _, _ => false
theorem at_apart : ∀ (w u : List Int) {p q R : Pf}, putP p w q = some R → aprt w u = true → atP R u = atP p u
  | [], u, p, q, R, h, g => by simp [aprt] at g
  | i :: w, [], p, q, R, h, g => by simp [aprt] at g
  | i :: w, j :: u, p, q, R, h, g => by
    obtain ⟨k, s, s', rfl, h1, h2, rfl⟩ := putP_cons h
    simp only [aprt] at g
    by_cases hj : j < 0
    · simp [atP, hj]
    obtain ⟨m, rfl⟩ : ∃ m : Nat, j = (m : Int) := ⟨j.toNat, by omega⟩
    rw [atP_cons, atP_cons, subs_put]
    by_cases hm : k = m
    · subst hm
      rw [if_pos rfl] at g
      rw [h1, List.getElem?_set_self (List.getElem?_eq_some_iff.1 h1).1]
      exact at_apart w u h2 g
    · rw [List.getElem?_set_ne hm]

theorem ctRL_set (rule : Int) : ∀ (ps : List Pf) (k : Nat) {s s' : Pf}, ps[k]? = some s → ctRL rule (ps.set k s') = ctRL rule ps - ctR rule s + ctR rule s'
  | [], k, s, s', h => by simp at h
  | p :: ps, 0, s, s', h => by
    obtain rfl : p = s := by simpa using h
    simp only [List.set_cons_zero, ctRL]
    omega
  | p :: ps, k + 1, s, s', h => by
    have := ctRL_set rule ps k (s := s) (s' := s') (by simpa using h)
    simp only [List.set_cons_succ, ctRL]
    omega
theorem pszL_set : ∀ (ps : List Pf) (k : Nat) {s s' : Pf}, ps[k]? = some s → pszL (ps.set k s') = pszL ps - psz s + psz s'
  | [], k, s, s', h => by simp at h
  | p :: ps, 0, s, s', h => by
    obtain rfl : p = s := by simpa using h
    simp only [List.set_cons_zero, pszL]
    omega
  | p :: ps, k + 1, s, s', h => by
    have := pszL_set ps k (s := s) (s' := s') (by simpa using h)
    simp only [List.set_cons_succ, pszL]
    omega
theorem ctR_subs (rule : Int) (p : Pf) : ctR rule p = (if p.rule = rule then 1 else 0) + ctRL rule p.subs := by cases p; rfl
theorem psz_subs (p : Pf) : psz p = 1 + pszL p.subs := by cases p; rfl
theorem rule_put (p : Pf) (l : List Pf) : (p.put l).rule = p.rule := by cases p; rfl
theorem ctR_put (rule : Int) : ∀ (w : List Int) {p q R a : Pf}, putP p w q = some R → atP p w = some a → ctR rule R = ctR rule p - ctR rule a + ctR rule q
  | [], p, q, R, a, h, g => by
    simp only [atP, Option.some.injEq] at g
    simp only [putP, Option.some.injEq] at h
    subst g h
    omega
  | i :: w, p, q, R, a, h, g => by
    obtain ⟨k, s, s', rfl, h1, h2, rfl⟩ := putP_cons h
    rw [atP_cons, h1] at g
    have h3 := ctR_put rule w h2 g
    rw [ctR_subs rule (p.put _), rule_put, subs_put, ctRL_set rule p.subs k h1, ctR_subs rule p]
    omega
theorem psz_put : ∀ (w : List Int) {p q R a : Pf}, putP p w q = some R → atP p w = some a → psz R = psz p - psz a + psz q
  | [], p, q, R, a, h, g => by
    simp only [atP, Option.some.injEq] at g
    simp only [putP, Option.some.injEq] at h
    subst g h
    omega
  | i :: w, p, q, R, a, h, g => by
    obtain ⟨k, s, s', rfl, h1, h2, rfl⟩ := putP_cons h
    rw [atP_cons, h1] at g
    have h3 := psz_put w h2 g
    rw [psz_subs (p.put _), subs_put, pszL_set p.subs k h1, psz_subs p]
    omega

mutual
theorem opW_cnt : ∀ (p : Pf) (w : List Int), ((opW p w).length : Int) = ctR 0 p
  | .mk r _ _ _ _ _ _ _ _ _ l, w => by
    have := opWL_cnt l 0 w
    simp only [opW, ctR, List.length_append]
    split <;> simp <;> omega
theorem opWL_cnt : ∀ (l : List Pf) (i : Int) (w : List Int), ((opWL l i w).length : Int) = ctRL 0 l
  | [], _, _ => by simp [opWL, ctRL]
  | c :: l, i, w => by
    have h1 := opW_cnt c (w ++ [i])
    have h2 := opWL_cnt l (i + 1) w
    simp only [opWL, ctRL, List.length_append]
    omega
end
mutual
theorem opW_at : ∀ (p : Pf) (w : List Int), ∀ u ∈ opW p w, ∃ t x, u = w ++ t ∧ atP p t = some x ∧ x.rule = 0
  | .mk r h n v b t c les chs cu l, w, u, hu => by
    rw [opW, List.mem_append] at hu
    rcases hu with hu | hu
    · split at hu
      · rename_i hr
        simp only [List.mem_cons, List.not_mem_nil, or_false] at hu
        exact ⟨[], _, by simp [hu], rfl, hr⟩
      · cases hu
    · obtain ⟨k, t', x, h1, h2, h3⟩ := opWL_at l 0 w u hu
      refine ⟨((k : Nat) : Int) :: t', x, by simpa using h1, ?_, h3⟩
      rw [atP_cons]
      exact h2
theorem opWL_at : ∀ (l : List Pf) (i : Nat) (w : List Int), ∀ u ∈ opWL l (i : Int) w, ∃ (k : Nat) (t : List Int) (x : Pf), u = w ++ ((i + k : Nat) : Int) :: t ∧ (match l[k]? with | some s => atP s t | none => none) = some x ∧ x.rule = 0
  | [], _, _, _, hu => by simp [opWL] at hu
  | c :: l, i, w, u, hu => by
    rw [opWL, List.mem_append] at hu
    rcases hu with hu | hu
    · obtain ⟨t, x, h1, h2, h3⟩ := opW_at c (w ++ [(i : Int)]) u hu
      exact ⟨0, t, x, by simpa using h1, h2, h3⟩
    · rw [show (i : Int) + 1 = ((i + 1 : Nat) : Int) by omega] at hu
      obtain ⟨k, t, x, h1, h2, h3⟩ := opWL_at l (i + 1) w u hu
      exact ⟨k + 1, t, x, by rw [h1]; simp; omega, by simpa using h2, h3⟩
end
theorem at_open (p : Pf) : ∀ w ∈ opW p [], ∃ x, atP p w = some x ∧ x.rule = 0 := fun w hw => by
  obtain ⟨t, x, rfl, h1, h2⟩ := opW_at p [] w hw
  exact ⟨x, h1, h2⟩

end Go.Proofs.YtkecobdhgabknaaDoor.A
