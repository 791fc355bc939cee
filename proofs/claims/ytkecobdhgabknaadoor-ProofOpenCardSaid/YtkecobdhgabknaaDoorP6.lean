/- The plain laws of comparing claims. -/
import Derived.Test.YtkecobdhgabknaaDoorC3
import Derived.Test.YtkecobdhgabknaaDoorP3
namespace Go.Proofs.YtkecobdhgabknaaDoor.A
open Go

/-- how Op and Name compare -/
def keyC (a : Int) (s : ByteArray) (a' : Int) (s' : ByteArray) : Int := if cmpI a a' = 0 then (if binder a = true then 0 else cmpS s s') else cmpI a a'

mutual
/-- comparing, the lists' ends told -/
def dcm : Cl → Cl → Int
  | .mk a s u ts cs, .mk a' s' u' ts' cs' => orL [keyC a s a' s', cmpS u u', cmpI (ts.length : Int) (ts'.length : Int), cmL ts ts', cmpI (cs.length : Int) (cs'.length : Int), dcL cs cs']
def dcL : List Cl → List Cl → Int
  | [], [] => 0
  | [], _ :: _ => -1
  | _ :: _, [] => 1
  | c :: l, d :: k => if dcm c d = 0 then dcL l k else dcm c d
end

theorem orL_last (x : Int) : orL [x] = x := by
  simp only [orL]
  split
  · rename_i h; exact h.symm
  · rfl

theorem cmL_fst : ∀ (l k : List Tm), l.length = k.length → cmL l k = fstT l k
  | [], [], _ => by simp [cmL, fstT]
  | [], _ :: _, h => by simp at h
  | _ :: _, [], h => by simp at h
  | t :: l, u :: k, h => by simp [cmL, fstT, cmL_fst l k (by simpa using h)]

mutual
theorem ccm_d : ∀ c d : Cl, ccm c d = dcm c d
  | .mk a s u ts cs, .mk a' s' u' ts' cs' => by
    rw [ccm_cases, dcm]
    rw [show [keyC a s a' s', cmpS u u', cmpI (ts.length : Int) (ts'.length : Int), cmL ts ts', cmpI (cs.length : Int) (cs'.length : Int), dcL cs cs'] =
      [keyC a s a' s', cmpS u u', cmpI (ts.length : Int) (ts'.length : Int)] ++ [cmL ts ts', cmpI (cs.length : Int) (cs'.length : Int), dcL cs cs'] from rfl, orL_cat]
    have hk : orL [cmpI a a', if binder a = true then 0 else cmpS s s', cmpS u u', cmpI (ts.length : Int) (ts'.length : Int)] = orL [keyC a s a' s', cmpS u u', cmpI (ts.length : Int) (ts'.length : Int)] := by
      unfold keyC
      by_cases h : cmpI a a' = 0
      · rw [if_pos h, orL_z h]
      · rw [if_neg h, orL_nz h, orL_nz h]
    rw [hk]
    by_cases h : orL [keyC a s a' s', cmpS u u', cmpI (ts.length : Int) (ts'.length : Int)] = 0
    · rw [if_pos h, if_pos h]
      have hl : ts.length = ts'.length := cmpI_len ((orL_zero_iff _).1 h _ (by simp))
      rw [cmL_fst ts ts' hl]
      by_cases h1 : fstT ts ts' = 0
      · rw [if_pos h1, orL_z h1]
        by_cases h2 : cmpI (cs.length : Int) (cs'.length : Int) = 0
        · rw [if_pos h2, orL_z h2, orL_last, ccmL_d cs cs' (cmpI_len h2)]
        · rw [if_neg h2, orL_nz h2]
      · rw [if_neg h1, orL_nz h1]
    · rw [if_neg h, if_neg h]
theorem ccmL_d : ∀ l k : List Cl, l.length = k.length → ccmL l k = dcL l k
  | [], [], _ => by simp [ccmL, dcL]
  | [], _ :: _, h => by simp at h
  | _ :: _, [], h => by simp at h
  | c :: l, d :: k, h => by
    simp only [ccmL, dcL, ccm_d c d]
    split
    · exact ccmL_d l k (by simpa using h)
    · rfl
end

theorem keyC_rng (a : Int) (s : ByteArray) (a' : Int) (s' : ByteArray) : Rng (keyC a s a' s') := by
  unfold keyC
  split
  · split
    · simp [Rng]
    · exact cmpS_rng _ _
  · exact cmpI_rng _ _
theorem keyC_neg (a : Int) (s : ByteArray) (a' : Int) (s' : ByteArray) : keyC a s a' s' = - keyC a' s' a s := by
  unfold keyC
  have h := cmpI_neg a a'
  by_cases h1 : cmpI a a' = 0
  · have h2 : cmpI a' a = 0 := by omega
    obtain rfl := (cmpI_zero _ _).1 h1
    rw [if_pos h1]
    split
    · rfl
    · exact cmpS_neg _ _
  · have h2 : ¬ cmpI a' a = 0 := by omega
    rw [if_neg h1, if_neg h2, h]
theorem keyC_tr (a : Int) (s : ByteArray) (a' : Int) (s' : ByteArray) (a2 : Int) (s2 : ByteArray) : Tr (keyC a s a' s') (keyC a' s' a2 s2) (keyC a s a2 s2) := by
  by_cases h1 : a = a'
  · by_cases h2 : a' = a2
    · subst h1 h2
      have h0 : cmpI a a = 0 := (cmpI_zero a a).2 rfl
      unfold keyC
      rw [if_pos h0, if_pos h0, if_pos h0]
      cases binder a with
      | true => simp [Tr]
      | false => simpa using cmpS_tr s s' s2
    · subst h1
      have h0 : cmpI a a = 0 := (cmpI_zero a a).2 rfl
      have h3 : ¬ cmpI a a2 = 0 := fun q => h2 ((cmpI_zero _ _).1 q)
      simp only [keyC, if_neg h3]
      unfold Tr
      intro _ h4
      exact ⟨h4, fun q => absurd q h3, fun q => absurd q.2 h3⟩
  · have h3 : ¬ cmpI a a' = 0 := fun q => h1 ((cmpI_zero _ _).1 q)
    by_cases h2 : a' = a2
    · subst h2
      simp only [keyC, if_neg h3]
      unfold Tr
      intro h4 _
      exact ⟨h4, fun q => absurd q h3, fun q => absurd q.1 h3⟩
    · have h4 : ¬ cmpI a' a2 = 0 := fun q => h2 ((cmpI_zero _ _).1 q)
      have ht := cmpI_tr a a' a2
      unfold Tr at ht ⊢
      intro k1 k2
      have e1 : keyC a s a' s' = cmpI a a' := by unfold keyC; rw [if_neg h3]
      have e2 : keyC a' s' a2 s2 = cmpI a' a2 := by unfold keyC; rw [if_neg h4]
      rw [e1] at k1
      rw [e2] at k2
      obtain ⟨t1, t2⟩ := ht k1 k2
      have h5 : ¬ cmpI a a2 = 0 := fun q => h3 (t2.1 q).1
      have e3 : keyC a s a2 s2 = cmpI a a2 := by unfold keyC; rw [if_neg h5]
      rw [e1, e2, e3]
      exact ⟨t1, t2⟩

mutual
theorem dcm_rng : ∀ t u : Cl, Rng (dcm t u)
  | .mk a s u ts cs, .mk a' s' u' ts' cs' => by
    rw [dcm]
    exact orc_rng (keyC_rng _ _ _ _) (orc_rng (cmpS_rng _ _) (orc_rng (cmpI_rng _ _) (orc_rng (cmL_rng ts ts') (orc_rng (cmpI_rng _ _) (orc_rng (dcL_rng cs cs') (by simp [orL, Rng]))))))
theorem dcL_rng : ∀ l k : List Cl, Rng (dcL l k)
  | [], [] => by simp [dcL, Rng]
  | [], _ :: _ => by simp [dcL, Rng]
  | _ :: _, [] => by simp [dcL, Rng]
  | t :: l, u :: k => by
    rw [dcL]
    split
    · exact dcL_rng l k
    · exact dcm_rng t u
end

mutual
theorem dcm_neg : ∀ t u : Cl, dcm t u = - dcm u t
  | .mk a s u ts cs, .mk a' s' u' ts' cs' => by
    rw [dcm, dcm]
    exact orc_neg (keyC_neg _ _ _ _) (orc_neg (cmpS_neg _ _) (orc_neg (cmpI_neg _ _) (orc_neg (cmL_neg ts ts') (orc_neg (cmpI_neg _ _) (orc_neg (dcL_neg cs cs') (by simp [orL]))))))
theorem dcL_neg : ∀ l k : List Cl, dcL l k = - dcL k l
  | [], [] => by simp [dcL]
  | [], _ :: _ => by simp [dcL]
  | _ :: _, [] => by simp [dcL]
  | t :: l, u :: k => by
    have h := dcm_neg t u
    rw [dcL, dcL]
    by_cases hz : dcm u t = 0
    · have hz' : dcm t u = 0 := by omega
      rw [if_pos hz, if_pos hz']
      exact dcL_neg l k
    · have hz' : ¬ dcm t u = 0 := by omega
      rw [if_neg hz, if_neg hz', h]
end

mutual
theorem dcm_tr : ∀ t u v : Cl, Tr (dcm t u) (dcm u v) (dcm t v)
  | .mk a s u ts cs, .mk a' s' u' ts' cs', .mk a2 s2 u2 ts2 cs2 => by
    rw [dcm, dcm, dcm]
    exact orc_tr (keyC_tr _ _ _ _ _ _) (orc_tr (cmpS_tr _ _ _) (orc_tr (cmpI_tr _ _ _) (orc_tr (cmL_tr ts ts' ts2) (orc_tr (cmpI_tr _ _ _) (orc_tr (dcL_tr cs cs' cs2) or_nil_tr)))))
theorem dcL_tr : ∀ l k m : List Cl, Tr (dcL l k) (dcL k m) (dcL l m)
  | [], [], [] => by simp [dcL, Tr]
  | [], [], _ :: _ => by simp [dcL, Tr]
  | [], _ :: _, [] => by simp [dcL, Tr]
  | [], _ :: _, _ :: _ => by simp [dcL, Tr]
  | _ :: _, [], [] => by simp [dcL, Tr]
  | _ :: _, [], _ :: _ => by simp [dcL, Tr]
  | _ :: _, _ :: _, [] => by simp [dcL, Tr]
  | t :: l, u :: k, v :: m => by
    exact lex_tr (dcm_tr t u v) (dcL_tr l k m)
end

theorem ccm_rng (c d : Cl) : Rng (ccm c d) := by rw [ccm_d]; exact dcm_rng c d
theorem ccm_neg (c d : Cl) : ccm c d = - ccm d c := by rw [ccm_d, ccm_d]; exact dcm_neg c d
theorem ccm_tr (c d e : Cl) : Tr (ccm c d) (ccm d e) (ccm c e) := by rw [ccm_d, ccm_d, ccm_d]; exact dcm_tr c d e
theorem ccm_self (c : Cl) : ccm c c = 0 := by have := ccm_neg c c; omega

mutual
theorem ccm_cl : ∀ c d : Cl, ccm c d = 0 ↔ clEq c d = true
  | .mk a s u ts cs, .mk a' s' u' ts' cs' => by
    rw [ccm, clEq, orL_zero_iff]
    simp only [List.mem_cons, List.not_mem_nil, or_false, forall_eq_or_imp, forall_eq, cmpI_zero, cmpS_zero, Bool.and_eq_true, beq_iff_eq, Bool.or_eq_true]
    constructor
    · rintro ⟨h1, h2, h3, h4, h5, h6, h7⟩
      have h4' : ts.length = ts'.length := by omega
      have h6' : cs.length = cs'.length := by omega
      refine ⟨⟨⟨⟨h1, h3⟩, ?_⟩, h4', ?_⟩, h6', (ccmL_cl cs cs' h6').1 h7⟩
      · cases hb : binder a with
        | true => exact .inl rfl
        | false =>
          rw [hb] at h2
          exact .inr ((cmpS_zero _ _).1 (by simpa using h2))
      · rw [← cmL_fst ts ts' h4'] at h5
        exact (cmL_ts ts ts' h4').1 h5
    · rintro ⟨⟨⟨⟨h1, h3⟩, h2⟩, h4, h5⟩, h6, h7⟩
      refine ⟨h1, ?_, h3, by omega, ?_, by omega, (ccmL_cl cs cs' h6).2 h7⟩
      · rcases h2 with h2 | h2
        · rw [if_pos h2]
        · split
          · rfl
          · exact (cmpS_zero _ _).2 h2
      · rw [← cmL_fst ts ts' h4]
        exact (cmL_ts ts ts' h4).2 h5
theorem ccmL_cl : ∀ l k : List Cl, l.length = k.length → (ccmL l k = 0 ↔ clsEq l k = true)
  | [], [], _ => by simp [ccmL, clsEq]
  | [], _ :: _, h => by simp at h
  | _ :: _, [], h => by simp at h
  | c :: l, d :: k, h => by
    simp only [ccmL, clsEq, Bool.and_eq_true]
    by_cases hz : ccm c d = 0
    · rw [if_pos hz, ccmL_cl l k (by simpa using h)]
      simp [(ccm_cl c d).1 hz]
    · rw [if_neg hz]
      have : ¬ clEq c d = true := fun q => hz ((ccm_cl c d).2 q)
      simp [hz, this]
end

end Go.Proofs.YtkecobdhgabknaaDoor.A
