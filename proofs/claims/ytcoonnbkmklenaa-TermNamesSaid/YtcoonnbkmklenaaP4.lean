/- Plain laws of parts. -/
import Derived.Test.YtcoonnbkmklenaaS10
import Derived.Test.YtcoonnbkmklenaaP3
import Derived.Test.YtcoonnbkmklenaaS5
namespace Go.Proofs.Ytcoonnbkmklenaa.A
open Go

mutual
theorem sz_all : ∀ (t : Tm) (m : Int), 0 ≤ m → sz t m ≤ m → (t.all.length : Int) = sz t m
  | .mk a s b l, m, h0, h => by
    simp only [sz] at h ⊢
    have := szL_all l m 1 h
    simp only [Tm.all, List.length_cons]
    omega
theorem szL_all : ∀ (l : List Tm) (m n : Int), szL l m n ≤ m → n + ((allL l).length : Int) = szL l m n
  | [], m, n, h => by simp [szL, allL]
  | t :: l, m, n, h => by
    simp only [szL] at h ⊢
    by_cases hn : n ≤ m
    · rw [if_pos hn] at h ⊢
      by_cases ht : sz t (m - n) ≤ m - n
      · have h1 := sz_all t (m - n) (by omega) ht
        have h2 := szL_all l m _ h
        simp only [allL, List.length_append]
        omega
      · rw [szL_out _ _ _ (by omega)] at h
        omega
    · rw [if_neg hn] at h
      omega
end

theorem small_all {l : List Tm} (h : smallL l = true) {t : Tm} (ht : t ∈ l) : t.all.length ≤ 60 := by
  have := List.all_eq_true.1 h t ht
  simp only [Bool.not_eq_true', decide_eq_false_iff_not] at this
  have := sz_all t 60 (by omega) (by omega)
  omega

theorem tm_cm (t u : Tm) : tmEq t u = (cm t u == 0) := by
  rw [Bool.eq_iff_iff, beq_iff_eq]
  exact (cm_tm t u).symm

theorem cm_comm (t u : Tm) : (cm t u == 0) = (cm u t == 0) := by
  have := cm_neg t u
  rw [Bool.eq_iff_iff, beq_iff_eq, beq_iff_eq]
  omega

theorem has_in (l : List Tm) (x : Tm) : hasL l x = inL l x := by
  unfold hasL inL
  congr 1
  funext u
  rw [tm_cm, cm_comm]

theorem partsP_R (t : Tm) : partsP t = partsR t := by
  unfold partsP partsR
  congr 1
  funext out x
  unfold addP addL
  rw [has_in]

mutual
theorem tm_self : ∀ t : Tm, tmEq t t = true
  | .mk a s b l => by simp [tmEq, bytesEq_self, ts_self l]
theorem ts_self : ∀ l : List Tm, tsEq l l = true
  | [] => by simp [tsEq]
  | t :: l => by simp [tsEq, tm_self t, ts_self l]
end

theorem cm_trans0 {a b c : Tm} (h : cm a b = 0) (k : cm b c = 0) : cm a c = 0 := by
  have := cm_tr a b c
  unfold Tr at this
  omega

theorem addL_mem {out : List Tm} {x p : Tm} : inL (addL out x) p = (inL out p || tmEq x p) := by
  unfold addL
  split
  · rename_i h
    rw [Bool.eq_iff_iff, Bool.or_eq_true]
    refine ⟨.inl, fun h' => h'.elim id fun h' => ?_⟩
    unfold inL at h ⊢
    rw [List.any_eq_true] at h ⊢
    obtain ⟨u, hu, e⟩ := h
    exact ⟨u, hu, (cm_tm _ _).1 (cm_trans0 ((cm_tm _ _).2 e) ((cm_tm _ _).2 h'))⟩
  · simp [inL]

theorem foldl_mem (p : Tm) : ∀ (l out : List Tm), inL (l.foldl addL out) p = (inL out p || l.any fun x => tmEq x p)
  | [], out => by simp
  | x :: l, out => by rw [List.foldl_cons, foldl_mem p l, addL_mem]; simp [Bool.or_assoc]

theorem has_parts (t p : Tm) : has t p = inL (partsR t) p := by
  rw [partsR, foldl_mem]
  simp only [has, inL, List.any_nil, Bool.false_or]
  congr 1
  funext x
  rw [tm_cm]

theorem parts_sub {P : Tm → Prop} : ∀ (l out : List Tm), (∀ u ∈ l, P u) → (∀ u ∈ out, P u) → ∀ u ∈ l.foldl addL out, P u
  | [], out, _, h => h
  | x :: l, out, hl, h => by
    rw [List.foldl_cons]
    refine parts_sub l _ (fun u hu => hl u (List.mem_cons_of_mem _ hu)) ?_
    unfold addL
    split
    · exact h
    · intro u hu
      rcases List.mem_append.1 hu with hu | hu
      · exact h u hu
      · obtain rfl := List.mem_singleton.1 hu
        exact hl u (List.mem_cons_self ..)

theorem parts_len : ∀ (l out : List Tm), (l.foldl addL out).length ≤ out.length + l.length
  | [], out => by simp
  | x :: l, out => by
    rw [List.foldl_cons]
    have := parts_len l (addL out x)
    have h : (addL out x).length ≤ out.length + 1 := by unfold addL; split <;> simp
    simp only [List.length_cons]
    omega

end Go.Proofs.Ytcoonnbkmklenaa.A
