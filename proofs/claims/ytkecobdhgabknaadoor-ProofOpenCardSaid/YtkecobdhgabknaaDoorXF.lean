/- A proof is the same as itself; a proof that may be tried is small in each part. -/
import Derived.Test.YtkecobdhgabknaaDoorX5
import Derived.Test.YtkecobdhgabknaaDoorPT
namespace Go.Proofs.YtkecobdhgabknaaDoor.A
open Go
set_option linter.unusedSimpArgs false
set_option linter.unusedVariables false

theorem bytesEq_self' (x : ByteArray) : bytesEq x x = true := by simp [bytesEq]

mutual
theorem tmE_self : ∀ t : Tm, tmEq t t = true
  | .mk a s b l => by simp [tmEq, bytesEq_self', tsE_self l]
theorem tsE_self : ∀ l : List Tm, tsEq l l = true
  | [] => by simp [tsEq]
  | t :: l => by simp [tsEq, tmE_self t, tsE_self l]
end
mutual
theorem ex_self : ∀ c : Cl, exEq c c = true
  | .mk a s u ts cs => by simp [exEq, bytesEq_self', tsE_self ts, exs_self cs]
theorem exs_self : ∀ l : List Cl, exsEq l l = true
  | [] => by simp [exsEq]
  | c :: l => by simp [exsEq, ex_self c, exs_self l]
end

mutual
theorem ct_parts : ∀ c : Cl, c.ct = (allL (partTs c)).length + cnt c
  | .mk a s u ts cs => by
    have := ctL_parts cs
    simp only [Cl.ct, partTs, cnt, allL_apC, List.length_append]
    omega
theorem ctL_parts : ∀ l : List Cl, ctL l = (allL (partTsL l)).length + cntL l
  | [] => by simp [ctL, partTsL, allL, cntL]
  | c :: l => by
    have h1 := ct_parts c
    have h2 := ctL_parts l
    simp only [ctL, partTsL, cntL, allL_apC, List.length_append]
    omega
end
theorem ct_wt (c : Cl) (m : Int) (h0 : 0 ≤ m) (h : ¬ m < wt c m) : (c.ct : Int) = wt c m := by
  have := wt_parts c m h0 (by omega)
  have := ct_parts c
  omega


mutual
theorem clm_self : ∀ c : Cl, clEq c c = true
  | .mk a s u ts cs => by simp [clEq, bytesEq_self', tsE_self ts, clms_self cs]
theorem clms_self : ∀ l : List Cl, clsEq l l = true
  | [] => by simp [clsEq]
  | c :: l => by simp [clsEq, clm_self c, clms_self l]
end
theorem leq_refl {α : Type} {eq : α → α → Bool} (h : ∀ x, eq x x = true) : ∀ l : List α, leq eq l l = true
  | [] => rfl
  | a :: l => by simp [leq, h a, leq_refl h l]
mutual
theorem cu_self : ∀ c : Cu, cuEq c c = true
  | .mk kd fr b dv k ms cs => by
    have h1 := leq_refl (eq := ieq) (fun x => by simp [ieq])
    have h2 := leq_refl (eq := meq) (fun x => by simp [meq])
    simp [cuEq, ilq, mlq, h1, h2, cus_self cs]
theorem cus_self : ∀ l : List Cu, cusEq l l = true
  | [] => by simp [cusEq]
  | c :: l => by simp [cusEq, cu_self c, cus_self l]
end
theorem ch_self (c : Ch) : chEq c c = true := by
  have h1 := leq_refl (eq := ieq) (fun x => by simp [ieq])
  simp [chEq, ilq, h1]
theorem lm_self (c : Lm) : lmEq c c = true := by
  have h1 := leq_refl (eq := ieq) (fun x => by simp [ieq])
  simp [lmEq, ilq, h1, cu_self]
mutual
theorem pr_self : ∀ p : Pf, prEq p p = true
  | .mk r h n v b t c les chs cu ps => by
    simp [prEq, crEq, bytesEq_self', tmE_self, clm_self, leq_refl lm_self, leq_refl ch_self, cu_self, prs_self ps]
theorem prs_self : ∀ l : List Pf, prsEq l l = true
  | [] => by simp [prsEq]
  | c :: l => by simp [prsEq, pr_self c, prs_self l]
end
mutual
theorem xc_self : ∀ p : Pf, xcEq p p = true
  | .mk r h n v b t c les chs cu ps => by
    simp [xcEq, ex_self, pr_self, xcs_self ps]
theorem xcs_self : ∀ l : List Pf, xcsEq l l = true
  | [] => by simp [xcsEq]
  | c :: l => by simp [xcsEq, xc_self c, xcs_self l]
end

mutual
theorem cw_pos : ∀ (c : Cu) (m : Int), 1 ≤ cw c m
  | .mk _ fr b _ _ ms cs, m => by
    have := cwL_ge cs m (1 + fr.length + b.length + ms.length)
    simp only [cw]; omega
theorem cwL_ge : ∀ (l : List Cu) (m n : Int), n ≤ cwL l m n
  | [], m, n => by simp [cwL]
  | c :: l, m, n => by
    simp only [cwL]
    split
    · have := cw_pos c (m - n)
      have := cwL_ge l m (n + cw c (m - n))
      omega
    · omega
end
mutual
theorem cw_sm : ∀ (c : Cu) (m : Int), m ≤ 1000000 → cw c m ≤ m → c.sm
  | .mk _ fr b _ _ ms cs, m, hm, h => by
    simp only [cw] at h
    have h1 := cwL_ge cs m (1 + fr.length + b.length + ms.length)
    have h2 := cwL_sm cs m _ (by omega) hm h
    simp only [Cu.sm]
    exact ⟨by omega, by omega, by omega, by omega, h2.1⟩
theorem cwL_sm : ∀ (l : List Cu) (m n : Int), 0 ≤ n → m ≤ 1000000 → cwL l m n ≤ m → smCu l ∧ n + l.length ≤ m
  | [], m, n, h0, hm, h => by simp [smCu]; simpa [cwL] using h
  | c :: l, m, n, h0, hm, h => by
    simp only [cwL] at h
    by_cases hn : n ≤ m
    · rw [if_pos hn] at h
      have h1 := cwL_ge l m (n + cw c (m - n))
      have h3 := cw_pos c (m - n)
      have h2 := cw_sm c (m - n) (by omega) (by omega)
      have h4 := cwL_sm l m _ (by omega) hm h
      simp only [smCu, List.length_cons]
      exact ⟨⟨h2, h4.1⟩, by omega⟩
    · rw [if_neg hn] at h
      omega
end
theorem chL_ge : ∀ (l : List Ch) (m n : Int), n ≤ chL l m n
  | [], m, n => by simp [chL]
  | x :: l, m, n => by
    have := chL_ge l m (n + (x.1.length + x.2.length))
    simp only [chL]; split <;> omega
theorem chL_sm : ∀ (l : List Ch) (m n : Int), 0 ≤ n → m ≤ 1000000 → chL l m n ≤ m → ∀ x ∈ l, Ch.sm x
  | [], m, n, _, _, _, x, hx => by simp at hx
  | y :: l, m, n, h0, hm, h, x, hx => by
    simp only [chL] at h
    split at h
    · omega
    · have := chL_ge l m (n + (y.1.length + y.2.length))
      rcases List.mem_cons.1 hx with rfl | hx
      · exact ⟨by omega, by omega⟩
      · exact chL_sm l m _ (by omega) hm h x hx
theorem leL_ge : ∀ (l : List Lm) (m n : Int), n ≤ leL l m n
  | [], m, n => by simp [leL]
  | x :: l, m, n => by
    have := leL_ge l m (n + (x.1.length + cw x.2 m))
    have := cw_pos x.2 m
    simp only [leL]; split <;> omega
theorem leL_sm : ∀ (l : List Lm) (m n : Int), 0 ≤ n → m ≤ 1000000 → leL l m n ≤ m → ∀ x ∈ l, Lm.sm x
  | [], m, n, _, _, _, x, hx => by simp at hx
  | y :: l, m, n, h0, hm, h, x, hx => by
    have hp := cw_pos y.2 m
    simp only [leL] at h
    split at h
    · omega
    · have := leL_ge l m (n + (y.1.length + cw y.2 m))
      rcases List.mem_cons.1 hx with rfl | hx
      · exact ⟨by omega, cw_sm _ m hm (by omega)⟩
      · exact leL_sm l m _ (by omega) hm h x hx
mutual
theorem pw_sm : ∀ (p : Pf) (m : Int), 0 ≤ m → m ≤ 1000000 → pw p m ≤ m → p.sm ∧ psz p ≤ pw p m
  | .mk r h n v b t c les chs cu ps, m, h0, hm, hp => by
    have hE : pw (.mk r h n v b t c les chs cu ps) m = (if m < base h n v les chs ∨ m < sz t m ∨ m < wt c m then m + 1
      else if (!chs.isEmpty && decide (m < p2 t cu chs (base h n v les chs) m)) = true then p2 t cu chs (base h n v les chs) m
      else if (!les.isEmpty && decide (m < p3 t cu les chs (base h n v les chs) m)) = true then p3 t cu les chs (base h n v les chs) m
      else pwL ps m (p3 t cu les chs (base h n v les chs) m)) := rfl
    generalize pw (.mk r h n v b t c les chs cu ps) m = R at hE hp ⊢
    have hb : base h n v les chs = 1 + h.size + n.size + v.size + chs.length + les.length := rfl
    generalize base h n v les chs = B at *
    have e2 : p2 t cu chs B m = chL chs m (B + (sz t m + cw cu m)) := rfl
    have e3 : p3 t cu les chs B m = leL les m (p2 t cu chs B m) := rfl
    generalize p2 t cu chs B m = P2 at *
    generalize p3 t cu les chs B m = P3 at *
    have s1 := sz_le t m h0
    have c1 := cw_pos cu m
    have g2 := chL_ge chs m (B + (sz t m + cw cu m))
    have g3 := leL_ge les m P2
    rw [← e2] at g2
    rw [← e3] at g3
    split at hE
    · omega
    · rename_i q1
      split at hE
      · rename_i q2
        simp at q2
        omega
      · split at hE
        · rename_i q3
          simp at q3
          omega
        · have q4 := pwL_sm ps m P3 (by omega) hm (by omega)
          have q5 := pwL_ge ps m P3
          have t1 := sz_allC t m h0 (by omega)
          have t2 := ct_wt c m h0 (by omega)
          refine ⟨?_, ?_⟩
          · simp only [Pf.sm]
            exact ⟨by omega, by omega, by omega, leL_sm les m P2 (by omega) hm (by rw [← e3]; omega), by omega, chL_sm chs m (B + (sz t m + cw cu m)) (by omega) hm (by rw [← e2]; omega), cw_sm cu m hm (by omega), by omega, q4.1⟩
          · simp only [psz]; omega
theorem pwL_ge : ∀ (l : List Pf) (m n : Int), n ≤ pwL l m n
  | [], m, n => by simp [pwL]
  | p :: l, m, n => by
    simp only [pwL]
    split
    · have := pwL_ge l m (n + pw p (m - n))
      have := pw_pos p (m - n) (by omega)
      omega
    · omega
theorem pw_pos : ∀ (p : Pf) (m : Int), 0 ≤ m → 0 ≤ pw p m
  | .mk r h n v b t c les chs cu ps, m, h0 => by
    have s1 := sz_le t m h0
    have c1 := cw_pos cu m
    have g2 := chL_ge chs m (base h n v les chs + (sz t m + cw cu m))
    have g3 := leL_ge les m (p2 t cu chs (base h n v les chs) m)
    have g4 := pwL_ge ps m (p3 t cu les chs (base h n v les chs) m)
    have hb : 1 ≤ base h n v les chs := base_le
    simp only [pw]
    unfold p3 at *
    unfold p2 at *
    split
    · omega
    · split
      · omega
      · split <;> omega
theorem pwL_sm : ∀ (l : List Pf) (m n : Int), 0 ≤ n → m ≤ 1000000 → pwL l m n ≤ m → smPf l ∧ n + l.length ≤ m ∧ n + pszL l ≤ pwL l m n
  | [], m, n, h0, hm, h => by simp [smPf, pwL, pszL]; simpa [pwL] using h
  | p :: l, m, n, h0, hm, h => by
    simp only [pwL] at h ⊢
    by_cases hn : n ≤ m
    · rw [if_pos hn] at h ⊢
      have h1 := pwL_ge l m (n + pw p (m - n))
      have h2 := pw_sm p (m - n) (by omega) (by omega) (by omega)
      have h3 := psz_pos p
      have h4 := pwL_sm l m _ (by omega) hm h
      simp only [smPf, List.length_cons, pszL]
      exact ⟨⟨h2.1, h4.1⟩, by omega, by omega⟩
    · rw [if_neg hn] at h
      omega
end

end Go.Proofs.YtkecobdhgabknaaDoor.A
