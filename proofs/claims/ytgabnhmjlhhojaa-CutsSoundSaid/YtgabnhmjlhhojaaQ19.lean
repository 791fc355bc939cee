/- The plain law of CutsSound: if a cut checks, no numbers make all facts hold. -/
import Derived.Test.YtgabnhmjlhhojaaQ18
namespace Go.Proofs.Ytgabnhmjlhhojaa.A
open Go
set_option linter.unusedSimpArgs false
set_option linter.unusedVariables false

def xv (x : List Int) (v : Int) : Int := if v < x.length then x.getD v.toNat 0 else 0
def vl (x : List Int) : List (Int × Int) → Int
  | [] => 0
  | m :: l => m.2 * xv x m.1 + vl x l
/-- a form's value -/
def lv (x : List Int) (l : Li) : Int := l.1 + vl x l.2
theorem accE_vl (x : List Int) : ∀ (l : List (Int × Int)) (a : Int), accE x l a = a + vl x l
  | [], a => by simp [accE, vl]
  | m :: l, a => by
    simp only [accE, vl, xv]
    rw [accE_vl x l]
    split <;> simp <;> omega
def dot (x : List Int) : Nat → List Int → Int
  | _, [] => 0
  | j, a :: l => a * xv x j + dot x (j + 1) l
theorem oL_dot (x : List Int) : ∀ (xs : List Int) (j : Nat), (∀ a ∈ xs, inI64 a) → vl x (oL j xs) = dot x j xs
  | [], j, h => rfl
  | a :: l, j, h => by
    have ih := oL_dot x l (j + 1) (fun b hb => h b (by simp [hb]))
    have hf : fit a = a := by simp [fit, h a (by simp)]
    simp only [oL, dot, hf]
    by_cases hz : a = 0
    · rw [if_neg (by simpa using hz), ih, hz]; simp
    · rw [if_pos hz]; simp only [vl, ih]
theorem dot_set (x : List Int) (t : Int) : ∀ (xs : List Int) (j i : Nat), i < xs.length → dot x j (xs.set i (xs.getD i 0 + t)) = dot x j xs + t * xv x ((j + i : Nat) : Int)
  | a :: l, j, 0, h => by
    simp only [List.set_cons_zero, dot, List.getD_cons_zero, Int.add_mul, Nat.add_zero]; omega
  | a :: l, j, i + 1, h => by
    have ih := dot_set x t l (j + 1) i (by simpa using h)
    simp only [List.set_cons_succ, dot, List.getD_cons_succ, ih, show j + 1 + i = j + (i + 1) by omega]; omega
theorem accM_dot (x : List Int) (b : Int) : ∀ (l : List (Int × Int)) (xs : List Int), (∀ m ∈ l, 0 ≤ m.1 ∧ m.1 < xs.length) → dot x 0 (accM b l xs) = dot x 0 xs + b * vl x l
  | [], xs, h => by simp [accM, vl]
  | m :: l, xs, h => by
    have hm := h m (by simp)
    have ih := accM_dot x b l (xs.set m.1.toNat (xs.getD m.1.toNat 0 + m.2 * b)) (fun k hk => by simpa using h k (by simp [hk]))
    simp only [accM, vl, ih]
    rw [dot_set x (m.2 * b) xs 0 m.1.toNat (by omega), show ((0 + m.1.toNat : Nat) : Int) = m.1 by omega, Int.mul_add]
    have : m.2 * b * xv x m.1 = b * (m.2 * xv x m.1) := by rw [Int.mul_comm m.2 b, Int.mul_assoc]
    omega
/-- a sum of forms' values -/
def ss (x : List Int) : List (Li × Int) → Int
  | [] => 0
  | f :: l => f.2 * lv x f.1 + ss x l
theorem acc_ss (x : List Int) : ∀ (fs : List (Li × Int)) (a : Int) (xs : List Int), (∀ f ∈ fs, ∀ m ∈ f.1.2, 0 ≤ m.1 ∧ m.1 < xs.length) → accK fs a + dot x 0 (accF fs xs) = a + dot x 0 xs + ss x fs
  | [], a, xs, h => by simp [accK, accF, ss]
  | f :: l, a, xs, h => by
    have ih := acc_ss x l (a + f.1.1 * f.2) (accM f.2 f.1.2 xs) (fun g hg m hm => by rw [accM_len]; exact h g (by simp [hg]) m hm)
    have h1 := accM_dot x f.2 f.1.2 xs (fun m hm => h f (by simp) m hm)
    simp only [accK, accF, ss, ih, h1, lv, Int.mul_add]
    rw [Int.mul_comm f.1.1 f.2]; omega
theorem dot_rep (x : List Int) : ∀ (n j : Nat), dot x j (List.replicate n 0) = 0
  | 0, j => rfl
  | n + 1, j => by rw [List.replicate_succ]; simp [dot, dot_rep x n]
theorem lsumP_v (x : List Int) (fs : List (Li × Int)) (hf : ∀ f ∈ fs, ∀ m ∈ f.1.2, 0 ≤ m.1 ∧ m.1 < 64) (h : (lsumP fs).2 = 0) : lv x (lsumP fs).1 = ss x fs := by
  unfold lsumP at h ⊢
  split at h
  · rename_i hh
    rw [if_pos hh]
    have h1 := acc_ss x fs 0 z64 (fun f hf' m hm => by rw [z64_len]; exact hf f hf' m hm)
    have h2 : dot x 0 z64 = 0 := dot_rep x 64 0
    show accK fs 0 + vl x (oL 0 (accF fs z64)) = _
    rw [oL_dot x _ 0 (fun a ha => by simpa using (List.all_eq_true.1 hh.2) a ha)]
    omega
  · simp at h
theorem lSumP_v (x : List Int) (l : List Li) (b : List Int) (h : (lSumP l b).2 = 0) : l.all lok = true ∧ lv x (lSumP l b).1 = ss x (l.zip b) := by
  unfold lSumP at h ⊢
  split at h
  · rename_i hh
    rw [if_pos hh]
    refine ⟨hh.1, lsumP_v x _ (fun f hf m hm => ?_) h⟩
    have := (List.all_eq_true.1 hh.1) f.1 (List.of_mem_zip hf).1
    exact lrt_rng _ _ (by omega) this m hm
  · simp at h

/-- does a fact hold? -/
def hq (x : List Int) (q : Iq) : Prop := if q.2 = true then lv x q.1 = 0 else lv x q.1 ≤ 0

theorem divP_v (x : List Int) (l : Li) (d : Int) (hd : 1 ≤ d) (hm : ((l.2.map Prod.snd).all fun n => n.tmod d == 0) = true) : ∃ t, lv x (divP l d) = ceilP l.1 d + t ∧ lv x l = l.1 + d * t := by
  refine ⟨vl x (dvM d l.2), rfl, ?_⟩
  show l.1 + vl x l.2 = _
  congr 1
  obtain ⟨k, ms⟩ := l
  simp only at hm ⊢
  induction ms with
  | nil => simp [dvM, vl]
  | cons m ms ih =>
    simp only [List.map_cons, List.all_cons, Bool.and_eq_true, beq_iff_eq] at hm
    have e : m.2 = d * m.2.tdiv d := by have := Int.mul_tdiv_add_tmod m.2 d; omega
    have ih := ih hm.2
    have hdv : dvM d (m :: ms) = (m.1, m.2.tdiv d) :: dvM d ms := rfl
    rw [hdv]
    simp only [vl, Int.mul_add, ih]
    congr 1
    rw [← Int.mul_assoc, ← e]

theorem ss_le (x : List Int) : ∀ (l : List Iq) (b : List Int), l.length = b.length → (l.zip b).all okQ = true → (∀ q ∈ l, hq x q) → ss x ((l.map Prod.fst).zip b) ≤ 0 ∧ ((l.all fun q => q.2) = true → ss x ((l.map Prod.fst).zip b) = 0)
  | [], b, hb, h, hh => by simp [ss]
  | q :: l, [], hb, h, hh => by simp at hb
  | q :: l, y :: b, hb, h, hh => by
    simp only [List.zip_cons_cons, List.all_cons, Bool.and_eq_true] at h
    have ih := ss_le x l b (by simpa using hb) h.2 (fun k hk => hh k (by simp [hk]))
    have hq1 := hh q (by simp)
    have hok := h.1
    simp only [okQ, Bool.and_eq_true, Bool.or_eq_true, Bool.not_eq_true', decide_eq_false_iff_not] at hok
    simp only [List.map_cons, List.zip_cons_cons, ss, List.all_cons, Bool.and_eq_true]
    unfold hq at hq1
    cases hq2 : q.2 with
    | true =>
      rw [if_pos hq2] at hq1
      rw [hq1, Int.mul_zero]
      exact ⟨by omega, fun ⟨_, h⟩ => by have := ih.2 h; omega⟩
    | false =>
      rw [if_neg (by simp [hq2])] at hq1
      have hy : 0 ≤ y := by rcases hok.2 with h | h; omega; rw [hq2] at h; simp at h
      have := Int.mul_nonpos_of_nonneg_of_nonpos hy hq1
      exact ⟨by omega, fun ⟨h, _⟩ => by simp at h⟩

theorem iSumP_hq (x : List Int) (l : List Iq) (b : List Int) (d : Int) (h : (iSumP l b d).2 = 0) (hh : ∀ q ∈ l, hq x q) : hq x (iSumP l b d).1 := by
  unfold iSumP at h ⊢
  split at h
  · simp at h
  · rename_i h1
    rw [if_neg h1]
    simp only [not_or] at h1
    split at h
    · simp at h
    · rename_i h2
      rw [if_neg h2]
      split at h
      · rename_i h3; exact absurd h h3
      · rename_i h3
        rw [if_neg h3]
        split at h
        · simp at h
        · rename_i h4
          rw [if_neg h4]
          have hl : l.length = b.length := by omega
          have hS := lSumP_v x (l.map Prod.fst) b (by omega)
          have hle := ss_le x l b hl (by simpa using h2) hh
          obtain ⟨t, t1, t2⟩ := divP_v x (lSumP (l.map Prod.fst) b).1 d (by omega) (by simpa using h4)
          unfold hq
          show if eqs (d == 1) l = true then lv x (divP _ d) = 0 else lv x (divP _ d) ≤ 0
          rw [t1]
          rw [hS.2] at t2
          generalize (lSumP (l.map Prod.fst) b).1.1 = K at *
          generalize ss x ((l.map Prod.fst).zip b) = S at *
          split
          · rename_i he
            simp only [eqs, Bool.and_eq_true, beq_iff_eq] at he
            have := hle.2 he.2
            rw [he.1] at t2 ⊢
            simp only [ceilP, Int.ediv_one]
            omega
          · have : t ≤ (-K) / d := (Int.le_ediv_iff_mul_le (by omega)).2 (by rw [Int.mul_comm]; omega)
            unfold ceilP; omega

theorem inotP_v (x : List Int) (q : Iq) (h : (inotP q).2 = 0) : lv x (inotP q).1.1 = 1 - lv x q.1 ∧ (inotP q).1.2 = false := by
  unfold inotP at h ⊢
  split at h
  · simp at h
  · rename_i h1
    rw [if_neg h1]
    split at h
    · rename_i h2; exact absurd h h2
    · rename_i h2
      rw [if_neg h2]
      split at h
      · rename_i h3; exact absurd h h3
      · rename_i h3
        rw [if_neg h3]
        have a1 := (lSumP_v x [q.1] [-1] (by omega)).2
        have a2 := (lSumP_v x [(lSumP [q.1] [-1]).1, (1, [])] [1, 1] (by omega)).2
        refine ⟨?_, rfl⟩
        show lv x (lSumP [(lSumP [q.1] [-1]).1, (1, [])] [1, 1]).1 = _
        rw [a2]
        simp only [List.zip_cons_cons, List.zip_nil_right, ss, a1]
        simp only [lv, vl]; omega

theorem iabs_hq (x : List Int) (q : Iq) (h : iabs q = true) : ¬ hq x q := by
  simp only [iabs, iplain, Bool.and_eq_true, Bool.or_eq_true, decide_eq_true_eq] at h
  have hm : q.1.2 = [] := List.eq_nil_of_length_eq_zero h.1.2
  unfold hq lv
  rw [hm]
  simp only [vl, Int.add_zero]
  split
  · omega
  · rename_i hh
    rcases h.2 with h | h
    · omega
    · exact absurd h.1 hh

theorem len1 {α : Type} {l : List α} (h : l.length = 1) : ∃ a, l = [a] := by
  match l, h with
  | [a], _ => exact ⟨a, rfl⟩
theorem len2 {α : Type} {l : List α} (h : l.length = 2) : ∃ a b, l = [a, b] := by
  match l, h with
  | [a, b], _ => exact ⟨a, b, rfl⟩

theorem ck_sound (x : List Int) : ∀ (c : Cu), pe c = 0 → ∀ (l : List Iq) (w : List Int), (ckC c l w).2 = 0 → ¬ ∀ q ∈ l, hq x q
  | .mk kd fr b dv k ms cs, hpe, l, w, h, hh => by
    obtain ⟨hk, hpl⟩ := pe_mk hpe
    have hpe' := peL_mem hpl
    have ih := fun c (hc : c ∈ cs) => ck_sound x c (hpe' c hc)
    have hE : ckC (.mk kd fr b dv k ms cs) l w = if (askA l (.mk kd fr b dv k ms cs)).2 ≠ 0 then (w, (askA l (.mk kd fr b dv k ms cs)).2) else ckL cs l (askA l (.mk kd fr b dv k ms cs)).1 0 w := by rw [ckC]
    have hA : askA l (.mk kd fr b dv k ms cs) = if kd = 2 then sumA l fr b dv else if kd = 3 then splitA l k ms else ([], endE l fr) := rfl
    rw [hE] at h
    split at h
    · rename_i h0; exact absurd h h0
    · rename_i h0
      have h0 : (askA l (.mk kd fr b dv k ms cs)).2 = 0 := by omega
      rcases hk with ⟨rfl, k1, k2⟩ | ⟨rfl, k1, k2, k3⟩ | ⟨rfl, k1⟩
      · rw [if_neg (by omega), if_neg (by omega)] at hA
        rw [hA] at h0
        simp only [endE] at h0
        split at h0
        · rename_i h5; exact absurd h0 h5
        · rename_i h5
          split at h0
          · rename_i h6
            have hl := someA_len l fr [] (by omega)
            generalize hS : (someA l fr []).1 = S at *
            cases S with
            | nil => simp at hl; omega
            | cons q S =>
              have hm := someA_mem l fr [] q (by rw [hS]; simp)
              rcases hm with hm | hm
              · exact iabs_hq x q h6 (hh q hm)
              · simp at hm
          · simp at h0
      · rw [if_pos rfl] at hA
        obtain ⟨c1, rfl⟩ := len1 k1
        rw [hA] at h0 h
        have hs := h0
        simp only [sumA] at hs
        split at hs
        · rename_i h5; exact absurd hs h5
        · rename_i h5
          split at hs
          · rename_i h6; exact absurd hs h6
          · rename_i h6
            have e1 : (sumA l fr b dv).1 = [(iSumP (someA l fr []).1 b dv).1] := by simp only [sumA]; rw [if_neg h5, if_neg h6]
            rw [e1] at h
            simp only [ckL] at h
            split at h
            · rename_i h7; exact absurd h h7
            · rename_i h7
              refine ih c1 (by simp) _ _ (Decidable.not_not.1 h7) fun q hq' => ?_
              rcases List.mem_append.1 hq' with hq' | hq'
              · exact hh q hq'
              · rw [List.mem_singleton.1 hq']
                exact iSumP_hq x _ b dv (by omega) fun p hp => by
                  rcases someA_mem l fr [] p hp with hp | hp
                  · exact hh p hp
                  · simp at hp
      · rw [if_neg (by omega), if_pos rfl] at hA
        obtain ⟨c1, c2, rfl⟩ := len2 k1
        rw [hA] at h0 h
        have hs := h0
        simp only [splitA] at hs
        split at hs
        · simp at hs
        · rename_i h5
          split at hs
          · rename_i h6; exact absurd hs h6
          · rename_i h6
            have e1 : (splitA l k ms).1 = [((k, ms), false), (inotP ((k, ms), false)).1] := by simp only [splitA]; rw [if_neg h5, if_neg h6]
            rw [e1] at h
            simp only [ckL] at h
            split at h
            · rename_i h7; exact absurd h h7
            · rename_i h7
              split at h
              · rename_i h8; exact absurd h h8
              · rename_i h8
                have i1 := ih c1 (by simp) _ _ (Decidable.not_not.1 h7)
                have i2 := ih c2 (by simp) _ _ (Decidable.not_not.1 h8)
                have hn := inotP_v x ((k, ms), false) (by omega)
                by_cases hp : lv x (k, ms) ≤ 0
                · refine i1 fun q hq' => ?_
                  rcases List.mem_append.1 hq' with hq' | hq'
                  · exact hh q hq'
                  · rw [List.mem_singleton.1 hq']
                    show hq x ((k, ms), false)
                    unfold hq; rw [if_neg (by simp)]; exact hp
                · refine i2 fun q hq' => ?_
                  rcases List.mem_append.1 hq' with hq' | hq'
                  · exact hh q hq'
                  · rw [List.mem_singleton.1 hq']
                    show hq x (inotP ((k, ms), false)).1
                    unfold hq; rw [if_neg (by rw [hn.2]; simp), hn.1]
                    simp only
                    omega
termination_by c => SizeOf.sizeOf c
decreasing_by
  have := List.sizeOf_lt_of_mem hc
  simp
  omega

theorem hldP_hq (x : List Int) (q : Iq) (h : (hldP q x).2 = 0) (h1 : (hldP q x).1 = true) : hq x q := by
  unfold hldP at h h1
  split at h
  · rename_i h0; exact absurd h h0
  · rename_i h0
    rw [if_neg h0] at h1
    split at h
    · rename_i h2; exact absurd h h2
    · rename_i h2
      rw [if_neg h2] at h1
      have hev : (evP q.1 x).1 = lv x q.1 := by
        unfold evP at h2 ⊢
        split
        · rename_i h3
          rw [if_pos h3] at h2
          split
          · rw [accE_vl]; rfl
          · rename_i h4; rw [if_neg h4] at h2; simp at h2
        · rename_i h3; rw [if_neg h3] at h2; simp at h2
      rw [hev] at h1
      simp only [Bool.or_eq_true, beq_iff_eq, Bool.and_eq_true, decide_eq_true_eq, Bool.not_eq_true'] at h1
      unfold hq
      split
      · rename_i h5; rcases h1 with h1 | h1
        · exact h1
        · rw [h5] at h1; simp at h1
      · omega
theorem allP_hq (x : List Int) : ∀ (l : List Iq) (i : Int), 0 ≤ i → (allP x l i).2 = 0 → (allP x l i).1 < 0 → ∀ q ∈ l, hq x q
  | [], _, _, _, _, q, hq' => by simp at hq'
  | p :: l, i, hi, h, h1, q, hq' => by
    simp only [allP] at h h1
    split at h
    · rename_i h0; rw [if_pos h0] at h1; simp at h1; omega
    · rename_i h0
      rw [if_neg h0] at h1
      simp only [not_or] at h0
      rcases List.mem_cons.1 hq' with rfl | hq'
      · exact hldP_hq x q (by omega) (by simpa using h0.2)
      · exact allP_hq x l (i + 1) (by omega) h h1 q hq'

theorem sound_law (x : List Int) (l : List Iq) (c : Cu) (h : (ckT l c).2 = 0) (h2 : (allP x l 0).2 = 0) : 0 ≤ (allP x l 0).1 := by
  rcases Int.lt_or_le (allP x l 0).1 0 with h3 | h3
  · exfalso
    have hh := allP_hq x l 0 (by omega) h2 h3
    unfold ckT at h
    split at h
    · simp at h
    · split at h
      · simp at h
      · split at h
        · rename_i h5; exact absurd h h5
        · rename_i h5
          have hpe : pe c = 0 := by
            have h5 : rtC c = 0 := by omega
            unfold rtC at h5
            split at h5
            · simp at h5
            · split at h5
              · simp at h5
              · exact h5
          exact ck_sound x c hpe l [] h hh
  · exact h3

end Go.Proofs.Ytgabnhmjlhhojaa.A
