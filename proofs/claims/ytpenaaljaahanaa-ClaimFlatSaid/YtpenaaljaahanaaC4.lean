/- Which of two claims is less: what the document's functions give. -/
import Derived.Test.YtpenaaljaahanaaC3
namespace Go.Proofs.Ytpenaaljaahanaa.A
open Go
set_option maxRecDepth 10000
set_option linter.unusedSimpArgs false
attribute [-simp] List.all_eq_true put slot_def ld idxA lenOf elems canA app hand

theorem number8_eq (a b : Int) (st : St) : (D T).call 45 [.int .i64 a, .int .i64 b] st = some (.int .i64 (cmpI a b), st) := by
  apply call_by (by exact rfl : T 45 = some _) (by simp)
  intro fr hfr hsl
  have s0 := hsl 0 _ rfl
  have s1 := hsl 1 _ rfl
  by_cases h1 : a < b
  · simp -implicitDefEqProofs [hfr, s0, s1, h1, cmpI]
  · by_cases h2 : b < a
    · simp -implicitDefEqProofs [hfr, s0, s1, h1, h2, cmpI]
    · simp -implicitDefEqProofs [hfr, s0, s1, h1, h2, cmpI]

theorem text8_eq (a b : ByteArray) (st : St) : (D T).call 46 [.str a, .str b] st = some (.int .i64 (cmpS a b), st) := by
  apply call_by (by exact rfl : T 46 = some _) (by simp)
  intro fr hfr hsl
  have s0 := hsl 0 _ rfl
  have s1 := hsl 1 _ rfl
  cases h1 : bytesLt a b with
  | true => simp -implicitDefEqProofs [hfr, s0, s1, h1, cmpS]
  | false =>
    cases h2 : bytesEq a b with
    | true => simp -implicitDefEqProofs [hfr, s0, s1, h1, h2, cmpS]
    | false => simp -implicitDefEqProofs [hfr, s0, s1, h1, h2, cmpS]

theorem cmL_fst : ∀ (l k : List Tm), l.length = k.length → cmL l k = fstT l k
  | [], [], _ => by simp [cmL, fstT]
  | [], _ :: _, h => by simp at h
  | _ :: _, [], h => by simp at h
  | t :: l, u :: k, h => by simp [cmL, fstT, cmL_fst l k (by simpa using h)]

theorem cm_cases (a : Int) (s : ByteArray) (b : Int) (l : List Tm) (a' : Int) (s' : ByteArray) (b' : Int) (l' : List Tm) :
    cm (.mk a s b l) (.mk a' s' b' l') = if orL [cmpI a a', cmpI b b', cmpS s s', cmpI (l.length : Int) (l'.length : Int)] = 0 then fstT l l' else orL [cmpI a a', cmpI b b', cmpS s s', cmpI (l.length : Int) (l'.length : Int)] := by
  rw [cm]
  rw [show [cmpI a a', cmpI b b', cmpS s s', cmpI (l.length : Int) (l'.length : Int), cmL l l'] = [cmpI a a', cmpI b b', cmpS s s', cmpI (l.length : Int) (l'.length : Int)] ++ [cmL l l'] from rfl, orL_cat]
  split
  · rename_i h
    rw [cmL_fst l l' (cmpI_len ((orL_zero_iff _).1 h _ (by simp)))]
    simp only [orL]
    split
    · rename_i h; exact h.symm
    · rfl
  · rfl

theorem rtc_eq : ∀ (t : Tm), t.ok → ∀ (u : Tm), u.ok → ∀ (st : St), (D T).call 47 [t.av, u.av] st = some (.int .i64 (cm t u), st)
  | .mk a s b l, hok, .mk a' s' b' l', hok', ⟨o, ro, df⟩ => by
    simp only [Tm.ok] at hok hok'
    have hl := okL_iff.1 hok.2.2.2.2
    have hl' := okL_iff.1 hok'.2.2.2.2
    have mx1 : l.length ≤ 9223372036854775807 := Nat.le_trans hok.2.2.2.1 (by decide)
    have ih := fun x (hx : x ∈ l) y (hy : y ∈ l') st => rtc_eq x (hl x hx) y (hl' y hy) st
    have cc := cm_cases a s b l a' s' b' l'
    simp only [Tm.av] at ih
    obtain ⟨st1, hst1⟩ : ∃ st1 : St, st1 = ⟨o ++ [.arr 56 4 [[.int .i64 a, .str s, .int .i64 b, .sl 4 (l.map Tm.cells)]], .arr 56 4 [[.int .i64 a', .str s', .int .i64 b', .sl 4 (l'.map Tm.cells)]]], o.length, []⟩ := ⟨_, rfl⟩
    have lp0 : ∀ (n0 : Int), (n0 = 0 → l.length = l'.length) → ∀ (fr : List AV) (Q : AE → List AV → St → Prop), fr.length = 58 → slot fr 2 = .ptr o.length 0 0 → slot fr 3 = .ptr (o.length + 1) 0 0 → slot fr 5 = .int .i64 n0 → slot fr 6 = .int .i64 0 →
        (∀ fr' : List AV, fr'.length = 58 → slot fr' 2 = .ptr o.length 0 0 → slot fr' 3 = .ptr (o.length + 1) 0 0 → slot fr' 5 = .int .i64 (if n0 = 0 then fstT l l' else n0) → Q (.exit 0) fr' st1) →
        ∃ e fr' st', (D T).loop false L47_0 fr st1 = some (e, fr', st') ∧ Q e fr' st' := by
      intro n0 h0 fr Q p p2 p3 p5 p6 k
      apply loop_inv L47_0.eq_1 (fun s : List Tm × List Tm => s.1.length) (fun s fr st => ∃ pre n, l = pre ++ s.1 ∧ fr.length = 58 ∧ slot fr 2 = .ptr o.length 0 0 ∧ slot fr 3 = .ptr (o.length + 1) 0 0 ∧
        slot fr 5 = .int .i64 n ∧ slot fr 6 = .int .i64 (pre.length : Int) ∧ st = st1 ∧ (n ≠ 0 → (if n0 = 0 then fstT l l' else n0) = n) ∧
        (n = 0 → l.length = l'.length ∧ (if n0 = 0 then fstT l l' else n0) = fstT s.1 s.2 ∧ ∃ pre', l' = pre' ++ s.2 ∧ pre.length = pre'.length)) ?_ (l, l')
        ⟨[], n0, rfl, p, p2, p3, p5, p6, rfl, fun h => by rw [if_neg h], fun h => ⟨h0 h, by rw [if_pos h], [], rfl, rfl⟩⟩
      rintro ⟨rest, rest'⟩ fr _ ⟨pre, n, e, hfr, q2, q3, q5, q6, rfl, i1, i2⟩
      simp only at e i2
      cases rest with
      | nil =>
        have hlt := idx_end e
        have hF : (if n0 = 0 then fstT l l' else n0) = n := by
          by_cases hn : n = 0
          · obtain ⟨_, h, _⟩ := i2 hn
            rw [h, hn]; cases rest' <;> simp [fstT]
          · exact i1 hn
        subst hst1
        simp -implicitDefEqProofs [hfr, q2, q3, q5, q6, hlt, get_base0, get_base]
        exact k _ (by simp [hfr]) (by simp [hfr, q2]) (by simp [hfr, q3]) (by rw [hF]; simp [hfr, q5])
      | cons t rest =>
        obtain ⟨hlt, hg, _⟩ := idx_at e
        by_cases hn : n = 0
        · obtain ⟨hlen, hF, pre', e', hp⟩ := i2 hn
          subst hn
          cases rest' with
          | nil => simp [e, e'] at hlen; omega
          | cons t' rest' =>
            obtain ⟨hlt', hg', _⟩ := idx_at e'
            rw [← hp] at hlt' hg'
            have hw := idx_next e mx1
            have hu := fun st => ih t (by simp [e]) t' (by simp [e']) st
            simp only [fstT] at hF
            subst hst1
            simp -implicitDefEqProofs [hfr, q2, q3, q5, q6, hlt, hlt', get_base0, get_base, hg, hg', hu, hw]
            refine ⟨rest, by simp, rest', pre ++ [t], by simp [e], by simp, fun h => ?_, fun h => ⟨hlen, ?_, pre' ++ [t'], by simp [e'], by simp [hp]⟩⟩
            · rw [hF, if_neg h]
            · rw [hF, if_pos h]
        · have hnb : (n == 0) = false := by simpa using hn
          have hF := i1 hn
          subst hst1
          simp -implicitDefEqProofs [hfr, q2, q3, q5, q6, hlt, get_base0, get_base, hn, hnb]
          exact k _ (by simp [hfr]) (by simp [hfr, q2]) (by simp [hfr, q3]) (by rw [hF]; simp [hfr, q5])
    apply call_by (by exact rfl : T 47 = some _) (by simp)
    intro fr hfr hsl
    have s0 := hsl 0 _ rfl
    have s1 := hsl 1 _ rfl
    simp only [Tm.av, Tm.cells_mk] at s0 s1
    clear ih
    by_cases z1 : cmpI a a' = 0
    · rw [orL_z z1] at cc
      by_cases z2 : cmpI b b' = 0
      · rw [orL_z z2] at cc
        by_cases z3 : cmpS s s' = 0
        · rw [orL_z z3] at cc
          have e4 : orL [cmpI (l.length : Int) (l'.length : Int)] = cmpI (l.length : Int) (l'.length : Int) := by
            simp only [orL]; split
            · rename_i h; exact h.symm
            · rfl
          rw [e4] at cc
          simp -implicitDefEqProofs [hfr, s0, s1, get_base0, get_base, number8_eq, text8_eq, z1, z2, z3]
          rw [← hst1]
          apply lp0 (cmpI (l.length : Int) (l'.length : Int)) cmpI_len
          · simp [hfr]
          · simp [hfr]
          · simp [hfr]
          · simp [hfr]
          · simp [hfr]
          · intro fr' hf p2 p3 p5
            rw [← cc] at p5
            rw [hst1]
            simp -implicitDefEqProofs [hf, p5]
        · rw [orL_nz z3] at cc
          have z3b : (cmpS s s' == 0) = false := by simpa using z3
          simp -implicitDefEqProofs [hfr, s0, s1, get_base0, get_base, number8_eq, text8_eq, z1, z2, z3, z3b]
          rw [← hst1]
          apply lp0 (cmpS s s') (fun h => (z3 h).elim)
          · simp [hfr]
          · simp [hfr]
          · simp [hfr]
          · simp [hfr]
          · simp [hfr]
          · intro fr' hf p2 p3 p5
            rw [← cc] at p5
            rw [hst1]
            simp -implicitDefEqProofs [hf, p5]
      · rw [orL_nz z2] at cc
        have z2b : (cmpI b b' == 0) = false := by simpa using z2
        simp -implicitDefEqProofs [hfr, s0, s1, get_base0, get_base, number8_eq, text8_eq, z1, z2, z2b]
        rw [← hst1]
        apply lp0 (cmpI b b') (fun h => (z2 h).elim)
        · simp [hfr]
        · simp [hfr]
        · simp [hfr]
        · simp [hfr]
        · simp [hfr]
        · intro fr' hf p2 p3 p5
          rw [← cc] at p5
          rw [hst1]
          simp -implicitDefEqProofs [hf, p5]
    · rw [orL_nz z1] at cc
      have z1b : (cmpI a a' == 0) = false := by simpa using z1
      simp -implicitDefEqProofs [hfr, s0, s1, get_base0, get_base, number8_eq, text8_eq, z1, z1b]
      rw [← hst1]
      apply lp0 (cmpI a a') (fun h => (z1 h).elim)
      · simp [hfr]
      · simp [hfr]
      · simp [hfr]
      · simp [hfr]
      · simp [hfr]
      · intro fr' hf p2 p3 p5
        rw [← cc] at p5
        rw [hst1]
        simp -implicitDefEqProofs [hf, p5]
termination_by t => SizeOf.sizeOf t
decreasing_by
  have := List.sizeOf_lt_of_mem hx
  simp
  omega

set_option maxHeartbeats 1000000 in
theorem rcc_eq : ∀ (c : Cl), c.ok → ∀ (d : Cl), d.ok → ∀ (st : St), (D T).call 14 [c.av, d.av] st = some (.int .i64 (ccm c d), st)
  | .mk a s u ts cs, hok, .mk a' s' u' ts' cs', hok', ⟨o, ro, df⟩ => by
    simp only [Cl.ok] at hok hok'
    have hl := okC_iff.1 hok.2.2.2.2.2.2
    have hl' := okC_iff.1 hok'.2.2.2.2.2.2
    have ht := okL_iff.1 hok.2.2.2.2.1
    have ht' := okL_iff.1 hok'.2.2.2.2.1
    have mx1 : ts.length ≤ 9223372036854775807 := Nat.le_trans hok.2.2.2.1 (by decide)
    have mx2 : cs.length ≤ 9223372036854775807 := Nat.le_trans hok.2.2.2.2.2.1 (by decide)
    have ih := fun x (hx : x ∈ cs) y (hy : y ∈ cs') st => rcc_eq x (hl x hx) y (hl' y hy) st
    have hcm := fun x (hx : x ∈ ts) y (hy : y ∈ ts') st => rtc_eq x (ht x hx) y (ht' y hy) st
    have cc := ccm_cases a s u ts cs a' s' u' ts' cs'
    simp only [Tm.av, Cl.av] at ih hcm
    obtain ⟨st1, hst1⟩ : ∃ st1 : St, st1 = ⟨o ++ [.arr 25 5 [[.int .i64 a, .str s, .str u, .sl 4 (ts.map Tm.cells), .sl 5 (cs.map Cl.cells)]], .arr 25 5 [[.int .i64 a', .str s', .str u', .sl 4 (ts'.map Tm.cells), .sl 5 (cs'.map Cl.cells)]]], o.length, []⟩ := ⟨_, rfl⟩
    have lp0 : ∀ (n0 : Int), (n0 = 0 → ts.length = ts'.length) → ∀ (fr : List AV) (Q : AE → List AV → St → Prop), fr.length = 100 → slot fr 2 = .ptr o.length 0 0 → slot fr 3 = .ptr (o.length + 1) 0 0 → slot fr 5 = .int .i64 n0 → slot fr 6 = .int .i64 0 →
        (∀ fr' : List AV, fr'.length = 100 → slot fr' 2 = .ptr o.length 0 0 → slot fr' 3 = .ptr (o.length + 1) 0 0 → slot fr' 5 = .int .i64 (if n0 = 0 then fstT ts ts' else n0) → Q (.exit 0) fr' st1) →
        ∃ e fr' st', (D T).loop false L14_0 fr st1 = some (e, fr', st') ∧ Q e fr' st' := by
      intro n0 h0 fr Q p p2 p3 p5 p6 k
      apply loop_inv L14_0.eq_1 (fun s : List Tm × List Tm => s.1.length) (fun s fr st => ∃ pre n, ts = pre ++ s.1 ∧ fr.length = 100 ∧ slot fr 2 = .ptr o.length 0 0 ∧ slot fr 3 = .ptr (o.length + 1) 0 0 ∧
        slot fr 5 = .int .i64 n ∧ slot fr 6 = .int .i64 (pre.length : Int) ∧ st = st1 ∧ (n ≠ 0 → (if n0 = 0 then fstT ts ts' else n0) = n) ∧
        (n = 0 → ts.length = ts'.length ∧ (if n0 = 0 then fstT ts ts' else n0) = fstT s.1 s.2 ∧ ∃ pre', ts' = pre' ++ s.2 ∧ pre.length = pre'.length)) ?_ (ts, ts')
        ⟨[], n0, rfl, p, p2, p3, p5, p6, rfl, fun h => by rw [if_neg h], fun h => ⟨h0 h, by rw [if_pos h], [], rfl, rfl⟩⟩
      rintro ⟨rest, rest'⟩ fr _ ⟨pre, n, e, hfr, q2, q3, q5, q6, rfl, i1, i2⟩
      simp only at e i2
      cases rest with
      | nil =>
        have hlt := idx_end e
        have hF : (if n0 = 0 then fstT ts ts' else n0) = n := by
          by_cases hn : n = 0
          · obtain ⟨_, h, _⟩ := i2 hn
            rw [h, hn]; cases rest' <;> simp [fstT]
          · exact i1 hn
        subst hst1
        simp -implicitDefEqProofs [hfr, q2, q3, q5, q6, hlt, get_base0, get_base]
        exact k _ (by simp [hfr]) (by simp [hfr, q2]) (by simp [hfr, q3]) (by rw [hF]; simp [hfr, q5])
      | cons t rest =>
        obtain ⟨hlt, hg, _⟩ := idx_at e
        by_cases hn : n = 0
        · obtain ⟨hlen, hF, pre', e', hp⟩ := i2 hn
          subst hn
          cases rest' with
          | nil => simp [e, e'] at hlen; omega
          | cons t' rest' =>
            obtain ⟨hlt', hg', _⟩ := idx_at e'
            rw [← hp] at hlt' hg'
            have hw := idx_next e mx1
            have hu := fun st => hcm t (by simp [e]) t' (by simp [e']) st
            simp only [fstT] at hF
            subst hst1
            simp -implicitDefEqProofs [hfr, q2, q3, q5, q6, hlt, hlt', get_base0, get_base, hg, hg', hu, hw]
            refine ⟨rest, by simp, rest', pre ++ [t], by simp [e], by simp, fun h => ?_, fun h => ⟨hlen, ?_, pre' ++ [t'], by simp [e'], by simp [hp]⟩⟩
            · rw [hF, if_neg h]
            · rw [hF, if_pos h]
        · have hnb : (n == 0) = false := by simpa using hn
          have hF := i1 hn
          subst hst1
          simp -implicitDefEqProofs [hfr, q2, q3, q5, q6, hlt, get_base0, get_base, hn, hnb]
          exact k _ (by simp [hfr]) (by simp [hfr, q2]) (by simp [hfr, q3]) (by rw [hF]; simp [hfr, q5])
    have lp1 : ∀ (n0 : Int), (n0 = 0 → cs.length = cs'.length) → ∀ (fr : List AV) (Q : AE → List AV → St → Prop), fr.length = 100 → slot fr 2 = .ptr o.length 0 0 → slot fr 3 = .ptr (o.length + 1) 0 0 → slot fr 5 = .int .i64 n0 → slot fr 7 = .int .i64 0 →
        (∀ fr' : List AV, fr'.length = 100 → slot fr' 2 = .ptr o.length 0 0 → slot fr' 3 = .ptr (o.length + 1) 0 0 → slot fr' 5 = .int .i64 (if n0 = 0 then ccmL cs cs' else n0) → Q (.exit 2) fr' st1) →
        ∃ e fr' st', (D T).loop false L14_1 fr st1 = some (e, fr', st') ∧ Q e fr' st' := by
      intro n0 h0 fr Q p p2 p3 p5 p6 k
      apply loop_inv L14_1.eq_1 (fun s : List Cl × List Cl => s.1.length) (fun s fr st => ∃ pre n, cs = pre ++ s.1 ∧ fr.length = 100 ∧ slot fr 2 = .ptr o.length 0 0 ∧ slot fr 3 = .ptr (o.length + 1) 0 0 ∧
        slot fr 5 = .int .i64 n ∧ slot fr 7 = .int .i64 (pre.length : Int) ∧ st = st1 ∧ (n ≠ 0 → (if n0 = 0 then ccmL cs cs' else n0) = n) ∧
        (n = 0 → cs.length = cs'.length ∧ (if n0 = 0 then ccmL cs cs' else n0) = ccmL s.1 s.2 ∧ ∃ pre', cs' = pre' ++ s.2 ∧ pre.length = pre'.length)) ?_ (cs, cs')
        ⟨[], n0, rfl, p, p2, p3, p5, p6, rfl, fun h => by rw [if_neg h], fun h => ⟨h0 h, by rw [if_pos h], [], rfl, rfl⟩⟩
      rintro ⟨rest, rest'⟩ fr _ ⟨pre, n, e, hfr, q2, q3, q5, q6, rfl, i1, i2⟩
      simp only at e i2
      cases rest with
      | nil =>
        have hlt := idx_end e
        have hF : (if n0 = 0 then ccmL cs cs' else n0) = n := by
          by_cases hn : n = 0
          · obtain ⟨_, h, _⟩ := i2 hn
            rw [h, hn]; cases rest' <;> simp [ccmL]
          · exact i1 hn
        subst hst1
        simp -implicitDefEqProofs [hfr, q2, q3, q5, q6, hlt, get_base0, get_base]
        exact k _ (by simp [hfr]) (by simp [hfr, q2]) (by simp [hfr, q3]) (by rw [hF]; simp [hfr, q5])
      | cons t rest =>
        obtain ⟨hlt, hg, _⟩ := idx_at e
        by_cases hn : n = 0
        · obtain ⟨hlen, hF, pre', e', hp⟩ := i2 hn
          subst hn
          cases rest' with
          | nil => simp [e, e'] at hlen; omega
          | cons t' rest' =>
            obtain ⟨hlt', hg', _⟩ := idx_at e'
            rw [← hp] at hlt' hg'
            have hw := idx_next e mx2
            have hu := fun st => ih t (by simp [e]) t' (by simp [e']) st
            simp only [ccmL] at hF
            subst hst1
            simp -implicitDefEqProofs [hfr, q2, q3, q5, q6, hlt, hlt', get_base0, get_base, hg, hg', hu, hw]
            refine ⟨rest, by simp, rest', pre ++ [t], by simp [e], by simp, fun h => ?_, fun h => ⟨hlen, ?_, pre' ++ [t'], by simp [e'], by simp [hp]⟩⟩
            · rw [hF, if_neg h]
            · rw [hF, if_pos h]
        · have hnb : (n == 0) = false := by simpa using hn
          have hF := i1 hn
          subst hst1
          simp -implicitDefEqProofs [hfr, q2, q3, q5, q6, hlt, get_base0, get_base, hn, hnb]
          exact k _ (by simp [hfr]) (by simp [hfr, q2]) (by simp [hfr, q3]) (by rw [hF]; simp [hfr, q5])
    apply call_by (by exact rfl : T 14 = some _) (by simp)
    intro fr hfr hsl
    have s0 := hsl 0 _ rfl
    have s1 := hsl 1 _ rfl
    simp only [Cl.av, Cl.cells_mk] at s0 s1
    clear ih hcm
    obtain ⟨V, hV⟩ : ∃ V, ccm (.mk a s u ts cs) (.mk a' s' u' ts' cs') = V := ⟨_, rfl⟩
    rw [hV] at cc ⊢
    clear hV
    have e4 : orL [cmpI (ts.length : Int) (ts'.length : Int)] = cmpI (ts.length : Int) (ts'.length : Int) := by
      simp only [orL]; split
      · rename_i h; exact h.symm
      · rfl
    by_cases z1 : cmpI a a' = 0
    · rw [orL_z z1] at cc
      by_cases b1 : a = 11
      · subst b1
        rw [if_pos (show binder 11 = true from rfl), orL_z rfl] at cc
        by_cases z3 : cmpS u u' = 0
        · rw [orL_z z3, e4] at cc
          simp -implicitDefEqProofs [hfr, s0, s1, get_base0, get_base, number8_eq, text8_eq, z1, z3]
          rw [← hst1]
          apply lp0 (cmpI (ts.length : Int) (ts'.length : Int)) cmpI_len
          · simp [hfr]
          · simp [hfr]
          · simp [hfr]
          · simp [hfr]
          · simp [hfr]
          · intro fr' hf p2 p3 p5
            obtain ⟨F, hF⟩ : ∃ F, F = (if cmpI (ts.length : Int) (ts'.length : Int) = 0 then fstT ts ts' else cmpI (ts.length : Int) (ts'.length : Int)) := ⟨_, rfl⟩
            have cc' : V = if F = 0 then (if cmpI (cs.length : Int) (cs'.length : Int) = 0 then ccmL cs cs' else cmpI (cs.length : Int) (cs'.length : Int)) else F := by
              rw [cc, hF]
              by_cases hz : cmpI (ts.length : Int) (ts'.length : Int) = 0
              · simp only [if_pos hz]
              · simp only [if_neg hz]
            rw [← hF] at p5
            clear hF
            by_cases z0 : F = 0
            · rw [if_pos z0] at cc'
              rw [hst1]
              simp -implicitDefEqProofs [hf, p2, p3, p5, z0, get_base0, get_base, number8_eq]
              rw [← hst1]
              apply lp1 (cmpI (cs.length : Int) (cs'.length : Int)) cmpI_len
              · simp [hf]
              · simp [hf, p2]
              · simp [hf, p3]
              · simp [hf]
              · simp [hf]
              · intro fr'' hg r2 r3 r5
                rw [← cc'] at r5
                rw [hst1]
                simp -implicitDefEqProofs [hg, r5]
            · rw [if_neg z0] at cc'
              have z0b : (F == 0) = false := by simpa using z0
              rw [hst1]
              simp -implicitDefEqProofs [hf, p2, p3, p5, z0, z0b, get_base0, get_base, number8_eq]
              rw [← hst1]
              apply lp1 F (fun h => (z0 h).elim)
              · simp [hf]
              · simp [hf, p2]
              · simp [hf, p3]
              · simp [hf, p5]
              · simp [hf]
              · intro fr'' hg r2 r3 r5
                rw [if_neg z0, ← cc'] at r5
                rw [hst1]
                simp -implicitDefEqProofs [hg, r5]
        · rw [orL_nz z3] at cc
          have z3b : (cmpS u u' == 0) = false := by simpa using z3
          simp -implicitDefEqProofs [hfr, s0, s1, get_base0, get_base, number8_eq, text8_eq, z1, z3, z3b]
          rw [← hst1]
          apply lp0 (cmpS u u') (fun h => (z3 h).elim)
          · simp [hfr]
          · simp [hfr]
          · simp [hfr]
          · simp [hfr]
          · simp [hfr]
          · intro fr' hf p2 p3 p5
            obtain ⟨F, hF⟩ : ∃ F, F = (if cmpS u u' = 0 then fstT ts ts' else cmpS u u') := ⟨_, rfl⟩
            have cc' : V = if F = 0 then (if cmpI (cs.length : Int) (cs'.length : Int) = 0 then ccmL cs cs' else cmpI (cs.length : Int) (cs'.length : Int)) else F := by
              rw [cc, hF]
              by_cases hz : cmpS u u' = 0
              · simp only [if_pos hz]
              · simp only [if_neg hz]
            rw [← hF] at p5
            clear hF
            by_cases z0 : F = 0
            · rw [if_pos z0] at cc'
              rw [hst1]
              simp -implicitDefEqProofs [hf, p2, p3, p5, z0, get_base0, get_base, number8_eq]
              rw [← hst1]
              apply lp1 (cmpI (cs.length : Int) (cs'.length : Int)) cmpI_len
              · simp [hf]
              · simp [hf, p2]
              · simp [hf, p3]
              · simp [hf]
              · simp [hf]
              · intro fr'' hg r2 r3 r5
                rw [← cc'] at r5
                rw [hst1]
                simp -implicitDefEqProofs [hg, r5]
            · rw [if_neg z0] at cc'
              have z0b : (F == 0) = false := by simpa using z0
              rw [hst1]
              simp -implicitDefEqProofs [hf, p2, p3, p5, z0, z0b, get_base0, get_base, number8_eq]
              rw [← hst1]
              apply lp1 F (fun h => (z0 h).elim)
              · simp [hf]
              · simp [hf, p2]
              · simp [hf, p3]
              · simp [hf, p5]
              · simp [hf]
              · intro fr'' hg r2 r3 r5
                rw [if_neg z0, ← cc'] at r5
                rw [hst1]
                simp -implicitDefEqProofs [hg, r5]
      · by_cases b2 : a = 12
        · subst b2
          rw [if_pos (show binder 12 = true from rfl), orL_z rfl] at cc
          by_cases z3 : cmpS u u' = 0
          · rw [orL_z z3, e4] at cc
            simp -implicitDefEqProofs [hfr, s0, s1, get_base0, get_base, number8_eq, text8_eq, z1, z3]
            rw [← hst1]
            apply lp0 (cmpI (ts.length : Int) (ts'.length : Int)) cmpI_len
            · simp [hfr]
            · simp [hfr]
            · simp [hfr]
            · simp [hfr]
            · simp [hfr]
            · intro fr' hf p2 p3 p5
              obtain ⟨F, hF⟩ : ∃ F, F = (if cmpI (ts.length : Int) (ts'.length : Int) = 0 then fstT ts ts' else cmpI (ts.length : Int) (ts'.length : Int)) := ⟨_, rfl⟩
              have cc' : V = if F = 0 then (if cmpI (cs.length : Int) (cs'.length : Int) = 0 then ccmL cs cs' else cmpI (cs.length : Int) (cs'.length : Int)) else F := by
                rw [cc, hF]
                by_cases hz : cmpI (ts.length : Int) (ts'.length : Int) = 0
                · simp only [if_pos hz]
                · simp only [if_neg hz]
              rw [← hF] at p5
              clear hF
              by_cases z0 : F = 0
              · rw [if_pos z0] at cc'
                rw [hst1]
                simp -implicitDefEqProofs [hf, p2, p3, p5, z0, get_base0, get_base, number8_eq]
                rw [← hst1]
                apply lp1 (cmpI (cs.length : Int) (cs'.length : Int)) cmpI_len
                · simp [hf]
                · simp [hf, p2]
                · simp [hf, p3]
                · simp [hf]
                · simp [hf]
                · intro fr'' hg r2 r3 r5
                  rw [← cc'] at r5
                  rw [hst1]
                  simp -implicitDefEqProofs [hg, r5]
              · rw [if_neg z0] at cc'
                have z0b : (F == 0) = false := by simpa using z0
                rw [hst1]
                simp -implicitDefEqProofs [hf, p2, p3, p5, z0, z0b, get_base0, get_base, number8_eq]
                rw [← hst1]
                apply lp1 F (fun h => (z0 h).elim)
                · simp [hf]
                · simp [hf, p2]
                · simp [hf, p3]
                · simp [hf, p5]
                · simp [hf]
                · intro fr'' hg r2 r3 r5
                  rw [if_neg z0, ← cc'] at r5
                  rw [hst1]
                  simp -implicitDefEqProofs [hg, r5]
          · rw [orL_nz z3] at cc
            have z3b : (cmpS u u' == 0) = false := by simpa using z3
            simp -implicitDefEqProofs [hfr, s0, s1, get_base0, get_base, number8_eq, text8_eq, z1, z3, z3b]
            rw [← hst1]
            apply lp0 (cmpS u u') (fun h => (z3 h).elim)
            · simp [hfr]
            · simp [hfr]
            · simp [hfr]
            · simp [hfr]
            · simp [hfr]
            · intro fr' hf p2 p3 p5
              obtain ⟨F, hF⟩ : ∃ F, F = (if cmpS u u' = 0 then fstT ts ts' else cmpS u u') := ⟨_, rfl⟩
              have cc' : V = if F = 0 then (if cmpI (cs.length : Int) (cs'.length : Int) = 0 then ccmL cs cs' else cmpI (cs.length : Int) (cs'.length : Int)) else F := by
                rw [cc, hF]
                by_cases hz : cmpS u u' = 0
                · simp only [if_pos hz]
                · simp only [if_neg hz]
              rw [← hF] at p5
              clear hF
              by_cases z0 : F = 0
              · rw [if_pos z0] at cc'
                rw [hst1]
                simp -implicitDefEqProofs [hf, p2, p3, p5, z0, get_base0, get_base, number8_eq]
                rw [← hst1]
                apply lp1 (cmpI (cs.length : Int) (cs'.length : Int)) cmpI_len
                · simp [hf]
                · simp [hf, p2]
                · simp [hf, p3]
                · simp [hf]
                · simp [hf]
                · intro fr'' hg r2 r3 r5
                  rw [← cc'] at r5
                  rw [hst1]
                  simp -implicitDefEqProofs [hg, r5]
              · rw [if_neg z0] at cc'
                have z0b : (F == 0) = false := by simpa using z0
                rw [hst1]
                simp -implicitDefEqProofs [hf, p2, p3, p5, z0, z0b, get_base0, get_base, number8_eq]
                rw [← hst1]
                apply lp1 F (fun h => (z0 h).elim)
                · simp [hf]
                · simp [hf, p2]
                · simp [hf, p3]
                · simp [hf, p5]
                · simp [hf]
                · intro fr'' hg r2 r3 r5
                  rw [if_neg z0, ← cc'] at r5
                  rw [hst1]
                  simp -implicitDefEqProofs [hg, r5]
        · have c3 : (a != 11) = true := by simpa using b1
          have c4 : (a != 12) = true := by simpa using b2
          have hbb : ¬ binder a = true := by simp [binder, b1, b2]
          rw [if_neg hbb] at cc
          by_cases z2 : cmpS s s' = 0
          · rw [orL_z z2] at cc
            by_cases z3 : cmpS u u' = 0
            · rw [orL_z z3, e4] at cc
              simp -implicitDefEqProofs [hfr, s0, s1, get_base0, get_base, number8_eq, text8_eq, z1, z2, b1, b2, c3, c4, z3]
              rw [← hst1]
              apply lp0 (cmpI (ts.length : Int) (ts'.length : Int)) cmpI_len
              · simp [hfr]
              · simp [hfr]
              · simp [hfr]
              · simp [hfr]
              · simp [hfr]
              · intro fr' hf p2 p3 p5
                obtain ⟨F, hF⟩ : ∃ F, F = (if cmpI (ts.length : Int) (ts'.length : Int) = 0 then fstT ts ts' else cmpI (ts.length : Int) (ts'.length : Int)) := ⟨_, rfl⟩
                have cc' : V = if F = 0 then (if cmpI (cs.length : Int) (cs'.length : Int) = 0 then ccmL cs cs' else cmpI (cs.length : Int) (cs'.length : Int)) else F := by
                  rw [cc, hF]
                  by_cases hz : cmpI (ts.length : Int) (ts'.length : Int) = 0
                  · simp only [if_pos hz]
                  · simp only [if_neg hz]
                rw [← hF] at p5
                clear hF
                by_cases z0 : F = 0
                · rw [if_pos z0] at cc'
                  rw [hst1]
                  simp -implicitDefEqProofs [hf, p2, p3, p5, z0, get_base0, get_base, number8_eq]
                  rw [← hst1]
                  apply lp1 (cmpI (cs.length : Int) (cs'.length : Int)) cmpI_len
                  · simp [hf]
                  · simp [hf, p2]
                  · simp [hf, p3]
                  · simp [hf]
                  · simp [hf]
                  · intro fr'' hg r2 r3 r5
                    rw [← cc'] at r5
                    rw [hst1]
                    simp -implicitDefEqProofs [hg, r5]
                · rw [if_neg z0] at cc'
                  have z0b : (F == 0) = false := by simpa using z0
                  rw [hst1]
                  simp -implicitDefEqProofs [hf, p2, p3, p5, z0, z0b, get_base0, get_base, number8_eq]
                  rw [← hst1]
                  apply lp1 F (fun h => (z0 h).elim)
                  · simp [hf]
                  · simp [hf, p2]
                  · simp [hf, p3]
                  · simp [hf, p5]
                  · simp [hf]
                  · intro fr'' hg r2 r3 r5
                    rw [if_neg z0, ← cc'] at r5
                    rw [hst1]
                    simp -implicitDefEqProofs [hg, r5]
            · rw [orL_nz z3] at cc
              have z3b : (cmpS u u' == 0) = false := by simpa using z3
              simp -implicitDefEqProofs [hfr, s0, s1, get_base0, get_base, number8_eq, text8_eq, z1, z2, b1, b2, c3, c4, z3, z3b]
              rw [← hst1]
              apply lp0 (cmpS u u') (fun h => (z3 h).elim)
              · simp [hfr]
              · simp [hfr]
              · simp [hfr]
              · simp [hfr]
              · simp [hfr]
              · intro fr' hf p2 p3 p5
                obtain ⟨F, hF⟩ : ∃ F, F = (if cmpS u u' = 0 then fstT ts ts' else cmpS u u') := ⟨_, rfl⟩
                have cc' : V = if F = 0 then (if cmpI (cs.length : Int) (cs'.length : Int) = 0 then ccmL cs cs' else cmpI (cs.length : Int) (cs'.length : Int)) else F := by
                  rw [cc, hF]
                  by_cases hz : cmpS u u' = 0
                  · simp only [if_pos hz]
                  · simp only [if_neg hz]
                rw [← hF] at p5
                clear hF
                by_cases z0 : F = 0
                · rw [if_pos z0] at cc'
                  rw [hst1]
                  simp -implicitDefEqProofs [hf, p2, p3, p5, z0, get_base0, get_base, number8_eq]
                  rw [← hst1]
                  apply lp1 (cmpI (cs.length : Int) (cs'.length : Int)) cmpI_len
                  · simp [hf]
                  · simp [hf, p2]
                  · simp [hf, p3]
                  · simp [hf]
                  · simp [hf]
                  · intro fr'' hg r2 r3 r5
                    rw [← cc'] at r5
                    rw [hst1]
                    simp -implicitDefEqProofs [hg, r5]
                · rw [if_neg z0] at cc'
                  have z0b : (F == 0) = false := by simpa using z0
                  rw [hst1]
                  simp -implicitDefEqProofs [hf, p2, p3, p5, z0, z0b, get_base0, get_base, number8_eq]
                  rw [← hst1]
                  apply lp1 F (fun h => (z0 h).elim)
                  · simp [hf]
                  · simp [hf, p2]
                  · simp [hf, p3]
                  · simp [hf, p5]
                  · simp [hf]
                  · intro fr'' hg r2 r3 r5
                    rw [if_neg z0, ← cc'] at r5
                    rw [hst1]
                    simp -implicitDefEqProofs [hg, r5]
          · rw [orL_nz z2] at cc
            have z2b : (cmpS s s' == 0) = false := by simpa using z2
            simp -implicitDefEqProofs [hfr, s0, s1, get_base0, get_base, number8_eq, text8_eq, z1, z2, z2b, b1, b2, c3, c4]
            rw [← hst1]
            apply lp0 (cmpS s s') (fun h => (z2 h).elim)
            · simp [hfr]
            · simp [hfr]
            · simp [hfr]
            · simp [hfr]
            · simp [hfr]
            · intro fr' hf p2 p3 p5
              obtain ⟨F, hF⟩ : ∃ F, F = (if cmpS s s' = 0 then fstT ts ts' else cmpS s s') := ⟨_, rfl⟩
              have cc' : V = if F = 0 then (if cmpI (cs.length : Int) (cs'.length : Int) = 0 then ccmL cs cs' else cmpI (cs.length : Int) (cs'.length : Int)) else F := by
                rw [cc, hF]
                by_cases hz : cmpS s s' = 0
                · simp only [if_pos hz]
                · simp only [if_neg hz]
              rw [← hF] at p5
              clear hF
              by_cases z0 : F = 0
              · rw [if_pos z0] at cc'
                rw [hst1]
                simp -implicitDefEqProofs [hf, p2, p3, p5, z0, get_base0, get_base, number8_eq]
                rw [← hst1]
                apply lp1 (cmpI (cs.length : Int) (cs'.length : Int)) cmpI_len
                · simp [hf]
                · simp [hf, p2]
                · simp [hf, p3]
                · simp [hf]
                · simp [hf]
                · intro fr'' hg r2 r3 r5
                  rw [← cc'] at r5
                  rw [hst1]
                  simp -implicitDefEqProofs [hg, r5]
              · rw [if_neg z0] at cc'
                have z0b : (F == 0) = false := by simpa using z0
                rw [hst1]
                simp -implicitDefEqProofs [hf, p2, p3, p5, z0, z0b, get_base0, get_base, number8_eq]
                rw [← hst1]
                apply lp1 F (fun h => (z0 h).elim)
                · simp [hf]
                · simp [hf, p2]
                · simp [hf, p3]
                · simp [hf, p5]
                · simp [hf]
                · intro fr'' hg r2 r3 r5
                  rw [if_neg z0, ← cc'] at r5
                  rw [hst1]
                  simp -implicitDefEqProofs [hg, r5]
    · rw [orL_nz z1] at cc
      have z1b : (cmpI a a' == 0) = false := by simpa using z1
      simp -implicitDefEqProofs [hfr, s0, s1, get_base0, get_base, number8_eq, text8_eq, z1, z1b]
      rw [← hst1]
      apply lp0 (cmpI a a') (fun h => (z1 h).elim)
      · simp [hfr]
      · simp [hfr]
      · simp [hfr]
      · simp [hfr]
      · simp [hfr]
      · intro fr' hf p2 p3 p5
        obtain ⟨F, hF⟩ : ∃ F, F = (if cmpI a a' = 0 then fstT ts ts' else cmpI a a') := ⟨_, rfl⟩
        have cc' : V = if F = 0 then (if cmpI (cs.length : Int) (cs'.length : Int) = 0 then ccmL cs cs' else cmpI (cs.length : Int) (cs'.length : Int)) else F := by
          rw [cc, hF]
          by_cases hz : cmpI a a' = 0
          · simp only [if_pos hz]
          · simp only [if_neg hz]
        rw [← hF] at p5
        clear hF
        by_cases z0 : F = 0
        · rw [if_pos z0] at cc'
          rw [hst1]
          simp -implicitDefEqProofs [hf, p2, p3, p5, z0, get_base0, get_base, number8_eq]
          rw [← hst1]
          apply lp1 (cmpI (cs.length : Int) (cs'.length : Int)) cmpI_len
          · simp [hf]
          · simp [hf, p2]
          · simp [hf, p3]
          · simp [hf]
          · simp [hf]
          · intro fr'' hg r2 r3 r5
            rw [← cc'] at r5
            rw [hst1]
            simp -implicitDefEqProofs [hg, r5]
        · rw [if_neg z0] at cc'
          have z0b : (F == 0) = false := by simpa using z0
          rw [hst1]
          simp -implicitDefEqProofs [hf, p2, p3, p5, z0, z0b, get_base0, get_base, number8_eq]
          rw [← hst1]
          apply lp1 F (fun h => (z0 h).elim)
          · simp [hf]
          · simp [hf, p2]
          · simp [hf, p3]
          · simp [hf, p5]
          · simp [hf]
          · intro fr'' hg r2 r3 r5
            rw [if_neg z0, ← cc'] at r5
            rw [hst1]
            simp -implicitDefEqProofs [hg, r5]
termination_by t => SizeOf.sizeOf t
decreasing_by
  have := List.sizeOf_lt_of_mem hx
  simp
  omega

theorem csame_eq (c d : Cl) (hc : c.ok) (hd : d.ok) (st : St) : (D T).call 11 [c.av, d.av] st = some (.bool (ccm c d == 0), st) := by
  have h := fun st => ccm_eq c hc d hd st
  simp only [Cl.av] at h
  apply call_by (by exact rfl : T 11 = some _) (by simp)
  intro fr hfr hsl
  have s0 := hsl 0 _ rfl
  have s1 := hsl 1 _ rfl
  simp only [Cl.av] at s0 s1
  simp -implicitDefEqProofs [hfr, s0, s1, get_base0, get_base, h]

theorem rsame_eq (c d : Cl) (hc : c.ok) (hd : d.ok) (st : St) : (D T).call 12 [c.av, d.av] st = some (.bool (clEq c d), st) := by
  have h := fun st => clm_eq c hc d hd st
  simp only [Cl.av] at h
  apply call_by (by exact rfl : T 12 = some _) (by simp)
  intro fr hfr hsl
  have s0 := hsl 0 _ rfl
  have s1 := hsl 1 _ rfl
  simp only [Cl.av] at s0 s1
  simp -implicitDefEqProofs [hfr, s0, s1, get_base0, get_base, h]

end Go.Proofs.Ytpenaaljaahanaa.A
