/- Which of two claims is less: what the program's function gives. -/
import Derived.Test.YtkecobdhgabknaaDoorP1
namespace Go.Proofs.YtkecobdhgabknaaDoor.A
open Go
set_option maxRecDepth 10000
set_option linter.unusedSimpArgs false
attribute [-simp] List.all_eq_true put slot_def ld idxA lenOf elems canA app hand

theorem orL_cat : ∀ (l m : List Int), orL (l ++ m) = if orL l = 0 then orL m else orL l
  | [], m => by simp [orL]
  | x :: l, m => by
    simp only [List.cons_append, orL]
    by_cases h : x = 0
    · simp only [h, if_true]; exact orL_cat l m
    · simp [h]

theorem ccm_cases (a : Int) (s u : ByteArray) (ts : List Tm) (cs : List Cl) (a' : Int) (s' u' : ByteArray) (ts' : List Tm) (cs' : List Cl) :
    ccm (.mk a s u ts cs) (.mk a' s' u' ts' cs') =
      if orL [cmpI a a', if binder a = true then 0 else cmpS s s', cmpS u u', cmpI (ts.length : Int) (ts'.length : Int)] = 0 then
        (if fstT ts ts' = 0 then (if cmpI (cs.length : Int) (cs'.length : Int) = 0 then ccmL cs cs' else cmpI (cs.length : Int) (cs'.length : Int)) else fstT ts ts')
      else orL [cmpI a a', if binder a = true then 0 else cmpS s s', cmpS u u', cmpI (ts.length : Int) (ts'.length : Int)] := by
  rw [ccm]
  rw [show [cmpI a a', if binder a = true then 0 else cmpS s s', cmpS u u', cmpI (ts.length : Int) (ts'.length : Int), fstT ts ts', cmpI (cs.length : Int) (cs'.length : Int), ccmL cs cs'] =
    [cmpI a a', if binder a = true then 0 else cmpS s s', cmpS u u', cmpI (ts.length : Int) (ts'.length : Int)] ++ [fstT ts ts', cmpI (cs.length : Int) (cs'.length : Int), ccmL cs cs'] from rfl, orL_cat]
  congr 1
  simp only [orL]
  by_cases h1 : fstT ts ts' = 0
  · simp only [if_pos h1]
    by_cases h2 : cmpI (cs.length : Int) (cs'.length : Int) = 0
    · simp only [if_pos h2]
      by_cases h3 : ccmL cs cs' = 0
      · simp [h3]
      · simp [h3]
    · simp only [if_neg h2]
  · simp only [if_neg h1]

theorem orL_z {x : Int} {l : List Int} (h : x = 0) : orL (x :: l) = orL l := by simp [orL, h]
theorem orL_nz {x : Int} {l : List Int} (h : x ≠ 0) : orL (x :: l) = x := by simp [orL, h]

theorem cmpI_len {α β : Type} {l : List α} {k : List β} (h : cmpI (l.length : Int) (k.length : Int) = 0) : l.length = k.length := by
  unfold cmpI at h
  split at h
  · cases h
  · split at h
    · cases h
    · omega

theorem ccm_eq : ∀ (c : Cl), c.ok → ∀ (d : Cl), d.ok → ∀ (st : St), (D T).call 81 [c.av, d.av] st = some (.int .i64 (ccm c d), st)
  | .mk a s u ts cs, hok, .mk a' s' u' ts' cs', hok', ⟨o, ro, df⟩ => by
    simp only [Cl.ok] at hok hok'
    have hl := okC_iff.1 hok.2.2.2.2.2.2
    have hl' := okC_iff.1 hok'.2.2.2.2.2.2
    have ht := okL_iff.1 hok.2.2.2.2.1
    have ht' := okL_iff.1 hok'.2.2.2.2.1
    have mx1 : ts.length ≤ 9223372036854775807 := Nat.le_trans hok.2.2.2.1 (by decide)
    have mx2 : cs.length ≤ 9223372036854775807 := Nat.le_trans hok.2.2.2.2.2.1 (by decide)
    have ih := fun x (hx : x ∈ cs) y (hy : y ∈ cs') st => ccm_eq x (hl x hx) y (hl' y hy) st
    have hcm := fun x (hx : x ∈ ts) y (hy : y ∈ ts') st => cm_eq x (ht x hx) y (ht' y hy) st
    have hb := fun st => binder_eq (.mk a s u ts cs) st
    have hor := fun x st => or_eq [x, cmpS u u', cmpI (ts.length : Int) (ts'.length : Int)] (by simp) st
    have cc := ccm_cases a s u ts cs a' s' u' ts' cs'
    simp only [Tm.av, Cl.av, Cl.cells_mk, List.map_cons, List.map_nil] at ih hcm hb hor
    obtain ⟨st1, hst1⟩ : ∃ st1 : St, st1 = ⟨o ++ [.arr 27 5 [[.int .i64 a, .str s, .str u, .sl 4 (ts.map Tm.cells), .sl 5 (cs.map Cl.cells)]], .arr 27 5 [[.int .i64 a', .str s', .str u', .sl 4 (ts'.map Tm.cells), .sl 5 (cs'.map Cl.cells)]]], o.length, []⟩ := ⟨_, rfl⟩
    have lp0 : ts.length = ts'.length → ∀ (fr : List AV) (Q : AE → List AV → St → Prop), fr.length = 98 → slot fr 2 = .ptr o.length 0 0 → slot fr 3 = .ptr (o.length + 1) 0 0 → slot fr 48 = .int .i64 (ts.length : Int) → slot fr 49 = .int .i64 0 →
        (fstT ts ts' = 0 → ∀ fr' : List AV, fr'.length = 98 → slot fr' 2 = .ptr o.length 0 0 → slot fr' 3 = .ptr (o.length + 1) 0 0 → Q (.exit 0) fr' st1) →
        (fstT ts ts' ≠ 0 → ∀ fr' : List AV, fr'.length = 98 → slot fr' 4 = .int .i64 (fstT ts ts') → Q .ret fr' st1) →
        ∃ e fr' st', (D T).loop false L81_0 fr st1 = some (e, fr', st') ∧ Q e fr' st' := by
      intro hlen fr Q p p2 p3 p48 p49 k1 k2
      apply loop_inv L81_0.eq_1 (fun s : List Tm × List Tm => s.1.length) (fun s fr st => ∃ pre pre', ts = pre ++ s.1 ∧ ts' = pre' ++ s.2 ∧ pre.length = pre'.length ∧ fr.length = 98 ∧ slot fr 2 = .ptr o.length 0 0 ∧ slot fr 3 = .ptr (o.length + 1) 0 0 ∧
        slot fr 48 = .int .i64 (ts.length : Int) ∧ slot fr 49 = .int .i64 (pre.length : Int) ∧ st = st1 ∧ fstT ts ts' = fstT s.1 s.2) ?_ (ts, ts') ⟨[], [], rfl, rfl, rfl, p, p2, p3, p48, p49, rfl, rfl⟩
      rintro ⟨rest, rest'⟩ fr _ ⟨pre, pre', e, e', hp, hfr, q2, q3, q48, q49, rfl, hin⟩
      simp only at e e' hin
      cases rest with
      | nil =>
        have hlt := idx_end e
        simp -implicitDefEqProofs [hfr, q2, q3, q48, q49, hlt]
        refine k1 ?_ _ (by simp [hfr]) (by simp [hfr, q2]) (by simp [hfr, q3])
        rw [hin]; cases rest' <;> rfl
      | cons t rest =>
        cases rest' with
        | nil => simp [e, e'] at hlen; omega
        | cons t' rest' =>
          obtain ⟨hlt, hg, _⟩ := idx_at e
          obtain ⟨hlt', hg', _⟩ := idx_at e'
          rw [← hp] at hlt' hg'
          have hw := idx_next e mx1
          have hu := fun st => hcm t (by simp [e]) t' (by simp [e']) st
          simp only [fstT] at hin
          subst hst1
          by_cases h : cm t t' = 0
          · simp -implicitDefEqProofs [hfr, q2, q3, q48, q49, hlt, hlt', get_base0, get_base, hg, hg', hu, h, hw]
            exact ⟨rest, by simp, rest', pre ++ [t], by simp [e], pre' ++ [t'], by simp [e'], by simp [hp], by simp, by simpa [h] using hin⟩
          · have h' : (cm t t' != 0) = true := by simpa using h
            rw [if_neg h] at hin
            simp -implicitDefEqProofs [hfr, q2, q3, q48, q49, hlt, hlt', get_base0, get_base, hg, hg', hu, h, h', hw]
            exact k2 (by rw [hin]; exact h) _ (by simp [hfr]) (by simp [hfr, hin])
    have lp1 : cs.length = cs'.length → ∀ (fr : List AV) (Q : AE → List AV → St → Prop), fr.length = 98 → slot fr 2 = .ptr o.length 0 0 → slot fr 3 = .ptr (o.length + 1) 0 0 → slot fr 79 = .int .i64 (cs.length : Int) → slot fr 80 = .int .i64 0 →
        (ccmL cs cs' = 0 → ∀ fr' : List AV, fr'.length = 98 → slot fr' 2 = .ptr o.length 0 0 → slot fr' 3 = .ptr (o.length + 1) 0 0 → Q (.exit 2) fr' st1) →
        (ccmL cs cs' ≠ 0 → ∀ fr' : List AV, fr'.length = 98 → slot fr' 4 = .int .i64 (ccmL cs cs') → Q .ret fr' st1) →
        ∃ e fr' st', (D T).loop false L81_1 fr st1 = some (e, fr', st') ∧ Q e fr' st' := by
      intro hlen fr Q p p2 p3 p79 p80 k1 k2
      apply loop_inv L81_1.eq_1 (fun s : List Cl × List Cl => s.1.length) (fun s fr st => ∃ pre pre', cs = pre ++ s.1 ∧ cs' = pre' ++ s.2 ∧ pre.length = pre'.length ∧ fr.length = 98 ∧ slot fr 2 = .ptr o.length 0 0 ∧ slot fr 3 = .ptr (o.length + 1) 0 0 ∧
        slot fr 79 = .int .i64 (cs.length : Int) ∧ slot fr 80 = .int .i64 (pre.length : Int) ∧ st = st1 ∧ ccmL cs cs' = ccmL s.1 s.2) ?_ (cs, cs') ⟨[], [], rfl, rfl, rfl, p, p2, p3, p79, p80, rfl, rfl⟩
      rintro ⟨rest, rest'⟩ fr _ ⟨pre, pre', e, e', hp, hfr, q2, q3, q79, q80, rfl, hin⟩
      simp only at e e' hin
      cases rest with
      | nil =>
        have hlt := idx_end e
        simp -implicitDefEqProofs [hfr, q2, q3, q79, q80, hlt]
        refine k1 ?_ _ (by simp [hfr]) (by simp [hfr, q2]) (by simp [hfr, q3])
        rw [hin]; cases rest' <;> simp [ccmL]
      | cons t rest =>
        cases rest' with
        | nil => simp [e, e'] at hlen; omega
        | cons t' rest' =>
          obtain ⟨hlt, hg, _⟩ := idx_at e
          obtain ⟨hlt', hg', _⟩ := idx_at e'
          rw [← hp] at hlt' hg'
          have hw := idx_next e mx2
          have hu := fun st => ih t (by simp [e]) t' (by simp [e']) st
          simp only [ccmL] at hin
          subst hst1
          by_cases h : ccm t t' = 0
          · simp -implicitDefEqProofs [hfr, q2, q3, q79, q80, hlt, hlt', get_base0, get_base, hg, hg', hu, h, hw]
            exact ⟨rest, by simp, rest', pre ++ [t], by simp [e], pre' ++ [t'], by simp [e'], by simp [hp], by simp, by simpa [h] using hin⟩
          · have h' : (ccm t t' != 0) = true := by simpa using h
            rw [if_neg h] at hin
            simp -implicitDefEqProofs [hfr, q2, q3, q79, q80, hlt, hlt', get_base0, get_base, hg, hg', hu, h, h', hw]
            exact k2 (by rw [hin]; exact h) _ (by simp [hfr]) (by simp [hfr, hin])
    apply call_by (by exact rfl : T 81 = some _) (by simp)
    intro fr hfr hsl
    have s0 := hsl 0 _ rfl
    have s1 := hsl 1 _ rfl
    simp only [Cl.av, Cl.cells_mk] at s0 s1
    clear ih hcm
    by_cases z1 : cmpI a a' = 0
    · rcases Bool.eq_false_or_eq_true (binder a) with hbb | hbb
      · rw [orL_z z1] at cc
        simp only [hbb, if_true] at cc
        have h5 := hor (0)
        by_cases n3 : orL [0, cmpS u u', cmpI (ts.length : Int) (ts'.length : Int)] = 0
        · have hlen : ts.length = ts'.length := cmpI_len ((orL_zero_iff _).1 n3 _ (by simp))
          rw [if_pos n3] at cc
          rw [n3] at h5
          simp -implicitDefEqProofs [hfr, s0, s1, get_base0, get_base, cmp_int, cmp_string, z1, hb, hbb, h5]
          rw [← hst1]
          apply lp0 hlen
          · simp [hfr]
          · simp [hfr]
          · simp [hfr]
          · simp [hfr]
          · simp [hfr]
          · intro f0 fr' hf p2 p3
            rw [if_pos f0] at cc
            by_cases z2 : cmpI (cs.length : Int) (cs'.length : Int) = 0
            · rw [if_pos z2] at cc
              rw [hst1]
              simp -implicitDefEqProofs [hf, p2, p3, get_base0, get_base, cmp_int, z2]
              rw [← hst1]
              apply lp1 (cmpI_len z2)
              · simp [hf]
              · simp [hf, p2]
              · simp [hf, p3]
              · simp [hf]
              · simp [hf]
              · intro g0 fr'' hg r2 r3
                rw [hst1]
                simp -implicitDefEqProofs [hg, cc, g0]
              · intro g0 fr'' hg r4
                rw [hst1]
                simp -implicitDefEqProofs [hg, r4, cc]
            · rw [if_neg z2] at cc
              have z2' : (cmpI (cs.length : Int) (cs'.length : Int) != 0) = true := by simpa using z2
              rw [hst1]
              simp -implicitDefEqProofs [hf, p2, p3, get_base0, get_base, cmp_int, z2, z2', cc]
          · intro f0 fr' hf r4
            rw [if_neg f0] at cc
            rw [hst1]
            simp -implicitDefEqProofs [hf, r4, cc]
        · rw [if_neg n3] at cc
          have n3' : (orL [0, cmpS u u', cmpI (ts.length : Int) (ts'.length : Int)] != 0) = true := by simpa using n3
          simp -implicitDefEqProofs [hfr, s0, s1, get_base0, get_base, cmp_int, cmp_string, z1, hb, hbb, h5, n3, n3', cc]
      · rw [orL_z z1] at cc
        simp only [hbb, Bool.false_eq_true, if_false] at cc
        have h5 := hor (cmpS s s')
        by_cases n3 : orL [cmpS s s', cmpS u u', cmpI (ts.length : Int) (ts'.length : Int)] = 0
        · have hlen : ts.length = ts'.length := cmpI_len ((orL_zero_iff _).1 n3 _ (by simp))
          rw [if_pos n3] at cc
          rw [n3] at h5
          simp -implicitDefEqProofs [hfr, s0, s1, get_base0, get_base, cmp_int, cmp_string, z1, hb, hbb, h5]
          rw [← hst1]
          apply lp0 hlen
          · simp [hfr]
          · simp [hfr]
          · simp [hfr]
          · simp [hfr]
          · simp [hfr]
          · intro f0 fr' hf p2 p3
            rw [if_pos f0] at cc
            by_cases z2 : cmpI (cs.length : Int) (cs'.length : Int) = 0
            · rw [if_pos z2] at cc
              rw [hst1]
              simp -implicitDefEqProofs [hf, p2, p3, get_base0, get_base, cmp_int, z2]
              rw [← hst1]
              apply lp1 (cmpI_len z2)
              · simp [hf]
              · simp [hf, p2]
              · simp [hf, p3]
              · simp [hf]
              · simp [hf]
              · intro g0 fr'' hg r2 r3
                rw [hst1]
                simp -implicitDefEqProofs [hg, cc, g0]
              · intro g0 fr'' hg r4
                rw [hst1]
                simp -implicitDefEqProofs [hg, r4, cc]
            · rw [if_neg z2] at cc
              have z2' : (cmpI (cs.length : Int) (cs'.length : Int) != 0) = true := by simpa using z2
              rw [hst1]
              simp -implicitDefEqProofs [hf, p2, p3, get_base0, get_base, cmp_int, z2, z2', cc]
          · intro f0 fr' hf r4
            rw [if_neg f0] at cc
            rw [hst1]
            simp -implicitDefEqProofs [hf, r4, cc]
        · rw [if_neg n3] at cc
          have n3' : (orL [cmpS s s', cmpS u u', cmpI (ts.length : Int) (ts'.length : Int)] != 0) = true := by simpa using n3
          simp -implicitDefEqProofs [hfr, s0, s1, get_base0, get_base, cmp_int, cmp_string, z1, hb, hbb, h5, n3, n3', cc]
    · have z1b : (cmpI a a' == 0) = false := by simpa using z1
      have n3 : orL [cmpI a a', cmpS u u', cmpI (ts.length : Int) (ts'.length : Int)] = cmpI a a' := orL_nz z1
      have h5 := hor (cmpI a a')
      rw [n3] at h5
      rw [orL_nz z1, if_neg z1] at cc
      have z1' : (cmpI a a' != 0) = true := by simpa using z1
      simp -implicitDefEqProofs [hfr, s0, s1, get_base0, get_base, cmp_int, cmp_string, z1, z1b, z1', hb, h5, cc]
termination_by t => SizeOf.sizeOf t
decreasing_by
  have := List.sizeOf_lt_of_mem hx
  simp
  omega

end Go.Proofs.YtkecobdhgabknaaDoor.A
