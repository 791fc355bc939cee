/- The document's comparing, and the same. -/
import Derived.Test.YtcoonnbkmklenaaS3
namespace Go.Proofs.Ytcoonnbkmklenaa.A
open Go
set_option maxRecDepth 10000
set_option linter.unusedSimpArgs false
attribute [-simp] List.all_eq_true

theorem orL_zero (x : Int) (l : List Int) : orL (x :: l) = 0 ↔ x = 0 ∧ orL l = 0 := by
  simp only [orL]
  by_cases h : x = 0 <;> simp [h]
theorem numB_zero (x y : Bool) : numB x y = 0 ↔ x = false ∧ y = false := by cases x <;> cases y <;> simp [numB]

theorem rc_eq : ∀ (t : Tm), t.ok → ∀ (u : Tm), u.ok → ∀ (st : St), (D T).call 13 [t.av, u.av] st = some (.int .i64 (rc t u), st)
  | .mk a s b l, hok, .mk a' s' b' l', hok', st => by
    simp only [Tm.ok] at hok hok'
    have hl := okL_iff.1 hok.2.2.2.2
    have hl' := okL_iff.1 hok'.2.2.2.2
    apply call_eq (by exact rfl : T 13 = some _) (by simp)
    simp -implicitDefEqProofs [Tm.av, Tm.cells_mk, number_eq]
    apply loopRc0 (.ptr st.objs.length 0 0) (.ptr (st.objs.length + 1) 0 0) [numB (decide (a < a')) (decide (a' < a)), numB (decide (b < b')) (decide (b' < b)), numB (bytesLt s s') (!bytesLt s s' && !bytesEq s s'), numB (decide (l.length < l'.length)) (decide (l'.length < l.length))] (by simp) _ _ _ [] rfl
    · intro h
      have hle : l.length = l'.length := by
        simp only [orL_zero, numB_zero, decide_eq_false_iff_not] at h
        omega
      intros
      simp -implicitDefEqProofs
      apply loopRc1 (.mk a s b l) (.mk a' s' b' l') l l' hok.2.2.2.1 hle _ _ _ _ _ _ st _ l [] rfl (fun t ht u hu st => rc_eq t (hl t ht) u (hl' u hu) st) l' [] rfl rfl
      · intro h2
        intros
        simp -implicitDefEqProofs [two, rc, h, h2]
      · intro h2
        intros
        simp -implicitDefEqProofs [two, rc, h]
    · intro h
      intros
      simp -implicitDefEqProofs [rc, h]
termination_by t => SizeOf.sizeOf t
decreasing_by
  have := List.sizeOf_lt_of_mem ht
  simp
  omega

/-! the same -/

theorem loopTs (l k : List Tm) (hl : l.length ≤ maxLen) (hlk : l.length = k.length) (st : St) (Q : AE → List AV → St → Prop) :
    ∀ (rest pre : List Tm), l = pre ++ rest → (∀ t ∈ rest, ∀ u ∈ k, ∀ st, (D T).call 15 [t.av, u.av] st = some (.bool (tmEq t u), st)) →
      ∀ (rest' pre' : List Tm), k = pre' ++ rest' → pre'.length = pre.length → ∀ j2 j3 j4 j6 j7 j8 j9 j10 j11 j12 j13 j14 j15 j16 j17 j18 j19 j20 j21 j22 j23 j24 j25 j26 : AV,
      (tsEq rest rest' = true → ∀ j0 j1 j2 j3 j4 j5 j6 j7 j8 j9 j10 j11 j12 j13 j14 j15 j16 j17 j18 j19 j20 j21 j22 j23 j24 j25 j26 : AV, Q (.exit 0) [j0, j1, j2, j3, j4, j5, j6, j7, j8, j9, j10, j11, j12, j13, j14, j15, j16, j17, j18, j19, j20, j21, j22, j23, j24, j25, j26] st) →
      (tsEq rest rest' = false → ∀ j0 j1 j2 j3 j5 j6 j7 j8 j9 j10 j11 j12 j13 j14 j15 j16 j17 j18 j19 j20 j21 j22 j23 j24 j25 j26 : AV, Q .ret [j0, j1, j2, j3, .bool false, j5, j6, j7, j8, j9, j10, j11, j12, j13, j14, j15, j16, j17, j18, j19, j20, j21, j22, j23, j24, j25, j26] st) →
      ∃ e fr' st', (D T).loop false L18_0 [.sl 4 (l.map Tm.cells), .sl 4 (k.map Tm.cells), j2, j3, j4, .int .i64 (pre.length : Int), j6, j7, j8, j9, j10, j11, j12, j13, j14, j15, j16, j17, j18, j19, j20, j21, j22, j23, j24, j25, j26] st = some (e, fr', st') ∧ Q e fr' st'
  | [], pre, e, ih, rest', pre', e', hp => by
    intros
    rename_i h1 h2
    have hlt : ¬ ((pre.length : Int) < (l.length : Int)) := by subst e; simp
    have hr : rest' = [] := by subst e e'; simp at hlk; exact List.eq_nil_of_length_eq_zero (by omega)
    subst hr
    apply loop_step L18_0.eq_1
    simp -implicitDefEqProofs [hlt]
    exact h1 (by simp [tsEq]) ..
  | t :: rest, pre, e, ih, [], pre', e', hp => by
    exfalso
    subst e e'
    simp at hlk
    omega
  | t :: rest, pre, e, ih, u :: rest', pre', e', hp => by
    intros
    rename_i h1 h2
    have hlt : ((pre.length : Int) < (l.length : Int)) := by subst e; simp; omega
    have hlt2 : ((pre.length : Int) < (k.length : Int)) := by omega
    have hget : l[pre.length]? = some t := by subst e; simp
    have hget' : k[pre.length]? = some u := by subst e'; rw [← hp]; simp
    have hmx : l.length ≤ 9223372036854775807 := Nat.le_trans hl (by decide)
    have ih' := ih t (List.mem_cons_self ..) u (by rw [e']; simp)
    simp only [Tm.av] at ih'
    apply loop_step L18_0.eq_1
    simp only [tsEq] at h1 h2
    cases hz : tmEq t u with
    | true =>
      simp only [hz, Bool.true_and] at h1 h2
      simp -implicitDefEqProofs [hlt, hlt2, hget, hget', ih', hz, wrap_id (show -9223372036854775808 ≤ (pre.length : Int) + 1 by omega) (by omega)]
      rw [show ((pre.length : Int) + 1) = ((pre ++ [t]).length : Int) by simp]
      apply loopTs l k hl hlk st Q rest (pre ++ [t]) (by simp [e]) (fun t' ht' => ih t' (List.mem_cons_of_mem _ ht')) rest' (pre' ++ [u]) (by simp [e']) (by simp [hp])
      · exact h1
      · exact h2
    | false =>
      simp only [hz, Bool.false_and] at h1 h2
      simp -implicitDefEqProofs [hlt, hlt2, hget, hget', ih', hz]
      exact h2 trivial ..

theorem ts_eq (l k : List Tm) (hl : l.length ≤ maxLen) (ih : ∀ t ∈ l, ∀ u ∈ k, ∀ st, (D T).call 15 [t.av, u.av] st = some (.bool (tmEq t u), st)) (st : St) :
    (D T).call 18 [.sl 4 (l.map Tm.cells), .sl 4 (k.map Tm.cells)] st = some (.bool (l.length == k.length && tsEq l k), st) := by
  apply call_eq (by exact rfl : T 18 = some _) (by simp)
  by_cases hlk : l.length = k.length
  · simp -implicitDefEqProofs [hlk]
    apply loopTs l k hl hlk _ _ l [] rfl ih k [] rfl rfl
    · intro h
      intros
      simp -implicitDefEqProofs [h, hlk]
    · intro h
      intros
      simp -implicitDefEqProofs [h, hlk]
  · have hne : ¬ ((l.length : Int) = (k.length : Int)) := by omega
    simp -implicitDefEqProofs [hlk, hne]

theorem tm_eq : ∀ (t : Tm), t.ok → ∀ (u : Tm), u.ok → ∀ (st : St), (D T).call 15 [t.av, u.av] st = some (.bool (tmEq t u), st)
  | .mk a s b l, hok, .mk a' s' b' l', hok', st => by
    simp only [Tm.ok] at hok hok'
    have hl := okL_iff.1 hok.2.2.2.2
    have hl' := okL_iff.1 hok'.2.2.2.2
    have hts := ts_eq l l' hok.2.2.2.1 (fun t ht u hu st => tm_eq t (hl t ht) u (hl' u hu) st)
    apply call_eq (by exact rfl : T 15 = some _) (by simp)
    by_cases h1 : a = a'
    · cases h2 : bytesEq s s' with
      | true =>
        by_cases h3 : b = b'
        · simp -implicitDefEqProofs [Tm.av, Tm.cells_mk, h1, h2, h3, hts, tmEq]
        · have h4 : (b == b') = false := by simpa using h3
          simp -implicitDefEqProofs [Tm.av, Tm.cells_mk, h1, h2, h3, h4, hts, tmEq]
      | false => simp -implicitDefEqProofs [Tm.av, Tm.cells_mk, h1, h2, hts, tmEq]
    · have h4 : (a == a') = false := by simpa using h1
      simp -implicitDefEqProofs [Tm.av, Tm.cells_mk, h1, h4, hts, tmEq]
termination_by t => SizeOf.sizeOf t
decreasing_by
  have := List.sizeOf_lt_of_mem ht
  simp
  omega

end Go.Proofs.Ytcoonnbkmklenaa.A
