/- What the functions that compare terms give. -/
import Derived.Test.YtcfhomdkchhigaaDoorS1
namespace Go.Proofs.YtcfhomdkchhigaaDoor.A
open Go
set_option maxRecDepth 10000
set_option linter.unusedSimpArgs false
attribute [-simp] List.all_eq_true

mutual
def cm : Tm → Tm → Int
  | .mk a s b l, .mk a' s' b' l' => orL [cmpI a a', cmpI b b', cmpS s s', cmpI (l.length : Int) (l'.length : Int), cmL l l']
def cmL : List Tm → List Tm → Int
  | [], [] => 0
  | [], _ :: _ => -1
  | _ :: _, [] => 1
  | t :: l, u :: k => if cm t u = 0 then cmL l k else cm t u
end

/-- what the loop over the first list returns, if it does -/
def cfL : List Tm → List Tm → Option Int
  | [], _ => none
  | _ :: _, [] => some 1
  | t :: l, u :: k => if cm t u = 0 then cfL l k else some (cm t u)

theorem cmL_cf : ∀ l k : List Tm, cmL l k = match cfL l k with | some x => x | none => if l.length < k.length then -1 else 0
  | [], [] => by simp [cmL, cfL]
  | [], _ :: _ => by simp [cmL, cfL]
  | _ :: _, [] => by simp [cmL, cfL]
  | t :: l, u :: k => by
    simp only [cmL, cfL]
    split
    · rw [cmL_cf l k]
      simp
    · simp

theorem loopCf (l k : List Tm) (hl : l.length ≤ maxLen) (hk : k.length ≤ maxLen) (Q : AE → List AV → St → Prop) :
    ∀ (rest pre : List Tm), l = pre ++ rest → (∀ t ∈ rest, ∀ u ∈ k, ∀ st, (D T).call 80 [t.av, u.av] st = some (.int .i64 (cm t u), st)) →
      ∀ (rest' pre' : List Tm), k = pre' ++ rest' → pre'.length = pre.length → ∀ (st : St), st.ro ≤ st.objs.length → ∀ j3 j4 j5 j6 j7 j8 j9 j10 j14 j15 j16 j17 j18 j19 j20 j21 j22 j23 j24 j25 j26 j27 j28 j29 j30 j31 j32 j33 j34 j35 j36 j37 j38 : AV,
      (cfL rest rest' = none → ∀ (st' : St), ∀ j3 j4 j5 j6 j7 j8 j9 j10 j13 j14 j15 j16 j17 j18 j19 j20 j21 j22 j23 j24 j25 j26 j27 j28 j29 j30 j31 j32 j33 j34 j35 j36 j37 j38 : AV, Q (.exit 0) [.sl 4 (l.map Tm.cells), .sl 4 (k.map Tm.cells), .fn (.func 80) [] [], j3, j4, j5, j6, j7, j8, j9, j10, .sl 4 (l.map Tm.cells), .int .i64 (l.length : Int), j13, j14, j15, j16, j17, j18, j19, j20, j21, j22, j23, j24, j25, j26, j27, j28, j29, j30, j31, j32, j33, j34, j35, j36, j37, j38] st') →
      (∀ x, cfL rest rest' = some x → ∀ (st' : St), ∀ j0 j1 j2 j3 j4 j5 j7 j8 j9 j10 j11 j12 j13 j14 j15 j16 j17 j18 j19 j20 j21 j22 j23 j24 j25 j26 j27 j28 j29 j30 j31 j32 j33 j34 j35 j36 j37 j38 : AV, Q .ret [j0, j1, j2, j3, j4, j5, .int .i64 x, j7, j8, j9, j10, j11, j12, j13, j14, j15, j16, j17, j18, j19, j20, j21, j22, j23, j24, j25, j26, j27, j28, j29, j30, j31, j32, j33, j34, j35, j36, j37, j38] st') →
      ∃ e fr' st', (D T).loop false L96_0 [.sl 4 (l.map Tm.cells), .sl 4 (k.map Tm.cells), .fn (.func 80) [] [], j3, j4, j5, j6, j7, j8, j9, j10, .sl 4 (l.map Tm.cells), .int .i64 (l.length : Int), .int .i64 (pre.length : Int), j14, j15, j16, j17, j18, j19, j20, j21, j22, j23, j24, j25, j26, j27, j28, j29, j30, j31, j32, j33, j34, j35, j36, j37, j38] st = some (e, fr', st') ∧ Q e fr' st'
  | [], pre, e, ih, rest', pre', e', hp, st, hst => by
    intros
    rename_i h1 h2
    have hlt : ¬ ((pre.length : Int) < (l.length : Int)) := by subst e; simp
    apply loop_step L96_0.eq_1
    simp -implicitDefEqProofs [hlt]
    exact h1 rfl ..
  | t :: rest, pre, e, ih, [], pre', e', hp, st, hst => by
    intros
    rename_i h1 h2
    have hlt : ((pre.length : Int) < (l.length : Int)) := by subst e; simp; omega
    have hlt' : ((k.length : Int) ≤ (pre.length : Int)) := by subst e'; simp; omega
    have hget : l[pre.length]? = some t := by subst e; simp
    apply loop_step L96_0.eq_1
    simp -implicitDefEqProofs [hlt, hlt', hget, hst]
    exact h2 1 rfl ..
  | t :: rest, pre, e, ih, u :: rest', pre', e', hp, st, hst => by
    intros
    rename_i h1 h2
    have hlt : ((pre.length : Int) < (l.length : Int)) := by subst e; simp; omega
    have hlt' : ¬ ((k.length : Int) ≤ (pre.length : Int)) := by subst e'; simp; omega
    have hlt2 : ((pre.length : Int) < (k.length : Int)) := by omega
    have hget : l[pre.length]? = some t := by subst e; simp
    have hget' : k[pre.length]? = some u := by subst e'; rw [← hp]; simp
    have hmx : l.length ≤ 9223372036854775807 := Nat.le_trans hl (by decide)
    have ih' := ih t (List.mem_cons_self ..) u (by rw [e']; simp)
    simp only [Tm.av] at ih'
    apply loop_step L96_0.eq_1
    simp only [cfL] at h1 h2
    have hst2 : st.ro ≤ st.objs.length + 1 := by omega
    by_cases hz : cm t u = 0
    · simp only [if_pos hz] at h1 h2
      simp -implicitDefEqProofs [hlt, hlt', hlt2, hget, hget', hst, hst2, ih', hz, wrap_id (show -9223372036854775808 ≤ (pre.length : Int) + 1 by omega) (by omega)]
      rw [show ((pre.length : Int) + 1) = ((pre ++ [t]).length : Int) by simp]
      apply loopCf l k hl hk Q rest (pre ++ [t]) (by simp [e]) (fun t' ht' => ih t' (List.mem_cons_of_mem _ ht')) rest' (pre' ++ [u]) (by simp [e']) (by simp [hp]) _ (by simp; omega)
      · exact h1
      · exact h2
    · simp only [if_neg hz] at h1 h2
      simp -implicitDefEqProofs [hlt, hlt', hlt2, hget, hget', hst, hst2, ih', hz]
      exact h2 _ rfl ..

theorem cf_eq (l k : List Tm) (hl : l.length ≤ maxLen) (hk : k.length ≤ maxLen) (ih : ∀ t ∈ l, ∀ u ∈ k, ∀ st, (D T).call 80 [t.av, u.av] st = some (.int .i64 (cm t u), st)) (st : St) :
    (D T).call 96 [.sl 4 (l.map Tm.cells), .sl 4 (k.map Tm.cells), .fn (.func 80) [] []] st = some (.int .i64 (cmL l k), st) := by
  have hc := cmL_cf l k
  apply call_eq (by exact rfl : T 96 = some _) (by simp)
  simp -implicitDefEqProofs
  apply loopCf l k hl hk _ l [] rfl ih k [] rfl rfl _ (Nat.le_refl _)
  · intro h
    rw [h] at hc
    intros
    by_cases hlt : l.length < k.length
    · simp -implicitDefEqProofs [hc, hlt]
    · simp -implicitDefEqProofs [hc, hlt]
  · intro x h
    rw [h] at hc
    intros
    simp -implicitDefEqProofs [hc]

theorem cm_eq : ∀ (t : Tm), t.ok → ∀ (u : Tm), u.ok → ∀ (st : St), (D T).call 80 [t.av, u.av] st = some (.int .i64 (cm t u), st)
  | .mk a s b l, hok, .mk a' s' b' l', hok', st => by
    simp only [Tm.ok] at hok hok'
    have hl := okL_iff.1 hok.2.2.2.2
    have hl' := okL_iff.1 hok'.2.2.2.2
    have hcf := cf_eq l l' hok.2.2.2.1 hok'.2.2.2.1 (fun t ht u hu st => cm_eq t (hl t ht) u (hl' u hu) st)
    have hor := fun st => or_eq [cmpI a a', cmpI b b', cmpS s s', cmpI (l.length : Int) (l'.length : Int), cmL l l'] (by simp) st
    simp only [List.map_cons, List.map_nil] at hor
    apply call_eq (by exact rfl : T 80 = some _) (by simp)
    simp -implicitDefEqProofs [Tm.av, Tm.cells_mk, cmp_int, cmp_int64, cmp_string, hcf, hor, cm]
termination_by t => SizeOf.sizeOf t
decreasing_by
  have := List.sizeOf_lt_of_mem ht
  simp
  omega

theorem same_eq (t u : Tm) (ht : t.ok) (hu : u.ok) (st : St) : (D T).call 51 [t.av, u.av] st = some (.bool (cm t u == 0), st) := by
  have h := fun st => cm_eq t ht u hu st
  simp only [Tm.av] at h
  apply call_eq (by exact rfl : T 51 = some _) (by simp)
  simp -implicitDefEqProofs [Tm.av, h]

end Go.Proofs.YtcfhomdkchhigaaDoor.A
