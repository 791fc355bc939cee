/- What the functions that compare numbers and strings give. -/
import Derived.Test.YtkecobdhgabknaaDoorS4T
namespace Go.Proofs.YtkecobdhgabknaaDoor.A
open Go
set_option maxRecDepth 10000
set_option linter.unusedSimpArgs false
attribute [-simp] List.all_eq_true

def cmpI (a b : Int) : Int := if a < b then -1 else if b < a then 1 else 0
def cmpS (a b : ByteArray) : Int := if bytesLt a b = true then -1 else if (bytesLt a b || bytesEq a b) = false then 1 else 0

theorem nan_int (x : Int) (st : St) : (D T).call 103 [.int .i64 x] st = some (.bool false, st) := by
  apply call_eq (by exact rfl : T 103 = some _) (by simp)
  simp -implicitDefEqProofs
theorem nan_int64 (x : Int) (st : St) : (D T).call 104 [.int .i64 x] st = some (.bool false, st) := by
  apply call_eq (by exact rfl : T 104 = some _) (by simp)
  simp -implicitDefEqProofs
theorem bytesEq_self (x : ByteArray) : bytesEq x x = true := by simp [bytesEq]
theorem nan_string (x : ByteArray) (st : St) : (D T).call 105 [.str x] st = some (.bool false, st) := by
  apply call_eq (by exact rfl : T 105 = some _) (by simp)
  simp -implicitDefEqProofs [bytesEq_self]

theorem cmp_int (a b : Int) (st : St) : (D T).call 93 [.int .i64 a, .int .i64 b] st = some (.int .i64 (cmpI a b), st) := by
  apply call_eq (by exact rfl : T 93 = some _) (by simp)
  by_cases h1 : a < b <;> by_cases h2 : b < a <;> simp -implicitDefEqProofs [nan_int, cmpI, h1, h2]
theorem cmp_int64 (a b : Int) (st : St) : (D T).call 94 [.int .i64 a, .int .i64 b] st = some (.int .i64 (cmpI a b), st) := by
  apply call_eq (by exact rfl : T 94 = some _) (by simp)
  by_cases h1 : a < b <;> by_cases h2 : b < a <;> simp -implicitDefEqProofs [nan_int64, cmpI, h1, h2]
theorem cmp_string (a b : ByteArray) (st : St) : (D T).call 95 [.str a, .str b] st = some (.int .i64 (cmpS a b), st) := by
  apply call_eq (by exact rfl : T 95 = some _) (by simp)
  simp -implicitDefEqProofs [nan_string, cmpS]
  split <;> simp_all

/-- the first that is not nought -/
def orL : List Int → Int
  | [] => 0
  | x :: l => if x = 0 then orL l else x

theorem loopOr (xs : List Int) (hl : xs.length ≤ 4611686018427387904) (st : St) (Q : AE → List AV → St → Prop) :
    ∀ (rest pre : List Int), xs = pre ++ rest → ∀ j0 j1 j2 j4 j5 j9 j10 j11 j12 j13 j14 j15 j16 j17 : AV, (orL rest = 0 → ∀ j0 j1 j2 j4 j5 j6 j7 j8 j9 j10 j11 j12 j13 j14 j15 j16 j17 : AV, Q (.exit 0) [j0, j1, j2, .int .i64 0, j4, j5, j6, j7, j8, j9, j10, j11, j12, j13, j14, j15, j16, j17] st) →
      (orL rest ≠ 0 → ∀ j0 j1 j3 j4 j5 j6 j7 j8 j9 j10 j11 j12 j13 j14 j15 j16 j17 : AV, Q .ret [j0, j1, .int .i64 (orL rest), j3, j4, j5, j6, j7, j8, j9, j10, j11, j12, j13, j14, j15, j16, j17] st) →
      ∃ e fr' st', (D T).loop false L92_0 [j0, j1, j2, .int .i64 0, j4, j5, .fsl 1 (xs.map fun x => [AV.int .i64 x]), .int .i64 (xs.length : Int), .int .i64 (pre.length : Int), j9, j10, j11, j12, j13, j14, j15, j16, j17] st = some (e, fr', st') ∧ Q e fr' st'
  | [], pre, e => by
    intros
    rename_i h1 h2
    have hlt : ¬ ((pre.length : Int) < (xs.length : Int)) := by subst e; simp
    apply loop_step L92_0.eq_1
    simp -implicitDefEqProofs [hlt]
    exact h1 rfl ..
  | x :: rest, pre, e => by
    intros
    rename_i h1 h2
    have hlt : ((pre.length : Int) < (xs.length : Int)) := by subst e; simp; omega
    have hget : xs[pre.length]? = some x := by subst e; simp
    apply loop_step L92_0.eq_1
    simp only [orL] at h1 h2
    by_cases hx : x = 0
    · simp only [hx, if_true] at h1 h2
      simp -implicitDefEqProofs [hlt, hget, hx, wrap_id (show -9223372036854775808 ≤ (pre.length : Int) + 1 by omega) (by omega)]
      rw [show ((pre.length : Int) + 1) = ((pre ++ [x]).length : Int) by simp]
      exact loopOr xs hl st Q rest (pre ++ [x]) (by simp [e]) _ _ _ _ _ _ _ _ _ _ _ _ _ _ h1 h2
    · simp only [if_neg hx] at h1 h2
      simp -implicitDefEqProofs [hlt, hget, hx]
      exact h2 hx ..

theorem or_eq (xs : List Int) (hl : xs.length ≤ 4611686018427387904) (st : St) : (D T).call 92 [.fsl 1 (xs.map fun x => [AV.int .i64 x])] st = some (.int .i64 (orL xs), st) := by
  apply call_eq (by exact rfl : T 92 = some _) (by simp)
  simp -implicitDefEqProofs
  apply loopOr xs hl _ _ xs [] rfl
  · intro h
    intros
    simp -implicitDefEqProofs [h]
  · intro h
    intros
    simp -implicitDefEqProofs

end Go.Proofs.YtkecobdhgabknaaDoor.A
/- What the functions that compare terms give. -/
namespace Go.Proofs.YtkecobdhgabknaaDoor.A
open Go
set_option maxRecDepth 10000
set_option linter.unusedSimpArgs false
attribute [-simp] List.all_eq_true

mutual
def cm : Tm → Tm → Int
  | .mk a s b l, .mk a' s' b' l' => orL [cmpI a a', cmpI b b', cmpS s s', cmpI (l.length : Int) (l'.length : Int), cmL l l']
def cmL : List Tm → List Tm → Int
  | [], [] => 0
  | [], _ :: _ => -1
  | _ :: _, [] => 1
  | t :: l, u :: k => if cm t u = 0 then cmL l k else cm t u
end

/-- what the loop over the first list returns, if it does -/
def cfL : List Tm → List Tm → Option Int
  | [], _ => none
  | _ :: _, [] => some 1
  | t :: l, u :: k => if cm t u = 0 then cfL l k else some (cm t u)

theorem cmL_cf : ∀ l k : List Tm, cmL l k = match cfL l k with | some x => x | none => if l.length < k.length then -1 else 0
  | [], [] => by simp [cmL, cfL]
  | [], _ :: _ => by simp [cmL, cfL]
  | _ :: _, [] => by simp [cmL, cfL]
  | t :: l, u :: k => by
    simp only [cmL, cfL]
    split
    · rw [cmL_cf l k]
      simp
    · simp

theorem loopCf (l k : List Tm) (hl : l.length ≤ maxLen) (hk : k.length ≤ maxLen) (Q : AE → List AV → St → Prop) :
    ∀ (rest pre : List Tm), l = pre ++ rest → (∀ t ∈ rest, ∀ u ∈ k, ∀ st, (D T).call 80 [t.av, u.av] st = some (.int .i64 (cm t u), st)) →
      ∀ (rest' pre' : List Tm), k = pre' ++ rest' → pre'.length = pre.length → ∀ (st : St), st.ro ≤ st.objs.length → ∀ j3 j4 j5 j6 j7 j8 j9 j10 j14 j15 j16 j17 j18 j19 j20 j21 j22 j23 j24 j25 j26 j27 j28 j29 j30 j31 j32 j33 j34 j35 j36 j37 j38 : AV,
      (cfL rest rest' = none → ∀ (st' : St), ∀ j3 j4 j5 j6 j7 j8 j9 j10 j13 j14 j15 j16 j17 j18 j19 j20 j21 j22 j23 j24 j25 j26 j27 j28 j29 j30 j31 j32 j33 j34 j35 j36 j37 j38 : AV, Q (.exit 0) [.sl 4 (l.map Tm.cells), .sl 4 (k.map Tm.cells), .fn (.func 80) [] [], j3, j4, j5, j6, j7, j8, j9, j10, .sl 4 (l.map Tm.cells), .int .i64 (l.length : Int), j13, j14, j15, j16, j17, j18, j19, j20, j21, j22, j23, j24, j25, j26, j27, j28, j29, j30, j31, j32, j33, j34, j35, j36, j37, j38] st') →
      (∀ x, cfL rest rest' = some x → ∀ (st' : St), ∀ j0 j1 j2 j3 j4 j5 j7 j8 j9 j10 j11 j12 j13 j14 j15 j16 j17 j18 j19 j20 j21 j22 j23 j24 j25 j26 j27 j28 j29 j30 j31 j32 j33 j34 j35 j36 j37 j38 : AV, Q .ret [j0, j1, j2, j3, j4, j5, .int .i64 x, j7, j8, j9, j10, j11, j12, j13, j14, j15, j16, j17, j18, j19, j20, j21, j22, j23, j24, j25, j26, j27, j28, j29, j30, j31, j32, j33, j34, j35, j36, j37, j38] st') →
      ∃ e fr' st', (D T).loop false L96_0 [.sl 4 (l.map Tm.cells), .sl 4 (k.map Tm.cells), .fn (.func 80) [] [], j3, j4, j5, j6, j7, j8, j9, j10, .sl 4 (l.map Tm.cells), .int .i64 (l.length : Int), .int .i64 (pre.length : Int), j14, j15, j16, j17, j18, j19, j20, j21, j22, j23, j24, j25, j26, j27, j28, j29, j30, j31, j32, j33, j34, j35, j36, j37, j38] st = some (e, fr', st') ∧ Q e fr' st'
  | [], pre, e, ih, rest', pre', e', hp, st, hst => by
    intros
    rename_i h1 h2
    have hlt : ¬ ((pre.length : Int) < (l.length : Int)) := by subst e; simp
    apply loop_step L96_0.eq_1
    simp -implicitDefEqProofs [hlt]
    exact h1 rfl ..
  | t :: rest, pre, e, ih, [], pre', e', hp, st, hst => by
    intros
    rename_i h1 h2
    have hlt : ((pre.length : Int) < (l.length : Int)) := by subst e; simp; omega
    have hlt' : ((k.length : Int) ≤ (pre.length : Int)) := by subst e'; simp; omega
    have hget : l[pre.length]? = some t := by subst e; simp
    apply loop_step L96_0.eq_1
    simp -implicitDefEqProofs [hlt, hlt', hget, hst]
    exact h2 1 rfl ..
  | t :: rest, pre, e, ih, u :: rest', pre', e', hp, st, hst => by
    intros
    rename_i h1 h2
    have hlt : ((pre.length : Int) < (l.length : Int)) := by subst e; simp; omega
    have hlt' : ¬ ((k.length : Int) ≤ (pre.length : Int)) := by subst e'; simp; omega
    have hlt2 : ((pre.length : Int) < (k.length : Int)) := by omega
    have hget : l[pre.length]? = some t := by subst e; simp
    have hget' : k[pre.length]? = some u := by subst e'; rw [← hp]; simp
    have hmx : l.length ≤ 9223372036854775807 := Nat.le_trans hl (by decide)
    have ih' := ih t (List.mem_cons_self ..) u (by rw [e']; simp)
    simp only [Tm.av] at ih'
    apply loop_step L96_0.eq_1
    simp only [cfL] at h1 h2
    have hst2 : st.ro ≤ st.objs.length + 1 := by omega
    by_cases hz : cm t u = 0
    · simp only [if_pos hz] at h1 h2
      simp -implicitDefEqProofs [hlt, hlt', hlt2, hget, hget', hst, hst2, ih', hz, wrap_id (show -9223372036854775808 ≤ (pre.length : Int) + 1 by omega) (by omega)]
      rw [show ((pre.length : Int) + 1) = ((pre ++ [t]).length : Int) by simp]
      apply loopCf l k hl hk Q rest (pre ++ [t]) (by simp [e]) (fun t' ht' => ih t' (List.mem_cons_of_mem _ ht')) rest' (pre' ++ [u]) (by simp [e']) (by simp [hp]) _ (by simp; omega)
      · exact h1
      · exact h2
    · simp only [if_neg hz] at h1 h2
      simp -implicitDefEqProofs [hlt, hlt', hlt2, hget, hget', hst, hst2, ih', hz]
      exact h2 _ rfl ..

theorem cf_eq (l k : List Tm) (hl : l.length ≤ maxLen) (hk : k.length ≤ maxLen) (ih : ∀ t ∈ l, ∀ u ∈ k, ∀ st, (D T).call 80 [t.av, u.av] st = some (.int .i64 (cm t u), st)) (st : St) :
    (D T).call 96 [.sl 4 (l.map Tm.cells), .sl 4 (k.map Tm.cells), .fn (.func 80) [] []] st = some (.int .i64 (cmL l k), st) := by
  have hc := cmL_cf l k
  apply call_eq (by exact rfl : T 96 = some _) (by simp)
  simp -implicitDefEqProofs
  apply loopCf l k hl hk _ l [] rfl ih k [] rfl rfl _ (Nat.le_refl _)
  · intro h
    rw [h] at hc
    intros
    by_cases hlt : l.length < k.length
    · simp -implicitDefEqProofs [hc, hlt]
    · simp -implicitDefEqProofs [hc, hlt]
  · intro x h
    rw [h] at hc
    intros
    simp -implicitDefEqProofs [hc]

theorem cm_eq : ∀ (t : Tm), t.ok → ∀ (u : Tm), u.ok → ∀ (st : St), (D T).call 80 [t.av, u.av] st = some (.int .i64 (cm t u), st)
  | .mk a s b l, hok, .mk a' s' b' l', hok', st => by
    simp only [Tm.ok] at hok hok'
    have hl := okL_iff.1 hok.2.2.2.2
    have hl' := okL_iff.1 hok'.2.2.2.2
    have hcf := cf_eq l l' hok.2.2.2.1 hok'.2.2.2.1 (fun t ht u hu st => cm_eq t (hl t ht) u (hl' u hu) st)
    have hor := fun st => or_eq [cmpI a a', cmpI b b', cmpS s s', cmpI (l.length : Int) (l'.length : Int), cmL l l'] (by simp) st
    simp only [List.map_cons, List.map_nil] at hor
    apply call_eq (by exact rfl : T 80 = some _) (by simp)
    simp -implicitDefEqProofs [Tm.av, Tm.cells_mk, cmp_int, cmp_int64, cmp_string, hcf, hor, cm]
termination_by t => SizeOf.sizeOf t
decreasing_by
  have := List.sizeOf_lt_of_mem ht
  simp
  omega

theorem same_eq (t u : Tm) (ht : t.ok) (hu : u.ok) (st : St) : (D T).call 51 [t.av, u.av] st = some (.bool (cm t u == 0), st) := by
  have h := fun st => cm_eq t ht u hu st
  simp only [Tm.av] at h
  apply call_eq (by exact rfl : T 51 = some _) (by simp)
  simp -implicitDefEqProofs [Tm.av, h]

end Go.Proofs.YtkecobdhgabknaaDoor.A
