/- What the functions that compare numbers and strings give. -/
import Derived.Test.YtcfhomdkchhigaaDoorS1A
namespace Go.Proofs.YtcfhomdkchhigaaDoor.A
open Go
set_option maxRecDepth 10000
set_option linter.unusedSimpArgs false
attribute [-simp] List.all_eq_true

def cmpI (a b : Int) : Int := if a < b then -1 else if b < a then 1 else 0
def cmpS (a b : ByteArray) : Int := if bytesLt a b = true then -1 else if (bytesLt a b || bytesEq a b) = false then 1 else 0

theorem nan_int (x : Int) (st : St) : (D T).call 103 [.int .i64 x] st = some (.bool false, st) := by
  apply call_eq (by exact rfl : T 103 = some _) (by simp)
  simp -implicitDefEqProofs
theorem nan_int64 (x : Int) (st : St) : (D T).call 104 [.int .i64 x] st = some (.bool false, st) := by
  apply call_eq (by exact rfl : T 104 = some _) (by simp)
  simp -implicitDefEqProofs
theorem bytesEq_self (x : ByteArray) : bytesEq x x = true := by simp [bytesEq]
theorem nan_string (x : ByteArray) (st : St) : (D T).call 105 [.str x] st = some (.bool false, st) := by
  apply call_eq (by exact rfl : T 105 = some _) (by simp)
  simp -implicitDefEqProofs [bytesEq_self]

theorem cmp_int (a b : Int) (st : St) : (D T).call 93 [.int .i64 a, .int .i64 b] st = some (.int .i64 (cmpI a b), st) := by
  apply call_eq (by exact rfl : T 93 = some _) (by simp)
  by_cases h1 : a < b <;> by_cases h2 : b < a <;> simp -implicitDefEqProofs [nan_int, cmpI, h1, h2]
theorem cmp_int64 (a b : Int) (st : St) : (D T).call 94 [.int .i64 a, .int .i64 b] st = some (.int .i64 (cmpI a b), st) := by
  apply call_eq (by exact rfl : T 94 = some _) (by simp)
  by_cases h1 : a < b <;> by_cases h2 : b < a <;> simp -implicitDefEqProofs [nan_int64, cmpI, h1, h2]
theorem cmp_string (a b : ByteArray) (st : St) : (D T).call 95 [.str a, .str b] st = some (.int .i64 (cmpS a b), st) := by
  apply call_eq (by exact rfl : T 95 = some _) (by simp)
  simp -implicitDefEqProofs [nan_string, cmpS]
  split <;> simp_all

/-- the first that is not nought -/
def orL : List Int → Int
  | [] => 0
  | x :: l => if x = 0 then orL l else x

theorem loopOr (xs : List Int) (hl : xs.length ≤ 4611686018427387904) (st : St) (Q : AE → List AV → St → Prop) :
    ∀ (rest pre : List Int), xs = pre ++ rest → ∀ j0 j1 j2 j4 j5 j9 j10 j11 j12 j13 j14 j15 j16 j17 : AV, (orL rest = 0 → ∀ j0 j1 j2 j4 j5 j6 j7 j8 j9 j10 j11 j12 j13 j14 j15 j16 j17 : AV, Q (.exit 0) [j0, j1, j2, .int .i64 0, j4, j5, j6, j7, j8, j9, j10, j11, j12, j13, j14, j15, j16, j17] st) →
      (orL rest ≠ 0 → ∀ j0 j1 j3 j4 j5 j6 j7 j8 j9 j10 j11 j12 j13 j14 j15 j16 j17 : AV, Q .ret [j0, j1, .int .i64 (orL rest), j3, j4, j5, j6, j7, j8, j9, j10, j11, j12, j13, j14, j15, j16, j17] st) →
      ∃ e fr' st', (D T).loop false L92_0 [j0, j1, j2, .int .i64 0, j4, j5, .fsl 1 (xs.map fun x => [AV.int .i64 x]), .int .i64 (xs.length : Int), .int .i64 (pre.length : Int), j9, j10, j11, j12, j13, j14, j15, j16, j17] st = some (e, fr', st') ∧ Q e fr' st'
  | [], pre, e => by
    intros
    rename_i h1 h2
    have hlt : ¬ ((pre.length : Int) < (xs.length : Int)) := by subst e; simp
    apply loop_step L92_0.eq_1
    simp -implicitDefEqProofs [hlt]
    exact h1 rfl ..
  | x :: rest, pre, e => by
    intros
    rename_i h1 h2
    have hlt : ((pre.length : Int) < (xs.length : Int)) := by subst e; simp; omega
    have hget : xs[pre.length]? = some x := by subst e; simp
    apply loop_step L92_0.eq_1
    simp only [orL] at h1 h2
    by_cases hx : x = 0
    · simp only [hx, if_true] at h1 h2
      simp -implicitDefEqProofs [hlt, hget, hx, wrap_id (show -9223372036854775808 ≤ (pre.length : Int) + 1 by omega) (by omega)]
      rw [show ((pre.length : Int) + 1) = ((pre ++ [x]).length : Int) by simp]
      exact loopOr xs hl st Q rest (pre ++ [x]) (by simp [e]) _ _ _ _ _ _ _ _ _ _ _ _ _ _ h1 h2
    · simp only [if_neg hx] at h1 h2
      simp -implicitDefEqProofs [hlt, hget, hx]
      exact h2 hx ..

theorem or_eq (xs : List Int) (hl : xs.length ≤ 4611686018427387904) (st : St) : (D T).call 92 [.fsl 1 (xs.map fun x => [AV.int .i64 x])] st = some (.int .i64 (orL xs), st) := by
  apply call_eq (by exact rfl : T 92 = some _) (by simp)
  simp -implicitDefEqProofs
  apply loopOr xs hl _ _ xs [] rfl
  · intro h
    intros
    simp -implicitDefEqProofs [h]
  · intro h
    intros
    simp -implicitDefEqProofs

end Go.Proofs.YtcfhomdkchhigaaDoor.A
