/- Some small terms. -/
import Derived.Test.YtcoonnbkmklenaaVS1
namespace Go.Proofs.Ytcoonnbkmklenaa.A
open Go
set_option maxRecDepth 10000
set_option linter.unusedSimpArgs false
attribute [-simp] List.all_eq_true

def smallL (l : List Tm) : Bool := l.all fun t => !decide (60 < sz t 60)

theorem loopSm (l : List Tm) (hl : l.length ≤ maxLen) (st : St) (Q : AE → List AV → St → Prop) :
    ∀ (rest pre : List Tm), l = pre ++ rest → (∀ t ∈ rest, t.ok) → ∀ j1 j2 j4 j5 j6 j7 j8 j9 j10 j11 j12 j13 j14 j15 : AV,
      (smallL rest = true → ∀ j0 j1 j2 j3 j4 j5 j6 j7 j8 j9 j10 j11 j12 j13 j14 j15 : AV, Q (.exit 0) [j0, j1, j2, j3, j4, j5, j6, j7, j8, j9, j10, j11, j12, j13, j14, j15] st) →
      (smallL rest = false → ∀ j0 j1 j3 j4 j5 j6 j7 j8 j9 j10 j11 j12 j13 j14 j15 : AV, Q .ret [j0, j1, .bool false, j3, j4, j5, j6, j7, j8, j9, j10, j11, j12, j13, j14, j15] st) →
      ∃ e fr' st', (D T).loop false L16_0 [.fsl 4 (l.map Tm.cells), j1, j2, .int .i64 (pre.length : Int), j4, j5, j6, j7, j8, j9, j10, j11, j12, j13, j14, j15] st = some (e, fr', st') ∧ Q e fr' st'
  | [], pre, e, hok => by
    intros
    rename_i h1 h2
    have hlt : ¬ ((pre.length : Int) < (l.length : Int)) := by subst e; simp
    apply loop_step L16_0.eq_1
    simp -implicitDefEqProofs [hlt]
    exact h1 rfl ..
  | t :: rest, pre, e, hok => by
    intros
    rename_i h1 h2
    have hlt : ((pre.length : Int) < (l.length : Int)) := by subst e; simp; omega
    have hget : l[pre.length]? = some t := by subst e; simp
    have hmx : l.length ≤ 9223372036854775807 := Nat.le_trans hl (by decide)
    have hs := fun st => size_eq t (hok t (List.mem_cons_self ..)) 60 st (by omega) (by omega)
    simp only [Tm.av] at hs
    apply loop_step L16_0.eq_1
    simp only [smallL, List.all_cons] at h1 h2
    by_cases hz : 60 < sz t 60
    · simp only [hz, decide_true, Bool.not_true, Bool.false_and] at h1 h2
      simp -implicitDefEqProofs [hlt, hget, hs, hz]
      exact h2 trivial ..
    · simp only [hz, decide_false, Bool.not_false, Bool.true_and] at h1 h2
      simp -implicitDefEqProofs [hlt, hget, hs, hz, wrap_id (show -9223372036854775808 ≤ (pre.length : Int) + 1 by omega) (by omega)]
      rw [show ((pre.length : Int) + 1) = ((pre ++ [t]).length : Int) by simp]
      apply loopSm l hl st Q rest (pre ++ [t]) (by simp [e]) (fun t' ht' => hok t' (List.mem_cons_of_mem _ ht'))
      · exact h1
      · exact h2

theorem small_eq (l : List Tm) (hl : l.length ≤ maxLen) (hok : ∀ t ∈ l, t.ok) (st : St) : (D T).call 16 [.fsl 4 (l.map Tm.cells)] st = some (.bool (smallL l), st) := by
  apply call_eq (by exact rfl : T 16 = some _) (by simp)
  simp -implicitDefEqProofs
  apply loopSm l hl _ _ l [] rfl hok
  · intro h
    intros
    simp -implicitDefEqProofs [h]
  · intro h
    intros
    simp -implicitDefEqProofs [h]

end Go.Proofs.Ytcoonnbkmklenaa.A
