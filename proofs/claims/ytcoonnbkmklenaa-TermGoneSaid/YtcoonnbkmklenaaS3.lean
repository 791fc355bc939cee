/- What the document's comparing of terms gives. -/
import Derived.Test.YtcoonnbkmklenaaS2
namespace Go.Proofs.Ytcoonnbkmklenaa.A
open Go
set_option maxRecDepth 10000
set_option linter.unusedSimpArgs false
attribute [-simp] List.all_eq_true

def two (st : St) (x y : List AV) : St := { objs := st.objs ++ [Obj.arr 24 4 [x], Obj.arr 24 4 [y]], ro := st.objs.length, df := [] }

theorem loopRc1 (t1 u1 : Tm) (l k : List Tm) (hl : l.length ≤ maxLen) (hlk : l.length = k.length) (x0 x1 x2 y0 y1 y2 : AV) (st : St) (Q : AE → List AV → St → Prop) :
    ∀ (rest pre : List Tm), l = pre ++ rest → (∀ t ∈ rest, ∀ u ∈ k, ∀ st, (D T).call 13 [t.av, u.av] st = some (.int .i64 (rc t u), st)) →
      ∀ (rest' pre' : List Tm), k = pre' ++ rest' → pre'.length = pre.length → ∀ j0 j1 j4 j5 j6 j8 j9 j10 j11 j12 j13 j14 j15 j16 j17 j18 j19 j20 j21 j22 j23 j24 j25 j26 j27 j28 j29 j30 j31 j32 j33 j34 j35 j36 j37 j38 j39 j40 j41 j42 j43 j44 j45 j46 j47 j48 j49 j50 j51 j52 j53 j54 j55 j56 j57 j58 j59 j60 j61 j62 j63 j64 j65 j66 j67 j68 j69 j70 j71 j72 j73 j74 j75 j76 j77 j78 j79 j80 j81 j82 j83 j84 j85 j86 j87 j88 j89 j90 j91 j92 j93 : AV,
      (rcL rest rest' = 0 → ∀ j0 j1 j3 j4 j5 j6 j7 j8 j9 j10 j11 j12 j13 j14 j15 j16 j17 j18 j19 j20 j21 j22 j23 j24 j25 j26 j27 j28 j29 j30 j31 j32 j33 j34 j35 j36 j37 j38 j39 j40 j41 j42 j43 j44 j45 j46 j47 j48 j49 j50 j51 j52 j53 j54 j55 j56 j57 j58 j59 j60 j61 j62 j63 j64 j65 j66 j67 j68 j69 j70 j71 j72 j73 j74 j75 j76 j77 j78 j79 j80 j81 j82 j83 j84 j85 j86 j87 j88 j89 j90 j91 j92 j93 : AV, Q (.exit 2) (j0 :: j1 :: (.ptr st.objs.length 0 0) :: j3 :: j4 :: j5 :: j6 :: j7 :: j8 :: j9 :: j10 :: j11 :: j12 :: j13 :: j14 :: j15 :: j16 :: j17 :: j18 :: j19 :: j20 :: j21 :: j22 :: j23 :: j24 :: j25 :: j26 :: j27 :: j28 :: j29 :: j30 :: j31 :: j32 :: j33 :: j34 :: j35 :: j36 :: j37 :: j38 :: j39 :: j40 :: j41 :: j42 :: j43 :: j44 :: j45 :: j46 :: j47 :: j48 :: j49 :: j50 :: j51 :: j52 :: j53 :: j54 :: j55 :: j56 :: j57 :: j58 :: j59 :: j60 :: j61 :: j62 :: j63 :: j64 :: j65 :: j66 :: j67 :: j68 :: j69 :: j70 :: j71 :: j72 :: j73 :: j74 :: j75 :: j76 :: j77 :: j78 :: j79 :: j80 :: j81 :: j82 :: j83 :: j84 :: j85 :: j86 :: j87 :: j88 :: j89 :: j90 :: j91 :: j92 :: j93 :: []) (two st [x0, x1, x2, .sl 4 (l.map Tm.cells)] [y0, y1, y2, .sl 4 (k.map Tm.cells)])) →
      (rcL rest rest' ≠ 0 → ∀ j0 j1 j2 j3 j5 j6 j7 j8 j9 j10 j11 j12 j13 j14 j15 j16 j17 j18 j19 j20 j21 j22 j23 j24 j25 j26 j27 j28 j29 j30 j31 j32 j33 j34 j35 j36 j37 j38 j39 j40 j41 j42 j43 j44 j45 j46 j47 j48 j49 j50 j51 j52 j53 j54 j55 j56 j57 j58 j59 j60 j61 j62 j63 j64 j65 j66 j67 j68 j69 j70 j71 j72 j73 j74 j75 j76 j77 j78 j79 j80 j81 j82 j83 j84 j85 j86 j87 j88 j89 j90 j91 j92 j93 : AV, Q .ret (j0 :: j1 :: j2 :: j3 :: (.int .i64 (rcL rest rest')) :: j5 :: j6 :: j7 :: j8 :: j9 :: j10 :: j11 :: j12 :: j13 :: j14 :: j15 :: j16 :: j17 :: j18 :: j19 :: j20 :: j21 :: j22 :: j23 :: j24 :: j25 :: j26 :: j27 :: j28 :: j29 :: j30 :: j31 :: j32 :: j33 :: j34 :: j35 :: j36 :: j37 :: j38 :: j39 :: j40 :: j41 :: j42 :: j43 :: j44 :: j45 :: j46 :: j47 :: j48 :: j49 :: j50 :: j51 :: j52 :: j53 :: j54 :: j55 :: j56 :: j57 :: j58 :: j59 :: j60 :: j61 :: j62 :: j63 :: j64 :: j65 :: j66 :: j67 :: j68 :: j69 :: j70 :: j71 :: j72 :: j73 :: j74 :: j75 :: j76 :: j77 :: j78 :: j79 :: j80 :: j81 :: j82 :: j83 :: j84 :: j85 :: j86 :: j87 :: j88 :: j89 :: j90 :: j91 :: j92 :: j93 :: []) (two st [x0, x1, x2, .sl 4 (l.map Tm.cells)] [y0, y1, y2, .sl 4 (k.map Tm.cells)])) →
      ∃ e fr' st', (D T).loop false L13_1 (j0 :: j1 :: (.ptr st.objs.length 0 0) :: (.ptr (st.objs.length + 1) 0 0) :: j4 :: j5 :: j6 :: (.int .i64 (pre.length : Int)) :: j8 :: j9 :: j10 :: j11 :: j12 :: j13 :: j14 :: j15 :: j16 :: j17 :: j18 :: j19 :: j20 :: j21 :: j22 :: j23 :: j24 :: j25 :: j26 :: j27 :: j28 :: j29 :: j30 :: j31 :: j32 :: j33 :: j34 :: j35 :: j36 :: j37 :: j38 :: j39 :: j40 :: j41 :: j42 :: j43 :: j44 :: j45 :: j46 :: j47 :: j48 :: j49 :: j50 :: j51 :: j52 :: j53 :: j54 :: j55 :: j56 :: j57 :: j58 :: j59 :: j60 :: j61 :: j62 :: j63 :: j64 :: j65 :: j66 :: j67 :: j68 :: j69 :: j70 :: j71 :: j72 :: j73 :: j74 :: j75 :: j76 :: j77 :: j78 :: j79 :: j80 :: j81 :: j82 :: j83 :: j84 :: j85 :: j86 :: j87 :: j88 :: j89 :: j90 :: j91 :: j92 :: j93 :: []) (two st [x0, x1, x2, .sl 4 (l.map Tm.cells)] [y0, y1, y2, .sl 4 (k.map Tm.cells)]) = some (e, fr', st') ∧ Q e fr' st'
  | [], pre, e, ih, rest', pre', e', hp => by
    intros
    rename_i h1 h2
    have hlt : ¬ ((pre.length : Int) < (l.length : Int)) := by subst e; simp
    have hr : rest' = [] := by subst e e'; simp at hlk; exact List.eq_nil_of_length_eq_zero (by omega)
    subst hr
    apply loop_step L13_1.eq_1
    simp only [two] at h1 h2 ⊢
    simp -implicitDefEqProofs [hlt]
    exact h1 (by simp [rcL]) ..
  | t :: rest, pre, e, ih, [], pre', e', hp => by
    exfalso
    subst e e'
    simp at hlk
    omega
  | t :: rest, pre, e, ih, u :: rest', pre', e', hp => by
    intros
    rename_i h1 h2
    have hlt : ((pre.length : Int) < (l.length : Int)) := by subst e; simp; omega
    have hlt2 : ((pre.length : Int) < (k.length : Int)) := by omega
    have hget : l[pre.length]? = some t := by subst e; simp
    have hget' : k[pre.length]? = some u := by subst e'; rw [← hp]; simp
    have hmx : l.length ≤ 9223372036854775807 := Nat.le_trans hl (by decide)
    have ih' := ih t (List.mem_cons_self ..) u (by rw [e']; simp)
    simp only [Tm.av] at ih'
    apply loop_step L13_1.eq_1
    simp only [rcL] at h1 h2
    by_cases hz : rc t u = 0
    · simp only [if_pos hz] at h1 h2
      simp only [two]
      simp -implicitDefEqProofs [hlt, hlt2, hget, hget', ih', hz, wrap_id (show -9223372036854775808 ≤ (pre.length : Int) + 1 by omega) (by omega)]
      rw [show ((pre.length : Int) + 1) = ((pre ++ [t]).length : Int) by simp]
      apply loopRc1 t1 u1 l k hl hlk x0 x1 x2 y0 y1 y2 st Q rest (pre ++ [t]) (by simp [e]) (fun t' ht' => ih t' (List.mem_cons_of_mem _ ht')) rest' (pre' ++ [u]) (by simp [e']) (by simp [hp])
      · exact h1
      · exact h2
    · simp only [if_neg hz] at h1 h2
      simp only [two] at h1 h2 ⊢
      simp -implicitDefEqProofs [hlt, hlt2, hget, hget', ih', hz]
      exact h2 hz ..


end Go.Proofs.Ytcoonnbkmklenaa.A
