/- TermGone: for any three terms the law's function answers true, and its arguments read as before. No condition beyond the given statement's. -/
import Derived.Test.YtcoonnbkmklenaaS12
import Derived.Test.YtcoonnbkmklenaaP5
import Derived.Test.YtcoonnbkmklenaaG07
import Derived.Test.YtcoonnbkmklenaaTab07
namespace Go.Proofs.Ytcoonnbkmklenaa.A
open Go Go.ChangeShapes Go.WideShapes Go.RowKit
set_option maxRecDepth 10000
set_option linter.unusedSimpArgs false
attribute [-simp] List.all_eq_true put slot_def ld idxA lenOf elems canA app hand

theorem goes4_k (x y z w : List AV) : (orc T 40).call 11 [] { objs := [Obj.arr 24 4 [x], Obj.arr 24 4 [y], Obj.arr 24 4 [z], Obj.arr 24 4 [w]], ro := 0, df := [] } =
    some (.bool true, { objs := [Obj.arr 24 4 [x], Obj.arr 24 4 [y], Obj.arr 24 4 [z], Obj.arr 24 4 [w]], ro := 0, df := [] }) := by kernel_rfl
theorem goes4 (x y z w : List AV) : (D T).call 11 [] { objs := [Obj.arr 24 4 [x], Obj.arr 24 4 [y], Obj.arr 24 4 [z], Obj.arr 24 4 [w]], ro := 0, df := [] } =
    some (.bool true, { objs := [Obj.arr 24 4 [x], Obj.arr 24 4 [y], Obj.arr 24 4 [z], Obj.arr 24 4 [w]], ro := 0, df := [] }) := (D_le T 40).call _ _ _ _ (goes4_k x y z w)

set_option maxHeartbeats 2000000 in
theorem law_gone (t f u : Tm) (ht : t.ok) (hf : f.ok) (hu : u.ok) : (D T).call 8 [t.av, f.av, u.av] st0 = some (.bool true, st0) := by
  have sm := fun st => small_eq [t, f, u] (by simp [maxLen]) (by simp [ht, hf, hu]) st
  simp only [Tm.av, List.map_cons, List.map_nil] at sm
  apply call_by (by exact rfl : T 8 = some _) (by simp)
  intro fr hfr hsl
  have s0 := hsl 0 _ rfl
  have s1 := hsl 1 _ rfl
  have s2 := hsl 2 _ rfl
  obtain ⟨a, s, b, l, ef⟩ : ∃ a s b l, f = .mk a s b l := by cases f; exact ⟨_, _, _, _, rfl⟩
  have fc : f.cells = [.int .i64 a, .str s, .int .i64 b, .sl 4 (l.map Tm.cells)] := by rw [ef, Tm.cells_mk]
  simp only [Tm.av] at s0 s1 s2
  cases h : smallL [t, f, u] with
  | false => simp -implicitDefEqProofs [hfr, s0, s1, s2, Tm.av, st0, sm, h, goes3]
  | true =>
    have hn : t.all.length ≤ 60 := small_all h (by simp)
    have hn1 : f.all.length ≤ 60 := small_all h (by simp)
    have hn2 : u.all.length ≤ 60 := small_all h (by simp)
    have hf1 := fun o ro df => replace_eq f f hf hf (by omega) t ht (by omega) o ro df
    have hu1 := fun o ro df => replace_eq f u hf hu (by omega) t ht (by omega) o ro df
    have rf := repl_ok f f hf t ht
    have ru := repl_ok f u hu t ht
    have hsf := fun st => same_eq (repl f f t) t rf ht st
    have hsu := fun st => same_eq (repl f u t) t ru ht st
    have hb1 := fun o ro df => has_eq u hu f hf o ro df
    have hb2 := fun o ro df => has_eq t ht f hf o ro df
    have hb3 := fun o ro df => has_eq (repl f u t) ru f hf o ro df
    have e1 : (cm (repl f f t) t == 0) = true := by simp [repl_self]
    have e2 : has t f = false → (cm (repl f u t) t == 0) = true := fun h => by rw [repl_not f u t h]; simp [cm_self]
    have e3 : l = [] → has u f = false → has (repl f u t) f = false := by
      rintro rfl h
      subst ef
      exact repl_gone a s b u h t
    obtain ⟨R, hR⟩ : ∃ R, repl f u t = R := ⟨_, rfl⟩
    rw [hR] at hu1 hsu hb3 e2 e3
    obtain ⟨a', s', b', l', eR⟩ : ∃ a s b l, R = .mk a s b l := by cases R; exact ⟨_, _, _, _, rfl⟩
    have Rc : R.cells = [.int .i64 a', .str s', .int .i64 b', .sl 4 (l'.map Tm.cells)] := by rw [eR, Tm.cells_mk]
    simp only [Tm.av, fc] at hf1 hu1 hsf hsu hb1 hb2 hb3 sm s1
    rw [e1] at hsf
    by_cases hl : l = []
    · have hle : ((l.length : Int) == 0) = true := by simp [hl]
      cases q1 : has u f with
      | true =>
        cases q2 : has t f with
        | true => simp -implicitDefEqProofs [hfr, s0, s1, s2, Tm.av, st0, sm, h, hf1, hu1, hsf, hsu, hb1, hb2, hb3, hle, q1, q2, goes4]
        | false => simp -implicitDefEqProofs [hfr, s0, s1, s2, Tm.av, st0, sm, h, hf1, hu1, hsf, hsu, hb1, hb2, hb3, hle, q1, q2, e2 q2, goes4]
      | false =>
        have q3 := e3 hl q1
        cases q2 : has t f with
        | true => simp -implicitDefEqProofs [hfr, s0, s1, s2, Tm.av, st0, sm, h, hf1, hu1, hsf, hsu, hb1, hb2, hb3, hle, q1, q2, q3, goes4]
        | false => simp -implicitDefEqProofs [hfr, s0, s1, s2, Tm.av, st0, sm, h, hf1, hu1, hsf, hsu, hb1, hb2, hb3, hle, q1, q2, q3, e2 q2, goes4]
    · have hle : ((l.length : Int) == 0) = false := by simpa using hl
      cases q2 : has t f with
      | true => simp -implicitDefEqProofs [hfr, s0, s1, s2, Tm.av, st0, sm, h, hf1, hu1, hsf, hsu, hb1, hb2, hb3, hle, q2, goes4]
      | false => simp -implicitDefEqProofs [hfr, s0, s1, s2, Tm.av, st0, sm, h, hf1, hu1, hsf, hsu, hb1, hb2, hb3, hle, q2, e2 q2, goes4]

end Go.Proofs.Ytcoonnbkmklenaa.A
