/- TermCompares answers true for any two terms, and its arguments read as before. No condition beyond the given statement's. -/
import Derived.Test.YtcoonnbkmklenaaLawCompares
import Derived.Test.YtcoonnbkmklenaaRead
namespace Go.Proofs.Ytcoonnbkmklenaa.A
open Go Go.ChangeShapes Go.WideShapes Go.RowKit
set_option linter.unusedVariables false

theorem own : ownKnob Try.prog.godebug = none := by kernel_rfl
theorem laid : laidOutB Try.prog = true := by kernel_rfl
theorem mixed : Try.prog.follows .mixedOrders = true := by kernel_rfl
theorem termT : TermT Try.prog 24 22 3 2 9 :=
  ⟨⟨_, _, _, _, Try.underlying24, rfl, rfl, rfl, rfl, rfl, rfl, rfl, rfl⟩, Try.underlying22, Try.underlying3, Try.underlying2, Try.underlying9, by kernel_rfl, by kernel_rfl, by kernel_rfl, by kernel_rfl, by kernel_rfl⟩
theorem termRead : Try.prog.readableRec 24 = true ∧ 24 < Try.prog.types.size := ⟨by kernel_rfl, of_decide_eq_true (by kernel_rfl)⟩

theorem is_agg {W : World} {base : Nat} {v : Value} (h : Value.okWide Try.prog W .any base 24 v) : ∃ cs, v = .agg cs := by
  unfold Value.okWide at h
  rw [Try.underlying24] at h
  obtain ⟨cs, h1, _⟩ := h
  exact ⟨cs, h1⟩

/-- arguments that are terms, two of them -/
theorem open2 {H : Type} {enc : TypeId × Value → H} {W : World} {base : Nat} {fn : Func} {args : Array Value} {ds : List (DataW H)} {p : List MemPlace} (hp : fn.params = #[24, 24])
    (hval : ∀ (j : Nat) t v, fn.params[j]? = some t → args[j]? = some v → Value.okWide Try.prog W .any base t v)
    (hA : DataW.TrodAll enc Try.prog W 0 (fun _ => true) true fn.params.toList args.toList ds p) :
    ∃ a b : Tm, ∃ d0 d1, a.ok ∧ b.ok ∧ ds = [d0, d1] ∧ RepL (env0 W) 0 W [a.av, b.av] args.toList := by
  rw [hp] at hA hval
  obtain ⟨v0, vs0, d0, ds0, p0, q0, hargs, rfl, rfl, h0, r0⟩ := trodAll_cons hA
  obtain ⟨v1, vs1, d1, ds1, p1, q1, rfl, rfl, rfl, h1, r1⟩ := trodAll_cons r0
  obtain ⟨rfl, rfl, rfl⟩ := trodAll_nil r1
  obtain rfl : args = #[v0, v1] := by cases args; simp_all
  obtain ⟨a, oa, ra⟩ := open_term termT (is_agg (hval 0 _ v0 rfl rfl)) h0
  obtain ⟨b, ob, rb⟩ := open_term termT (is_agg (hval 1 _ v1 rfl rfl)) h1
  refine ⟨a, b, d0, d1, oa, ob, rfl, rfl, fun j x u hx hu => ?_⟩
  match j, hx, hu with
  | 0, hx, hu => simp at hx hu; subst hx hu; exact ra
  | 1, hx, hu => simp at hx hu; subst hx hu; exact rb

theorem contractCompares (H : Type) (enc : TypeId × Value → H) (W : World) (base : Nat) (args : Array Value) (ds gs : List (DataW H)) (before : List MemPlace)
    (hval : ∀ (j : Nat) t v, Try.f3.params[j]? = some t → args[j]? = some v → Value.okWide Try.prog W .any base t v)
    (hW : DataW.Whole enc Try.prog Try.f3.params.toList Rows.termComparesSpec.vars false W args.toList ds gs before) :
    Calls Try.prog 3 args W fun e W' => ∃ v, e = .returned v ∧ Rows.termComparesSpec.post enc Try.prog Try.f3 false true false false W args v W' := by
  have hW' := hW
  obtain ⟨p, q, hA, hV, rfl, _, _⟩ := hW
  obtain ⟨a, b, d0, d1, oa, ob, rfl, R⟩ := open2 rfl hval hA
  obtain ⟨rfl, rfl⟩ := trodVars_none hV
  refine (calls_true tabOk mixed (law_compares a b oa ob) R).mono fun e W' ⟨he, hb⟩ => ?_
  subst he
  exact ⟨_, rfl, post_below laid rfl rfl Try.underlying4 (by
    intro t ht
    have : t = 24 := by simpa [show Try.f3.params = #[24, 24] from rfl] using ht
    subst this
    exact termRead) rfl hW' hb⟩

def zeroTerm : Value := .agg #[.int .i64 0, .string ⟨#[]⟩, .int .i64 0, .slice none 0 0]

set_option maxRecDepth 100000 in
theorem liftedCompares (os : Os) (started : os.Started) (H : Type) (enc : TypeId × Value → H) :
    ReturnsInHanded {} Try.checked os 3 .any (Rows.termComparesSpec.pre6 enc Try.prog Try.f3 Rows.termComparesRow.domain false) (Rows.termComparesSpec.post enc Try.prog Try.f3 false true false false) := by
  refine returnsInHanded_of_change (C := Try.checked) own started (by kernel_rfl) Try.func3
    (ChangeSpec.witness6 (enc := enc) (C := Try.checked) false ⟨#[], #[zeroTerm, zeroTerm], []⟩ 8 (by kernel_rfl) (by kernel_rfl) (by kernel_rfl) (by kernel_rfl)) ?_
  intro W base args ds gs before hval hW _ _
  exact contractCompares H enc W base args ds gs before hval hW

theorem compares_holds : Rows.TermComparesSaid :=
  OpenClaim.holds_of_wide 3 Try.f3 rfl rfl rfl rfl rfl rfl rfl ⟨rfl, rfl, rfl, rfl, rfl⟩ rfl rfl rfl rfl rfl (by kernel_rfl) Try.func3 (by kernel_rfl)
    (of_decide_eq_true (by kernel_rfl)) (by unfold Func.isWrapper; rw [if_neg (by decide +kernel)]; exact ⟨rfl, rfl⟩)
    (fun os started H enc _ => liftedCompares os started H enc)

end Go.Proofs.Ytcoonnbkmklenaa.A
