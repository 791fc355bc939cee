/- What the rows over a package's variable share: term.needs reads as listed, so its cells hold what the interpreter takes. -/
import Derived.Test.YtpenaaljaahanaaDoorTab
import Derived.Test.YtpenaaljaahanaaDoorRead
import Derived.ProofKit
import Derived.LaidMore
import Derived.OpenShut
import Derived.Stop.Joined
namespace Go.Proofs.YtpenaaljaahanaaDoor.A
open Go Go.ChangeShapes Go.WideShapes Go.RowKit
set_option linter.unusedVariables false

theorem own : ownKnob Tryd.prog.godebug = none := by kernel_rfl
theorem laid : laidOutB Tryd.prog = true := by kernel_rfl
theorem mixed : Tryd.prog.follows .mixedOrders = true := by kernel_rfl
theorem termT : TermT Tryd.prog 42 22 3 2 9 :=
  ⟨⟨_, _, _, _, Tryd.underlying42, rfl, rfl, rfl, rfl, rfl, rfl, rfl, rfl⟩, Tryd.underlying22, Tryd.underlying3, Tryd.underlying2, Tryd.underlying9, by kernel_rfl, by kernel_rfl, by kernel_rfl, by kernel_rfl, by kernel_rfl⟩
theorem rdTerm : Tryd.prog.readableRec 42 = true ∧ 42 < Tryd.prog.types.size := ⟨by kernel_rfl, of_decide_eq_true (by kernel_rfl)⟩
theorem aTerm : ArgRd Tryd.prog 42 ATm := arg_term termT

theorem fits_cons {q : TypeId × (AV → Prop)} {ps : List (TypeId × (AV → Prop))} {avs : List AV} (h : Fits (q :: ps) avs) : ∃ a l, avs = a :: l ∧ q.2 a ∧ Fits ps l := by
  cases avs with
  | nil => exact h.elim
  | cons a l => exact ⟨a, l, rfl, h.1, h.2⟩
theorem fits_nil {avs : List AV} (h : Fits [] avs) : avs = [] := by
  cases avs with
  | nil => rfl
  | cons a l => exact h.elim

def zeroTerm : Value := .agg #[.int .i64 0, .string ⟨#[]⟩, .int .i64 0, .slice none 0 0]

def laidN : List (String × DataW Unit) := [("sequitur/term.needs", Rows.laid_sequitur_term_needs)]
theorem gNeeds : Tryd.prog.globalNamed "sequitur/term.needs" = some 0 := by kernel_rfl
theorem tNeeds : (Tryd.prog.globals[0]?).map (·.type) = some 63 := by kernel_rfl
theorem cInt : Tryd.prog.cellsOf 3 = 1 := by kernel_rfl

/-- The door's own heap meets the condition. -/
theorem door_met (os : Os) (args : Array Value) : laidMetH Tryd.prog laidN ((World.doorLaid Tryd.prog 400 os).forCall (fun _ _ => 0) ⟨#[], args, []⟩).memory :=
  laidMetH_of_parts3 (fuel := 8) (laidMet_of_run' 8 (by kernel_rfl) (by kernel_rfl)) (by kernel_rfl) (by kernel_rfl)

theorem one_of {α : Type} {l : List α} {i : Nat} {v : α} (h : (l.drop i).take 1 = [v]) : l[i]? = some v := by
  have : ((l.drop i).take 1)[0]? = some v := by rw [h]; rfl
  simpa using this

theorem globOk {W : World} (h : laidMetH Tryd.prog laidN W) : GlobOk (env0 W) W := by
  rw [MakeChecks.laidMetH_plain _ _ _ (by kernel_rfl)] at h
  obtain ⟨ps, ⟨g0, t0, cs0, f0, p0, q0, hg0, ht0, hv0, hd0, _⟩, _⟩ := h
  obtain rfl := Option.some.inj (gNeeds.symm.trans hg0)
  obtain rfl := Option.some.inj (tNeeds.symm.trans ht0)
  obtain ⟨xs, m1, rfl, hx1, hlen, hn, hel⟩ := DataW.trod_array Tryd.underlying63 hd0
  have hparts : xs.map (·.1) = [.lit (.int .i64 0), .lit (.int .i64 0), .lit (.int .i64 0), .lit (.int .i64 8), .lit (.int .i64 0), .lit (.int .i64 2), .lit (.int .i64 2), .lit (.int .i64 1), .lit (.int .i64 1)] := by
    simp only [Rows.laid_sequitur_term_needs, Prod.mk.injEq, DataW.agg.injEq] at hx1
    exact hx1.1.symm
  have key : ∀ i, i < 9 → ∃ n, W.cell? ⟨0, i, none⟩ = some (.int .i64 n) ∧ (xs.map (·.1))[i]? = some (.lit (.int .i64 n)) := by
    intro i hi
    have h1 := hel i hi
    rw [cInt, Nat.mul_one, List.getElem?_eq_getElem (by omega)] at h1
    obtain ⟨n, e1, e2, _⟩ := DataW.trod_int Tryd.underlying3 h1
    refine ⟨n, ?_, ?_⟩
    · rw [World.var?_cell gNeeds hv0 i, ← Array.getElem?_toList]
      exact one_of e1
    · rw [List.getElem?_map, List.getElem?_eq_getElem (by omega), e2]; rfl
  have hF : 0 < W.heap.size := by
    obtain ⟨n, hc, _⟩ := key 0 (by omega)
    exact cell_fro hc
  rw [hparts] at key
  intro g cs hg
  cases g with
  | succ g => simp [globs] at hg
  | zero =>
    simp only [globs, Option.some.injEq] at hg
    subst hg
    refine .vptr 0 0 (fun j => (W.cell? ⟨0, j, none⟩).getD undef) hF (fun j hj => ?_) fun j x hx => ?_
    · obtain ⟨n, hc, _⟩ := key j hj
      rw [Nat.zero_add, hc]
      exact ⟨rfl, rfl⟩
    · have hj : j < 9 := lt_of_get hx
      obtain ⟨n, hc, hk⟩ := key j hj
      simp only [hc, Option.getD_some]
      match j, hj with
      | 0, _ | 1, _ | 2, _ | 3, _ | 4, _ | 5, _ | 6, _ | 7, _ | 8, _ =>
        simp at hx hk
        subst hx hk
        exact .int _ _

end Go.Proofs.YtpenaaljaahanaaDoor.A
