/- What the rows over bound variables share. -/
import Derived.Test.YtjmhkbnhfpgciaaRowBaseC
namespace Go.Proofs.Ytjmhkbnhfpgciaa.A
open Go Go.ChangeShapes Go.WideShapes Go.RowKit
set_option linter.unusedVariables false

theorem rdTerm : Try.prog.readableRec 27 = true ∧ 27 < Try.prog.types.size := ⟨by kernel_rfl, of_decide_eq_true (by kernel_rfl)⟩
theorem aTerm : ArgRd Try.prog 27 ATm := arg_term termT
def zeroTerm : Value := .agg #[.int .i64 0, .string ⟨#[]⟩, .int .i64 0, .slice none 0 0]

/-! arrays of two numbers -/
section
variable {P : Program} {H : Type} {enc : TypeId × Value → H} {w : World} {base : Nat} {spare : Nat → Bool} {held : Bool}
theorem trod_array2 {t e : TypeId} {fuel : Nat} {cs : List Value} {x : DataW H × List MemPlace} (ht : P.underlying t = some (.array 2 e)) (he : P.cellsOf e = 1) (htc : P.cellsOf t = 2) (h : DataW.trod enc P w base spare held fuel t cs = some x) :
    ∃ c0 c1 n y0 y1, cs = [c0, c1] ∧ DataW.trod enc P w base spare held n e [c0] = some y0 ∧ DataW.trod enc P w base spare held n e [c1] = some y1 := by
  cases fuel with
  | zero => simp [DataW.trod] at h
  | succ n =>
    unfold DataW.trod at h
    rw [ht] at h
    simp only [htc, he] at h
    by_cases hl : cs.length = 2
    · match cs, hl with
      | [c0, c1], _ =>
        simp only [List.length_cons, List.length_nil, if_true, Option.map_eq_some_iff] at h
        obtain ⟨xs, hp, _⟩ := h
        have g0 := mapM_some_get hp 0 0 (by decide)
        have g1 := mapM_some_get hp 1 1 (by decide)
        have hl := mapM_some_length hp
        simp at g0 g1 hl
        rw [List.getElem?_eq_getElem (by omega)] at g0 g1
        exact ⟨c0, c1, n, _, _, rfl, g0, g1⟩
    · simp [hl] at h

theorem arg_array {t e : TypeId} {n sz : Nat} {R : List AV → Prop} (hs : P.underlying t = some (.array n e)) (h : ∀ k, RdAt P k t sz R) : ArgRd P t (fun a => ∃ avs, a = .agg avs ∧ R avs) := fun H enc W base v d ps hv ht => by
  unfold Value.okWide at hv
  rw [hs] at hv
  obtain ⟨cs, rfl, _⟩ := hv
  obtain ⟨n, hn⟩ := ht
  obtain ⟨avs, h1, h2, _, _⟩ := h n H enc W _ _ hn
  refine ⟨_, ⟨avs, rfl, h1⟩, .agg (by have := h2.len; simpa [Value.cells] using this) fun j x u hx hu => h2.at_ j x u hx (by simpa [Value.cells] using hu)⟩

theorem rd_arr2 {t e : TypeId} {k : Nat} (ht : P.underlying t = some (.array 2 e)) (hi : P.underlying e = some (.int .i64)) (he : P.cellsOf e = 1) (htc : P.cellsOf t = 2) : RdAt P k t 2 (fun a => ∃ m n, a = [.int .i64 m, .int .i64 n]) := fun H enc W cs x hx => by
  obtain ⟨c0, c1, n, y0, y1, rfl, h0, h1⟩ := trod_array2 ht he htc hx
  obtain ⟨a, ha, _, _⟩ := read_int hi h0
  obtain ⟨b, hb, _, _⟩ := read_int hi h1
  simp only [List.cons.injEq, and_true] at ha hb
  subst ha hb
  refine ⟨_, ⟨a, b, rfl⟩, ⟨rfl, fun j y v hy hv => ?_⟩, rfl, by simp [Value.oneCell']⟩
  match j, hy, hv with
  | 0, hy, hv => simp at hy hv; subst hy hv; exact .int _ _
  | 1, hy, hv => simp at hy hv; subst hy hv; exact .int _ _
end

def AArr2 (a : AV) : Prop := ∃ p : Int × Int, a = .agg [.int .i64 p.1, .int .i64 p.2]
theorem rdArr2 : Try.prog.readableRec 46 = true ∧ 46 < Try.prog.types.size := ⟨by kernel_rfl, of_decide_eq_true (by kernel_rfl)⟩
theorem aArr2 : ArgRd Try.prog 46 AArr2 :=
  (arg_array Try.underlying46 fun _ => rd_arr2 Try.underlying46 Try.underlying3 (by kernel_rfl) (by kernel_rfl)).imp fun a ⟨_, h1, m, n, h2⟩ => ⟨(m, n), by rw [h1, h2]⟩
def zeroArr2 : Value := .agg #[.int .i64 0, .int .i64 0]

end Go.Proofs.Ytjmhkbnhfpgciaa.A
