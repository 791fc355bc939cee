/- The facts that a cut uses, rising: the program's. -/
import Derived.Test.YtgabnhmjlhhojaaZ11
import Derived.Test.YtgabnhmjlhhojaaExtS
namespace Go.Proofs.Ytgabnhmjlhhojaa.A
open Go
set_option maxRecDepth 10000
set_option linter.unusedSimpArgs false
set_option linter.unusedVariables false
attribute [-simp] List.all_eq_true put slot_def ld idxA lenOf elems canA app hand

theorem ints_get : ∀ l : List Int, intsOf (intA l) = some l
  | [] => rfl
  | x :: l => by have := ints_get l; simp only [intA] at this; simp [intA, intsOf, this]

def ltI (a b : Int) : Bool := decide (a < b)
def eqI (a b : Int) : Bool := a == b
/-- sorted, each once -/
def risingI (l : List Int) : List Int := dedup eqI (isort ltI l)

theorem sorti_call {r ro ty : Nat} {o : List Obj} {df : List Nat} {l : List Int} (h : o[r]? = some (.arr ty 1 (intA l))) (hro : ro ≤ r) (hl : l.length < 4611686018427387904) (f : Bool) :
    (D T).call 51 [.own r 0 l.length f] ⟨o, ro, df⟩ = some (.tup [], ⟨o.set r (.arr ty 1 (intA (isort ltI l))), ro, df⟩) := by
  rw [D_ext _ _ (by rfl)]
  simp only [ext, exSort, St.arr?, h, intA_len, hro, hl, and_self, if_true, ints_get]
  rfl

theorem compi_call {r ro ty : Nat} {o : List Obj} {df : List Nat} {l : List Int} (h : o[r]? = some (.arr ty 1 (intA l))) (hro : ro ≤ r) (hl : l.length < 4611686018427387904) :
    (D T).call 52 [.own r 0 l.length false] ⟨o, ro, df⟩ =
      some (.own r 0 (dedup eqI l).length false, ⟨o.set r (.arr ty 1 (intA (dedup eqI l ++ List.replicate (l.length - (dedup eqI l).length) 0))), ro, df⟩) := by
  rw [D_ext _ _ (by rfl)]
  simp only [ext, exComp, St.arr?, h, intA_len, hro, hl, and_self, if_true, ints_get]
  rfl

theorem sorti_nil (st : St) : (D T).call 51 [.fsl 1 []] st = some (.tup [], st) := by
  rw [D_ext _ _ (by rfl)]; rfl
theorem compi_nil (st : St) : (D T).call 52 [.fsl 1 []] st = some (.fsl 1 [], st) := by
  rw [D_ext _ _ (by rfl)]; rfl

theorem isorti_len (l : List Int) : (isort ltI l).length = l.length := isort_length ltI l


theorem cUses_eq (c : Cu) (n : Int) (hok : c.ok) (hd : cdp c ≤ 1000000) (hn : cfr c ≤ 4294967296) (o : List Obj) (ro : Nat) (df : List Nat) :
    (D T).call 30 [c.av, .int .i64 n] ⟨o, ro, df⟩ = some (.sl 1 (intA (risingI (usC n c))), ⟨o, ro, df⟩) := by
  obtain ⟨B, hB⟩ : ∃ B, B = [Obj.arr 29 7 [c.cells], Obj.arr 3 1 [[.int .i64 n]], Obj.arr 22 1 [[.fsl 1 []]]] := ⟨_, rfl⟩
  have S : Ui (o.length + 3) (o.length + 1) (o.length + 2) n (o ++ B) (.fsl 1 []) [] := ⟨by rw [hB]; simp [get_base], by rw [hB]; simp [get_base], ⟨.inl rfl, fun _ => rfl⟩, by omega, by omega, by omega⟩
  obtain ⟨o', v', hc, S', K⟩ := uwalk_eq c hok (.fsl 1 []) [] (o ++ B) (.fsl 1 []) [] o.length [] (.inl ⟨rfl, rfl⟩) (by simpa using hd) S (by rw [hB]; simp) (by omega) (by simpa using hn)
  have hul := usC_len n c
  rw [List.nil_append] at S'
  have p1 := S'.l
  have hcan := gx_canA S'.G
  have hne := S'.G.not (i := o.length + 2) (by omega)
  have x1 := cu_take c
  have x2 := cu_can c
  have x3 := culen c
  have x4 := cu_one c
  have hkl : killAll ([] : List Nat) o' = o' := rfl
  rw [hB] at hc
  generalize usC n c = V at *
  have G := S'.G
  clear S S' K
  rcases G.G with rfl | ⟨r, r1, rfl, r3⟩
  · have hnil : V = [] := by have := G.nil rfl; simpa [intA] using this
    subst hnil
    have h1 := sorti_nil ⟨o', o.length, []⟩
    have h2 := compi_nil ⟨o', o.length, []⟩
    have e0 : intA (risingI []) = [] := rfl
    rw [e0]
    simp only [intA, List.map_nil, Cu.av] at p1 hc
    apply call_by (by exact rfl : T 30 = some _) (by simp)
    intro fr hfr hsl
    have s0 := hsl 0 _ rfl
    have s1 := hsl 1 _ rfl
    simp only [Cu.av] at s0
    simp -implicitDefEqProofs [hfr, s0, s1, hc, h1, h2, p1, x1, x2, x3, x4, get_base0, get_base, -getElem?_pos, List.getElem?_cons_zero, List.getElem?_cons_succ]
  · have hr := lt_of_getO r3
    have hs := sorti_call (df := []) r3 (show o.length ≤ r by omega) (by omega) false
    have hcc := compi_call (ro := o.length) (df := []) (l := isort ltI V) (getO_set (x := Obj.arr 3 1 (intA (isort ltI V))) hr) (by omega) (by rw [isorti_len]; omega)
    have e0 : (isort ltI V).length = V.length := isorti_len V
    rw [e0] at hcc
    simp only [List.set_set] at hcc
    rw [intA_len] at p1 hcan hne
    have p2 : ∀ X, (o'.set r X)[o.length + 2]? = some (.arr 22 1 [[.own r 0 V.length false]]) := fun X => by rw [List.getElem?_set_ne (by omega)]; exact p1
    have hh : hand o.length (o'.set r (Obj.arr 3 1 (intA (dedup eqI (isort ltI V) ++ List.replicate (V.length - (dedup eqI (isort ltI V)).length) 0)))) (.own r 0 (dedup eqI (isort ltI V)).length false) = some (.sl 1 (intA (risingI V))) := by
      have e := getO_set (x := Obj.arr 3 1 (intA (dedup eqI (isort ltI V) ++ List.replicate (V.length - (dedup eqI (isort ltI V)).length) 0))) hr
      simp only [hand, hand1, hand0, if_neg (show ¬ r < o.length by omega), e, intA_flat, List.drop_zero]
      rw [if_pos (by simp [intA_len]), intA_app, List.take_left' (by simp [intA_len])]
      rfl
    simp only [Cu.av] at hc
    apply call_by (by exact rfl : T 30 = some _) (by simp)
    intro fr hfr hsl
    have s0 := hsl 0 _ rfl
    have s1 := hsl 1 _ rfl
    simp only [Cu.av] at s0
    simp -implicitDefEqProofs [hfr, s0, s1, hc, hs, hcc, p1, p2, hh, x1, x2, x3, x4, get_base0, get_base, -getElem?_pos, List.getElem?_cons_zero, List.getElem?_cons_succ]

end Go.Proofs.Ytgabnhmjlhhojaa.A
