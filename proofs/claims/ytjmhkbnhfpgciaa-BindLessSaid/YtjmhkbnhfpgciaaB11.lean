/- The loose numbers, rising: the program's. -/
import Derived.Test.YtjmhkbnhfpgciaaB10
import Derived.Test.YtjmhkbnhfpgciaaExtS
namespace Go.Proofs.Ytjmhkbnhfpgciaa.A
open Go
set_option maxRecDepth 10000
set_option linter.unusedSimpArgs false
attribute [-simp] List.all_eq_true put slot_def ld idxA lenOf elems canA app hand

def intA (l : List Int) : List (List AV) := l.map fun n => [.int .i64 n]
theorem intA_len (l : List Int) : (intA l).length = l.length := by simp [intA]
theorem intA_flat : ∀ l : List Int, AV.flatLL (intA l) = true
  | [] => rfl
  | x :: l => by have := intA_flat l; simp only [intA] at this; simp [intA, this]
theorem intA_app (l k : List Int) : intA (l ++ k) = intA l ++ intA k := by simp [intA]
theorem intA_get {l : List Int} {i : Nat} {x : Int} (h : l[i]? = some x) : (intA l)[i]? = some [.int .i64 x] := by simp [intA, h]
attribute [simp] intA_flat intA_len

theorem ints_get : ∀ l : List Int, intsOf (intA l) = some l
  | [] => rfl
  | x :: l => by have := ints_get l; simp only [intA] at this; simp [intA, intsOf, this]

def ltI (a b : Int) : Bool := decide (a < b)
def eqI (a b : Int) : Bool := a == b
/-- sorted, each once -/
def risingI (l : List Int) : List Int := dedup eqI (isort ltI l)

theorem sorti_call {r ro ty : Nat} {o : List Obj} {df : List Nat} {l : List Int} (h : o[r]? = some (.arr ty 1 (intA l))) (hro : ro ≤ r) (hl : l.length < 4611686018427387904) (f : Bool) :
    (D T).call 65 [.own r 0 l.length f] ⟨o, ro, df⟩ = some (.tup [], ⟨o.set r (.arr ty 1 (intA (isort ltI l))), ro, df⟩) := by
  rw [D_ext _ _ (by rfl)]
  simp only [ext, exSort, St.arr?, h, intA_len, hro, hl, and_self, if_true, ints_get]
  rfl

theorem compi_call {r ro ty : Nat} {o : List Obj} {df : List Nat} {l : List Int} (h : o[r]? = some (.arr ty 1 (intA l))) (hro : ro ≤ r) (hl : l.length < 4611686018427387904) :
    (D T).call 66 [.own r 0 l.length false] ⟨o, ro, df⟩ =
      some (.own r 0 (dedup eqI l).length false, ⟨o.set r (.arr ty 1 (intA (dedup eqI l ++ List.replicate (l.length - (dedup eqI l).length) 0))), ro, df⟩) := by
  rw [D_ext _ _ (by rfl)]
  simp only [ext, exComp, St.arr?, h, intA_len, hro, hl, and_self, if_true, ints_get]
  rfl

theorem sorti_nil (st : St) : (D T).call 65 [.fsl 1 []] st = some (.tup [], st) := by
  rw [D_ext _ _ (by rfl)]; rfl
theorem compi_nil (st : St) : (D T).call 66 [.fsl 1 []] st = some (.fsl 1 [], st) := by
  rw [D_ext _ _ (by rfl)]; rfl

theorem isorti_len (l : List Int) : (isort ltI l).length = l.length := isort_length ltI l

theorem rising_eq {lo ro : Nat} {o : List Obj} {v : AV} {l : List Int} (h : Gx 3 1 lo o v (intA l)) (hro : ro ≤ lo) (hl : l.length ≤ 4294967296) (df : List Nat) :
    ∃ v2 o2, (D T).call 51 [v] ⟨o, ro, df⟩ = some (v2, ⟨o2, ro, df⟩) ∧ hand ro o2 v2 = some (.sl 1 (intA (risingI l))) := by
  rcases h.G with rfl | ⟨r, h1, rfl, h3⟩
  · have hnil : l = [] := by have := h.nil rfl; simpa [intA] using this
    subst hnil
    refine ⟨.fsl 1 [], o, ?_, by simp [intA, risingI, isort, dedup, hand, hand1, hand0]⟩
    have h1 := sorti_nil ⟨o, ro, []⟩
    have h2 := compi_nil ⟨o, ro, []⟩
    apply call_by (by exact rfl : T 51 = some _) (by simp)
    intro fr hfr hsl
    have s0 := hsl 0 _ rfl
    simp only [intA, List.map_nil] at s0
    simp -implicitDefEqProofs [hfr, s0, h1, h2]
  · have hr := lt_of_getO h3
    have hs := sorti_call (df := []) h3 (show ro ≤ r by omega) (by omega) false
    have hc := compi_call (ro := ro) (df := []) (l := isort ltI l) (getO_set (x := Obj.arr 3 1 (intA (isort ltI l))) hr) (by omega) (by rw [isorti_len]; omega)
    have e0 : (isort ltI l).length = l.length := isorti_len l
    rw [e0] at hc
    simp only [List.set_set] at hc
    refine ⟨.own r 0 (dedup eqI (isort ltI l)).length false, o.set r (Obj.arr 3 1 (intA (dedup eqI (isort ltI l) ++ List.replicate (l.length - (dedup eqI (isort ltI l)).length) 0))), ?_, ?_⟩
    · rw [intA_len]
      apply call_by (by exact rfl : T 51 = some _) (by simp)
      intro fr hfr hsl
      have s0 := hsl 0 _ rfl
      simp -implicitDefEqProofs [hfr, s0, hs, hc]
    · have e := getO_set (x := Obj.arr 3 1 (intA (dedup eqI (isort ltI l) ++ List.replicate (l.length - (dedup eqI (isort ltI l)).length) 0))) hr
      simp only [hand, hand1, hand0, if_neg (show ¬ r < ro by omega), e, intA_flat, List.drop_zero]
      rw [if_pos (by simp), intA_app, List.take_left' (by simp)]
      rfl

theorem gx_canA {ty sz lo : Nat} {o : List Obj} {v : AV} {es : List (List AV)} (G : Gx ty sz lo o v es) : canA v = v := by
  rcases G.G with rfl | ⟨r, r1, rfl, r2⟩ <;> rfl

theorem gather_eq (lb : Nat) (o : List Obj) (ro : Nat) (df : List Nat) : (D T).call 50 [.ptr lb 0 0] ⟨o, ro, df⟩ = some (.fn (.func 64) [] [.ptr o.length 0 0], ⟨o ++ [Obj.arr 70 1 [[.ptr lb 0 0]]], ro, df⟩) := by
  apply call_by (by exact rfl : T 50 = some _) (by simp)
  intro fr hfr hsl
  have s0 := hsl 0 _ rfl
  simp -implicitDefEqProofs [hfr, s0]

theorem LooseTerm_eq (t : Tm) (ht : t.ok) (hn : t.all.length ≤ 4294967296) (o : List Obj) (ro : Nat) (df : List Nat) : (D T).call 32 [t.av] ⟨o, ro, df⟩ = some (.sl 1 (intA (risingI (lsT 0 t))), ⟨o, ro, df⟩) := by
  obtain ⟨B, hB⟩ : ∃ B, B = [Obj.arr 27 4 [t.cells], Obj.arr 42 1 [[.fsl 1 []]], Obj.arr 70 1 [[.ptr (o.length + 1) 0 0]]] := ⟨_, rfl⟩
  have S : Gi (o.length + 3) (o.length + 2) (o.length + 1) (o ++ B) (.fsl 1 []) [] := ⟨by rw [hB]; simp [get_base], by rw [hB]; simp [get_base], ⟨.inl rfl, fun _ => rfl⟩, by omega, by omega, by omega⟩
  obtain ⟨w, o', v', hc, hw, S', K⟩ := termi_eq t 0 (o ++ B) (.fsl 1 []) [] o.length [] ht S (by rw [hB]; simp) (by omega) (by simpa using hn)
  have hg := gather_eq (o.length + 1) (o ++ [Obj.arr 27 4 [t.cells], Obj.arr 42 1 [[.fsl 1 []]]]) o.length []
  have hl := lsT_len 0 t
  rw [List.nil_append] at S'
  obtain ⟨v2, o2, hr, hh⟩ := rising_eq (df := []) S'.G (show o.length ≤ o.length + 3 by omega) (by omega)
  have p0 := (K.keep o.length (by rw [hB]; simp) (by omega) (fun n f => S.G.not (by omega) n f)).1
  have p1 := S'.l
  have hcan := gx_canA S'.G
  have hkl : killAll ([] : List Nat) o2 = o2 := rfl
  rw [hB] at hc p0
  rw [get_base0] at p0
  obtain ⟨a, s, b, l⟩ := t
  simp only [Tm.av, Tm.cells_mk, Int.natCast_zero, List.append_assoc, List.cons_append, List.nil_append] at hc p0 hg
  apply call_by (by exact rfl : T 32 = some _) (by simp)
  intro fr hfr hsl
  have s0 := hsl 0 _ rfl
  simp only [Tm.av, Tm.cells_mk] at s0
  simp -implicitDefEqProofs [hfr, s0, hg, hc, hr, hh, p0, p1, hcan, get_base0, get_base, -getElem?_pos, List.getElem?_cons_zero, List.getElem?_cons_succ]
  done

theorem Loose_eq (c : Cl) (hc : c.ok) (hn : c.ct ≤ 4294967296) (o : List Obj) (ro : Nat) (df : List Nat) : (D T).call 23 [c.av] ⟨o, ro, df⟩ = some (.sl 1 (intA (risingI (lsC 0 c))), ⟨o, ro, df⟩) := by
  obtain ⟨B, hB⟩ : ∃ B, B = [Obj.arr 25 5 [c.cells], Obj.arr 42 1 [[.fsl 1 []]], Obj.arr 70 1 [[.ptr (o.length + 1) 0 0]]] := ⟨_, rfl⟩
  have S : Gi (o.length + 3) (o.length + 2) (o.length + 1) (o ++ B) (.fsl 1 []) [] := ⟨by rw [hB]; simp [get_base], by rw [hB]; simp [get_base], ⟨.inl rfl, fun _ => rfl⟩, by omega, by omega, by omega⟩
  obtain ⟨w, x, o', v', hd, hw, S', K⟩ := walki_eq c 0 (o ++ B) (.fsl 1 []) [] o.length [] hc S (by rw [hB]; simp) (by omega) (by simpa using hn)
  have hg := gather_eq (o.length + 1) (o ++ [Obj.arr 25 5 [c.cells], Obj.arr 42 1 [[.fsl 1 []]]]) o.length []
  have hl := lsC_len 0 c
  rw [List.nil_append] at S'
  obtain ⟨v2, o2, hr, hh⟩ := rising_eq (df := []) S'.G (show o.length ≤ o.length + 3 by omega) (by omega)
  have p0 := (K.keep o.length (by rw [hB]; simp) (by omega) (fun n f => S.G.not (by omega) n f)).1
  have p1 := S'.l
  have hcan := gx_canA S'.G
  rw [hB] at hd p0
  rw [get_base0] at p0
  obtain ⟨a, s, u, ts, cs⟩ := c
  simp only [Cl.av, Cl.cells_mk, Int.natCast_zero, List.append_assoc, List.cons_append, List.nil_append] at hd p0 hg
  apply call_by (by exact rfl : T 23 = some _) (by simp)
  intro fr hfr hsl
  have s0 := hsl 0 _ rfl
  simp only [Cl.av, Cl.cells_mk] at s0
  simp -implicitDefEqProofs [hfr, s0, hg, hd, hr, hh, p0, p1, hcan, get_base0, get_base, -getElem?_pos, List.getElem?_cons_zero, List.getElem?_cons_succ]

theorem Closed_eq (c : Cl) (hc : c.ok) (hn : c.ct ≤ 4294967296) (o : List Obj) (ro : Nat) (df : List Nat) : (D T).call 33 [c.av] ⟨o, ro, df⟩ = some (.bool (decide ((risingI (lsC 0 c)).length = 0)), ⟨o, ro, df⟩) := by
  have h1 := fun o ro df => Loose_eq c hc hn o ro df
  obtain ⟨l, hl⟩ : ∃ l, l = risingI (lsC 0 c) := ⟨_, rfl⟩
  rw [← hl] at h1 ⊢
  obtain ⟨a, s, u, ts, cs⟩ := c
  simp only [Cl.av, Cl.cells_mk] at h1
  apply call_by (by exact rfl : T 33 = some _) (by simp)
  intro fr hfr hsl
  have s0 := hsl 0 _ rfl
  simp only [Cl.av, Cl.cells_mk] at s0
  cases l with
  | nil => simp -implicitDefEqProofs [hfr, s0, h1, get_base0, get_base, -getElem?_pos, List.getElem?_cons_zero, List.getElem?_cons_succ]
  | cons x l =>
    have : ¬ ((l.length : Int) + 1 = 0) := by omega
    simp -implicitDefEqProofs [hfr, s0, h1, this, get_base0, get_base, -getElem?_pos, List.getElem?_cons_zero, List.getElem?_cons_succ]

end Go.Proofs.Ytjmhkbnhfpgciaa.A
