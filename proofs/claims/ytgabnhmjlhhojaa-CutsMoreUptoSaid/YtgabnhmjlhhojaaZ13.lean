/- The facts that a cut uses, rising: the program's. -/
import Derived.Test.YtgabnhmjlhhojaaZ11
import Derived.Test.YtgabnhmjlhhojaaExtS
namespace Go.Proofs.Ytgabnhmjlhhojaa.A
open Go
set_option maxRecDepth 10000
set_option linter.unusedSimpArgs false
set_option linter.unusedVariables false
attribute [-simp] List.all_eq_true put slot_def ld idxA lenOf elems canA app hand

theorem ints_get : ∀ l : List Int, intsOf (intA l) = some l
  | [] => rfl
  | x :: l => by have := ints_get l; simp only [intA] at this; simp [intA, intsOf, this]

def ltI (a b : Int) : Bool := decide (a < b)
def eqI (a b : Int) : Bool := a == b
/-- sorted, each once -/
def risingI (l : List Int) : List Int := dedup eqI (isort ltI l)

theorem sorti_call {r ro ty : Nat} {o : List Obj} {df : List Nat} {l : List Int} (h : o[r]? = some (.arr ty 1 (intA l))) (hro : ro ≤ r) (hl : l.length < 4611686018427387904) (f : Bool) :
    (D T).call 51 [.own r 0 l.length f] ⟨o, ro, df⟩ = some (.tup [], ⟨o.set r (.arr ty 1 (intA (isort ltI l))), ro, df⟩) := by
  rw [D_ext _ _ (by rfl)]
  simp only [ext, exSort, St.arr?, h, intA_len, hro, hl, and_self, if_true, ints_get]
  rfl

theorem compi_call {r ro ty : Nat} {o : List Obj} {df : List Nat} {l : List Int} (h : o[r]? = some (.arr ty 1 (intA l))) (hro : ro ≤ r) (hl : l.length < 4611686018427387904) :
    (D T).call 52 [.own r 0 l.length false] ⟨o, ro, df⟩ =
      some (.own r 0 (dedup eqI l).length false, ⟨o.set r (.arr ty 1 (intA (dedup eqI l ++ List.replicate (l.length - (dedup eqI l).length) 0))), ro, df⟩) := by
  rw [D_ext _ _ (by rfl)]
  simp only [ext, exComp, St.arr?, h, intA_len, hro, hl, and_self, if_true, ints_get]
  rfl

theorem sorti_nil (st : St) : (D T).call 51 [.fsl 1 []] st = some (.tup [], st) := by
  rw [D_ext _ _ (by rfl)]; rfl
theorem compi_nil (st : St) : (D T).call 52 [.fsl 1 []] st = some (.fsl 1 [], st) := by
  rw [D_ext _ _ (by rfl)]; rfl

theorem isorti_len (l : List Int) : (isort ltI l).length = l.length := isort_length ltI l


theorem cUses_eq (c : Cu) (n : Int) (hok : c.ok) (hd : cdp c ≤ 1000000) (hn : cfr c ≤ 4294967296) (o : List Obj) (ro : Nat) (df : List Nat) :
    (D T).call 30 [c.av, .int .i64 n] ⟨o, ro, df⟩ = some (.sl 1 (intA (risingI (usC n c))), ⟨o, ro, df⟩) := by
  obtain ⟨B, hB⟩ : ∃ B, B = [Obj.arr 29 7 [c.cells], Obj.arr 3 1 [[.int .i64 n]], Obj.arr 22 1 [[.fsl 1 []]]] := ⟨_, rfl⟩
  have S : Ui (o.length + 3) (o.length + 1) (o.length + 2) n (o ++ B) (.fsl 1 []) [] := ⟨by rw [hB]; simp [get_base], by rw [hB]; simp [get_base], ⟨.inl rfl, fun _ => rfl⟩, by omega, by omega, by omega⟩
  obtain ⟨o', v', hc, S', K⟩ := uwalk_eq c hok (.fsl 1 []) [] (o ++ B) (.fsl 1 []) [] o.length [] (.inl ⟨rfl, rfl⟩) (by simpa using hd) S (by rw [hB]; simp) (by omega) (by simpa using hn)
  have hul := usC_len n c
  rw [List.nil_append] at S'
  have p1 := S'.l
  have hcan := gx_canA S'.G
  have hne := S'.G.not (i := o.length + 2) (by omega)
  have x1 := cu_take c
  have x2 := cu_can c
  have x3 := culen c
  have x4 := cu_one c
  have hkl : killAll ([] : List Nat) o' = o' := rfl
  rw [hB] at hc
  generalize usC n c = V at *
  have G := S'.G
  clear S S' K
  rcases G.G with rfl | ⟨r, r1, rfl, r3⟩
  · have hnil : V = [] := by have := G.nil rfl; simpa [intA] using this
    subst hnil
    have h1 := sorti_nil ⟨o', o.length, []⟩
    have h2 := compi_nil ⟨o', o.length, []⟩
    have e0 : intA (risingI []) = [] := rfl
    rw [e0]
    simp only [intA, List.map_nil, Cu.av] at p1 hc
    apply call_by (by exact rfl : T 30 = some _) (by simp)
    intro fr hfr hsl
    have s0 := hsl 0 _ rfl
    have s1 := hsl 1 _ rfl
    simp only [Cu.av] at s0
    simp -implicitDefEqProofs [hfr, s0, s1, hc, h1, h2, p1, x1, x2, x3, x4, get_base0, get_base, -getElem?_pos, List.getElem?_cons_zero, List.getElem?_cons_succ]
  · have hr := lt_of_getO r3
    have hs := sorti_call (df := []) r3 (show o.length ≤ r by omega) (by omega) false
    have hcc := compi_call (ro := o.length) (df := []) (l := isort ltI V) (getO_set (x := Obj.arr 3 1 (intA (isort ltI V))) hr) (by omega) (by rw [isorti_len]; omega)
    have e0 : (isort ltI V).length = V.length := isorti_len V
    rw [e0] at hcc
    simp only [List.set_set] at hcc
    rw [intA_len] at p1 hcan hne
    have p2 : ∀ X, (o'.set r X)[o.length + 2]? = some (.arr 22 1 [[.own r 0 V.length false]]) := fun X => by rw [List.getElem?_set_ne (by omega)]; exact p1
    have hh : hand o.length (o'.set r (Obj.arr 3 1 (intA (dedup eqI (isort ltI V) ++ List.replicate (V.length - (dedup eqI (isort ltI V)).length) 0)))) (.own r 0 (dedup eqI (isort ltI V)).length false) = some (.sl 1 (intA (risingI V))) := by
      have e := getO_set (x := Obj.arr 3 1 (intA (dedup eqI (isort ltI V) ++ List.replicate (V.length - (dedup eqI (isort ltI V)).length) 0))) hr
      simp only [hand, hand1, hand0, if_neg (show ¬ r < o.length by omega), e, intA_flat, List.drop_zero]
      rw [if_pos (by simp [intA_len]), intA_app, List.take_left' (by simp [intA_len])]
      rfl
    simp only [Cu.av] at hc
    apply call_by (by exact rfl : T 30 = some _) (by simp)
    intro fr hfr hsl
    have s0 := hsl 0 _ rfl
    have s1 := hsl 1 _ rfl
    simp only [Cu.av] at s0
    simp -implicitDefEqProofs [hfr, s0, s1, hc, hs, hcc, p1, p2, hh, x1, x2, x3, x4, get_base0, get_base, -getElem?_pos, List.getElem?_cons_zero, List.getElem?_cons_succ]

end Go.Proofs.Ytgabnhmjlhhojaa.A
/- The facts that a cut uses: the document's. -/
namespace Go.Proofs.Ytgabnhmjlhhojaa.A
open Go
set_option maxRecDepth 10000
set_option linter.unusedSimpArgs false
set_option linter.unusedVariables false
attribute [-simp] List.all_eq_true put slot_def ld idxA lenOf elems canA app hand List.map_map

def anyF (x : Int) (l : List Int) : Bool := l.any (· == x)
theorem anyF_snoc (x y : Int) (l : List Int) : anyF x (l ++ [y]) = (anyF x l || y == x) := by simp [anyF, List.any_append]
theorem anyF_at (x : Int) (l k : List Int) : anyF x (l ++ x :: k) = true := by simp [anyF]
mutual
/-- does a number stand in From of a part? -/
def hasF (x : Int) : Cu → Bool
  | .mk _ fr _ _ _ _ cs => anyF x fr || hasFL x cs
def hasFL (x : Int) : List Cu → Bool
  | [] => false
  | c :: l => hasF x c || hasFL x l
end

theorem has_l0 (x : Int) (fs : List Int) (hl : fs.length ≤ 9223372036854775807) (o : List Obj) (ro : Nat) (y0 y2 y3 y4 y5 y6 : AV) (Q : AE → List AV → St → Prop) (fr : List AV) (hfr : fr.length = 35) (o1 : List Obj)
    (q1 : slot fr 1 = .int .i64 x) (q2 : slot fr 2 = .ptr o.length 0 0) (q5 : slot fr 5 = .int .i64 0)
    (g0 : o1[o.length]? = some (Obj.arr 29 7 [[y0, .sl 1 (intA fs), y2, y3, y4, y5, y6]]))
    (kk : ∀ fr' : List AV, fr'.length = 35 → slot fr' 1 = .int .i64 x → slot fr' 2 = .ptr o.length 0 0 → anyF x fs = false → Q (.exit 0) fr' ⟨o1, ro, []⟩)
    (kr : ∀ fr' : List AV, slot fr' 4 = .bool true → anyF x fs = true → Q .ret fr' ⟨o1, ro, []⟩) :
    ∃ e fr' st', (D T).loop false L53_0 fr ⟨o1, ro, []⟩ = some (e, fr', st') ∧ Q e fr' st' := by
  have hF := intA_len fs
  have hg1 := fun (i : Nat) u (h : fs[i]? = some u) => show (intA fs)[i]? = some [.int .i64 u] by simp [intA, h]
  generalize intA fs = F at *
  apply loop_inv L53_0.eq_1 List.length (fun (rest : List Int) fr st => ∃ pre, fs = pre ++ rest ∧ fr.length = 35 ∧ slot fr 1 = .int .i64 x ∧ slot fr 2 = .ptr o.length 0 0 ∧ slot fr 5 = .int .i64 (pre.length : Int) ∧ st = ⟨o1, ro, []⟩ ∧ anyF x pre = false) ?_ fs ⟨[], rfl, hfr, q1, q2, q5, rfl, rfl⟩
  clear hfr q1 q2 q5
  clear fr
  rintro rest fr _ ⟨pre, e, hfr, q1, q2, q5, rfl, hp⟩
  cases rest with
  | nil =>
    have hlt := idx_end e
    have ee : pre = fs := by simpa using e.symm
    simp -implicitDefEqProofs [hfr, q1, q2, q5, g0, hF, hlt, List.getElem?_cons_zero, -getElem?_pos]
    exact kk _ (by simp [hfr]) (by simp [hfr, q1]) (by simp [hfr, q2]) (by rw [← ee]; exact hp)
  | cons y rest =>
    obtain ⟨hlt, hg, hpl⟩ := idx_at e
    have hw := idx_next e hl
    have hgx := hg1 _ _ hg
    by_cases h : y = x
    · subst h
      simp -implicitDefEqProofs [hfr, q1, q2, q5, g0, hF, hlt, hpl, hgx, List.getElem?_cons_zero, -getElem?_pos]
      exact kr _ (by simp [hfr]) (by rw [e]; exact anyF_at ..)
    · have h8 : (y == x) = false := by simpa using h
      simp -implicitDefEqProofs [hfr, q1, q2, q5, g0, hF, hlt, hpl, hgx, hw, h, h8, List.getElem?_cons_zero, -getElem?_pos]
      exact ⟨rest, by simp, pre ++ [y], by simp [e], by simp, by rw [anyF_snoc, hp, h8]; rfl⟩

theorem rhas_eq (x : Int) : ∀ (c : Cu), c.ok → ∀ (o : List Obj) (ro : Nat) (df : List Nat), (D T).call 53 [c.av, .int .i64 x] ⟨o, ro, df⟩ = some (.bool (hasF x c), ⟨o, ro, df⟩)
  | .mk kd fr0 by0 dv kk ms cs, hok, o, ro, df => by
    simp only [Cu.ok] at hok
    obtain ⟨_, o1, _, _, _, _, o4, o5⟩ := hok
    have hl := okCu_iff.1 o5
    have mf := o1.2
    unfold mxB at o4 mf
    have mx : cs.length ≤ 9223372036854775807 := by omega
    have ih := fun y (hy : y ∈ cs) o ro df => rhas_eq x y (hl y hy) o ro df
    simp only [Cu.av] at ih
    have hE : hasF x (.mk kd fr0 by0 dv kk ms cs) = (anyF x fr0 || hasFL x cs) := rfl
    generalize hasF x (.mk kd fr0 by0 dv kk ms cs) = R at hE ⊢
    obtain ⟨X, hX⟩ : ∃ X, X = Obj.arr 29 7 [[.int .i64 kd, .sl 1 (intA fr0), .sl 1 (intA by0), .int .i64 dv, .int .i64 kk, .sl 2 (moA ms), .sl 7 (cs.map Cu.cells)]] := ⟨_, rfl⟩
    have hg2 : (o ++ [X])[o.length]? = some X := by simp
    apply call_by (by exact rfl : T 53 = some _) (by simp)
    intro fr hfr hsl
    have s0 := hsl 0 _ rfl
    have s1 := hsl 1 _ rfl
    simp only [Cu.av, Cu.cells_mk] at s0
    simp -implicitDefEqProofs [hfr, s0, s1]
    refine has_l0 x fr0 (by omega) o _ _ _ _ _ _ _ _ _ (by simp [hfr]) _ (by simp [hfr, s1]) (by simp [hfr]) (by simp [hfr]) (by rw [get_base0]; rfl) ?_ ?_
    · clear hfr s0 s1 hsl
      clear fr
      intro fr hfr q1 q2 ha
      rw [ha, Bool.false_or] at hE
      simp -implicitDefEqProofs [hfr, q1, q2]
      apply loop_inv L53_1.eq_1 List.length (fun (rest : List Cu) fr st => ∃ pre, cs = pre ++ rest ∧ fr.length = 35 ∧ slot fr 1 = .int .i64 x ∧ slot fr 2 = .ptr o.length 0 0 ∧ slot fr 6 = .int .i64 (pre.length : Int) ∧ st = ⟨o ++ [X], o.length, []⟩ ∧ R = hasFL x rest) ?_ cs
        ⟨[], rfl, by simp [hfr], by simp [hfr, q1], by simp [hfr, q2], by simp [hfr], by rw [hX], hE⟩
      clear hfr q1 q2 hE
      clear fr
      rintro rest fr _ ⟨pre, e, hfr, q1, q2, q6, rfl, hn⟩
      rw [hX] at hg2
      rw [hX]
      cases rest with
      | nil =>
        have hlt := idx_end e
        simp only [hasFL] at hn
        simp -implicitDefEqProofs [hfr, q1, q2, q6, hg2, hlt, hn, -getElem?_pos, List.getElem?_cons_zero]
      | cons y rest =>
        obtain ⟨hlt, hg, hpl⟩ := idx_at e
        have hw := idx_next e mx
        have hy : y ∈ cs := by simp [e]
        have hc := fun o ro df => ih y hy o ro df
        have y1 := cu_take y
        have y2 := cu_can y
        have y3 := culen y
        simp only [hasFL] at hn
        cases h : hasF x y with
        | true =>
          rw [h, Bool.true_or] at hn
          simp -implicitDefEqProofs [hfr, q1, q2, q6, hg2, hlt, hg, hpl, hw, hc, h, hn, y1, y2, y3, -List.getElem_map, -getElem?_pos, List.getElem?_cons_zero]
        | false =>
          rw [h, Bool.false_or] at hn
          simp -implicitDefEqProofs [hfr, q1, q2, q6, hg2, hlt, hg, hpl, hw, hc, h, y1, y2, y3, -List.getElem_map, -getElem?_pos, List.getElem?_cons_zero]
          exact ⟨rest, by simp, pre ++ [y], by simp [e], by simp, hn⟩
    · intro fr q4 ha
      rw [ha, Bool.true_or] at hE
      simp -implicitDefEqProofs [q4, hE]
termination_by t => SizeOf.sizeOf t
decreasing_by
  have := List.sizeOf_lt_of_mem hy
  simp
  omega

/-- the numbers below one that stand in a cut -/
def usR (c : Cu) (k : Nat) : List Int := ((List.range k).map fun i : Nat => (i : Int)).filter fun x => hasF x c
theorem usR_succ (c : Cu) (k : Nat) : usR c (k + 1) = usR c k ++ (bif hasF (k : Int) c then [(k : Int)] else []) := by
  simp only [usR, List.range_succ, List.map_append, List.map_cons, List.map_nil, List.filter_append, List.filter_cons, List.filter_nil]
  cases hasF (k : Int) c <;> rfl
theorem usR_len (c : Cu) (k : Nat) : (usR c k).length ≤ k := by
  have := List.length_filter_le (fun x => hasF x c) ((List.range k).map fun i : Nat => (i : Int))
  simp only [List.length_map, List.length_range] at this
  exact this

theorem rUses_eq (c : Cu) (n : Int) (hok : c.ok) (hn : n ≤ 1000000) (o : List Obj) (ro : Nat) (df : List Nat) : (D T).call 31 [c.av, .int .i64 n] ⟨o, ro, df⟩ = some (.sl 1 (intA (usR c n.toNat)), ⟨o, ro, df⟩) := by
  have hh := fun x o ro df => rhas_eq x c hok o ro df
  simp only [Cu.av] at hh
  have x1 := cu_take c
  have x2 := cu_can c
  have x3 := culen c
  have x4 := cu_one c
  apply call_by (by exact rfl : T 31 = some _) (by simp)
  intro fr hfr hsl
  have s0 := hsl 0 _ rfl
  have s1 := hsl 1 _ rfl
  simp only [Cu.av] at s0
  simp -implicitDefEqProofs [hfr, s0, s1, x1, x2, x3, x4]
  apply loop_inv L31_0.eq_1 (fun k : Nat => k) (fun (k : Nat) fr st => ∃ (i : Nat) (v : AV) (o2 : List Obj), i + k = n.toNat ∧ fr.length = 20 ∧ slot fr 1 = .int .i64 n ∧ slot fr 2 = .ptr o.length 0 0 ∧ slot fr 5 = v ∧ slot fr 6 = .int .i64 (i : Int) ∧
    st = ⟨o2, o.length, []⟩ ∧ o2[o.length]? = some (Obj.arr 29 7 [c.cells]) ∧ Gx 3 1 (o.length + 1) o2 v (intA (usR c i))) ?_ n.toNat
    ⟨0, .fsl 1 [], _, by simp, by simp [hfr], by simp [hfr, s1], by simp [hfr], by simp [hfr], by simp [hfr], rfl, by simp, ⟨.inl rfl, fun _ => rfl⟩⟩
  clear hfr s0 s1 hsl
  clear fr
  rintro k fr _ ⟨i, v, o2, e, hfr, q1, q2, q5, q6, rfl, g0, G⟩
  have hcan := gx_canA G
  cases k with
  | zero =>
    have hlt : ¬ ((i : Int) < n) := by omega
    have hhd : hand o.length o2 v = some (.sl 1 (intA (usR c n.toNat))) := by
      have h0 := gx_hand0 (n := o.length) G (by omega) (intA_flat _)
      rw [show n.toNat = i by omega]
      rcases G.G with rfl | ⟨r, r1, rfl, r2⟩ <;> simpa [hand, hand1] using h0
    simp -implicitDefEqProofs [hfr, q1, q2, q5, q6, hlt, hcan, hhd]
  | succ k =>
    have hlt : (i : Int) < n := by omega
    have hw : IntKind.i64.wrap ((i : Int) + 1) = (i : Int) + 1 := wrap_id (by omega) (by omega)
    have hS := usR_succ c i
    have hle := usR_len c i
    have hll := lt_of_getO g0
    cases h : hasF (i : Int) c with
    | false =>
      rw [h, cond_false, List.append_nil] at hS
      simp -implicitDefEqProofs [hfr, q1, q2, q5, q6, hlt, hw, hh, h, g0, x1, x2, x3, x4, -getElem?_pos, List.getElem?_cons_zero]
      exact ⟨k, by omega, i + 1, by omega, by simp, by rw [hS]; exact G⟩
    | true =>
      rw [h, cond_true] at hS
      obtain ⟨o4, a1, a2, W⟩ := gx_appw G (ro := o.length) (df := []) (bytes := 8) (by omega) (by omega) (elems_fsl _ 1 [[.int .i64 (i : Int)]]) (room_of0 (by simp only [intA_len, List.length_cons, List.length_nil]; omega) (by simp only [intA_len, List.length_cons, List.length_nil]; omega))
      have m0 := (W.keep o.length (by omega) (fun n f => G.not (by omega) n f)).1
      rw [g0] at m0
      simp only [List.length_cons, List.length_nil, Nat.zero_add, intA_len] at a1 a2 W
      simp -implicitDefEqProofs [hfr, q1, q2, q5, q6, hlt, hw, hh, h, g0, a1, hcan, x1, x2, x3, x4, -getElem?_pos, List.getElem?_cons_zero]
      exact ⟨k, by omega, i + 1, by omega, by simp, m0, by rw [hS, intA_app]; exact W.G⟩

end Go.Proofs.Ytgabnhmjlhhojaa.A
