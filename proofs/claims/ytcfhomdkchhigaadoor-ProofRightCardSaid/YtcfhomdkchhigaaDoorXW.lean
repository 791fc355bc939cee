/- The program's walk through a proof. -/
import Derived.Test.YtcfhomdkchhigaaDoorXN
namespace Go.Proofs.YtcfhomdkchhigaaDoor.A
open Go
set_option maxRecDepth 10000
set_option linter.unusedSimpArgs false
set_option linter.unusedVariables false
attribute [-simp] List.all_eq_true put slot_def ld idxA lenOf elems canA app hand

theorem cmT (t u : Tm) : (cm t u == 0) = tmEq t u := by
  rw [Bool.eq_iff_iff, ← cm_tm t u]; simp
theorem ccmC (t u : Cl) : (ccm t u == 0) = clEq t u := by
  rw [Bool.eq_iff_iff, ← ccm_cl t u]; simp
theorem exZ : ∀ c : Cl, exEq c zC = (clEq c zC && !ne c.name)
  | .mk a s u ts cs => by
    simp only [zC, exEq, clEq, Cl.name, ne, Bool.not_not]
    cases cs with
    | nil =>
      have h : (a == 0) = true → binder a = false := fun h => by
        have : a = 0 := by simpa using h
        subst this; rfl
      cases h1 : (a == 0) with
      | false => simp
      | true =>
        rw [h h1]
        simp only [exsEq, clsEq, List.length_nil]
        cases bytesEq u ⟨#[]⟩ <;> cases bytesEq s ⟨#[]⟩ <;> simp
    | cons c l => simp

/-- what is wrong with a proof's first part, as the program has it -/
def erP : Pf → Int
  | .mk r h nw v b t c les chs cu ps => if r < 0 then 20 else if 28 ≤ r then 20 else if (ps.length : Int) ≠ spS r.toNat then 12 else if bitI .andNot .i64 (orF (nine (.mk r h nw v b t c les chs cu ps)) 0) (spF r.toNat) ≠ 0 then 7 else 0

theorem erP_er : ∀ p : Pf, erP p = er p
  | .mk r h nw v b t c les chs cu ps => by
    simp only [erP, er]
    by_cases h1 : r < 0
    · rw [if_pos h1, if_pos (.inl h1)]
    by_cases h2 : 27 < r
    · rw [if_neg h1, if_pos (by omega), if_pos (.inr h2)]
    rw [if_neg h1, if_neg (show ¬ 28 ≤ r by omega), if_neg (show ¬ (r < 0 ∨ 27 < r) by omega)]
    have e := spS_sbs ⟨r.toNat, by omega⟩
    have k := nine_law ⟨r.toNat, by omega⟩ (ne h) (ne nw) (ne v) b (!(cm t zT == 0)) (!(ccm c zC == 0) || ne c.name) (!chs.isEmpty) (!les.isEmpty) (!cuEq cu zU)
    have er : ((r.toNat : Nat) : Int) = r := by omega
    simp only [er] at e k
    rw [e]
    have kf : okN r.toNat (nine (.mk r h nw v b t c les chs cu ps)) = form (.mk r h nw v b t c les chs cu ps) := by
      have : nine (.mk r h nw v b t c les chs cu ps) = [(ne h, 1), (ne nw, 2), (ne v, 4), (b, 8), (!(cm t zT == 0), 16), (!(ccm c zC == 0) || ne c.name, 32), (!chs.isEmpty, 64), (!les.isEmpty, 128), (!cuEq cu zU, 256)] := rfl
      rw [this, k]
      simp only [okL9, form, cmT, ccmC, exZ, Bool.not_not, Bool.not_or]
    split
    · rfl
    · unfold okN at kf
      rw [← kf]
      by_cases hz : bitI .andNot .i64 (orF (nine (.mk r h nw v b t c les chs cu ps)) 0) (spF r.toNat) = 0
      · rw [if_neg (by simpa using hz), if_neg (by simp [hz])]
      · rw [if_pos hz, if_pos (by simp [hz])]

/-- the way so far: the literal, or an own list -/
def Wy (o : List Obj) (v : AV) (w : List Int) : Prop := (v = .fsl 1 [] ∧ w = []) ∨ ∃ q, v = .own q 0 w.length false ∧ o[q]? = some (.arr 3 1 (intA w))
theorem Wy.can {o : List Obj} {v : AV} {w : List Int} (h : Wy o v w) : canA v = v := by
  rcases h with ⟨rfl, rfl⟩ | ⟨q, rfl, h⟩ <;> rfl
theorem Wy.clone {o : List Obj} {v : AV} {w : List Int} (h : Wy o v w) (hw : w.length ≤ 1000) (ro : Nat) (df : List Nat) : (D T).call 33 [v] ⟨o, ro, df⟩ = some (.sl 1 (intA w), ⟨o, ro, df⟩) := by
  rw [D_ext _ _ (by rfl)]
  rcases h with ⟨rfl, rfl⟩ | ⟨q, rfl, h⟩
  · rfl
  · have he : elems ⟨o, ro, df⟩ (.own q 0 w.length false) = some (1, intA w) := by
      have hl := intA_len w
      simp [elems, St.arr?, h, ← hl]
    have hf := intA_flat w
    have hl := intA_len w
    generalize intA w = I at *
    cases I with
    | nil => simp only [ext, exClone, he]
    | cons e es =>
      have hr : room (es.length + 1) 8 = true := by
        simp only [List.length_cons] at hl
        simp [room]; omega
      simp only [ext, exClone, he, hr, hf, and_self, if_true, cond_false]

def spG : List AV := shps.map fun n => .int .i64 n
theorem spG_globs : globs 0 = some spG := rfl
theorem spG_take (k : Nat) (h : k < 56) (st : St) : ld st false 1 (.vptr (spG.drop k)) = some (.int .i64 (shps.getD k 0)) := by
  have hl : shps.length = 56 := rfl
  have hk : k < shps.length := by omega
  have e : spG.drop k = .int .i64 shps[k] :: spG.drop (k + 1) := by
    have hk' : k < spG.length := by simp [spG]; omega
    rw [List.drop_eq_getElem_cons hk']
    simp [spG]
  rw [e]
  simp [ld, val, List.getD_eq_getElem?_getD, hk]

theorem right1_eq (p : Pf) (hp : p.ok) {vw : AV} {w : List Int} {o : List Obj} {eb bb ro : Nat} (hv : Wy o vw w) (hw : w.length ≤ 1000) (he : o[eb]? = some (.arr 45 1 [[.int .i64 0]])) (hb : o[bb]? = some (.arr 30 1 [[.fsl 1 []]])) (hne : eb ≠ bb) (h1 : ro ≤ eb) (h2 : ro ≤ bb) (df : List Nat) :
    ∃ o', (D T).call 31 [p.av, vw, .ptr eb 0 0, .ptr bb 0 0] ⟨o, ro, df⟩ = some (.bool (decide (er p = 0)), ⟨o', ro, df⟩) ∧ o'[eb]? = some (.arr 45 1 [[.int .i64 (er p)]]) ∧ o'[bb]? = some (.arr 30 1 [[if er p = 0 then .fsl 1 [] else .sl 1 (intA w)]]) ∧
      o.length ≤ o'.length ∧ ∀ (i : Nat) y, i ≠ eb → i ≠ bb → o[i]? = some y → o'[i]? = some y := by
  suffices h : ∃ v' st', (D T).call 31 [p.av, vw, .ptr eb 0 0, .ptr bb 0 0] ⟨o, ro, df⟩ = some (v', st') ∧ (fun v' st' => ∃ o', v' = .bool (decide (er p = 0)) ∧ st' = ⟨o', ro, df⟩ ∧ o'[eb]? = some (.arr 45 1 [[.int .i64 (er p)]]) ∧ o'[bb]? = some (.arr 30 1 [[if er p = 0 then .fsl 1 [] else .sl 1 (intA w)]]) ∧
      o.length ≤ o'.length ∧ ∀ (i : Nat) y, i ≠ eb → i ≠ bb → o[i]? = some y → o'[i]? = some y) v' st' by
    obtain ⟨_, _, h1, o', rfl, rfl, h2⟩ := h
    exact ⟨o', h1, h2⟩
  have hu := fun o ro df => used_eq p hp o ro df
  have hcan := hv.can
  have hE : er p = erP p := (erP_er p).symm
  obtain ⟨r, h, nw, v, b, t, c, les, chs, cu, ps⟩ := p
  simp only [erP] at hE
  generalize er (.mk r h nw v b t c les chs cu ps) = E at *
  generalize orF (nine (.mk r h nw v b t c les chs cu ps)) 0 = U at *
  clear hp
  obtain ⟨t0, t1, t2, t3⟩ := t
  obtain ⟨c0, c1, c2, c3, c4⟩ := c
  obtain ⟨kd, fr0, by0, dv, kk, ms, cs⟩ := cu
  simp only [Pf.av, Pf.cells_all] at hu
  have l1 := lt_of_getO he
  have l2 := lt_of_getO hb
  have l3 : ro ≤ o.length := by omega
  obtain ⟨X, hX⟩ : ∃ X, X = Obj.arr 42 24 [[.int .i64 r, .str h, .str nw, .str v, .bool b, .int .i64 t0, .str t1, .int .i64 t2, .sl 4 (t3.map Tm.cells), .int .i64 c0, .str c1, .str c2, .sl 4 (c3.map Tm.cells), .sl 5 (c4.map Cl.cells), .sl 8 (les.map Lm.cells), .sl 2 (chs.map Ch.cells),
    .int .i64 kd, .sl 1 (intA fr0), .sl 1 (intA by0), .int .i64 dv, .int .i64 kk, .sl 2 (moA ms), .sl 7 (cs.map Cu.cells), .sl 24 (ps.map Pf.cells)]] := ⟨_, rfl⟩
  -- the way is cloned, whatever number is stored
  have hcl : ∀ n : Int, (D T).call 33 [vw] ⟨o.set eb (.arr 45 1 [[.int .i64 n]]) ++ [X], ro, []⟩ = some (.sl 1 (intA w), ⟨o.set eb (.arr 45 1 [[.int .i64 n]]) ++ [X], ro, []⟩) := fun n => by
    refine Wy.clone ?_ hw ro []
    rcases hv with ⟨rfl, rfl⟩ | ⟨q, rfl, hq⟩
    · exact .inl ⟨rfl, rfl⟩
    · refine .inr ⟨q, rfl, ?_⟩
      have : eb ≠ q := by
        rintro rfl
        rw [he] at hq
        cases hq
      exact getO_push (by rw [List.getElem?_set_ne this]; exact hq) _
  have gf : ∀ n : Int, (o.set eb (.arr 45 1 [[.int .i64 n]]) ++ [X])[bb]? = some (.arr 30 1 [[.fsl 1 []]]) := fun n => by
    exact getO_push (by rw [List.getElem?_set_ne hne]; exact hb) _
  have ge : ∀ n : Int, (o.set eb (.arr 45 1 [[.int .i64 n]]) ++ [X])[eb]? = some (.arr 45 1 [[.int .i64 n]]) := fun n => getO_push (getO_set l1) _
  have gl : ∀ n : Int, (o.set eb (.arr 45 1 [[.int .i64 n]]) ++ [X]).length = o.length + 1 := fun n => by simp
  have ge2 : ∀ n : Int, ((o.set eb (.arr 45 1 [[.int .i64 n]])).set bb (.arr 30 1 [[.sl 1 (intA w)]]))[eb]? = some (.arr 45 1 [[.int .i64 n]]) := fun n => by
    rw [List.getElem?_set_ne (Ne.symm hne)]; exact getO_set l1
  -- what a number stored leaves
  have fin : ∀ n : Int, n ≠ 0 → E = n → ∀ o', o' = (o.set eb (.arr 45 1 [[.int .i64 n]])).set bb (.arr 30 1 [[.sl 1 (intA w)]]) ++ [X] →
      o'[eb]? = some (.arr 45 1 [[.int .i64 E]]) ∧ o'[bb]? = some (.arr 30 1 [[if E = 0 then .fsl 1 [] else .sl 1 (intA w)]]) ∧ o.length ≤ o'.length ∧ ∀ (i : Nat) y, i ≠ eb → i ≠ bb → o[i]? = some y → o'[i]? = some y := by
    rintro n hn rfl o' rfl
    refine ⟨?_, ?_, by simp, fun i y i1 i2 hy => ?_⟩
    · exact getO_push (ge2 _) _
    · rw [if_neg hn]; exact getO_push (getO_set (by simpa using l2)) _
    · exact getO_push (by rw [List.getElem?_set_ne (Ne.symm i2), List.getElem?_set_ne (Ne.symm i1)]; exact hy) _
  apply call_for (by exact rfl : T 31 = some _) (by simp)
  intro fr hfr hsl
  have s0 := hsl 0 _ rfl
  have s1 := hsl 1 _ rfl
  have s2 := hsl 2 _ rfl
  have s3 := hsl 3 _ rfl
  simp only [Pf.av, Pf.cells_all] at s0
  subst hX
  by_cases z1 : r < 0
  · rw [if_pos z1] at hE
    have fin := fin 20 (by omega) hE
    have hd : decide (E = 0) = false := by rw [hE]; rfl
    simp -implicitDefEqProofs [z1, hfr, s0, s1, s2, s3, hd, l1, l2, l3, h1, h2, getO_last, setO_last, List.getElem?_append_left, he, hb, hcan, hcl, gf, ge, ge2, gl, -getElem?_pos, List.getElem?_cons_zero]
    exact ⟨hE.symm, by omega, (fin _ rfl).2.2.2⟩
  rw [if_neg z1] at hE
  by_cases z2 : 28 ≤ r
  · rw [if_pos z2] at hE
    have fin := fin 20 (by omega) hE
    have hd : decide (E = 0) = false := by rw [hE]; rfl
    simp -implicitDefEqProofs [z1, z2, hfr, s0, s1, s2, s3, hd, l1, l2, l3, h1, h2, getO_last, setO_last, List.getElem?_append_left, he, hb, hcan, hcl, gf, ge, ge2, gl, -getElem?_pos, List.getElem?_cons_zero]
    exact ⟨hE.symm, by omega, (fin _ rfl).2.2.2⟩
  rw [if_neg z2] at hE
  obtain ⟨k, rfl⟩ : ∃ k : Nat, r = (k : Int) := ⟨r.toNat, by omega⟩
  have hk : k < 28 := by omega
  have hkk : ((k : Int) < 28) := by omega
  simp only [Int.toNat_natCast] at hE
  have t1 := fun st => spG_take (2 * k) (by omega) st
  have t2 := fun st => spG_take (2 * k + 1) (by omega) st
  rw [show 2 * k = k * 2 by omega] at t1 t2
  have e1 : shps.getD (k * 2) 0 = spF k := by rw [spF, Nat.mul_comm]
  have e2 : shps.getD (k * 2 + 1) 0 = spS k := by rw [spS, Nat.mul_comm]
  rw [e1] at t1
  rw [e2] at t2
  by_cases z3 : (ps.length : Int) = spS k
  rotate_left
  · rw [if_pos z3] at hE
    have fin := fin 12 (by omega) hE
    have hd : decide (E = 0) = false := by rw [hE]; rfl
    have z3n : ((ps.length : Int) != spS k) = true := by simpa [bne] using z3
    simp -implicitDefEqProofs [z1, z2, hkk, hk, spG_globs, t2, z3n, hfr, s0, s1, s2, s3, hd, l1, l2, l3, h1, h2, getO_last, setO_last, List.getElem?_append_left, he, hb, hcan, hcl, gf, ge, ge2, gl, -getElem?_pos, List.getElem?_cons_zero]
    exact ⟨hE.symm, by omega, (fin _ rfl).2.2.2⟩
  rw [if_neg (by simpa using z3)] at hE
  have z3n : ((ps.length : Int) != spS k) = false := by simpa [bne] using z3
  by_cases z4 : bitI .andNot .i64 U (spF k) = 0
  rotate_left
  · rw [if_pos z4] at hE
    have fin := fin 7 (by omega) hE
    have hd : decide (E = 0) = false := by rw [hE]; rfl
    have z4n : (bitI .andNot .i64 U (spF k) != 0) = true := by simpa [bne] using z4
    simp -implicitDefEqProofs [z1, z2, hkk, hk, spG_globs, t1, t2, z3n, hu, z4n, hfr, s0, s1, s2, s3, hd, l1, l2, l3, h1, h2, getO_last, setO_last, List.getElem?_append_left, he, hb, hcan, hcl, gf, ge, ge2, gl, -getElem?_pos, List.getElem?_cons_zero]
    exact ⟨hE.symm, by omega, (fin _ rfl).2.2.2⟩
  · rw [if_neg (by simpa using z4)] at hE
    have hd : decide (E = 0) = true := by rw [hE]; rfl
    have z4n : (bitI .andNot .i64 U (spF k) != 0) = false := by simpa [bne] using z4
    simp -implicitDefEqProofs [z1, z2, hkk, hk, spG_globs, t1, t2, z3n, hu, z4n, hfr, s0, s1, s2, s3, hd, l1, l2, l3, h1, h2, getO_last, setO_last, List.getElem?_append_left, he, hb, hcan, hcl, gf, ge, ge2, gl, -getElem?_pos, List.getElem?_cons_zero]
    exact ⟨hE.symm, hE, fun i y i1 i2 hy => getO_push hy _⟩

end Go.Proofs.YtcfhomdkchhigaaDoor.A
