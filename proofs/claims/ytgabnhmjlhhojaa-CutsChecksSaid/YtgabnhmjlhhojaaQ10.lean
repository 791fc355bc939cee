/- ineq.Sum: is each divided; its loops. -/
import Derived.Test.YtgabnhmjlhhojaaQ9
namespace Go.Proofs.Ytgabnhmjlhhojaa.A
open Go
set_option maxRecDepth 10000
set_option linter.unusedSimpArgs false
set_option linter.unusedVariables false
attribute [-simp] List.all_eq_true put slot_def ld idxA lenOf elems canA app hand add64A

theorem sum1_eq (n b : Int) (hb : b ≠ 0) (o : List Obj) (p ty : Nat) (hp : o[p]? = some (.arr ty 1 [[.int .i64 b]])) (ro : Nat) (df : List Nat) :
    (D T).call 91 [.int .i64 n, .ptr p 0 0] ⟨o, ro, df⟩ = some (.bool (n.tmod b == 0), ⟨o, ro, df⟩) := by
  apply call_by (by exact rfl : T 91 = some _) (by simp)
  intro fr hfr hsl
  have s0 := hsl 0 _ rfl
  have s1 := hsl 1 _ rfl
  simp -implicitDefEqProofs [hfr, s0, s1, hp, hb, -getElem?_pos, List.getElem?_cons_zero]
theorem all1_eq (n b : Int) (hb : b ≠ 0) (o : List Obj) (p ty r ty2 : Nat) (hp : o[p]? = some (.arr ty 1 [[.int .i64 b]])) (hr : o[r]? = some (.arr ty2 1 [[.fn (.func 91) [] [.ptr p 0 0]]])) (ro : Nat) (df : List Nat) :
    (D T).call 112 [.int .i64 n, .ptr r 0 0] ⟨o, ro, df⟩ = some (.bool (!(n.tmod b == 0)), ⟨o, ro, df⟩) := by
  have h := sum1_eq n b hb o p ty hp
  generalize (n.tmod b == 0) = c at *
  apply call_by (by exact rfl : T 112 = some _) (by simp)
  intro fr hfr hsl
  have s0 := hsl 0 _ rfl
  have s1 := hsl 1 _ rfl
  simp -implicitDefEqProofs [hfr, s0, s1, hr, h, -getElem?_pos, List.getElem?_cons_zero]
theorem all_eq (l : List Int) (hl : l.length ≤ 9223372036854775807) (b : Int) (hb : b ≠ 0) (o : List Obj) (p ty : Nat) (w : AV) (hw : Ls o 1 w (intA l)) (hp : o[p]? = some (.arr ty 1 [[.int .i64 b]])) (ro : Nat) (df : List Nat) :
    (D T).call 90 [.fn (.func 91) [] [.ptr p 0 0], w] ⟨o, ro, df⟩ = some (.bool (l.all fun n => n.tmod b == 0), ⟨o, ro, df⟩) := by
  obtain ⟨Y, hY⟩ : ∃ Y, Y = Obj.arr 124 1 [[.fn (.func 91) [] [.ptr p 0 0]]] := ⟨_, rfl⟩
  have h := fun ro df => hasJ_eq (fun n => [.int .i64 n]) (fun n => !(n.tmod b == 0)) l hl 112 [] [.ptr o.length 0 0] (o ++ [Y]) w ro df (hw.pre ⟨_, rfl⟩) (fun _ _ => rfl) (fun n => .int .i64 n) (fun _ _ => rfl) (fun _ _ => rfl) (fun _ _ => rfl)
    (fun n _ ro df => all1_eq n b hb _ p ty o.length 124 (getO_push hp _) (by rw [hY]; simp) ro df)
  have hE : (l.all fun n => n.tmod b == 0) = !(l.any fun n => !(n.tmod b == 0)) := by rw [List.not_any_eq_all_not]; simp
  have hcan := hw.can
  subst hY
  rw [hE]
  generalize (l.any fun n => !(n.tmod b == 0)) = c at *
  apply call_by (by exact rfl : T 90 = some _) (by simp)
  intro fr hfr hsl
  have s0 := hsl 0 _ rfl
  have s1 := hsl 1 _ rfl
  simp -implicitDefEqProofs [hfr, s0, s1, hcan, h, -getElem?_pos, List.getElem?_cons_zero]

def okQ (f : Iq × Int) : Bool := lok f.1.1 && (!decide (f.2 < 0) || f.1.2)
def eqs (e : Bool) (l : List Iq) : Bool := e && l.all fun q => q.2
theorem eqs_nil (e : Bool) : eqs e [] = e := by simp [eqs]
theorem eqs_app (e : Bool) (l : List Iq) (x : Iq) : eqs e (l ++ [x]) = (eqs e l && x.2) := by simp [eqs, List.all_append, Bool.and_assoc]

def okTo (l : List Iq) (b : List Int) (k : Nat) : Prop := ∀ f ∈ (l.zip b).take k, okQ f = true
set_option maxHeartbeats 1600000 in
theorem isum_l0 (l : List Iq) (b : List Int) (hl : ∀ q ∈ l, LiOk q.1) (hn : l.length ≤ 1000000) (hb : l.length = b.length) (o o1 : List Obj) (n : Nat) (hon : o.length = n) (v w : AV) (hv : Ls o 3 v (l.map iqA)) (hw : Ls o 1 w (intA b)) (B R : Obj) (e0 : Bool)
    (hR : R = .arr 51 3 [[.int .i64 0, .fsl 2 [], .bool false]]) (Q : AE → List AV → St → Prop) (fr : List AV) (hfr : fr.length = 101)
    (q1 : slot fr 1 = w) (q5 : slot fr 5 = .ptr n 0 0) (q6 : slot fr 6 = .ptr (n + 1) 0 0) (q7 : slot fr 7 = .int .i64 0) (q8 : slot fr 8 = .fsl 2 []) (q9 : slot fr 9 = .bool e0) (q34 : slot fr 34 = v) (q35 : slot fr 35 = .int .i64 (l.length : Int)) (q36 : slot fr 36 = .int .i64 0)
    (hpre : Pre o o1) (g0 : o1[n]? = some B) (g1 : o1[n + 1]? = some R)
    (kk : ∀ (fr' : List AV) (o2 : List Obj) (u : AV), fr'.length = 101 → slot fr' 1 = w → slot fr' 5 = .ptr n 0 0 → slot fr' 6 = .ptr (n + 1) 0 0 → slot fr' 8 = u → slot fr' 9 = .bool (eqs e0 l) → Pre o o2 → o2[n]? = some B → o2[n + 1]? = some R →
      Gr (n + 2) 26 2 o2 u (l.map fun q => liA q.1) → (l.zip b).all okQ = true → Q (.exit 0) fr' ⟨o2, n, []⟩)
    (kr : ∀ (fr' : List AV) (o2 : List Obj), fr'.length = 101 → slot fr' 6 = .ptr (n + 1) 0 0 → slot fr' 7 = .int .i64 1 → o2[n + 1]? = some R → (l.zip b).all okQ = false → Q .ret fr' ⟨o2, n, []⟩) :
    ∃ e fr' st', (D T).loop false L69_0 fr ⟨o1, n, []⟩ = some (e, fr', st') ∧ Q e fr' st' := by
  apply loop_inv L69_0.eq_1 List.length (fun (rest : List Iq) fr st => ∃ pre o2 u, l = pre ++ rest ∧ okTo l b pre.length ∧ fr.length = 101 ∧ slot fr 1 = w ∧ slot fr 5 = .ptr n 0 0 ∧ slot fr 6 = .ptr (n + 1) 0 0 ∧ slot fr 8 = u ∧ slot fr 9 = .bool (eqs e0 pre) ∧ slot fr 34 = v ∧ slot fr 35 = .int .i64 (l.length : Int) ∧ slot fr 36 = .int .i64 (pre.length : Int) ∧
    st = ⟨o2, n, []⟩ ∧ Pre o o2 ∧ o2[n]? = some B ∧ o2[n + 1]? = some R ∧ Gr (n + 2) 26 2 o2 u (pre.map fun q => liA q.1)) ?_ l
    ⟨[], o1, .fsl 2 [], rfl, by simp [okTo], hfr, q1, q5, q6, q8, by rw [eqs_nil]; exact q9, q34, q35, q36, rfl, hpre, g0, g1, .inl rfl⟩
  clear hfr q1 q5 q6 q7 q8 q9 q34 q35 q36 g0 g1 hpre
  clear fr o1
  rintro rest fr _ ⟨pre, o2, u, e, hok, hfr, q1, q5, q6, q8, q9, q34, q35, q36, rfl, hpre, g0, g1, gu⟩
  have hzl : (l.zip b).length = l.length := by simp [hb]
  cases rest with
  | nil =>
    have hlt := idx_end e
    have ee : pre = l := by simpa using e.symm
    simp -implicitDefEqProofs [hfr, q1, q5, q6, q8, q9, q34, q35, q36, hlt]
    refine kk _ o2 u (by simp [hfr]) (by simp [hfr, q1]) (by simp [hfr, q5]) (by simp [hfr, q6]) (by simp [hfr, q8]) (by simp [hfr, q9, ee]) hpre g0 g1 (by rw [← ee]; exact gu) ?_
    unfold okTo at hok
    rw [ee, ← hzl, List.take_length] at hok
    exact List.all_eq_true.2 hok
  | cons x rest =>
    obtain ⟨hlt, hg, hpl⟩ := idx_at e
    have hwi := idx_next e (by omega)
    have hx := hl x (by simp [e])
    have hg2 : (l.map iqA)[pre.length]? = some (iqA x) := by simp [hg]
    obtain ⟨y, hy⟩ : ∃ y, b[pre.length]? = some y := ⟨b[pre.length]'(by omega), by simp [show pre.length < b.length by omega]⟩
    have hy2 : (intA b)[pre.length]? = some [.int .i64 y] := by simp [intA, hy]
    obtain ⟨p, p1, p2⟩ := hv.at hpre n [] hg2 rfl
    have p3 := p2 true
    simp only [val, if_true] at p3
    obtain ⟨Y, hY⟩ : ∃ Y, Y = Obj.arr 51 3 [iqA x] := ⟨_, rfl⟩
    have hpre2 := hpre.push [Y]
    obtain ⟨p', r1, r2⟩ := hw.at hpre2 n [] hy2 rfl
    have r3 := r2 false
    simp only [val, Bool.false_eq_true, if_false] at r3
    have hz : (l.zip b)[pre.length]? = some (x, y) := by rw [List.getElem?_zip_eq_some]; exact ⟨hg, hy⟩
    have ht : (l.zip b).take (pre.length + 1) = (l.zip b).take pre.length ++ [(x, y)] := by rw [List.take_add_one, hz]; rfl
    have hmem : (x, y) ∈ l.zip b := List.mem_of_getElem? hz
    have hRi := iRight_eq x (by have := hx.2.2; omega) (o2 ++ [Y])
    have hlr : lrE x.1 = if lok x.1 then 0 else 1 := rfl
    have hokx : okQ (x, y) = (lok x.1 && (!decide (y < 0) || x.2)) := rfl
    have hpo := hpre.len
    have l0 := lt_of_getO g0
    have l1 := lt_of_getO g1
    obtain ⟨o3, a1, a2, a3, a4, a5⟩ := app_getP (bytes := 32) (ro := n) (df := []) hpre2 (by omega) (gu.push [Y]) (by omega) (x := .fsl 2 [liA x.1]) (xs := [liA x.1]) rfl (.inr (by simp)) (by simp [room]; omega)
    have b0 := a4 _ _ (getO_push g0 _) ((gu.push [Y]).not (by omega))
    have b1 := a4 _ _ (getO_push g1 _) ((gu.push [Y]).not (by omega))
    have gu2 := gr_new (lo := n + 2) a3 (by simp; omega) (n := pre.length + 1) (by simp)
    have hm2 : (pre.map fun q => liA q.1) ++ [liA x.1] = (pre ++ [x]).map fun q => liA q.1 := by simp
    rw [hm2] at gu2
    simp only [List.length_append, List.length_cons, List.length_nil, Nat.zero_add, List.length_map] at a1 gu2
    have gY2 : (o2 ++ [Y])[o2.length]? = some Y := by simp
    have gR2 : (o2 ++ [Y])[n + 1]? = some R := getO_push g1 _
    have hes := eqs_app e0 pre x
    have hQ : iqA x = [.int .i64 x.1.1, .sl 2 (moA x.1.2), .bool x.2] := rfl
    have hL : liA x.1 = [.int .i64 x.1.1, .sl 2 (moA x.1.2)] := rfl
    rw [hQ] at p3 hY hRi
    rw [hL] at a1
    have c2 : n + 1 < o2.length + 1 := by omega
    have e1 : ∀ X, ((o2 ++ [Y]).set (n + 1) X)[n + 1]? = some X := fun X => getO_set (by simp; omega)
    generalize moA x.1.2 = M at *
    generalize x.1.1 = k at *
    generalize lrE x.1 = E at *
    generalize hLk : lok x.1 = Lk at *
    generalize hx2 : x.2 = d at *
    generalize eqs e0 pre = eb at *
    have hbad : okQ (x, y) = false → (l.zip b).all okQ = false := fun h => List.all_eq_false.2 ⟨_, hmem, by simp [h]⟩
    have hgood : okQ (x, y) = true → okTo l b (pre.length + 1) := fun h f hf => by
      rw [ht] at hf
      rcases List.mem_append.1 hf with hf | hf
      · exact hok f hf
      · rw [List.mem_singleton.1 hf]; exact h
    subst hY
    cases Lk with
    | false =>
      simp at hlr
      subst hlr
      have hbd := hbad (by rw [hokx]; rfl)
      simp -implicitDefEqProofs [hfr, q1, q5, q6, q8, q9, q34, q35, q36, hlt, hpl, hwi, p1, p3, r1, r3, hRi, gY2, gR2, hR, hpo, setO_last, getO_last, show n ≤ o2.length by omega, -getElem?_pos, List.getElem?_cons_zero, List.getElem?_cons_succ]
      exact kr _ _ (by simp [hfr]) (by simp [hfr, q6]) (by simp [hfr]) (by rw [e1, hR]) hbd
    | true =>
      simp only [if_true] at hlr
      subst hlr
      by_cases hy0 : y < 0
      · cases d with
        | false =>
          have hbd := hbad (by rw [hokx]; simp [hy0])
          simp -implicitDefEqProofs [hfr, q1, q5, q6, q8, q9, q34, q35, q36, hlt, hpl, hwi, p1, p3, r1, r3, hRi, gY2, gR2, hR, hpo, hy0, setO_last, getO_last, show n ≤ o2.length by omega, -getElem?_pos, List.getElem?_cons_zero, List.getElem?_cons_succ]
          exact kr _ _ (by simp [hfr]) (by simp [hfr, q6]) (by simp [hfr]) (by rw [e1, hR]) hbd
        | true =>
          have hgd := hgood (by rw [hokx]; simp)
          simp only [Bool.and_true] at hes
          cases eb <;>
          · simp -implicitDefEqProofs [hfr, q1, q5, q6, q8, q9, q34, q35, q36, hlt, hpl, hwi, p1, p3, r1, r3, hRi, gY2, a1, hpo, hy0, setO_last, getO_last, show n ≤ o2.length by omega, -getElem?_pos, List.getElem?_cons_zero, List.getElem?_cons_succ]
            exact ⟨rest, by simp, pre ++ [x], by simp [e], by simpa using hgd, by first | exact hes | exact hes.symm, by simp, a5, b0, b1, by simpa using gu2⟩
      · cases d <;>
        · have hgd := hgood (by rw [hokx]; simp [hy0])
          simp only [Bool.and_true, Bool.and_false] at hes
          cases eb <;>
          · simp -implicitDefEqProofs [hfr, q1, q5, q6, q8, q9, q34, q35, q36, hlt, hpl, hwi, p1, p3, r1, r3, hRi, gY2, a1, hpo, hy0, setO_last, getO_last, show n ≤ o2.length by omega, -getElem?_pos, List.getElem?_cons_zero, List.getElem?_cons_succ]
            exact ⟨rest, by simp, pre ++ [x], by simp [e], by simpa using hgd, by first | exact hes | exact hes.symm, by simp, a5, b0, b1, by simpa using gu2⟩

end Go.Proofs.Ytgabnhmjlhhojaa.A
