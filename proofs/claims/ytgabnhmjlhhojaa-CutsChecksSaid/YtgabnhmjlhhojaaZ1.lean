/- ineq.Sum, as a whole. -/
import Derived.Test.YtgabnhmjlhhojaaQ10
import Derived.Test.YtgabnhmjlhhojaaZ0
namespace Go.Proofs.Ytgabnhmjlhhojaa.A
open Go
set_option maxRecDepth 10000
set_option linter.unusedSimpArgs false
set_option linter.unusedVariables false
attribute [-simp] List.all_eq_true put slot_def ld idxA lenOf elems canA app hand add64A

theorem isum_l1 (ms : List (Int × Int)) (hl : ms.length ≤ 1000000) (o1 : List Obj) (n q : Nat) (hq : n + 2 ≤ q) (hnl : n ≤ o1.length) (B R C : Obj) (eb : Bool) (Q : AE → List AV → St → Prop) (fr : List AV) (hfr : fr.length = 101)
    (q5 : slot fr 5 = .ptr n 0 0) (q6 : slot fr 6 = .ptr (n + 1) 0 0) (q9 : slot fr 9 = .bool eb) (q12 : slot fr 12 = .ptr q 0 0) (q14 : slot fr 14 = .fsl 1 []) (q79 : slot fr 79 = .sl 2 (moA ms)) (q80 : slot fr 80 = .int .i64 (ms.length : Int)) (q81 : slot fr 81 = .int .i64 0)
    (g0 : o1[n]? = some B) (g1 : o1[n + 1]? = some R) (gq : o1[q]? = some C)
    (kk : ∀ (fr' : List AV) (o2 : List Obj) (u : AV), fr'.length = 101 → slot fr' 5 = .ptr n 0 0 → slot fr' 6 = .ptr (n + 1) 0 0 → slot fr' 9 = .bool eb → slot fr' 12 = .ptr q 0 0 → slot fr' 14 = u → o2[n]? = some B → o2[n + 1]? = some R → o2[q]? = some C →
      Gr (q + 1) 2 1 o2 u (intA (ms.map Prod.snd)) → n ≤ o2.length → Q (.exit 2) fr' ⟨o2, n, []⟩) :
    ∃ e fr' st', (D T).loop false L69_1 fr ⟨o1, n, []⟩ = some (e, fr', st') ∧ Q e fr' st' := by
  apply loop_inv L69_1.eq_1 List.length (fun (rest : List (Int × Int)) fr st => ∃ pre o2 u, ms = pre ++ rest ∧ fr.length = 101 ∧ slot fr 5 = .ptr n 0 0 ∧ slot fr 6 = .ptr (n + 1) 0 0 ∧ slot fr 9 = .bool eb ∧ slot fr 12 = .ptr q 0 0 ∧ slot fr 14 = u ∧ slot fr 79 = .sl 2 (moA ms) ∧ slot fr 80 = .int .i64 (ms.length : Int) ∧ slot fr 81 = .int .i64 (pre.length : Int) ∧
    st = ⟨o2, n, []⟩ ∧ n ≤ o2.length ∧ o2[n]? = some B ∧ o2[n + 1]? = some R ∧ o2[q]? = some C ∧ Gr (q + 1) 2 1 o2 u (intA (pre.map Prod.snd))) ?_ ms
    ⟨[], o1, .fsl 1 [], rfl, hfr, q5, q6, q9, q12, q14, q79, q80, q81, rfl, hnl, g0, g1, gq, .inl rfl⟩
  clear hfr q5 q6 q9 q12 q14 q79 q80 q81 g0 g1 gq hnl
  clear fr o1
  rintro rest fr _ ⟨pre, o2, u, e, hfr, q5, q6, q9, q12, q14, q79, q80, q81, rfl, hnl, g0, g1, gq, gu⟩
  cases rest with
  | nil =>
    have hlt := idx_end e
    have ee : pre = ms := by simpa using e.symm
    simp -implicitDefEqProofs [hfr, q5, q6, q9, q12, q14, q79, q80, q81, hlt]
    exact kk _ o2 u (by simp [hfr]) (by simp [hfr, q5]) (by simp [hfr, q6]) (by simp [hfr, q9]) (by simp [hfr, q12]) (by simp [hfr, q14]) g0 g1 gq (by rw [← ee]; exact gu) hnl
  | cons x rest =>
    obtain ⟨hlt, hg, hpl⟩ := idx_at e
    have hwi := idx_next e (by omega)
    obtain ⟨x1, x2⟩ := x
    have hg2 : (moA ms)[pre.length]? = some [.int .i64 x1, .int .i64 x2] := by simp [moA, hg]
    have ml := moA_len ms
    obtain ⟨Y, hY⟩ : ∃ Y, Y = Obj.arr 62 2 [[.int .i64 x1, .int .i64 x2]] := ⟨_, rfl⟩
    obtain ⟨o3, a1, a2, a3, a4⟩ := app_get (bytes := 8) (ro := n) (df := []) (gu.push [Y]) (by omega) (x := .fsl 1 [[.int .i64 x2]]) (xs := [[.int .i64 x2]]) rfl (.inr (by simp)) (by simp [room, intA_len]; omega)
    have lq := lt_of_getO gq
    have b0 := a4 _ _ (getO_push g0 _) ((gu.push [Y]).not (by omega))
    have b1 := a4 _ _ (getO_push g1 _) ((gu.push [Y]).not (by omega))
    have bq := a4 _ _ (getO_push gq _) ((gu.push [Y]).not (by omega))
    have gu2 := gr_new (lo := q + 1) a3 (by simp; omega) (n := pre.length + 1) (by simp [intA_len])
    have hm2 : intA (pre.map Prod.snd) ++ [[.int .i64 x2]] = intA ((pre ++ [(x1, x2)]).map Prod.snd) := by simp [intA]
    rw [hm2] at gu2
    simp only [List.length_append, List.length_cons, List.length_nil, Nat.zero_add, List.length_map, intA_len] at a1 gu2 a2
    have gY2 : (o2 ++ [Y])[o2.length]? = some Y := by simp
    generalize moA ms = M at *
    subst hY
    simp -implicitDefEqProofs [hfr, q5, q6, q9, q12, q14, q79, q80, q81, hlt, hpl, hwi, hg2, ml, gY2, a1, hnl, setO_last, getO_last, -getElem?_pos, List.getElem?_cons_zero, List.getElem?_cons_succ]
    exact ⟨rest, by simp, pre ++ [(x1, x2)], by simp [e], by simp, by omega, b0, b1, bq, by simpa using gu2⟩

def iSumP (l : List Iq) (b : List Int) (d : Int) : Iq × Int :=
  if l.length = 0 ∨ l.length ≠ b.length ∨ d < 1 then (iz, 1)
  else if (l.zip b).all okQ = false then (iz, 1)
  else if (lSumP (l.map Prod.fst) b).2 ≠ 0 then (iz, (lSumP (l.map Prod.fst) b).2)
  else if (((lSumP (l.map Prod.fst) b).1.2.map Prod.snd).all fun n => n.tmod d == 0) = false then (iz, 30)
  else ((divP (lSumP (l.map Prod.fst) b).1 d, eqs (d == 1) l), 0)

theorem iSum_eq (l : List Iq) (b : List Int) (d : Int) (hl : ∀ q ∈ l, LiOk q.1) (hb : ∀ x ∈ b, inI64 x) (hn : l.length ≤ 1000000) (hnb : b.length ≤ 1000000) (o : List Obj) (v w : AV) (hv : Ls o 3 v (l.map iqA)) (hw : Ls o 1 w (intA b)) (ro : Nat) (df : List Nat) :
    (D T).call 69 [v, w, .int .i64 d] ⟨o, ro, df⟩ = some (.tup [.agg (iqA (iSumP l b d).1), .int .i64 (iSumP l b d).2], ⟨o, ro, df⟩) := by
  have hlen : lenOf v = some l.length := by simpa using hv.len
  have hlenw : lenOf w = some b.length := by simpa [intA_len] using hw.len
  have hcan := hv.can
  have hcanw := hw.can
  have hP : iSumP l b d = if l.length = 0 ∨ l.length ≠ b.length ∨ d < 1 then (iz, 1)
    else if (l.zip b).all okQ = false then (iz, 1)
    else if (lSumP (l.map Prod.fst) b).2 ≠ 0 then (iz, (lSumP (l.map Prod.fst) b).2)
    else if (((lSumP (l.map Prod.fst) b).1.2.map Prod.snd).all fun n => n.tmod d == 0) = false then (iz, 30)
    else ((divP (lSumP (l.map Prod.fst) b).1 d, eqs (d == 1) l), 0) := rfl
  have hZ : iqA iz = [.int .i64 0, .sl 2 [], .bool false] := rfl
  generalize iSumP l b d = R at *
  apply call_by (by exact rfl : T 69 = some _) (by simp)
  intro fr hfr hsl
  have s0 := hsl 0 _ rfl
  have s1 := hsl 1 _ rfl
  have s2 := hsl 2 _ rfl
  by_cases c1 : l.length = 0
  · rw [if_pos (.inl c1)] at hP
    subst hP
    have c1b : ((l.length : Int) == 0) = true := by simpa using c1
    simp -implicitDefEqProofs [hfr, s0, s1, s2, hlen, hlenw, c1b, hZ, get_base0, get_base, set_base0, set_base, -getElem?_pos, List.getElem?_cons_zero, List.getElem?_cons_succ, -beq_iff_eq, -List.length_eq_zero_iff]
  have c1b : ((l.length : Int) == 0) = false := beq_eq_false_iff_ne.2 (by omega)
  by_cases c2 : l.length = b.length
  rotate_left
  · rw [if_pos (.inr (.inl c2))] at hP
    subst hP
    have c2b : ((l.length : Int) != (b.length : Int)) = true := bne_iff_ne.2 (fun h => c2 (by omega))
    simp -implicitDefEqProofs [hfr, s0, s1, s2, hlen, hlenw, c1b, c2b, hZ, get_base0, get_base, set_base0, set_base, -getElem?_pos, List.getElem?_cons_zero, List.getElem?_cons_succ]
  have c2b : ((l.length : Int) != (b.length : Int)) = false := by rw [c2]; simp
  by_cases c3 : d < 1
  · rw [if_pos (.inr (.inr c3))] at hP
    subst hP
    simp -implicitDefEqProofs [hfr, s0, s1, s2, hlen, hlenw, c1b, c2b, c3, hZ, get_base0, get_base, set_base0, set_base, -getElem?_pos, List.getElem?_cons_zero, List.getElem?_cons_succ]
  rw [if_neg (by simp only [not_or]; exact ⟨c1, fun h => h c2, c3⟩)] at hP
  have hS := fun o2 u (hu : Ls o2 2 u ((l.map Prod.fst).map liA)) (hw2 : Ls o2 1 w (intA b)) ro df => lSum_eq (l.map Prod.fst) b (fun q hq => by
    obtain ⟨x, hx, rfl⟩ := List.mem_map.1 hq; exact hl x hx) hb (by simpa using hn) hnb o2 u w hu hw2 ro df
  have hok := lSumP_ok (l.map Prod.fst) b
  generalize lSumP (l.map Prod.fst) b = U at *
  simp -implicitDefEqProofs [hfr, s0, s1, s2, hlen, hlenw, c1b, c2b, c3, get_base0, get_base, set_base0, set_base, -getElem?_pos, List.getElem?_cons_zero, List.getElem?_cons_succ]
  refine isum_l0 l b hl hn c2 o _ o.length rfl v w hv hw (.arr 2 1 [[.int .i64 d]]) (.arr 51 3 [[.int .i64 0, .fsl 2 [], .bool false]]) (d == 1) rfl _ _ (by simp [hfr]) (by simp [hfr, s1]) (by simp [hfr]) (by simp [hfr]) (by simp [hfr]) (by simp [hfr]) (by simp [hfr]) (by simp [hfr, s0]) (by simp [hfr]) (by simp [hfr]) ⟨_, rfl⟩ (by simp) (by simp) ?_ ?_
  rotate_left
  · clear hfr s0 s1 s2 hsl
    clear fr
    intro fr o2 hfr q6 q7 g1 hall
    rw [if_pos hall] at hP
    subst hP
    simp -implicitDefEqProofs [hfr, q6, q7, g1, hZ]
  clear hfr s0 s1 s2 hsl
  clear fr
  intro fr o2 u hfr q1 q5 q6 q8 q9 hpre g0 g1 gu hall
  rw [if_neg (by rw [hall]; simp)] at hP
  have hmm : (l.map fun q => liA q.1) = (l.map Prod.fst).map liA := by simp
  rw [hmm] at gu
  have hS2 := hS o2 u (gr_ls gu) (hw.pre hpre) o.length []
  have hcu : canA u = u := (gr_ls gu).can
  obtain ⟨⟨k, ms⟩, E⟩ := U
  simp only at hP hS2 hok
  have hL : liA (k, ms) = [.int .i64 k, .sl 2 (moA ms)] := rfl
  have hdv := fun o2 ro df => divided_eq (k, ms) d hok (by omega) o2 ro df
  rw [hL] at hS2 hdv
  have hpo := hpre.len
  have l1 := lt_of_getO g1
  have ml := moA_len ms
  have e1 : ∀ (o3 : List Obj) X, o.length + 1 < o3.length → (o3.set (o.length + 1) X)[o.length + 1]? = some X := fun o3 X h => getO_set h
  have gR2 : ∀ Y, (o2 ++ [Y])[o.length + 1]? = some (.arr 51 3 [[.int .i64 0, .fsl 2 [], .bool false]]) := fun Y => getO_push g1 _
  have e2 : ∀ Y X, ((o2 ++ [Y]).set (o.length + 1) X)[o.length + 1]? = some X := fun Y X => e1 _ X (by simp; omega)
  by_cases hE : E = 0
  rotate_left
  · rw [if_pos (by simpa using hE)] at hP
    subst hP
    have hEb : (E != 0) = true := by simpa using hE
    simp -implicitDefEqProofs [hfr, q1, q5, q6, q8, q9, hcu, hcanw, hS2, hEb, hZ, hpo, gR2, e2, setO_last, getO_last, -getElem?_pos, List.getElem?_cons_zero, List.getElem?_cons_succ]
  rw [if_neg (by simpa using hE)] at hP
  subst hE
  obtain ⟨M, hM⟩ : ∃ M, M = moA ms := ⟨_, rfl⟩
  rw [← hM] at hS2 ml hdv
  simp -implicitDefEqProofs [hfr, q1, q5, q6, q8, q9, hcu, hcanw, hS2, hpo, gR2, e2, ml, setO_last, getO_last, -getElem?_pos, List.getElem?_cons_zero, List.getElem?_cons_succ]
  refine isum_l1 ms hok.2.2 _ o.length o2.length (by omega) (by simp; omega) _ _ _ (eqs (d == 1) l) _ _ (by simp [hfr]) (by simp [hfr, q5]) (by simp [hfr, q6]) (by simp [hfr, q9]) (by simp [hfr]) (by simp [hfr]) (by simp [hfr, hM]) (by simp [hfr]) (by simp [hfr]) (getO_push g0 _) (getO_push g1 _) (getO_last rfl) ?_
  clear hfr q1 q5 q6 q8 q9
  clear fr
  intro fr o3 u3 hfr q5 q6 q9 q12 q14 m0 m1 mq gu3 hn3
  have hall2 := all_eq (ms.map Prod.snd) (by have h9 : ms.length ≤ 1000000 := hok.2.2; simp; omega) d (by omega) o3 o.length 2 u3 (gr_ls gu3) m0 o.length []
  have hcu3 : canA u3 = u3 := (gr_ls gu3).can
  have lR3 := lt_of_getO m1
  have e3 := fun X => e1 o3 X lR3
  generalize hc : ((ms.map Prod.snd).all fun n => n.tmod d == 0) = c at *
  generalize eqs (d == 1) l = eb at *
  cases c with
  | false =>
    rw [if_pos rfl] at hP
    subst hP
    simp -implicitDefEqProofs [hfr, q5, q6, q9, q12, q14, hcu3, hall2, m1, e3, hZ, hn3, -getElem?_pos, List.getElem?_cons_zero, List.getElem?_cons_succ]
  | true =>
    rw [if_neg (by simp)] at hP
    subst hP
    have hQ : iqA (divP (k, ms) d, eb) = [.int .i64 (divP (k, ms) d).1, .sl 2 (moA (divP (k, ms) d).2), .bool eb] := rfl
    have hL3 : liA (divP (k, ms) d) = [.int .i64 (divP (k, ms) d).1, .sl 2 (moA (divP (k, ms) d).2)] := rfl
    rw [hQ]
    rw [hL3] at hdv
    have hfl := moA_flat (divP (k, ms) d).2
    generalize moA (divP (k, ms) d).2 = M3 at *
    generalize (divP (k, ms) d).1 = k3 at *
    simp -implicitDefEqProofs [hfr, q5, q6, q9, q12, q14, hcu3, hall2, m0, m1, mq, e3, hdv, hfl, hn3, -getElem?_pos, List.getElem?_cons_zero, List.getElem?_cons_succ]

end Go.Proofs.Ytgabnhmjlhhojaa.A
/- How much there is in a cut. -/
namespace Go.Proofs.Ytgabnhmjlhhojaa.A
open Go
set_option maxRecDepth 10000
set_option linter.unusedSimpArgs false
set_option linter.unusedVariables false
attribute [-simp] List.all_eq_true put slot_def ld idxA lenOf elems canA app hand

mutual
def cw : Cu → Int → Int
  | .mk _ fr b _ _ ms cs, m => cwL cs m (1 + fr.length + b.length + ms.length)
def cwL : List Cu → Int → Int → Int
  | [], _, n => n
  | c :: l, m, n => if n ≤ m then cwL l m (n + cw c (m - n)) else n
end

mutual
theorem cw_le : ∀ (c : Cu) (m : Int), c.ok → 0 ≤ m → 1 ≤ cw c m ∧ cw c m ≤ m + 422212465065985
  | .mk _ fr b _ _ ms cs, m, hok, hm => by
    simp only [Cu.ok] at hok
    obtain ⟨_, o1, o2, _, _, o3, _, o5⟩ := hok
    have l1 := o1.2
    have l2 := o2.2
    have l3 := o3.2
    unfold mxB at l1 l2 l3
    simp only [cw]
    exact cwL_le cs m _ (okCu_iff.1 o5) hm (by omega) (by omega)
theorem cwL_le : ∀ (l : List Cu) (m n : Int), (∀ c ∈ l, c.ok) → 0 ≤ m → 1 ≤ n → n ≤ m + 422212465065985 → 1 ≤ cwL l m n ∧ cwL l m n ≤ m + 422212465065985
  | [], m, n, _, _, h1, h2 => by simp only [cwL]; exact ⟨h1, h2⟩
  | c :: l, m, n, hok, hm, h1, h2 => by
    simp only [cwL]
    split
    · have := cw_le c (m - n) (hok c (List.mem_cons_self ..)) (by omega)
      exact cwL_le l m _ (fun x hx => hok x (List.mem_cons_of_mem _ hx)) hm (by omega) (by omega)
    · exact ⟨h1, h2⟩
end

theorem weigh_eq : ∀ (c : Cu), c.ok → ∀ (m : Int) (st : St), 0 ≤ m → m ≤ 1152921504606846976 → (D T).call 9 [c.av, .int .i64 m] st = some (.int .i64 (cw c m), st)
  | .mk kd fr0 by0 dv k ms cs, hok, m, ⟨o, ro, df⟩, hm, hm' => by
    simp only [Cu.ok] at hok
    obtain ⟨_, o1, o2, _, _, o3, o4, o5⟩ := hok
    have hl := okCu_iff.1 o5
    have l1 := o1.2
    have l2 := o2.2
    have l3 := o3.2
    unfold mxB at l1 l2 l3 o4
    have mx : cs.length ≤ 9223372036854775807 := by omega
    have ih := fun x (hx : x ∈ cs) m st h1 h2 => weigh_eq x (hl x hx) m st h1 h2
    simp only [Cu.av] at ih
    apply call_by (by exact rfl : T 9 = some _) (by simp)
    intro fr hfr hsl
    have s0 := hsl 0 _ rfl
    have s1 := hsl 1 _ rfl
    simp only [Cu.av, Cu.cells_mk] at s0
    have w1 : IntKind.i64.wrap (1 + (fr0.length : Int)) = 1 + fr0.length := wrap_id (by omega) (by omega)
    have w2 : IntKind.i64.wrap (1 + (fr0.length : Int) + (by0.length : Int)) = 1 + fr0.length + by0.length := wrap_id (by omega) (by omega)
    have w3 : IntKind.i64.wrap (1 + (fr0.length : Int) + (by0.length : Int) + (ms.length : Int)) = 1 + fr0.length + by0.length + ms.length := wrap_id (by omega) (by omega)
    simp -implicitDefEqProofs [hfr, s0, s1, get_base0, intA_len, moA_len, w1, w2, w3]
    apply loop_inv L9_0.eq_1 List.length (fun (rest : List Cu) fr st => ∃ pre n, cs = pre ++ rest ∧ fr.length = 44 ∧ slot fr 1 = .int .i64 m ∧ slot fr 2 = .ptr o.length 0 0 ∧ slot fr 5 = .int .i64 n ∧ slot fr 6 = .int .i64 (pre.length : Int) ∧
      st = ⟨o ++ [.arr 29 7 [[.int .i64 kd, .sl 1 (intA fr0), .sl 1 (intA by0), .int .i64 dv, .int .i64 k, .sl 2 (moA ms), .sl 7 (cs.map Cu.cells)]]], o.length, []⟩ ∧ 1 ≤ n ∧ n ≤ m + 422212465065985 ∧ cw (.mk kd fr0 by0 dv k ms cs) m = cwL rest m n) ?_ cs
      ⟨[], 1 + fr0.length + by0.length + ms.length, rfl, by simp [hfr], by simp [hfr, s1], by simp [hfr], by simp [hfr], by simp [hfr], rfl, by omega, by omega, by simp [cw]⟩
    rintro rest fr _ ⟨pre, n, e, hfr, q1, q2, q5, q6, rfl, n1, n2, hn⟩
    cases rest with
    | nil =>
      have hlt := idx_end e
      simp -implicitDefEqProofs [hfr, q1, q2, q5, q6, hlt, get_base0, hn, cwL]
    | cons c rest =>
      obtain ⟨hlt, hg, _⟩ := idx_at e
      have hw := idx_next e mx
      by_cases hnm : n ≤ m
      · have hc := fun st => ih c (by simp [e]) (m - n) st (by omega) (by omega)
        have hb := cw_le c (m - n) (hl c (by simp [e])) (by omega)
        have ck := cu_take c
        have cn := cu_can c
        have cl := culen c
        simp only [cwL, if_pos hnm] at hn
        simp -implicitDefEqProofs [hfr, q1, q2, q5, q6, hlt, get_base0, hg, hw, hnm, hc, ck, cn, cl, wrap_id (show -9223372036854775808 ≤ m - n by omega) (by omega), wrap_id (show -9223372036854775808 ≤ n + cw c (m - n) by omega) (by omega)]
        exact ⟨rest, by simp, pre ++ [c], by simp [e], by simp, by omega, by omega, hn⟩
      · simp only [cwL, if_neg hnm] at hn
        simp -implicitDefEqProofs [hfr, q1, q2, q5, q6, hlt, get_base0, hnm, hn]
termination_by t => SizeOf.sizeOf t
decreasing_by
  have := List.sizeOf_lt_of_mem hx
  simp
  omega

mutual
/-- how many parts -/
def csz : Cu → Int
  | .mk _ _ _ _ _ _ cs => 1 + cszL cs
def cszL : List Cu → Int
  | [] => 0
  | c :: l => csz c + cszL l
end
mutual
theorem csz_pos : ∀ c : Cu, 1 ≤ csz c
  | .mk _ _ _ _ _ _ cs => by have := cszL_pos cs; simp only [csz]; omega
theorem cszL_pos : ∀ l : List Cu, 0 ≤ cszL l
  | [] => by simp [cszL]
  | c :: l => by have := csz_pos c; have := cszL_pos l; simp only [cszL]; omega
end
theorem csz_mem : ∀ {l : List Cu} {x : Cu}, x ∈ l → csz x ≤ cszL l
  | a :: l, x, hx => by
    have h1 := cszL_pos l
    have h2 := csz_pos a
    simp only [cszL]
    rcases List.mem_cons.1 hx with rfl | hx
    · omega
    · have := csz_mem hx; omega
mutual
/-- how deep -/
def cdp : Cu → Int
  | .mk _ _ _ _ _ _ cs => 1 + cdpL cs
def cdpL : List Cu → Int
  | [] => 0
  | c :: l => if cdpL l < cdp c then cdp c else cdpL l
end
mutual
theorem cdp_pos : ∀ c : Cu, 1 ≤ cdp c
  | .mk _ _ _ _ _ _ cs => by have := cdpL_pos cs; simp only [cdp]; omega
theorem cdpL_pos : ∀ l : List Cu, 0 ≤ cdpL l
  | [] => by simp [cdpL]
  | c :: l => by have := cdp_pos c; have := cdpL_pos l; simp only [cdpL]; split <;> omega
end
theorem cdp_mem : ∀ {l : List Cu} {x : Cu}, x ∈ l → cdp x ≤ cdpL l
  | a :: l, x, hx => by
    simp only [cdpL]
    rcases List.mem_cons.1 hx with rfl | hx
    · split <;> omega
    · have := cdp_mem hx; split <;> omega
mutual
theorem cdp_csz : ∀ c : Cu, cdp c ≤ csz c
  | .mk _ _ _ _ _ _ cs => by have := cdpL_csz cs; simp only [cdp, csz]; omega
theorem cdpL_csz : ∀ l : List Cu, cdpL l ≤ cszL l
  | [] => by simp [cdpL, cszL]
  | c :: l => by
    have := cdp_csz c; have := cdpL_csz l; have := csz_pos c; have := cszL_pos l
    simp only [cdpL, cszL]; split <;> omega
end
mutual
theorem cw_one : ∀ (c : Cu) (m : Int), 1 ≤ cw c m
  | .mk _ fr b _ _ ms cs, m => by
    have := cwL_one cs m (1 + fr.length + b.length + ms.length)
    simp only [cw]
    omega
theorem cwL_one : ∀ (l : List Cu) (m n : Int), n ≤ cwL l m n
  | [], m, n => by simp [cwL]
  | c :: l, m, n => by
    have h1 := cw_one c (m - n)
    have h2 := cwL_one l m (n + cw c (m - n))
    simp only [cwL]
    split <;> omega
end
mutual
/-- what is not too much has not more parts -/
theorem cw_csz : ∀ (c : Cu) (m : Int), cw c m ≤ m → csz c ≤ cw c m
  | .mk _ fr b _ _ ms cs, m, h => by
    simp only [cw] at h ⊢
    have := cwL_csz cs m _ h
    simp only [csz]
    omega
theorem cwL_csz : ∀ (l : List Cu) (m n : Int), cwL l m n ≤ m → n + cszL l ≤ cwL l m n
  | [], m, n, _ => by simp [cwL, cszL]
  | c :: l, m, n, h => by
    simp only [cwL] at h ⊢
    split at h
    · rename_i hn
      rw [if_pos hn]
      have h1 := cwL_csz l m (n + cw c (m - n)) h
      have h2 := cwL_one l m (n + cw c (m - n))
      have h3 := cw_csz c (m - n) (by omega)
      simp only [cszL]
      omega
    · omega
end

end Go.Proofs.Ytgabnhmjlhhojaa.A
