/- The document's Sum of inequalities, as a whole: what the program's gives. -/
import Derived.Test.YtgabnhmjlhhojaaU9
namespace Go.Proofs.Ytgabnhmjlhhojaa.A
open Go
set_option maxRecDepth 10000
set_option linter.unusedSimpArgs false
set_option linter.unusedVariables false
attribute [-simp] List.all_eq_true put slot_def ld idxA lenOf elems canA app hand add64A

theorem rsum_l1 (ms : List (Int × Int)) (hl : ms.length ≤ 1000000) (d : Int) (hd : 1 ≤ d) (o1 : List Obj) (n q : Nat) (hq : n + 1 ≤ q) (hnl : n ≤ o1.length) (K : AV) (eb : Bool) (Q : AE → List AV → St → Prop) (fr : List AV) (hfr : fr.length = 108)
    (q2 : slot fr 2 = .int .i64 d) (q6 : slot fr 6 = .ptr n 0 0) (q9 : slot fr 9 = .bool eb) (q11 : slot fr 11 = .ptr q 0 0) (q13 : slot fr 13 = .int .i64 0)
    (g1 : o1[n]? = some (.arr 51 3 [[.int .i64 0, .fsl 2 [], .bool false]])) (gq : o1[q]? = some (.arr 26 2 [[K, .sl 2 (moA ms)]]))
    (kk : ∀ fr' : List AV, fr'.length = 108 → slot fr' 2 = .int .i64 d → slot fr' 6 = .ptr n 0 0 → slot fr' 9 = .bool eb → slot fr' 11 = .ptr q 0 0 → ((ms.map Prod.snd).all fun n => n.tmod d == 0) = true → Q (.exit 2) fr' ⟨o1, n, []⟩)
    (kr : ∀ (fr' : List AV) (o2 : List Obj), fr'.length = 108 → slot fr' 6 = .ptr n 0 0 → slot fr' 7 = .int .i64 30 → o2[n]? = some (.arr 51 3 [[.int .i64 0, .fsl 2 [], .bool false]]) → ((ms.map Prod.snd).all fun n => n.tmod d == 0) = false → Q .ret fr' ⟨o2, n, []⟩) :
    ∃ e fr' st', (D T).loop false L60_1 fr ⟨o1, n, []⟩ = some (e, fr', st') ∧ Q e fr' st' := by
  have c0 : ¬ d = 0 := by omega
  have ml := moA_len ms
  apply loop_inv L60_1.eq_1 List.length (fun (rest : List (Int × Int)) fr st => ∃ pre, ms = pre ++ rest ∧ (∀ m ∈ pre, m.2.tmod d = 0) ∧ fr.length = 108 ∧ slot fr 2 = .int .i64 d ∧ slot fr 6 = .ptr n 0 0 ∧ slot fr 9 = .bool eb ∧ slot fr 11 = .ptr q 0 0 ∧ slot fr 13 = .int .i64 (pre.length : Int) ∧ st = ⟨o1, n, []⟩) ?_ ms
    ⟨[], rfl, by simp, hfr, q2, q6, q9, q11, q13, rfl⟩
  clear hfr q2 q6 q9 q11 q13
  clear fr
  rintro rest fr _ ⟨pre, e, hp, hfr, q2, q6, q9, q11, q13, rfl⟩
  cases rest with
  | nil =>
    have hlt := idx_end e
    have ee : ms = pre := by simpa using e
    have hall : ((ms.map Prod.snd).all fun n => n.tmod d == 0) = true := List.all_eq_true.2 fun z hz => by
      obtain ⟨m, hm, rfl⟩ := List.mem_map.1 hz
      simpa using hp m (by rw [← ee]; exact hm)
    generalize moA ms = M at *
    simp -implicitDefEqProofs [hfr, q2, q6, q9, q11, q13, hlt, gq, ml, -getElem?_pos, List.getElem?_cons_zero, List.getElem?_cons_succ]
    exact kk _ (by simp [hfr]) (by simp [hfr, q2]) (by simp [hfr, q6]) (by simp [hfr, q9]) (by simp [hfr, q11]) hall
  | cons x rest =>
    obtain ⟨hlt, hg, hpl⟩ := idx_at e
    have hwi := idx_next e (by omega)
    obtain ⟨x1, x2⟩ := x
    have hG : (moA ms)[pre.length]? = some [.int .i64 x1, .int .i64 x2] := by simp [moA, hg]
    have l1 := lt_of_getO g1
    have e1 : ∀ X, (o1.set n X)[n]? = some X := fun X => getO_set l1
    by_cases hz : x2.tmod d = 0
    · have hp2 : ∀ m ∈ pre ++ [(x1, x2)], m.2.tmod d = 0 := fun m hm => by
        rcases List.mem_append.1 hm with hm | hm
        · exact hp m hm
        · rw [List.mem_singleton.1 hm]; exact hz
      have hzb : (x2.tmod d != 0) = false := by simpa using hz
      generalize moA ms = M at *
      simp -implicitDefEqProofs [hfr, q2, q6, q9, q11, q13, hlt, hpl, hwi, hG, gq, ml, c0, hzb, -getElem?_pos, List.getElem?_cons_zero, List.getElem?_cons_succ]
      exact ⟨rest, by simp, pre ++ [(x1, x2)], by simp [e], by simpa using hp2, by simp⟩
    · have hzb : (x2.tmod d != 0) = true := by simpa using hz
      have hall : ((ms.map Prod.snd).all fun n => n.tmod d == 0) = false := List.all_eq_false.2 ⟨x2, List.mem_map.2 ⟨(x1, x2), by simp [e], rfl⟩, by simpa using hz⟩
      generalize moA ms = M at *
      simp -implicitDefEqProofs [hfr, q2, q6, q9, q11, q13, hlt, hpl, hwi, hG, gq, g1, ml, c0, hzb, -getElem?_pos, List.getElem?_cons_zero, List.getElem?_cons_succ]
      exact kr _ _ (by simp [hfr]) (by simp [hfr, q6]) (by simp [hfr]) (e1 _) hall

theorem rsum_eq (l : List Iq) (b : List Int) (d : Int) (hl : ∀ q ∈ l, LiOk q.1) (hb : ∀ x ∈ b, inI64 x) (hn : l.length ≤ 1000000) (hnb : b.length ≤ 1000000) (hdm : d ≤ 9223372036854775807) (o : List Obj) (v : AV) (hv : FsG o 3 v (l.map iqA)) (ro : Nat) (df : List Nat) :
    (D T).call 60 [v, .sl 1 (intA b), .int .i64 d] ⟨o, ro, df⟩ = some (.tup [.agg (iqA (iSumP l b d).1), .int .i64 (iSumP l b d).2], ⟨o, ro, df⟩) := by
  have hlen : lenOf v = some l.length := by simpa using hv.len
  have hbl : (intA b).length = b.length := intA_len b
  have hcan := hv.can
  have hP : iSumP l b d = if l.length = 0 ∨ l.length ≠ b.length ∨ d < 1 then (iz, 1)
    else if (l.zip b).all okQ = false then (iz, 1)
    else if (lSumP (l.map Prod.fst) b).2 ≠ 0 then (iz, (lSumP (l.map Prod.fst) b).2)
    else if (((lSumP (l.map Prod.fst) b).1.2.map Prod.snd).all fun n => n.tmod d == 0) = false then (iz, 30)
    else ((divP (lSumP (l.map Prod.fst) b).1 d, eqs (d == 1) l), 0) := rfl
  have hZ : iqA iz = [.int .i64 0, .sl 2 [], .bool false] := rfl
  generalize iSumP l b d = R at *
  have l0 := fun (hb' : l.length = b.length) o1 R e0 d hR Q fr => rsum_l0 l b hl hn hb' o o1 o.length rfl v (.sl 1 (intA b)) hv rfl R e0 d hR Q fr
  obtain ⟨IB, hIB⟩ : ∃ IB, IB = intA b := ⟨_, rfl⟩
  have hwF : FsG o 1 (.sl 1 (intA b)) (intA b) := .inl rfl
  apply call_by (by exact rfl : T 60 = some _) (by simp)
  intro fr hfr hsl
  have s0 := hsl 0 _ rfl
  have s1 := hsl 1 _ rfl
  have s2 := hsl 2 _ rfl
  rw [← hIB] at s1 hbl l0
  by_cases c2 : l.length = b.length
  rotate_left
  · rw [if_pos (.inr (.inl c2))] at hP
    subst hP
    have c2b : ((l.length : Int) != (b.length : Int)) = true := bne_iff_ne.2 (fun h => c2 (by omega))
    simp -implicitDefEqProofs [hfr, s0, s1, s2, hlen, hbl, c2b, hZ, get_base0, get_base, set_base0, set_base, -getElem?_pos, List.getElem?_cons_zero, List.getElem?_cons_succ]
  have c2b : ((l.length : Int) != (b.length : Int)) = false := by rw [c2]; simp
  by_cases c1 : l.length = 0
  · rw [if_pos (.inl c1)] at hP
    subst hP
    have c1b : ((l.length : Int) == 0) = true := by simpa using c1
    simp -implicitDefEqProofs [hfr, s0, s1, s2, hlen, hbl, c2b, c1b, hZ, get_base0, get_base, set_base0, set_base, -getElem?_pos, List.getElem?_cons_zero, List.getElem?_cons_succ, -beq_iff_eq, -List.length_eq_zero_iff]
  have c1b : ((l.length : Int) == 0) = false := beq_eq_false_iff_ne.2 (by omega)
  by_cases c3 : d < 1
  · rw [if_pos (.inr (.inr c3))] at hP
    subst hP
    simp -implicitDefEqProofs [hfr, s0, s1, s2, hlen, hbl, c1b, c2b, c3, hZ, get_base0, get_base, set_base0, set_base, -getElem?_pos, List.getElem?_cons_zero, List.getElem?_cons_succ]
  rw [if_neg (by simp only [not_or]; exact ⟨c1, fun h => h c2, c3⟩)] at hP
  simp -implicitDefEqProofs [hfr, s0, s1, s2, hlen, hbl, c1b, c2b, c3, get_base0, get_base, set_base0, set_base, -getElem?_pos, List.getElem?_cons_zero, List.getElem?_cons_succ]
  refine l0 c2 _ (.arr 51 3 [[.int .i64 0, .fsl 2 [], .bool false]]) (d == 1) (.int .i64 d) rfl _ _ (by simp [hfr]) (by simp [hfr, s0]) (by simp [hfr, s1]) (by simp [hfr, s2]) (by simp [hfr]) (by simp [hfr]) (by simp [hfr]) (by simp [hfr]) ⟨_, rfl⟩ (by simp) ?_ ?_
  rotate_left
  · clear hfr s0 s1 s2 hsl
    clear fr
    intro fr o2 hfr q6 q7 g1 hall
    rw [if_pos hall] at hP
    subst hP
    simp -implicitDefEqProofs [hfr, q6, q7, g1, hZ]
  clear hfr s0 s1 s2 hsl l0
  clear fr
  intro fr o2 u hfr q1 q2 q6 q8 q9 hpre g1 gu hall
  rw [if_neg (by rw [hall]; simp)] at hP
  have hmm : (l.map fun q => liA q.1) = (l.map Prod.fst).map liA := by simp
  rw [hmm] at gu
  have hok0 : ∀ q ∈ l.map Prod.fst, lok q = true := fun q hq => by
    obtain ⟨x, hx, rfl⟩ := List.mem_map.1 hq
    obtain ⟨i, hi, rfl⟩ := List.getElem_of_mem hx
    have hm : (l[i], b[i]'(by omega)) ∈ l.zip b := by
      have : (l.zip b)[i]? = some (l[i], b[i]'(by omega)) := by rw [List.getElem?_zip_eq_some]; exact ⟨by simp [hi], by simp [show i < b.length by omega]⟩
      exact List.mem_of_getElem? this
    have := (List.all_eq_true.1 hall) _ hm
    simp only [okQ, Bool.and_eq_true] at this
    exact this.1
  have hLS : lSumP (l.map Prod.fst) b = lsumP ((l.map Prod.fst).zip b) := by
    unfold lSumP; rw [if_pos ⟨List.all_eq_true.2 hok0, by simpa using c2⟩]
  have hS2 := rlin_eq (l.map Prod.fst) b (fun q hq => by obtain ⟨x, hx, rfl⟩ := List.mem_map.1 hq; exact hl x hx) hok0 hb (by simpa using hn) (by simpa using c2) o2 u (.sl 1 (intA b)) (.of_gr gu) (.inl rfl) o.length []
  rw [← hLS, ← hIB] at hS2
  have hok := lSumP_ok (l.map Prod.fst) b
  have hcu : canA u = u := (gr_ls gu).can
  generalize lSumP (l.map Prod.fst) b = U at *
  obtain ⟨⟨k, ms⟩, E⟩ := U
  simp only at hP hS2 hok
  have hL : liA (k, ms) = [.int .i64 k, .sl 2 (moA ms)] := rfl
  have hdv := fun o2 ro df => rby_eq (k, ms) d hok ⟨by omega, hdm⟩ o2 ro df
  rw [hL] at hS2 hdv
  have hpo := hpre.len
  have l1 := lt_of_getO g1
  have ml := moA_len ms
  have gR2 : ∀ Y, (o2 ++ [Y])[o.length]? = some (.arr 51 3 [[.int .i64 0, .fsl 2 [], .bool false]]) := fun Y => getO_push g1 _
  have e2 : ∀ Y X, ((o2 ++ [Y]).set o.length X)[o.length]? = some X := fun Y X => getO_set (by simp; omega)
  by_cases hE : E = 0
  rotate_left
  · rw [if_pos (by simpa using hE)] at hP
    subst hP
    have hEb : (E != 0) = true := by simpa using hE
    simp -implicitDefEqProofs [hfr, q1, q2, q6, q8, q9, hcu, hS2, hEb, hZ, hpo, gR2, e2, setO_last, getO_last, -getElem?_pos, List.getElem?_cons_zero, List.getElem?_cons_succ]
  rw [if_neg (by simpa using hE)] at hP
  subst hE
  obtain ⟨M, hM⟩ : ∃ M, M = moA ms := ⟨_, rfl⟩
  rw [← hM] at hS2 ml hdv
  simp -implicitDefEqProofs [hfr, q1, q2, q6, q8, q9, hcu, hS2, hpo, gR2, e2, ml, setO_last, getO_last, -getElem?_pos, List.getElem?_cons_zero, List.getElem?_cons_succ]
  have gq9 : (o2 ++ [Obj.arr 26 2 [[.int .i64 k, .sl 2 M]]])[o2.length]? = some (.arr 26 2 [[.int .i64 k, .sl 2 (moA ms)]]) := by rw [← hM]; simp
  have gq8 : (o2 ++ [Obj.arr 26 2 [[.int .i64 k, .sl 2 M]]])[o2.length]? = some (.arr 26 2 [[.int .i64 k, .sl 2 M]]) := by simp
  refine rsum_l1 ms hok.2.2 d (by omega) _ o.length o2.length (by omega) (by simp; omega) (.int .i64 k) (eqs (d == 1) l) _ _ (by simp [hfr]) (by simp [hfr, q2]) (by simp [hfr, q6]) (by simp [hfr, q9]) (by simp [hfr]) (by simp [hfr]) (getO_push g1 _) gq9 ?_ ?_
  · clear hfr q1 q2 q6 q8 q9
    clear fr
    intro fr hfr q2 q6 q9 q11 hall2
    rw [if_neg (by rw [hall2]; simp)] at hP
    subst hP
    have hQ : iqA (divP (k, ms) d, eqs (d == 1) l) = [.int .i64 (divP (k, ms) d).1, .sl 2 (moA (divP (k, ms) d).2), .bool (eqs (d == 1) l)] := rfl
    have hL3 : liA (divP (k, ms) d) = [.int .i64 (divP (k, ms) d).1, .sl 2 (moA (divP (k, ms) d).2)] := rfl
    rw [hQ]
    rw [hL3] at hdv
    have hfl := moA_flat (divP (k, ms) d).2
    generalize eqs (d == 1) l = eb at *
    generalize moA (divP (k, ms) d).2 = M3 at *
    generalize (divP (k, ms) d).1 = k3 at *
    simp -implicitDefEqProofs [hfr, q2, q6, q9, q11, gq8, gR2, e2, hdv, hfl, hpo, -getElem?_pos, List.getElem?_cons_zero, List.getElem?_cons_succ]
  · clear hfr q1 q2 q6 q8 q9
    clear fr
    intro fr o3 hfr q6 q7 g3 hall2
    rw [if_pos hall2] at hP
    subst hP
    simp -implicitDefEqProofs [hfr, q6, q7, g3, hZ, -getElem?_pos, List.getElem?_cons_zero, List.getElem?_cons_succ]

end Go.Proofs.Ytgabnhmjlhhojaa.A
