/- The document's Form, and how many times a variable stands in a form. -/
import Derived.Test.YtgabnhmjlhhojaaU2
import Derived.Test.YtgabnhmjlhhojaaQ7
namespace Go.Proofs.Ytgabnhmjlhhojaa.A
open Go
set_option maxRecDepth 10000
set_option linter.unusedSimpArgs false
set_option linter.unusedVariables false
attribute [-simp] List.all_eq_true put slot_def ld idxA lenOf elems canA app hand add64A

def byv (v : Int) : List (Int × Int) → Int
  | [] => 0
  | m :: l => if m.1 = v then m.2 else byv v l

theorem by_eq (l : Li) (hl : l.2.length ≤ 9223372036854775807) (v : Int) (o : List Obj) (ro : Nat) (df : List Nat) :
    (D T).call 97 [.agg (liA l), .int .i64 v] ⟨o, ro, df⟩ = some (.int .i64 (byv v l.2), ⟨o, ro, df⟩) := by
  obtain ⟨k, ms⟩ := l
  simp only at hl ⊢
  obtain ⟨E, hE⟩ : ∃ E, E = byv v ms := ⟨_, rfl⟩
  rw [← hE]
  simp only [liA]
  have ml := moA_len ms
  apply call_by (by exact rfl : T 97 = some _) (by simp)
  intro fr hfr hsl
  have s0 := hsl 0 _ rfl
  have s1 := hsl 1 _ rfl
  obtain ⟨M, hM⟩ : ∃ M, M = moA ms := ⟨_, rfl⟩
  rw [← hM] at s0 ml
  simp -implicitDefEqProofs [hfr, s0, s1, ml, get_base0, -getElem?_pos, List.getElem?_cons_zero]
  apply loop_inv L97_0.eq_1 List.length (fun (rest : List (Int × Int)) fr st => ∃ pre, ms = pre ++ rest ∧ E = byv v rest ∧ fr.length = 27 ∧ slot fr 1 = .int .i64 v ∧ slot fr 2 = .ptr o.length 0 0 ∧ slot fr 5 = .int .i64 (pre.length : Int) ∧ st = ⟨o ++ [Obj.arr 26 2 [[.int .i64 k, .sl 2 M]]], o.length, []⟩) ?_ ms
    ⟨[], rfl, hE, by simp [hfr], by simp [hfr, s1], by simp [hfr], by simp [hfr], rfl⟩
  clear hE hfr s0 s1 hsl
  clear fr
  rintro rest fr _ ⟨pre, e, hE, hfr, q1, q2, q5, rfl⟩
  cases rest with
  | nil =>
    have hlt := idx_end e
    simp only [byv] at hE
    subst hE
    simp -implicitDefEqProofs [hfr, q1, q2, q5, hlt, ml, get_base0, -getElem?_pos, List.getElem?_cons_zero, List.getElem?_cons_succ]
  | cons x rest =>
    obtain ⟨hlt, hg, hpl⟩ := idx_at e
    have hw := idx_next e hl
    have hg2 : M[pre.length]? = some [.int .i64 x.1, .int .i64 x.2] := by rw [hM]; simp [moA, hg]
    obtain ⟨x1, x2⟩ := x
    simp only [byv] at hE hg2
    by_cases c1 : x1 = v
    · rw [if_pos c1] at hE
      subst hE
      subst c1
      simp -implicitDefEqProofs [hfr, q1, q2, q5, hlt, hpl, hw, ml, hg2, get_base0, -getElem?_pos, List.getElem?_cons_zero, List.getElem?_cons_succ]
    · rw [if_neg c1] at hE
      have c1b : (x1 == v) = false := by simpa using c1
      simp -implicitDefEqProofs [hfr, q1, q2, q5, hlt, hpl, hw, ml, hg2, c1b, get_base0, -getElem?_pos, List.getElem?_cons_zero, List.getElem?_cons_succ]
      exact ⟨rest, by simp, pre ++ [(x1, x2)], by simp [e], hE, by simp⟩

theorem form_eq (l : Li) (hl : l.2.length ≤ 9223372036854775807) (o : List Obj) (ro : Nat) (df : List Nat) :
    (D T).call 39 [.agg (liA l)] ⟨o, ro, df⟩ = some (.bool (lok l), ⟨o, ro, df⟩) := by
  obtain ⟨k, ms⟩ := l
  simp only at hl
  obtain ⟨E, hE⟩ : ∃ E, E = lrt (-1) ms := ⟨_, rfl⟩
  have hk : lok (k, ms) = E := by rw [hE]; rfl
  rw [hk]
  simp only [liA]
  have ml := moA_len ms
  apply call_by (by exact rfl : T 39 = some _) (by simp)
  intro fr hfr hsl
  have s0 := hsl 0 _ rfl
  obtain ⟨M, hM⟩ : ∃ M, M = moA ms := ⟨_, rfl⟩
  rw [← hM] at s0 ml
  simp -implicitDefEqProofs [hfr, s0, ml, get_base0, -getElem?_pos, List.getElem?_cons_zero]
  apply loop_inv L39_0.eq_1 List.length (fun (rest : List (Int × Int)) fr st => ∃ pre, ∃ n : Int, ms = pre ++ rest ∧ E = lrt n rest ∧ (pre = [] ∧ n = -1 ∨ ∃ p q, pre = p ++ [(n, q)] ∧ 0 ≤ n) ∧ fr.length = 56 ∧ slot fr 1 = .ptr o.length 0 0 ∧ slot fr 3 = .int .i64 (pre.length : Int) ∧ st = ⟨o ++ [Obj.arr 26 2 [[.int .i64 k, .sl 2 M]]], o.length, []⟩) ?_ ms
    ⟨[], -1, rfl, hE, .inl ⟨rfl, rfl⟩, by simp [hfr], by simp [hfr], by simp [hfr], rfl⟩
  clear hE hk hfr s0 hsl
  clear fr
  rintro rest fr _ ⟨pre, n, e, hE, hn, hfr, q1, q3, rfl⟩
  have hn1 : -1 ≤ n := by rcases hn with ⟨_, rfl⟩ | ⟨_, _, _, h⟩ <;> omega
  cases rest with
  | nil =>
    have hlt := idx_end e
    simp only [lrt] at hE
    subst hE
    simp -implicitDefEqProofs [hfr, q1, q3, hlt, ml, get_base0, -getElem?_pos, List.getElem?_cons_zero, List.getElem?_cons_succ]
  | cons x rest =>
    obtain ⟨hlt, hg, hpl⟩ := idx_at e
    have hw := idx_next e hl
    have hg2 : M[pre.length]? = some [.int .i64 x.1, .int .i64 x.2] := by rw [hM]; simp [moA, hg]
    obtain ⟨x1, x2⟩ := x
    simp only [lrt] at hE hg2
    by_cases c1 : x1 < 0
    · have : E = false := by rw [hE]; simp [show ¬ n < x1 by omega]
      subst this
      simp -implicitDefEqProofs [hfr, q1, q3, hlt, hpl, hw, ml, hg2, c1, get_base0, -getElem?_pos, List.getElem?_cons_zero, List.getElem?_cons_succ]
    by_cases c2 : x1 ≥ 64
    · have c2' : 64 ≤ x1 := c2
      have : E = false := by rw [hE]; simp [show ¬ x1 < 64 by omega]
      subst this
      simp -implicitDefEqProofs [hfr, q1, q3, hlt, hpl, hw, ml, hg2, c1, c2, c2', get_base0, -getElem?_pos, List.getElem?_cons_zero, List.getElem?_cons_succ]
    have c2' : ¬ 64 ≤ x1 := c2
    by_cases c3 : x2 = 0
    · have : E = false := by rw [hE]; simp [c3]
      subst this
      subst c3
      simp -implicitDefEqProofs [hfr, q1, q3, hlt, hpl, hw, ml, hg2, c1, c2, c2', get_base0, -getElem?_pos, List.getElem?_cons_zero, List.getElem?_cons_succ]
    have c3b : (x2 == 0) = false := by simpa using c3
    have hnew : (pre ++ [(x1, x2)] = [] ∧ x1 = -1 ∨ ∃ p q, pre ++ [(x1, x2)] = p ++ [(x1, q)] ∧ 0 ≤ x1) := .inr ⟨pre, x2, rfl, by omega⟩
    rcases hn with ⟨rfl, rfl⟩ | ⟨p, q, rfl, hn0⟩
    · have hE2 : E = lrt x1 rest := by rw [hE]; simp [show -1 < x1 by omega, show x1 < 64 by omega, c3]
      simp only [List.length_nil] at q3 hg2 hlt hpl
      simp -implicitDefEqProofs [hfr, q1, q3, hlt, hpl, hw, ml, hg2, c1, c2, c2', c3b, get_base0, -getElem?_pos, List.getElem?_cons_zero, List.getElem?_cons_succ]
      exact ⟨rest, by simp, [(x1, x2)], by simp [e], x1, hE2, .inr ⟨⟨[], x2, rfl⟩, by omega⟩, rfl⟩
    · have hgp : M[p.length]? = some [.int .i64 n, .int .i64 q] := by rw [hM, e]; simp [moA]
      have hpl2 : p.length < ms.length := by rw [e]; simp
      have hil : (p ++ [(n, q)]).length = p.length + 1 := by simp
      generalize hi : (p ++ [(n, q)]).length = i at *
      generalize p.length = j at *
      have wi : IntKind.i64.wrap ((i : Int) - 1) = (j : Int) := by rw [show (i : Int) - 1 = (j : Int) by omega]; exact wrap_id (by omega) (by omega)
      have i0 : (i : Int) > 0 := by omega
      have i1 : 0 < i := by omega
      have hw2 : IntKind.i64.wrap ((i : Int) + 1) = (i : Int) + 1 := wrap_id (by omega) (by omega)
      clear hw
      by_cases c4 : x1 ≤ n
      · have : E = false := by rw [hE]; simp [show ¬ n < x1 by omega]
        subst this
        simp -implicitDefEqProofs [hfr, q1, q3, hlt, hpl, hpl2, hw2, ml, hg2, hgp, c1, c2, c2', c3b, c4, wi, i0, i1, get_base0, -getElem?_pos, List.getElem?_cons_zero, List.getElem?_cons_succ]
      · have hE2 : E = lrt x1 rest := by rw [hE]; simp [show n < x1 by omega, show x1 < 64 by omega, c3]
        simp -implicitDefEqProofs [hfr, q1, q3, hlt, hpl, hpl2, hw2, ml, hg2, hgp, c1, c2, c2', c3b, c4, wi, i0, i1, get_base0, -getElem?_pos, List.getElem?_cons_zero, List.getElem?_cons_succ]
        exact ⟨rest, by simp, (p ++ [(n, q)]) ++ [(x1, x2)], by simp [e], x1, hE2, .inr ⟨⟨p ++ [(n, q)], x2, rfl⟩, by omega⟩, by rw [List.length_append, hi]; rfl⟩

end Go.Proofs.Ytgabnhmjlhhojaa.A
/- The document's Lin: its loops. -/
namespace Go.Proofs.Ytgabnhmjlhhojaa.A
open Go
set_option maxRecDepth 10000
set_option linter.unusedSimpArgs false
set_option linter.unusedVariables false
attribute [-simp] List.all_eq_true put slot_def ld idxA lenOf elems canA app hand add64A

/-- a list by its elements, or an own one -/
def FsG (o : List Obj) (sz : Nat) (v : AV) (es : List (List AV)) : Prop := v = .sl sz es ∨ v = .fsl sz es ∨ ∃ r ty f, v = .own r 0 es.length f ∧ o[r]? = some (.arr ty sz es)
theorem FsG.of_gr {lo ty sz : Nat} {o : List Obj} {v : AV} {es : List (List AV)} (h : Gr lo ty sz o v es) : FsG o sz v es := by
  rcases h with rfl | ⟨r, _, rfl, h⟩
  · exact .inr (.inl rfl)
  · exact .inr (.inr ⟨r, ty, false, rfl, h⟩)
theorem FsG.len {o : List Obj} {sz : Nat} {v : AV} {es : List (List AV)} (h : FsG o sz v es) : lenOf v = some es.length := by
  rcases h with rfl | rfl | ⟨r, ty, f, rfl, h⟩ <;> rfl
theorem FsG.can {o : List Obj} {sz : Nat} {v : AV} {es : List (List AV)} (h : FsG o sz v es) : canA v = v := by
  rcases h with rfl | rfl | ⟨r, ty, f, rfl, h⟩ <;> rfl
theorem FsG.push {o : List Obj} {sz : Nat} {v : AV} {es : List (List AV)} (h : FsG o sz v es) (m : List Obj) : FsG (o ++ m) sz v es := by
  rcases h with rfl | rfl | ⟨r, ty, f, rfl, h⟩
  · exact .inl rfl
  · exact .inr (.inl rfl)
  · exact .inr (.inr ⟨r, ty, f, rfl, getO_push h m⟩)
theorem FsG.place {o o2 : List Obj} {sz : Nat} {v : AV} {es : List (List AV)} (h : FsG o sz v es) (hpre : Pre o o2) (ro : Nat) (df : List Nat) {i : Nat} {e : List AV} (hq : es[i]? = some e) :
    ∃ p, idxA ⟨o2, ro, df⟩ sz v (.int .i64 i) = some p ∧ (p = .vptr e ∨ ∃ r ty sz' es', p = .ptr r i 0 ∧ o2[r]? = some (.arr ty sz' es') ∧ es'[i]? = some e) := by
  have hlt := lt_of_getO hq
  have hd : es.getD i [] = e := by rw [List.getD_eq_getElem?_getD, hq]; rfl
  rcases h with rfl | rfl | ⟨r, ty, f, rfl, h⟩
  · exact ⟨.vptr e, by simp only [idxA, Int.toNat_natCast, hd]; rw [if_pos ⟨by simp [inB, hlt], trivial⟩], .inl rfl⟩
  · exact ⟨.vptr e, by simp only [idxA, Int.toNat_natCast, hd]; rw [if_pos ⟨by simp [inB, hlt], trivial⟩], .inl rfl⟩
  · obtain ⟨m, rfl⟩ := hpre
    have h' := getO_push h m
    exact ⟨.ptr r i 0, by simp [h', hlt], .inr ⟨r, _, _, _, rfl, h', hq⟩⟩

def accV (v : Int) : List (Li × Int) → Int → Int
  | [], x => x
  | f :: l, x => accV v l (x + byv v f.1.2 * f.2)
theorem byv_i {v : Int} : ∀ {l : List (Int × Int)}, (∀ m ∈ l, inI64 m.2) → inI64 (byv v l)
  | [], _ => by simp [byv, inI64]
  | m :: l, h => by
    simp only [byv]
    split
    · exact h m (by simp)
    · exact byv_i fun k hk => h k (by simp [hk])

theorem rlin_l0 (l : List Li) (b : List Int) (hl : ∀ q ∈ l, LiOk q) (hb : ∀ y ∈ b, inI64 y) (hn : l.length ≤ 1000000) (hlb : l.length = b.length) (o o1 : List Obj) (n : Nat) (hon : o.length = n) (v w : AV) (hv : FsG o 2 v (l.map liA)) (hw : FsG o 1 w (intA b)) (X0 : Obj) (Q : AE → List AV → St → Prop) (fr : List AV) (hfr : fr.length = 87)
    (q0 : slot fr 0 = v) (q1 : slot fr 1 = w) (q4 : slot fr 4 = .ptr n 0 0) (q6 : slot fr 6 = .ptr (n + 1) 0 0) (q7 : slot fr 7 = .int .i64 0)
    (hpre : Pre o o1) (g0 : o1[n]? = some X0) (g1 : o1[n + 1]? = some (.arr 130 3 [td 0]))
    (kk : ∀ (fr' : List AV) (o2 : List Obj), fr'.length = 87 → slot fr' 0 = v → slot fr' 1 = w → slot fr' 4 = .ptr n 0 0 → slot fr' 6 = .ptr (n + 1) 0 0 → Pre o o2 → o2[n]? = some X0 → o2[n + 1]? = some (.arr 130 3 [td (accK (l.zip b) 0)]) → Q (.exit 0) fr' ⟨o2, n, []⟩) :
    ∃ e fr' st', (D T).loop false L72_0 fr ⟨o1, n, []⟩ = some (e, fr', st') ∧ Q e fr' st' := by
  have hlen : lenOf v = some l.length := by simpa using hv.len
  have hzl : (l.zip b).length = l.length := by simp [hlb]
  apply loop_inv L72_0.eq_1 List.length (fun (rest : List (Li × Int)) fr st => ∃ pre o2, ∃ x : Int, l.zip b = pre ++ rest ∧ accK (l.zip b) 0 = accK rest x ∧ fr.length = 87 ∧ slot fr 0 = v ∧ slot fr 1 = w ∧ slot fr 4 = .ptr n 0 0 ∧ slot fr 6 = .ptr (n + 1) 0 0 ∧ slot fr 7 = .int .i64 (pre.length : Int) ∧
    st = ⟨o2, n, []⟩ ∧ Pre o o2 ∧ o2[n]? = some X0 ∧ o2[n + 1]? = some (.arr 130 3 [td x])) ?_ (l.zip b)
    ⟨[], o1, 0, rfl, rfl, hfr, q0, q1, q4, q6, q7, rfl, hpre, g0, g1⟩
  clear hfr q0 q1 q4 q6 q7 hpre g0 g1
  clear fr o1
  rintro rest fr _ ⟨pre, o2, x, e, hE, hfr, q0, q1, q4, q6, q7, rfl, hpre, g0, g1⟩
  rw [hE] at kk
  cases rest with
  | nil =>
    have hlt := idx_end e
    rw [hzl] at hlt
    simp -implicitDefEqProofs [hfr, q0, q1, q4, q6, q7, hlt, hlen]
    exact kk _ o2 (by simp [hfr]) (by simp [hfr, q0]) (by simp [hfr, q1]) (by simp [hfr, q4]) (by simp [hfr, q6]) hpre g0 g1
  | cons f rest =>
    obtain ⟨hlt, hg, hpl⟩ := idx_at e
    have hwi := idx_next e (by omega)
    rw [hzl] at hlt hpl
    obtain ⟨q, y⟩ := f
    have hz := List.getElem?_zip_eq_some.1 hg
    have hq := hl q (List.mem_of_getElem? hz.1)
    have hy := hb y (List.mem_of_getElem? hz.2)
    have hg2 : (l.map liA)[pre.length]? = some (liA q) := by simp [hz.1]
    have hy2 : (intA b)[pre.length]? = some [.int .i64 y] := by simp [intA, hz.2]
    obtain ⟨p, p1, p2⟩ := hv.place hpre n [] hg2
    obtain ⟨p', r1, r2⟩ := hw.place hpre n [] hy2
    have hmo := fun o ro df => more_eq x q.1 y hq.1 hy o ro df
    have hL : liA q = [.int .i64 q.1, .sl 2 (moA q.2)] := rfl
    have hT : ∀ z, td z = [.int .i64 (hi (z / 18446744073709551616)), .int .u64 (w0 (z / 18446744073709551616)), .int .u64 (w0 z)] := fun _ => rfl
    have l1 := lt_of_getO g1
    have e1 : ∀ X, (o2.set (n + 1) X)[n + 1]? = some X := fun X => getO_set l1
    have npre : ∀ X, Pre o (o2.set (n + 1) X) := fun X => hpre.set (by omega) _
    have n0 : ∀ X, (o2.set (n + 1) X)[n]? = some X0 := fun X => by rw [List.getElem?_set_ne (by omega)]; exact g0
    rw [hL] at p2
    rw [hT] at g1
    simp only [hT] at hmo
    simp only [accK] at hE
    generalize moA q.2 = M at *
    rcases p2 with rfl | ⟨pr, pty, psz, pes, rfl, pg, pe⟩ <;> rcases r2 with rfl | ⟨rr, rty, rsz, res, rfl, rg, re⟩
    · simp -implicitDefEqProofs [hfr, q0, q1, q4, q6, q7, hlt, hpl, hwi, hlen, p1, r1, g1, hmo, e1, -getElem?_pos, List.getElem?_cons_zero, List.getElem?_cons_succ]
      exact ⟨rest, by simp, pre ++ [(q, y)], by simp [e], _, _, hE, by simp, rfl, npre _, n0 _, by rw [e1]; rfl⟩
    · simp -implicitDefEqProofs [hfr, q0, q1, q4, q6, q7, hlt, hpl, hwi, hlen, p1, r1, rg, re, g1, hmo, e1, -getElem?_pos, List.getElem?_cons_zero, List.getElem?_cons_succ]
      exact ⟨rest, by simp, pre ++ [(q, y)], by simp [e], _, _, hE, by simp, rfl, npre _, n0 _, by rw [e1]; rfl⟩
    · simp -implicitDefEqProofs [hfr, q0, q1, q4, q6, q7, hlt, hpl, hwi, hlen, p1, r1, pg, pe, g1, hmo, e1, -getElem?_pos, List.getElem?_cons_zero, List.getElem?_cons_succ]
      exact ⟨rest, by simp, pre ++ [(q, y)], by simp [e], _, _, hE, by simp, rfl, npre _, n0 _, by rw [e1]; rfl⟩
    · simp -implicitDefEqProofs [hfr, q0, q1, q4, q6, q7, hlt, hpl, hwi, hlen, p1, r1, pg, pe, rg, re, g1, hmo, e1, -getElem?_pos, List.getElem?_cons_zero, List.getElem?_cons_succ]
      exact ⟨rest, by simp, pre ++ [(q, y)], by simp [e], _, _, hE, by simp, rfl, npre _, n0 _, by rw [e1]; rfl⟩

end Go.Proofs.Ytgabnhmjlhhojaa.A
