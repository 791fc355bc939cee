/- What is known at a part: a sum, and a split. -/
import Derived.Test.YtgabnhmjlhhojaaQ12
import Derived.Test.YtgabnhmjlhhojaaZ1
namespace Go.Proofs.Ytgabnhmjlhhojaa.A
open Go
set_option maxRecDepth 10000
set_option linter.unusedSimpArgs false
set_option linter.unusedVariables false
attribute [-simp] List.all_eq_true put slot_def ld idxA lenOf elems canA app hand add64A

def sumA (l : List Iq) (ns by0 : List Int) (dv : Int) : List Iq × Int :=
  if (someA l ns []).2 ≠ 0 then ([], (someA l ns []).2) else if (iSumP (someA l ns []).1 by0 dv).2 ≠ 0 then ([], (iSumP (someA l ns []).1 by0 dv).2) else ([(iSumP (someA l ns []).1 by0 dv).1], fullE l)
theorem sum_eq (l : List Iq) (hl : l.length ≤ 1000000) (hL : ∀ q ∈ l, LiOk q.1) (v : AV) (kd : Int) (fr0 by0 : List Int) (dv k : Int) (ms : List (Int × Int)) (cs : List Cu) (hfr0 : fr0.length ≤ 1000000) (hb : by0.length ≤ 1000000) (hbi : ∀ x ∈ by0, inI64 x) (o : List Obj) (hv : Fs o v (l.map iqA)) (ro : Nat) (df : List Nat) :
    (D T).call 56 [v, (Cu.mk kd fr0 by0 dv k ms cs).av] ⟨o, ro, df⟩ = some (.tup [.sl 3 ((sumA l fr0 by0 dv).1.map iqA), .int .i64 (sumA l fr0 by0 dv).2], ⟨o, ro, df⟩) := by
  have hs := fun m ro df => some_eq l hl fr0 hfr0 (o ++ m) v (hv.lsp m) ro df
  have hlen := someA_len l fr0 []
  have hmem := someA_mem l fr0 []
  have hfu := fun m ro df => full_eq l (o ++ m) v (hv.lsp m) ro df
  have hcan := hv.ls.can
  unfold sumA
  generalize someA l fr0 [] = S at *
  obtain ⟨A, E⟩ := S
  simp only at hs hlen hmem ⊢
  have hCm : (Cu.mk kd fr0 by0 dv k ms cs).av = .agg [.int .i64 kd, .sl 1 (intA fr0), .sl 1 (intA by0), .int .i64 dv, .int .i64 k, .sl 2 (moA ms), .sl 7 (cs.map Cu.cells)] := by simp only [Cu.av, Cu.cells_mk]
  rw [hCm]
  apply call_by (by exact rfl : T 56 = some _) (by simp)
  intro fr hfr hsl
  have s0 := hsl 0 _ rfl
  have s1 := hsl 1 _ rfl
  by_cases hE : E = 0
  · subst hE
    have hl1 := hlen rfl
    have hS := fun o ro df => iSum_eq A by0 dv (fun q hq => hL q (by rcases hmem q hq with h | h; exact h; simp at h)) hbi (by simp at hl1; omega) hb o (.sl 3 (A.map iqA)) (.sl 1 (intA by0)) (ls_sl _) (ls_sl _) ro df
    rw [if_neg (by simp)]
    generalize iSumP A by0 dv = U at *
    obtain ⟨q, E2⟩ := U
    simp only at hS ⊢
    have hQ : iqA q = [.int .i64 q.1.1, .sl 2 (moA q.1.2), .bool q.2] := rfl
    have hM : [q].map iqA = [iqA q] := rfl
    have hfl := moA_flat q.1.2
    generalize fullE l = Fu at *
    rw [hQ] at hS
    by_cases hE2 : E2 = 0
    · subst hE2
      rw [if_neg (by simp)]
      simp only []
      rw [hM, hQ]
      generalize moA q.1.2 = M2 at *
      generalize intA fr0 = F at *
      generalize intA by0 = B at *
      generalize moA ms = M at *
      generalize cs.map Cu.cells = C at *
      generalize A.map iqA = A2 at *
      simp -implicitDefEqProofs [hfr, s0, s1, hs, hcan, hS, hfu, hfl, get_base0, get_base, set_base0, set_base, -getElem?_pos, List.getElem?_cons_zero, List.getElem?_cons_succ]
    · have hEb : (E2 != 0) = true := by simpa using hE2
      rw [if_pos hE2]
      generalize moA q.1.2 = M2 at *
      generalize intA fr0 = F at *
      generalize intA by0 = B at *
      generalize moA ms = M at *
      generalize cs.map Cu.cells = C at *
      generalize A.map iqA = A2 at *
      simp -implicitDefEqProofs [hfr, s0, s1, hs, hcan, hS, hEb, get_base0, get_base, set_base0, set_base, -getElem?_pos, List.getElem?_cons_zero, List.getElem?_cons_succ]
  · have hEb : (E != 0) = true := by simpa using hE
    rw [if_pos hE]
    generalize intA fr0 = F at *
    generalize intA by0 = B at *
    generalize moA ms = M at *
    generalize cs.map Cu.cells = C at *
    simp -implicitDefEqProofs [hfr, s0, s1, hs, hcan, hEb, get_base0, -getElem?_pos, List.getElem?_cons_zero, List.getElem?_cons_succ]

def splitA (l : List Iq) (k : Int) (ms : List (Int × Int)) : List Iq × Int :=
  if lrE (k, ms) ≠ 0 then ([], 1) else if (inotP ((k, ms), false)).2 ≠ 0 then ([], (inotP ((k, ms), false)).2) else ([((k, ms), false), (inotP ((k, ms), false)).1], fullE l)
theorem split_eq (l : List Iq) (v : AV) (kd : Int) (fr0 by0 : List Int) (dv k : Int) (ms : List (Int × Int)) (cs : List Cu) (hm : LiOk (k, ms)) (o : List Obj) (hv : Fs o v (l.map iqA)) (ro : Nat) (df : List Nat) :
    (D T).call 57 [v, (Cu.mk kd fr0 by0 dv k ms cs).av] ⟨o, ro, df⟩ = some (.tup [.sl 3 ((splitA l k ms).1.map iqA), .int .i64 (splitA l k ms).2], ⟨o, ro, df⟩) := by
  have hr := fun o ro df => lRight_eq (k, ms) (by have h9 : ms.length ≤ 1000000 := hm.2.2; show ms.length ≤ _; omega) o ro df
  have hfu := fun m ro df => full_eq l (o ++ m) v (hv.lsp m) ro df
  have hcan := hv.ls.can
  have hno := fun o ro df => iNot_eq ((k, ms), false) hm o ro df
  have hCm : (Cu.mk kd fr0 by0 dv k ms cs).av = .agg [.int .i64 kd, .sl 1 (intA fr0), .sl 1 (intA by0), .int .i64 dv, .int .i64 k, .sl 2 (moA ms), .sl 7 (cs.map Cu.cells)] := by simp only [Cu.av, Cu.cells_mk]
  rw [hCm]
  unfold splitA
  generalize lrE (k, ms) = E at *
  generalize inotP ((k, ms), false) = U at *
  obtain ⟨q, E2⟩ := U
  simp only at hno ⊢
  have hQ : iqA q = [.int .i64 q.1.1, .sl 2 (moA q.1.2), .bool q.2] := rfl
  have hQ2 : iqA ((k, ms), false) = [.int .i64 k, .sl 2 (moA ms), .bool false] := rfl
  have hL : liA (k, ms) = [.int .i64 k, .sl 2 (moA ms)] := rfl
  have hM : [((k, ms), false), q].map iqA = [iqA ((k, ms), false), iqA q] := rfl
  have hfl := moA_flat q.1.2
  have hfm := moA_flat ms
  rw [hL] at hr
  rw [hQ, hQ2] at hno
  generalize fullE l = Fu at *
  apply call_by (by exact rfl : T 57 = some _) (by simp)
  intro fr hfr hsl
  have s0 := hsl 0 _ rfl
  have s1 := hsl 1 _ rfl
  by_cases hE : E = 0
  · subst hE
    rw [if_neg (by simp)]
    by_cases hE2 : E2 = 0
    · subst hE2
      rw [if_neg (by simp)]
      simp only []
      rw [hM, hQ, hQ2]
      generalize moA q.1.2 = M2 at *
      generalize intA fr0 = F at *
      generalize intA by0 = B at *
      generalize moA ms = M at *
      generalize cs.map Cu.cells = C at *
      simp -implicitDefEqProofs [hfr, s0, s1, hr, hcan, hno, hfu, hfl, hfm, get_base0, get_base, set_base0, set_base, -getElem?_pos, List.getElem?_cons_zero, List.getElem?_cons_succ]
    · have hEb : (E2 != 0) = true := by simpa using hE2
      rw [if_pos hE2]
      generalize moA q.1.2 = M2 at *
      generalize intA fr0 = F at *
      generalize intA by0 = B at *
      generalize moA ms = M at *
      generalize cs.map Cu.cells = C at *
      simp -implicitDefEqProofs [hfr, s0, s1, hr, hcan, hno, hEb, get_base0, get_base, set_base0, set_base, -getElem?_pos, List.getElem?_cons_zero, List.getElem?_cons_succ]
  · have hEb : (E != 0) = true := by simpa using hE
    rw [if_pos hE]
    generalize intA fr0 = F at *
    generalize intA by0 = B at *
    generalize moA ms = M at *
    generalize cs.map Cu.cells = C at *
    simp -implicitDefEqProofs [hfr, s0, s1, hr, hcan, hEb, get_base0, get_base, set_base0, set_base, -getElem?_pos, List.getElem?_cons_zero, List.getElem?_cons_succ]

end Go.Proofs.Ytgabnhmjlhhojaa.A
/- How large and how deep a cut is: the program's functions and the document's. -/
namespace Go.Proofs.Ytgabnhmjlhhojaa.A
open Go
set_option maxRecDepth 10000
set_option linter.unusedSimpArgs false
set_option linter.unusedVariables false
attribute [-simp] List.all_eq_true put slot_def ld idxA lenOf elems canA app hand

theorem cset (cs : List AV) (t : Cu) (h : cs.length = 7) : setMany cs 0 t.cells = t.cells := set_all _ _ (by rw [h, culen])

theorem cSize_eq : ∀ (c : Cu), c.ok → csz c ≤ 1000000 → ∀ (o : List Obj) (ro : Nat) (df : List Nat), (D T).call 13 [c.av] ⟨o, ro, df⟩ = some (.int .i64 (csz c), ⟨o, ro, df⟩)
  | .mk kd fr0 by0 dv kk ms cs, hok, hs, o, ro, df => by
    simp only [Cu.ok] at hok
    obtain ⟨_, _, _, _, _, _, o4, o5⟩ := hok
    have hl := okCu_iff.1 o5
    unfold mxB at o4
    have mx : cs.length ≤ 9223372036854775807 := by omega
    simp only [csz] at hs
    have hsz : ∀ x ∈ cs, csz x ≤ cszL cs := fun x hx => csz_mem hx
    have hdz : ∀ x : Cu, cdp x ≤ csz x := cdp_csz
    have ih := fun x (hx : x ∈ cs) o ro df => cSize_eq x (hl x hx) (by have := hsz x hx; omega) o ro df
    have hE : csz (.mk kd fr0 by0 dv kk ms cs) = 1 + cszL cs := rfl
    generalize csz (.mk kd fr0 by0 dv kk ms cs) = R at hE ⊢
    simp only [Cu.av] at ih
    apply call_by (by exact rfl : T 13 = some _) (by simp)
    intro fr hfr hsl
    have s0 := hsl 0 _ rfl
    simp only [Cu.av, Cu.cells_mk] at s0
    simp -implicitDefEqProofs [hfr, s0, get_base0, -getElem?_pos, List.getElem?_cons_zero]
    apply loop_inv L13_0.eq_1 List.length (fun (rest : List Cu) fr st => ∃ pre n o', cs = pre ++ rest ∧ fr.length = 19 ∧ slot fr 3 = .int .i64 n ∧ slot fr 7 = .sl 7 (cs.map Cu.cells) ∧ slot fr 8 = .int .i64 (cs.length : Int) ∧ slot fr 9 = .int .i64 (pre.length : Int) ∧
      st = ⟨o', o.length, []⟩ ∧ o.length ≤ o'.length ∧ 0 ≤ n ∧ n ≤ 1000001 - cszL rest ∧ R = n + cszL rest) ?_ cs ⟨[], 1, _, rfl, by simp [hfr], by simp [hfr], by simp [hfr], by simp [hfr], by simp [hfr], rfl, by simp, by omega, by omega, by omega⟩
    clear hfr s0 hsl
    clear fr
    rintro rest fr _ ⟨pre, n, o', e, hfr, q3, q7, q8, q9, rfl, hlo, n0, n1, hn⟩
    cases rest with
    | nil =>
      have hlt := idx_end e
      simp only [cszL, Int.add_zero] at hn
      simp -implicitDefEqProofs [hfr, q3, q7, q8, q9, hlt, hn]
    | cons x rest =>
      obtain ⟨hlt, hg, hpl⟩ := idx_at e
      have hw := idx_next e mx
      have hx : x ∈ cs := by simp [e]
      have hc := fun o ro df => ih x hx o ro df
      have y1 := cu_take x
      have y2 := cu_can x
      have y3 := culen x
      have y4 := cu_one x
      have p1 := csz_pos x
      have p2 := cszL_pos rest
      have p3 := cdp_pos x
      have p4 := cdp_csz x
      simp only [cszL] at n1
      have wr : IntKind.i64.wrap (n + csz x) = n + csz x := wrap_id (by omega) (by omega)
      simp -implicitDefEqProofs [hfr, q3, q7, q8, q9, hlt, hg, hpl, hw, hc, hlo, y1, y2, y3, y4, cset, wr, setO_last, getO_last, -List.getElem_map, -getElem?_pos, List.getElem?_cons_zero]
      exact ⟨rest, by simp, pre ++ [x], by simp [e], by simp, by omega, by omega, by omega, by simp only [cszL] at hn; omega⟩
termination_by t => SizeOf.sizeOf t
decreasing_by
  have := List.sizeOf_lt_of_mem hx
  simp
  omega

theorem cDepth_eq : ∀ (c : Cu), c.ok → csz c ≤ 1000000 → ∀ (o : List Obj) (ro : Nat) (df : List Nat), (D T).call 15 [c.av] ⟨o, ro, df⟩ = some (.int .i64 (cdp c), ⟨o, ro, df⟩)
  | .mk kd fr0 by0 dv kk ms cs, hok, hs, o, ro, df => by
    simp only [Cu.ok] at hok
    obtain ⟨_, _, _, _, _, _, o4, o5⟩ := hok
    have hl := okCu_iff.1 o5
    unfold mxB at o4
    have mx : cs.length ≤ 9223372036854775807 := by omega
    simp only [csz] at hs
    have hsz : ∀ x ∈ cs, csz x ≤ cszL cs := fun x hx => csz_mem hx
    have hdz : ∀ x : Cu, cdp x ≤ csz x := cdp_csz
    have ih := fun x (hx : x ∈ cs) o ro df => cDepth_eq x (hl x hx) (by have := hsz x hx; omega) o ro df
    have hE : cdp (.mk kd fr0 by0 dv kk ms cs) = 1 + cdpL cs := rfl
    generalize cdp (.mk kd fr0 by0 dv kk ms cs) = R at hE ⊢
    simp only [Cu.av] at ih
    apply call_by (by exact rfl : T 15 = some _) (by simp)
    intro fr hfr hsl
    have s0 := hsl 0 _ rfl
    simp only [Cu.av, Cu.cells_mk] at s0
    simp -implicitDefEqProofs [hfr, s0, get_base0, -getElem?_pos, List.getElem?_cons_zero]
    apply loop_inv L15_0.eq_1 List.length (fun (rest : List Cu) fr st => ∃ pre n o', cs = pre ++ rest ∧ fr.length = 20 ∧ slot fr 3 = .int .i64 n ∧ slot fr 7 = .sl 7 (cs.map Cu.cells) ∧ slot fr 8 = .int .i64 (cs.length : Int) ∧ slot fr 9 = .int .i64 (pre.length : Int) ∧
      st = ⟨o', o.length, []⟩ ∧ o.length ≤ o'.length ∧ 0 ≤ n ∧ n ≤ 1000001 - cszL rest ∧ R = 1 + (if n < cdpL rest then cdpL rest else n)) ?_ cs ⟨[], 0, _, rfl, by simp [hfr], by simp [hfr], by simp [hfr], by simp [hfr], by simp [hfr], rfl, by simp, by omega, by omega, by rw [hE]; have := cdpL_pos cs; split <;> omega⟩
    clear hfr s0 hsl
    clear fr
    rintro rest fr _ ⟨pre, n, o', e, hfr, q3, q7, q8, q9, rfl, hlo, n0, n1, hn⟩
    cases rest with
    | nil =>
      have hlt := idx_end e
      simp only [cdpL, if_neg (show ¬ n < 0 by omega)] at hn
      simp only [cszL] at n1
      have w1 : IntKind.i64.wrap (n + 1) = R := by rw [wrap_id (by omega) (by omega)]; omega
      simp -implicitDefEqProofs [hfr, q3, q7, q8, q9, hlt, w1]
    | cons x rest =>
      obtain ⟨hlt, hg, hpl⟩ := idx_at e
      have hw := idx_next e mx
      have hx : x ∈ cs := by simp [e]
      have hc := fun o ro df => ih x hx o ro df
      have y1 := cu_take x
      have y2 := cu_can x
      have y3 := culen x
      have y4 := cu_one x
      have p1 := csz_pos x
      have p2 := cszL_pos rest
      have p3 := cdp_pos x
      have p4 := cdp_csz x
      simp only [cszL] at n1
      have wr : True := trivial
      by_cases hm : cdp x > n
      · simp -implicitDefEqProofs [hfr, q3, q7, q8, q9, hlt, hg, hpl, hw, hc, hlo, hm, y1, y2, y3, y4, cset, setO_last, getO_last, -List.getElem_map, -getElem?_pos, List.getElem?_cons_zero]
        refine ⟨rest, by simp, pre ++ [x], by simp [e], by simp, ?_⟩
        (repeat' apply And.intro) <;> first | omega | (rw [hn]; simp only [cdpL]; (repeat' split) <;> omega)
      · simp -implicitDefEqProofs [hfr, q3, q7, q8, q9, hlt, hg, hpl, hw, hc, hlo, hm, y1, y2, y3, y4, cset, setO_last, getO_last, -List.getElem_map, -getElem?_pos, List.getElem?_cons_zero]
        refine ⟨rest, by simp, pre ++ [x], by simp [e], by simp, ?_⟩
        (repeat' apply And.intro) <;> first | omega | (rw [hn]; simp only [cdpL]; (repeat' split) <;> omega)
termination_by t => SizeOf.sizeOf t
decreasing_by
  have := List.sizeOf_lt_of_mem hx
  simp
  omega

theorem rSize_eq : ∀ (c : Cu), c.ok → csz c ≤ 1000000 → ∀ (o : List Obj) (ro : Nat) (df : List Nat), (D T).call 14 [c.av] ⟨o, ro, df⟩ = some (.int .i64 (csz c), ⟨o, ro, df⟩)
  | .mk kd fr0 by0 dv kk ms cs, hok, hs, o, ro, df => by
    simp only [Cu.ok] at hok
    obtain ⟨_, _, _, _, _, _, o4, o5⟩ := hok
    have hl := okCu_iff.1 o5
    unfold mxB at o4
    have mx : cs.length ≤ 9223372036854775807 := by omega
    simp only [csz] at hs
    have hsz : ∀ x ∈ cs, csz x ≤ cszL cs := fun x hx => csz_mem hx
    have hdz : ∀ x : Cu, cdp x ≤ csz x := cdp_csz
    have ih := fun x (hx : x ∈ cs) o ro df => rSize_eq x (hl x hx) (by have := hsz x hx; omega) o ro df
    have hE : csz (.mk kd fr0 by0 dv kk ms cs) = 1 + cszL cs := rfl
    generalize csz (.mk kd fr0 by0 dv kk ms cs) = R at hE ⊢
    simp only [Cu.av] at ih
    apply call_by (by exact rfl : T 14 = some _) (by simp)
    intro fr hfr hsl
    have s0 := hsl 0 _ rfl
    simp only [Cu.av, Cu.cells_mk] at s0
    simp -implicitDefEqProofs [hfr, s0, get_base0, -getElem?_pos, List.getElem?_cons_zero]
    apply loop_inv L14_0.eq_1 List.length (fun (rest : List Cu) fr st => ∃ pre n, cs = pre ++ rest ∧ fr.length = 21 ∧ slot fr 1 = .ptr o.length 0 0 ∧ slot fr 3 = .int .i64 n ∧ slot fr 4 = .int .i64 (pre.length : Int) ∧
      st = ⟨o ++ [.arr 29 7 [[.int .i64 kd, .sl 1 (intA fr0), .sl 1 (intA by0), .int .i64 dv, .int .i64 kk, .sl 2 (moA ms), .sl 7 (cs.map Cu.cells)]]], o.length, []⟩ ∧ 0 ≤ n ∧ n ≤ 1000001 - cszL rest ∧ R = n + cszL rest) ?_ cs ⟨[], 1, rfl, by simp [hfr], by simp [hfr], by simp [hfr], by simp [hfr], rfl, by omega, by omega, by omega⟩
    clear hfr s0 hsl
    clear fr
    rintro rest fr _ ⟨pre, n, e, hfr, q1, q3, q4, rfl, n0, n1, hn⟩
    cases rest with
    | nil =>
      have hlt := idx_end e
      simp only [cszL, Int.add_zero] at hn
      simp -implicitDefEqProofs [hfr, q1, q3, q4, hlt, get_base0, -getElem?_pos, List.getElem?_cons_zero, hn]
    | cons x rest =>
      obtain ⟨hlt, hg, hpl⟩ := idx_at e
      have hw := idx_next e mx
      have hx : x ∈ cs := by simp [e]
      have hc := fun o ro df => ih x hx o ro df
      have y1 := cu_take x
      have y2 := cu_can x
      have y3 := culen x
      have p1 := csz_pos x
      have p2 := cszL_pos rest
      have p3 := cdp_pos x
      have p4 := cdp_csz x
      have hxs := hsz x hx
      simp only [cszL] at n1
      have wr : IntKind.i64.wrap (n + csz x) = n + csz x := wrap_id (by omega) (by omega)
      simp -implicitDefEqProofs [hfr, q1, q3, q4, hlt, get_base0, hg, hpl, hw, hc, y1, y2, y3, wr, -List.getElem_map, -getElem?_pos, List.getElem?_cons_zero]
      exact ⟨rest, by simp, pre ++ [x], by simp [e], by simp, by omega, by omega, by simp only [cszL] at hn; omega⟩
termination_by t => SizeOf.sizeOf t
decreasing_by
  have := List.sizeOf_lt_of_mem hx
  simp
  omega

theorem rDepth_eq : ∀ (c : Cu), c.ok → csz c ≤ 1000000 → ∀ (o : List Obj) (ro : Nat) (df : List Nat), (D T).call 16 [c.av] ⟨o, ro, df⟩ = some (.int .i64 (cdp c), ⟨o, ro, df⟩)
  | .mk kd fr0 by0 dv kk ms cs, hok, hs, o, ro, df => by
    simp only [Cu.ok] at hok
    obtain ⟨_, _, _, _, _, _, o4, o5⟩ := hok
    have hl := okCu_iff.1 o5
    unfold mxB at o4
    have mx : cs.length ≤ 9223372036854775807 := by omega
    simp only [csz] at hs
    have hsz : ∀ x ∈ cs, csz x ≤ cszL cs := fun x hx => csz_mem hx
    have hdz : ∀ x : Cu, cdp x ≤ csz x := cdp_csz
    have ih := fun x (hx : x ∈ cs) o ro df => rDepth_eq x (hl x hx) (by have := hsz x hx; omega) o ro df
    have hE : cdp (.mk kd fr0 by0 dv kk ms cs) = 1 + cdpL cs := rfl
    generalize cdp (.mk kd fr0 by0 dv kk ms cs) = R at hE ⊢
    simp only [Cu.av] at ih
    apply call_by (by exact rfl : T 16 = some _) (by simp)
    intro fr hfr hsl
    have s0 := hsl 0 _ rfl
    simp only [Cu.av, Cu.cells_mk] at s0
    simp -implicitDefEqProofs [hfr, s0, get_base0, -getElem?_pos, List.getElem?_cons_zero]
    apply loop_inv L16_0.eq_1 List.length (fun (rest : List Cu) fr st => ∃ pre n, cs = pre ++ rest ∧ fr.length = 22 ∧ slot fr 1 = .ptr o.length 0 0 ∧ slot fr 3 = .int .i64 n ∧ slot fr 4 = .int .i64 (pre.length : Int) ∧
      st = ⟨o ++ [.arr 29 7 [[.int .i64 kd, .sl 1 (intA fr0), .sl 1 (intA by0), .int .i64 dv, .int .i64 kk, .sl 2 (moA ms), .sl 7 (cs.map Cu.cells)]]], o.length, []⟩ ∧ 0 ≤ n ∧ n ≤ 1000001 - cszL rest ∧ R = (if n < 1 + cdpL rest then 1 + cdpL rest else n) ∧ 1 ≤ n) ?_ cs ⟨[], 1, rfl, by simp [hfr], by simp [hfr], by simp [hfr], by simp [hfr], rfl, by omega, by omega, by rw [hE]; have := cdpL_pos cs; constructor <;> (try split) <;> omega⟩
    clear hfr s0 hsl
    clear fr
    rintro rest fr _ ⟨pre, n, e, hfr, q1, q3, q4, rfl, n0, n1, hn⟩
    cases rest with
    | nil =>
      have hlt := idx_end e
      obtain ⟨hn, hn1⟩ := hn
      simp only [cdpL] at hn
      have hn2 : n = R := by rw [hn]; (repeat' split) <;> omega
      simp -implicitDefEqProofs [hfr, q1, q3, q4, hlt, get_base0, -getElem?_pos, List.getElem?_cons_zero, hn2]
    | cons x rest =>
      obtain ⟨hlt, hg, hpl⟩ := idx_at e
      have hw := idx_next e mx
      have hx : x ∈ cs := by simp [e]
      have hc := fun o ro df => ih x hx o ro df
      have y1 := cu_take x
      have y2 := cu_can x
      have y3 := culen x
      have p1 := csz_pos x
      have p2 := cszL_pos rest
      have p3 := cdp_pos x
      have p4 := cdp_csz x
      have hxs := hsz x hx
      simp only [cszL] at n1
      obtain ⟨hn, hn1⟩ := hn
      have wr : IntKind.i64.wrap (1 + cdp x) = 1 + cdp x := wrap_id (by omega) (by omega)
      by_cases hm : 1 + cdp x > n
      · simp -implicitDefEqProofs [hfr, q1, q3, q4, hlt, get_base0, hg, hpl, hw, hc, y1, y2, y3, wr, hm, -List.getElem_map, -getElem?_pos, List.getElem?_cons_zero]
        refine ⟨rest, by simp, pre ++ [x], by simp [e], by simp, ?_⟩
        (repeat' apply And.intro) <;> first | omega | (rw [hn]; simp only [cdpL]; (repeat' split) <;> omega)
      · simp -implicitDefEqProofs [hfr, q1, q3, q4, hlt, get_base0, hg, hpl, hw, hc, y1, y2, y3, wr, hm, -List.getElem_map, -getElem?_pos, List.getElem?_cons_zero]
        refine ⟨rest, by simp, pre ++ [x], by simp [e], by simp, ?_⟩
        (repeat' apply And.intro) <;> first | omega | (rw [hn]; simp only [cdpL]; (repeat' split) <;> omega)
termination_by t => SizeOf.sizeOf t
decreasing_by
  have := List.sizeOf_lt_of_mem hx
  simp
  omega

end Go.Proofs.Ytgabnhmjlhhojaa.A
