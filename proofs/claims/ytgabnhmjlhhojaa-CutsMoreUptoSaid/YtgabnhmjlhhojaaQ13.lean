/- What is known at a part: a sum, and a split. -/
import Derived.Test.YtgabnhmjlhhojaaQ12
namespace Go.Proofs.Ytgabnhmjlhhojaa.A
open Go
set_option maxRecDepth 10000
set_option linter.unusedSimpArgs false
set_option linter.unusedVariables false
attribute [-simp] List.all_eq_true put slot_def ld idxA lenOf elems canA app hand add64A

def sumA (l : List Iq) (ns by0 : List Int) (dv : Int) : List Iq × Int :=
  if (someA l ns []).2 ≠ 0 then ([], (someA l ns []).2) else if (iSumP (someA l ns []).1 by0 dv).2 ≠ 0 then ([], (iSumP (someA l ns []).1 by0 dv).2) else ([(iSumP (someA l ns []).1 by0 dv).1], fullE l)
theorem sum_eq (l : List Iq) (hl : l.length ≤ 1000000) (hL : ∀ q ∈ l, LiOk q.1) (v : AV) (kd : Int) (fr0 by0 : List Int) (dv k : Int) (ms : List (Int × Int)) (cs : List Cu) (hfr0 : fr0.length ≤ 1000000) (hb : by0.length ≤ 1000000) (hbi : ∀ x ∈ by0, inI64 x) (o : List Obj) (hv : Fs o v (l.map iqA)) (ro : Nat) (df : List Nat) :
    (D T).call 56 [v, (Cu.mk kd fr0 by0 dv k ms cs).av] ⟨o, ro, df⟩ = some (.tup [.sl 3 ((sumA l fr0 by0 dv).1.map iqA), .int .i64 (sumA l fr0 by0 dv).2], ⟨o, ro, df⟩) := by
  have hs := fun m ro df => some_eq l hl fr0 hfr0 (o ++ m) v (hv.lsp m) ro df
  have hlen := someA_len l fr0 []
  have hmem := someA_mem l fr0 []
  have hfu := fun m ro df => full_eq l (o ++ m) v (hv.lsp m) ro df
  have hcan := hv.ls.can
  unfold sumA
  generalize someA l fr0 [] = S at *
  obtain ⟨A, E⟩ := S
  simp only at hs hlen hmem ⊢
  have hCm : (Cu.mk kd fr0 by0 dv k ms cs).av = .agg [.int .i64 kd, .sl 1 (intA fr0), .sl 1 (intA by0), .int .i64 dv, .int .i64 k, .sl 2 (moA ms), .sl 7 (cs.map Cu.cells)] := by simp only [Cu.av, Cu.cells_mk]
  rw [hCm]
  apply call_by (by exact rfl : T 56 = some _) (by simp)
  intro fr hfr hsl
  have s0 := hsl 0 _ rfl
  have s1 := hsl 1 _ rfl
  by_cases hE : E = 0
  · subst hE
    have hl1 := hlen rfl
    have hS := fun o ro df => iSum_eq A by0 dv (fun q hq => hL q (by rcases hmem q hq with h | h; exact h; simp at h)) hbi (by simp at hl1; omega) hb o (.sl 3 (A.map iqA)) (.sl 1 (intA by0)) (ls_sl _) (ls_sl _) ro df
    rw [if_neg (by simp)]
    generalize iSumP A by0 dv = U at *
    obtain ⟨q, E2⟩ := U
    simp only at hS ⊢
    have hQ : iqA q = [.int .i64 q.1.1, .sl 2 (moA q.1.2), .bool q.2] := rfl
    have hM : [q].map iqA = [iqA q] := rfl
    have hfl := moA_flat q.1.2
    generalize fullE l = Fu at *
    rw [hQ] at hS
    by_cases hE2 : E2 = 0
    · subst hE2
      rw [if_neg (by simp)]
      simp only []
      rw [hM, hQ]
      generalize moA q.1.2 = M2 at *
      generalize intA fr0 = F at *
      generalize intA by0 = B at *
      generalize moA ms = M at *
      generalize cs.map Cu.cells = C at *
      generalize A.map iqA = A2 at *
      simp -implicitDefEqProofs [hfr, s0, s1, hs, hcan, hS, hfu, hfl, get_base0, get_base, set_base0, set_base, -getElem?_pos, List.getElem?_cons_zero, List.getElem?_cons_succ]
    · have hEb : (E2 != 0) = true := by simpa using hE2
      rw [if_pos hE2]
      generalize moA q.1.2 = M2 at *
      generalize intA fr0 = F at *
      generalize intA by0 = B at *
      generalize moA ms = M at *
      generalize cs.map Cu.cells = C at *
      generalize A.map iqA = A2 at *
      simp -implicitDefEqProofs [hfr, s0, s1, hs, hcan, hS, hEb, get_base0, get_base, set_base0, set_base, -getElem?_pos, List.getElem?_cons_zero, List.getElem?_cons_succ]
  · have hEb : (E != 0) = true := by simpa using hE
    rw [if_pos hE]
    generalize intA fr0 = F at *
    generalize intA by0 = B at *
    generalize moA ms = M at *
    generalize cs.map Cu.cells = C at *
    simp -implicitDefEqProofs [hfr, s0, s1, hs, hcan, hEb, get_base0, -getElem?_pos, List.getElem?_cons_zero, List.getElem?_cons_succ]

def splitA (l : List Iq) (k : Int) (ms : List (Int × Int)) : List Iq × Int :=
  if lrE (k, ms) ≠ 0 then ([], 1) else if (inotP ((k, ms), false)).2 ≠ 0 then ([], (inotP ((k, ms), false)).2) else ([((k, ms), false), (inotP ((k, ms), false)).1], fullE l)
theorem split_eq (l : List Iq) (v : AV) (kd : Int) (fr0 by0 : List Int) (dv k : Int) (ms : List (Int × Int)) (cs : List Cu) (hm : LiOk (k, ms)) (o : List Obj) (hv : Fs o v (l.map iqA)) (ro : Nat) (df : List Nat) :
    (D T).call 57 [v, (Cu.mk kd fr0 by0 dv k ms cs).av] ⟨o, ro, df⟩ = some (.tup [.sl 3 ((splitA l k ms).1.map iqA), .int .i64 (splitA l k ms).2], ⟨o, ro, df⟩) := by
  have hr := fun o ro df => lRight_eq (k, ms) (by have h9 : ms.length ≤ 1000000 := hm.2.2; show ms.length ≤ _; omega) o ro df
  have hfu := fun m ro df => full_eq l (o ++ m) v (hv.lsp m) ro df
  have hcan := hv.ls.can
  have hno := fun o ro df => iNot_eq ((k, ms), false) hm o ro df
  have hCm : (Cu.mk kd fr0 by0 dv k ms cs).av = .agg [.int .i64 kd, .sl 1 (intA fr0), .sl 1 (intA by0), .int .i64 dv, .int .i64 k, .sl 2 (moA ms), .sl 7 (cs.map Cu.cells)] := by simp only [Cu.av, Cu.cells_mk]
  rw [hCm]
  unfold splitA
  generalize lrE (k, ms) = E at *
  generalize inotP ((k, ms), false) = U at *
  obtain ⟨q, E2⟩ := U
  simp only at hno ⊢
  have hQ : iqA q = [.int .i64 q.1.1, .sl 2 (moA q.1.2), .bool q.2] := rfl
  have hQ2 : iqA ((k, ms), false) = [.int .i64 k, .sl 2 (moA ms), .bool false] := rfl
  have hL : liA (k, ms) = [.int .i64 k, .sl 2 (moA ms)] := rfl
  have hM : [((k, ms), false), q].map iqA = [iqA ((k, ms), false), iqA q] := rfl
  have hfl := moA_flat q.1.2
  have hfm := moA_flat ms
  rw [hL] at hr
  rw [hQ, hQ2] at hno
  generalize fullE l = Fu at *
  apply call_by (by exact rfl : T 57 = some _) (by simp)
  intro fr hfr hsl
  have s0 := hsl 0 _ rfl
  have s1 := hsl 1 _ rfl
  by_cases hE : E = 0
  · subst hE
    rw [if_neg (by simp)]
    by_cases hE2 : E2 = 0
    · subst hE2
      rw [if_neg (by simp)]
      simp only []
      rw [hM, hQ, hQ2]
      generalize moA q.1.2 = M2 at *
      generalize intA fr0 = F at *
      generalize intA by0 = B at *
      generalize moA ms = M at *
      generalize cs.map Cu.cells = C at *
      simp -implicitDefEqProofs [hfr, s0, s1, hr, hcan, hno, hfu, hfl, hfm, get_base0, get_base, set_base0, set_base, -getElem?_pos, List.getElem?_cons_zero, List.getElem?_cons_succ]
    · have hEb : (E2 != 0) = true := by simpa using hE2
      rw [if_pos hE2]
      generalize moA q.1.2 = M2 at *
      generalize intA fr0 = F at *
      generalize intA by0 = B at *
      generalize moA ms = M at *
      generalize cs.map Cu.cells = C at *
      simp -implicitDefEqProofs [hfr, s0, s1, hr, hcan, hno, hEb, get_base0, get_base, set_base0, set_base, -getElem?_pos, List.getElem?_cons_zero, List.getElem?_cons_succ]
  · have hEb : (E != 0) = true := by simpa using hE
    rw [if_pos hE]
    generalize intA fr0 = F at *
    generalize intA by0 = B at *
    generalize moA ms = M at *
    generalize cs.map Cu.cells = C at *
    simp -implicitDefEqProofs [hfr, s0, s1, hr, hcan, hEb, get_base0, get_base, set_base0, set_base, -getElem?_pos, List.getElem?_cons_zero, List.getElem?_cons_succ]

end Go.Proofs.Ytgabnhmjlhhojaa.A
