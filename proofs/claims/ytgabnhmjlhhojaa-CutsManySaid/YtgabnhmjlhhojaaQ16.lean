/- cuts.Check. -/
import Derived.Test.YtgabnhmjlhhojaaQ15
namespace Go.Proofs.Ytgabnhmjlhhojaa.A
open Go
set_option maxRecDepth 10000
set_option linter.unusedSimpArgs false
set_option linter.unusedVariables false
attribute [-simp] List.all_eq_true put slot_def ld idxA lenOf elems canA app hand slc add64A

theorem ck1_eq (q : Iq) (hl : q.1.2.length ≤ 9223372036854775807) (o : List Obj) (ro : Nat) (df : List Nat) :
    (D T).call 36 [.agg (iqA q)] ⟨o, ro, df⟩ = some (.bool (!lok q.1), ⟨o, ro, df⟩) := by
  have h := fun o ro df => iRight_eq q hl o ro df
  have hE : (lrE q.1 != 0) = !lok q.1 := by unfold lrE; cases lok q.1 <;> rfl
  rw [← hE]
  generalize lrE q.1 = E at *
  have hQ : iqA q = [.int .i64 q.1.1, .sl 2 (moA q.1.2), .bool q.2] := rfl
  rw [hQ] at h ⊢
  generalize moA q.1.2 = M at *
  apply call_by (by exact rfl : T 36 = some _) (by simp)
  intro fr hfr hsl
  have s0 := hsl 0 _ rfl
  simp -implicitDefEqProofs [hfr, s0, h, get_base0, -getElem?_pos, List.getElem?_cons_zero]

/-- what a cut comes to -/
def rtC (c : Cu) : Int := if 1024 < cdp c then 6 else if 4096 < csz c then 2 else pe c
def ckT (l : List Iq) (c : Cu) : List Int × Int :=
  if 1024 < l.length then ([], 2) else if (l.any fun q => !lok q.1) = true then ([], 1) else if rtC c ≠ 0 then ([], rtC c) else ckC c l []

theorem cCheck_eq (l : List Iq) (hl : l.length ≤ 1000000) (hL : ∀ q ∈ l, LiOk q.1) (c : Cu) (hok : c.ok) (hsm : c.sm) (hs : csz c ≤ 1000000) (v : AV) (hv : Fs v (l.map iqA)) (o : List Obj) (ro : Nat) (df : List Nat) :
    (D T).call 19 [v, .agg c.cells] ⟨o, ro, df⟩ = some (.tup [.sl 1 (intA (ckT l c).1), .int .i64 (ckT l c).2], ⟨o, ro, df⟩) := by
  have hlen : lenOf v = some l.length := by simpa using (hv.ls o).len
  have hcv : canA v = v := (hv.ls o).can
  have y1 := cu_take c
  have y2 := cu_can c
  have y3 := culen c
  have y4 := cu_one c
  have hR := fun o ro df => cRight_eq c hok hs o ro df
  have hRc : (if 1024 < cdp c then (6 : Int) else if 4096 < csz c then 2 else pe c) = rtC c := rfl
  simp only [hRc, Cu.av] at hR
  have hany := fun (o : List Obj) ro df => hasIq_eq iqA (fun q : Iq => !lok q.1) l (by omega) 36 [] [] o v ro df (hv.ls o) (fun _ _ => rfl) (fun _ _ => rfl) (fun q hq ro df => ck1_eq q (by have := (hL q hq).2.2; omega) o ro df)
  have hE : ckT l c = if 1024 < l.length then ([], 2) else if (l.any fun q => !lok q.1) = true then ([], 1) else if rtC c ≠ 0 then ([], rtC c) else ckC c l [] := rfl
  generalize ckT l c = R at *
  generalize (l.any fun q => !lok q.1) = an at *
  have e0 : intA [] = [] := rfl
  apply call_by (by exact rfl : T 19 = some _) (by simp)
  intro fr hfr hsl
  have s0 := hsl 0 _ rfl
  have s1 := hsl 1 _ rfl
  by_cases h1 : 1024 < l.length
  · rw [if_pos h1] at hE
    subst hE
    have h2 : (1024 : Int) < l.length := by omega
    simp -implicitDefEqProofs [hfr, s0, s1, hlen, h2, h1, y1, y2, y3, y4, e0, get_base0, -getElem?_pos, List.getElem?_cons_zero, List.getElem?_cons_succ]
  rw [if_neg h1] at hE
  have h2 : ¬ (1024 : Int) < l.length := by omega
  cases an with
  | true =>
    rw [if_pos rfl] at hE
    subst hE
    simp -implicitDefEqProofs [hfr, s0, s1, hlen, hcv, h2, h1, hany, y1, y2, y3, y4, e0, get_base0, -getElem?_pos, List.getElem?_cons_zero, List.getElem?_cons_succ]
  | false =>
    rw [if_neg (by simp)] at hE
    by_cases h3 : rtC c = 0
    · rw [if_neg (by simpa using h3)] at hE
      rw [h3] at hR
      have hpe : pe c = 0 := by
        unfold rtC at h3
        split at h3
        · simp at h3
        · split at h3
          · simp at h3
          · exact h3
      have hdc := cdp_csz c
      obtain ⟨v', k1, k2⟩ := chk_eq c hok hsm hpe l (by omega) hL v (.fsl 1 []) [] (o ++ [Obj.arr 29 7 [c.cells]]) o.length [] hv (.inl ⟨rfl, rfl⟩) (by simp; omega)
      rw [← hE] at k1 k2
      have hf := intA_flat R.1
      rcases k2 with rfl | ⟨rfl, k2⟩
      · simp -implicitDefEqProofs [hfr, s0, s1, hlen, hcv, h2, h1, hany, hR, k1, y1, y2, y3, y4, hf, get_base0, -getElem?_pos, List.getElem?_cons_zero, List.getElem?_cons_succ]
      · rw [← k2, e0]
        simp -implicitDefEqProofs [hfr, s0, s1, hlen, hcv, h2, h1, hany, hR, k1, y1, y2, y3, y4, hf, get_base0, -getElem?_pos, List.getElem?_cons_zero, List.getElem?_cons_succ]
    · rw [if_pos h3] at hE
      subst hE
      have h3b : (rtC c != 0) = true := bne_iff_ne.2 h3
      simp -implicitDefEqProofs [hfr, s0, s1, hlen, hcv, h2, h1, hany, hR, h3b, y1, y2, y3, y4, e0, get_base0, -getElem?_pos, List.getElem?_cons_zero, List.getElem?_cons_succ]

end Go.Proofs.Ytgabnhmjlhhojaa.A
