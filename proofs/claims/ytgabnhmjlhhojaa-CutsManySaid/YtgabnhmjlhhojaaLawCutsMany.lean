/- CutsMany: for any such input the law's function answers true. No condition beyond the given statement's. -/
import Derived.Test.YtgabnhmjlhhojaaQ16
import Derived.Test.YtgabnhmjlhhojaaZ7
import Derived.Test.YtgabnhmjlhhojaaG
namespace Go.Proofs.Ytgabnhmjlhhojaa.A
open Go
set_option maxRecDepth 10000
set_option linter.unusedSimpArgs false
set_option linter.unusedVariables false
attribute [-simp] List.all_eq_true put slot_def ld idxA lenOf elems canA app hand slc add64A

/-! a chain of sums -/
def chn : Nat → Cu
  | 0 => .mk 1 [0] [] 0 0 [] []
  | d + 1 => .mk 2 [0] [1] 1 0 [] [chn d]
theorem inL_nil : inL [] := ⟨by simp, by simp [mxB]⟩
theorem chn_ok : ∀ d, (chn d).ok
  | 0 => by simp only [chn, Cu.ok, okCu, inL, moL, mxB]; simp [inI]
  | d + 1 => by simp only [chn, Cu.ok, okCu, inL, moL, mxB]; refine ⟨by simp [inI], by simp [inI], by simp [inI], by simp [inI], by simp [inI], by simp, by simp, chn_ok d, trivial⟩
theorem chn_sm : ∀ d, (chn d).sm
  | 0 => by simp [chn, Cu.sm, smCu]
  | d + 1 => by simp [chn, Cu.sm, smCu, chn_sm d]
theorem chn_pe : ∀ d, pe (chn d) = 0
  | 0 => by simp [chn, pe, peL, er31, ar31]
  | d + 1 => by simp [chn, pe, peL, er31, ar31, chn_pe d]
theorem chn_sz : ∀ d, csz (chn d) = d + 1 ∧ cdp (chn d) = d + 1
  | 0 => by simp [chn, csz, cdp, cszL, cdpL]
  | d + 1 => by
    have h := chn_sz d
    simp [chn, csz, cdp, cszL, cdpL, h.1, h.2]; omega

theorem isum_iz : iSumP [iz] [1] 1 = (iz, 0) := by decide +kernel
theorem iabs_iz : iabs iz = false := by decide +kernel
theorem some_iz (n : Nat) (hn : 0 < n) : someA (List.replicate n iz) [0] [] = ([iz], 0) := by
  have : (List.replicate n iz).getD 0 iz = iz := by cases n with
    | zero => omega
    | succ n => rfl
  simp [someA, hn, this]

theorem chn_ck : ∀ (d n : Nat) (w : List Int), 0 < n → n ≤ 1024 → ckC (chn d) (List.replicate n iz) w = if n + d ≤ 1024 then (w ++ List.replicate d 0, 30) else (w ++ List.replicate (1024 - n) 0, 2)
  | 0, n, w, h0, h1 => by
    have ha : askA (List.replicate n iz) (chn 0) = ([], 30) := by
      simp [chn, askA, endE, some_iz n h0, iabs_iz]
    rw [chn] at ha
    rw [chn, ckC, ha, if_pos (by simp), if_pos (by omega)]
    simp
  | d + 1, n, w, h0, h1 => by
    have ih := chn_ck d (n + 1) (w ++ [0]) (by omega)
    by_cases hn : n = 1024
    · have ha : askA (List.replicate n iz) (chn (d + 1)) = ([iz], 2) := by
        simp [chn, askA, sumA, some_iz n h0, isum_iz, fullE, show 1024 ≤ n by omega]
      rw [chn] at ha
      rw [chn, ckC, ha, if_pos (by simp), if_neg (by omega), show 1024 - n = 0 by omega]
      simp
    · have ha : askA (List.replicate n iz) (chn (d + 1)) = ([iz], 0) := by
        have : ¬ 1024 ≤ n := by omega
        simp [chn, askA, sumA, some_iz n h0, isum_iz, fullE, this]
      have ih := ih (by omega)
      have e1 : List.replicate n iz ++ [[iz].getD 0 iz] = List.replicate (n + 1) iz := by rw [List.replicate_succ']; rfl
      rw [chn] at ha
      rw [chn, ckC, ha, if_neg (by simp)]
      simp only [ckL]
      rw [e1, show ((0 : Nat) : Int) = 0 by rfl, ih]
      have e2 : ∀ k, w ++ [0] ++ List.replicate k (0 : Int) = w ++ List.replicate (k + 1) 0 := fun k => by rw [List.append_assoc, List.replicate_succ]; rfl
      by_cases hd : n + 1 + d ≤ 1024
      · rw [if_pos hd, if_pos (by simp), if_pos (by omega), e2]
      · rw [if_neg hd, if_pos (by simp), if_neg (by omega), e2, show 1024 - (n + 1) + 1 = 1024 - n by omega]

theorem cloneI_f (x : Int) (st : St) : (D T).call 41 [.fsl 1 [[.int .i64 x]]] st = some (.sl 1 [[.int .i64 x]], st) := by
  rw [D_ext _ _ (by rfl)]; rfl
theorem cloneJ_f (x : Int) (st : St) : (D T).call 42 [.fsl 1 [[.int .i64 x]]] st = some (.sl 1 [[.int .i64 x]], st) := by
  rw [D_ext _ _ (by rfl)]; rfl

theorem csumF_eq (c : Cu) (o : List Obj) (ro : Nat) (df : List Nat) :
    (D T).call 23 [.fsl 1 [[.int .i64 0]], .fsl 1 [[.int .i64 1]], .int .i64 1, .agg c.cells] ⟨o, ro, df⟩ = some (.agg (Cu.mk 2 [0] [1] 1 0 [] [c]).cells, ⟨o, ro, df⟩) := by
  have c1 := fun st => cloneI_f 0 st
  have c2 := fun st => cloneJ_f 1 st
  have f3 := cuflat c
  have x1 := cu_take c
  have x2 := cu_can c
  have x3 := culen c
  have x4 := cu_one c
  apply call_by (by exact rfl : T 23 = some _) (by simp)
  intro fr hfr hsl
  have s0 := hsl 0 _ rfl
  have s1 := hsl 1 _ rfl
  have s2 := hsl 2 _ rfl
  have s3 := hsl 3 _ rfl
  have em : moA [] = [] := rfl
  have e1 : intA [0] = [[.int .i64 0]] := rfl
  have e2 : intA [1] = [[.int .i64 1]] := rfl
  have g1 : ∀ x : Int, AV.stillL [AV.fsl 1 [[.int .i64 x]]] = true := fun x => rfl
  simp -implicitDefEqProofs [hfr, s0, s1, s2, s3, g1, c1, c2, f3, x1, x2, x3, x4, get_base0, get_base, set_base0, set_base, Cu.cells_mk, em, e1, e2, -getElem?_pos, List.getElem?_cons_zero, List.getElem?_cons_succ]

theorem law_many31 (m d : Int) (hm : 0 ≤ m ∧ m < 65536) (hd : 0 ≤ d ∧ d < 65536) : (D T).call 5 [.int .u16 m, .int .u16 d] st0 = some (.bool true, st0) := by
  have al := fun o ro df => goes_any o ro df
  obtain ⟨n, hn⟩ : ∃ n : Nat, (n : Int) = 1000 + m.tmod 30 := ⟨(1000 + m.tmod 30).toNat, by have := Int.tmod_eq_emod_of_nonneg (b := 30) hm.1; omega⟩
  obtain ⟨k, hk⟩ : ∃ k : Nat, (k : Int) = d.tmod 40 := ⟨(d.tmod 40).toNat, by have := Int.tmod_eq_emod_of_nonneg (b := 40) hd.1; omega⟩
  have n1 : 1000 ≤ n ∧ n ≤ 1029 := by have := Int.tmod_eq_emod_of_nonneg (b := 30) hm.1; omega
  have k1 : k < 40 := by have := Int.tmod_eq_emod_of_nonneg (b := 40) hd.1; omega
  have w1 : IntKind.i64.wrap m = m := wrap_id (by omega) (by omega)
  have w2 : IntKind.i64.wrap d = d := wrap_id (by omega) (by omega)
  have w3 : IntKind.i64.wrap (1000 + m.tmod 30) = (n : Int) := by rw [← hn]; exact wrap_id (by omega) (by omega)
  have w4 : IntKind.i64.wrap ((n : Int) + (k : Int)) = (n : Int) + (k : Int) := wrap_id (by omega) (by omega)
  have w5 : IntKind.i64.wrap (1024 - (n : Int)) = 1024 - (n : Int) := wrap_id (by omega) (by omega)
  have hend := fun o ro df => cend_eq 0 o ro df
  have hsum := fun c o ro df => csumF_eq c o ro df
  have hmap : (List.replicate n iz).map iqA = List.replicate n [.int .i64 0, .sl 2 [], .bool false] := by simp [iqA, iz, moA]
  have hL : ∀ q ∈ List.replicate n iz, LiOk q.1 := fun q hq => by rw [List.eq_of_mem_replicate hq]; exact iz_ok
  have hany : ((List.replicate n iz).any fun q => !lok q.1) = false := List.any_eq_false.2 fun q hq => by rw [List.eq_of_mem_replicate hq]; decide +kernel
  have hrt : rtC (chn k) = 0 := by unfold rtC; rw [(chn_sz k).1, (chn_sz k).2, chn_pe, if_neg (by omega), if_neg (by omega)]
  have hck := fun o ro df => cCheck_eq (List.replicate n iz) (by simp; omega) hL (chn k) (chn_ok k) (chn_sm k) (by rw [(chn_sz k).1]; omega) (.fsl 3 ((List.replicate n iz).map iqA)) (.inr rfl) o ro df
  rw [hmap] at hck
  have hE : ckT (List.replicate n iz) (chn k) = if 1024 < n then ([], 2) else if n + k ≤ 1024 then (List.replicate k 0, 30) else (List.replicate (1024 - n) 0, 2) := by
    unfold ckT
    rw [hany, hrt, List.length_replicate]
    by_cases h : 1024 < n
    · rw [if_pos h, if_pos h]
    · rw [if_neg h, if_neg h, if_neg (by simp), if_neg (by simp), chn_ck k n [] (by omega) (by omega)]
      simp
  rw [hE] at hck
  clear hE hmap hL hany hrt
  have hlo := fun (Q : AE → List AV → St → Prop) (fr : List AV) (A : AV) (hfr : fr.length = 76) (q5 : slot fr 5 = .int .i64 (n : Int)) (q6 : slot fr 6 = .int .i64 (k : Int)) (q7 : slot fr 7 = A) (q8 : slot fr 8 = .ptr 0 0 0) (q9 : slot fr 9 = .int .i64 0)
    (kk : ∀ fr', fr'.length = 76 → slot fr' 5 = .int .i64 (n : Int) → slot fr' 6 = .int .i64 (k : Int) → slot fr' 7 = A → slot fr' 8 = .ptr 0 0 0 → Q (.exit 0) fr' ⟨[Obj.arr 29 7 [(chn k).cells]], 0, []⟩) =>
    show ∃ e fr' st', (D T).loop false L5_0 fr ⟨[Obj.arr 29 7 [(chn 0).cells]], 0, []⟩ = some (e, fr', st') ∧ Q e fr' st' from by
      apply loop_inv L5_0.eq_1 (fun (i : Nat) => k - i) (fun (i : Nat) fr st => i ≤ k ∧ fr.length = 76 ∧ slot fr 5 = .int .i64 (n : Int) ∧ slot fr 6 = .int .i64 (k : Int) ∧ slot fr 7 = A ∧ slot fr 8 = .ptr 0 0 0 ∧ slot fr 9 = .int .i64 (i : Int) ∧ st = ⟨[Obj.arr 29 7 [(chn i).cells]], 0, []⟩) ?_ 0
        ⟨by omega, hfr, q5, q6, q7, q8, q9, rfl⟩
      clear hfr q5 q6 q7 q8 q9
      clear fr
      rintro i fr _ ⟨hi, hfr, q5, q6, q7, q8, q9, rfl⟩
      by_cases hik : i = k
      · subst hik
        simp -implicitDefEqProofs [hfr, q5, q6, q7, q8, q9]
        exact kk _ (by simp [hfr]) (by simp [hfr, q5]) (by simp [hfr, q6]) (by simp [hfr, q7]) (by simp [hfr, q8])
      · have hlt : (i : Int) < (k : Int) := by omega
        have wi : IntKind.i64.wrap ((i : Int) + 1) = (i : Int) + 1 := wrap_id (by omega) (by omega)
        have hs := fun o ro df => hsum (chn i) o ro df
        have hc : (Cu.mk 2 [0] [1] 1 0 [] [chn i]).cells = (chn (i + 1)).cells := rfl
        rw [hc] at hs
        have y1 := cu_take (chn i)
        have y2 := cu_can (chn i)
        have y3 := culen (chn i)
        have z1 := cu_take (chn (i + 1))
        have z2 := cu_can (chn (i + 1))
        have z3 := culen (chn (i + 1))
        have z4 := cu_one (chn (i + 1))
        have c0 : setMany (chn i).cells 0 (chn (i + 1)).cells = (chn (i + 1)).cells := set_all _ _ (by rw [y3, z3])
        generalize hC1 : (chn i).cells = C1 at *
        generalize hC2 : (chn (i + 1)).cells = C2 at *
        simp -implicitDefEqProofs [hfr, q5, q6, q7, q8, q9, hlt, wi, hs, y1, y2, y3, z1, z2, z3, z4, c0, -getElem?_pos, List.getElem?_cons_zero, List.getElem?_cons_succ]
        exact ⟨i + 1, by omega, by omega, by simp, by rw [← hC2]⟩
  have hc0 : (Cu.mk 1 [0] [] 0 0 [] []).av = .agg (chn 0).cells := rfl
  rw [hc0] at hend
  have y1 := cu_take (chn 0)
  have y2 := cu_can (chn 0)
  have y3 := culen (chn 0)
  have y4 := cu_one (chn 0)
  have z1 := cu_take (chn k)
  have z2 := cu_can (chn k)
  have z3 := culen (chn k)
  have e0 : [AV.int IntKind.i64 0, .fsl 1 [], .fsl 1 [], .int .i64 0, .int .i64 0, .fsl 2 [], .fsl 7 []].length = 7 := rfl
  have c0 : setMany [AV.int IntKind.i64 0, .fsl 1 [], .fsl 1 [], .int .i64 0, .int .i64 0, .fsl 2 [], .fsl 7 []] 0 (chn 0).cells = (chn 0).cells := set_all _ _ (by rw [y3]; rfl)
  generalize (chn 0).cells = C0 at *
  generalize (chn k).cells = CK at *
  obtain ⟨A, hA⟩ : ∃ A, A = AV.fsl 3 (List.replicate n [.int .i64 0, .sl 2 [], .bool false]) := ⟨_, rfl⟩
  have hcA : canA A = A := by rw [hA]; rfl
  rw [← hA] at hck
  apply call_by (by exact rfl : T 5 = some _) (by simp)
  intro fr hfr hsl
  have s0 := hsl 0 _ rfl
  have s1 := hsl 1 _ rfl
  simp -implicitDefEqProofs [hfr, s0, s1, st0, w1, w2, w3, ← hk, ← hA, hend, y1, y2, y3, y4, c0, show (0 : Int) ≤ n by omega, show (n : Int) ≤ 1000000 by omega, -getElem?_pos, List.getElem?_cons_zero, List.getElem?_cons_succ]
  refine hlo _ _ A (by simp [hfr]) (by simp [hfr]) (by simp [hfr]) (by simp [hfr]) (by simp [hfr]) (by simp [hfr]) ?_
  clear hfr s0 s1 hsl hlo
  clear fr
  intro fr hfr q5 q6 q7 q8
  by_cases h1 : 1024 < n
  · rw [if_pos h1] at hck
    have h1' : (1024 : Int) < n := by omega
    have e1 : intA [] = [] := rfl
    simp only [e1] at hck
    simp -implicitDefEqProofs [hfr, q5, q6, q7, q8, hck, hcA, h1', al, z1, z2, z3, -getElem?_pos, List.getElem?_cons_zero, List.getElem?_cons_succ]
  · rw [if_neg h1] at hck
    have h1' : ¬ (1024 : Int) < n := by omega
    by_cases h2 : n + k ≤ 1024
    · rw [if_pos h2] at hck
      have h2' : ¬ (1024 : Int) < (n : Int) + k := by omega
      have e1 : (intA (List.replicate k 0)).length = k := by rw [intA_len]; simp
      simp only [] at hck
      generalize intA (List.replicate k 0) = W at *
      simp -implicitDefEqProofs [hfr, q5, q6, q7, q8, hck, hcA, h1', h2', w4, e1, al, z1, z2, z3, -getElem?_pos, List.getElem?_cons_zero, List.getElem?_cons_succ]
    · rw [if_neg h2] at hck
      have h2' : (1024 : Int) < (n : Int) + k := by omega
      have e1 : (intA (List.replicate (1024 - n) 0)).length = 1024 - n := by rw [intA_len]; simp
      have e2 : ((1024 - n : Nat) : Int) = 1024 - (n : Int) := by omega
      simp only [] at hck
      generalize intA (List.replicate (1024 - n) 0) = W at *
      have e3 : (W.length : Int) = 1024 - (n : Int) := by rw [e1, e2]
      simp -implicitDefEqProofs [hfr, q5, q6, q7, q8, hck, hcA, h1', h2', w4, w5, e3, al, z1, z2, z3, -getElem?_pos, List.getElem?_cons_zero, List.getElem?_cons_succ]

theorem law_many31N (m d : Nat) (hm : (m : Int) ≤ 65535) (hd : (d : Int) ≤ 65535) : (D T).call 5 [.int .u16 (m : Int), .int .u16 (d : Int)] st0 = some (.bool true, st0) :=
  law_many31 m d (by omega) (by omega)

end Go.Proofs.Ytgabnhmjlhhojaa.A
