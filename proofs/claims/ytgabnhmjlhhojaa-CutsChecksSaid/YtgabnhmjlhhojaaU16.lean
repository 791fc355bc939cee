/- The document's check and Check, as a whole. -/
import Derived.Test.YtgabnhmjlhhojaaQ16
namespace Go.Proofs.Ytgabnhmjlhhojaa.A
open Go
set_option maxRecDepth 10000
set_option linter.unusedSimpArgs false
set_option linter.unusedVariables false
attribute [-simp] List.all_eq_true put slot_def ld idxA lenOf elems canA app hand add64A

theorem rchk_eq : ∀ (c : Cu), c.ok → c.sm → pe c = 0 → cdp c ≤ 500000 → ∀ (l : List Iq), l.length ≤ 1024 → (∀ q ∈ l, LiOk q.1) → (∀ q ∈ l, lok q.1 = true) → ∀ (o : List Obj) (v : AV) (ro : Nat) (df : List Nat), FsG o 3 v (l.map iqA) →
    (D T).call 40 [v, .agg c.cells] ⟨o, ro, df⟩ = some (.agg (gtA (ckC c l [])), ⟨o, ro, df⟩)
  | .mk kd fr0 by0 dv k ms cs, hok, hsm, hpe, hd, l, hl, hL, hK, o, v, ro, df, hv => by
    have hE : ckC (.mk kd fr0 by0 dv k ms cs) l [] = if (askA l (.mk kd fr0 by0 dv k ms cs)).2 ≠ 0 then ([], (askA l (.mk kd fr0 by0 dv k ms cs)).2) else ckL cs l (askA l (.mk kd fr0 by0 dv k ms cs)).1 0 [] := by rw [ckC]
    have hA : askA l (.mk kd fr0 by0 dv k ms cs) = if kd = 2 then sumA l fr0 by0 dv else if kd = 3 then splitA l k ms else ([], endE l fr0) := rfl
    simp only [Cu.ok] at hok
    obtain ⟨o1, o2, o3, o4, o5, o6, _, o7⟩ := hok
    have hok' := okCu_iff.1 o7
    simp only [Cu.sm] at hsm
    obtain ⟨m1, m2, m3, m4, m5⟩ := hsm
    have hsm' := smCu_iff.1 m5
    obtain ⟨hk, hpl⟩ := pe_mk hpe
    have hpe' := peL_mem hpl
    simp only [cdp] at hd
    have h0 := cdpL_pos cs
    have hdl : ∀ x ∈ cs, cdp x ≤ cdpL cs := fun x hx => cdp_mem hx
    have hlm : LiOk (k, ms) := ⟨o5, fun m hm => o6.1 m hm, m3⟩
    have hbi : ∀ x ∈ by0, inI64 x := fun x hx => o3.1 x hx
    have ih : ∀ x ∈ cs, ∀ q : Iq, LiOk q.1 → lok q.1 = true → l.length < 1024 → ∀ (o' : List Obj) (v' : AV) (ro : Nat) (df : List Nat), FsG o' 3 v' ((l ++ [q]).map iqA) →
        (D T).call 40 [v', .agg x.cells] ⟨o', ro, df⟩ = some (.agg (gtA (ckC x (l ++ [q]) [])), ⟨o', ro, df⟩) :=
      fun x hx q hq1 hq2 hll o' v' ro df hv' => rchk_eq x (hok' x hx) (hsm' x hx) (hpe' x hx) (by have := hdl x hx; omega) (l ++ [q]) (by simp; omega)
        (fun p hp => by rcases List.mem_append.1 hp with hp | hp; exact hL p hp; rw [List.mem_singleton.1 hp]; exact hq1)
        (fun p hp => by rcases List.mem_append.1 hp with hp | hp; exact hK p hp; rw [List.mem_singleton.1 hp]; exact hq2) o' v' ro df hv'
    have hsub : ∀ (at' : Nat) (x : Cu), cs[at']? = some x → ∀ q : Iq, LiOk q.1 → lok q.1 = true → l.length < 1024 → ∀ (o' : List Obj) (ro : Nat) (df : List Nat), FsG o' 3 v (l.map iqA) →
        (D T).call 61 [v, .agg (iqA q), .agg (Cu.mk kd fr0 by0 dv k ms cs).cells, .int .i64 at'] ⟨o', ro, df⟩ = some (.agg (gtA (ckC x (l ++ [q]) [(at' : Int)])), ⟨o', ro, df⟩) :=
      fun at' x hx q hq1 hq2 hll o' ro df hv' => sub_eq l (by omega) q kd fr0 by0 dv k ms cs at' x hx m4 v o' hv'
        (by have h1 := ckC_len x (l ++ [q]) []; have h2 := hdl x (List.mem_of_getElem? hx); simp at h1; omega) (ih x (List.mem_of_getElem? hx) q hq1 hq2 hll) ro df
    have hnil : ∀ (c : Cu) (l : List Iq) (w : List Int), (if (ckC c l w).2 ≠ 0 then ckC c l w else ([], 0)) = ckC c l w := fun c l w => by
      by_cases h : (ckC c l w).2 = 0
      · rw [if_neg (by simpa using h)]; exact (Prod.ext (ckC_nil c l w h) h).symm
      · rw [if_pos h]
    rw [hE]
    rcases hk with ⟨rfl, k1, k2⟩ | ⟨rfl, k1, k2, k3⟩ | ⟨rfl, k1⟩
    · rw [if_neg (by omega), if_neg (by omega)] at hA
      have : cs = [] := List.eq_nil_of_length_eq_zero k1
      subst this
      rw [hA]
      have e : (if (([], endE l fr0) : List Iq × Int).2 ≠ 0 then (([] : List Int), (([], endE l fr0) : List Iq × Int).2) else ckL [] l (([], endE l fr0) : List Iq × Int).1 0 []) = ([], endE l fr0) := by
        by_cases h : endE l fr0 = 0
        · rw [if_neg (by simpa using h), h]; rfl
        · rw [if_pos h]
      rw [e]
      exact rchk_end l (by omega) hK fr0 by0 k2 dv k ms [] o v hv ro df
    · rw [if_pos rfl] at hA
      obtain ⟨c1, rfl⟩ := len1 k1
      rw [hA]
      have hq : (sumA l fr0 by0 dv).2 = 0 → (sumA l fr0 by0 dv).1 = [(iSumP (someA l fr0 []).1 by0 dv).1] ∧ (iSumP (someA l fr0 []).1 by0 dv).2 = 0 ∧ l.length < 1024 := fun h => by
        have h1 := sumA_ok h
        unfold sumA at h ⊢
        split at h
        · rename_i hh; exact absurd h hh
        · rename_i g1
          split at h
          · rename_i hh; exact absurd h hh
          · rename_i g2
            rw [if_neg g1, if_neg g2]
            exact ⟨rfl, Decidable.not_not.1 g2, h1.2.1⟩
      refine rchk_sum l hl hL fr0 by0 m1 m2 hbi dv k o4 ms c1 o v hv _ ?_ ?_ ro df
      · by_cases h : (sumA l fr0 by0 dv).2 = 0
        · rw [if_neg (by simpa using h), if_neg (by simpa using h), (hq h).1]
          simp only [ckL, List.nil_append]
          exact hnil _ _ _
        · rw [if_pos h, if_pos h]
      · intro h o' ro df hv'
        exact hsub 0 c1 rfl _ (iSumP_ok _ _ _) (iSumP_lok _ _ _ (hq h).2.1) (hq h).2.2 o' ro df hv'
    · rw [if_neg (by omega), if_pos rfl] at hA
      obtain ⟨c1, c2, rfl⟩ := len2 k1
      rw [hA]
      have hq : (splitA l k ms).2 = 0 → (splitA l k ms).1 = [((k, ms), false), (inotP ((k, ms), false)).1] ∧ lok (k, ms) = true ∧ l.length < 1024 := fun h => by
        have h1 := splitA_ok hlm h
        unfold splitA at h ⊢
        split at h
        · simp at h
        · rename_i g1
          split at h
          · rename_i hh; exact absurd h hh
          · rename_i g2
            rw [if_neg g1, if_neg g2]
            refine ⟨rfl, ?_, h1.2.1⟩
            have g1 := Decidable.not_not.1 g1
            unfold lrE at g1
            cases hh : lok (k, ms) with
            | true => rfl
            | false => rw [hh] at g1; simp at g1
      refine rchk_split l hl fr0 by0 dv k ms hlm c1 c2 o v hv _ ?_ ?_ ?_ ro df
      · by_cases h : (splitA l k ms).2 = 0
        · rw [if_neg (by simpa using h), if_neg (by simpa using h), (hq h).1]
          simp only [ckL, List.nil_append]
          have e1 : [((k, ms), false), (inotP ((k, ms), false)).1].getD 0 iz = (((k, ms), false) : Iq) := rfl
          have e2 : [((k, ms), false), (inotP ((k, ms), false)).1].getD (0 + 1) iz = (inotP ((k, ms), false)).1 := rfl
          have e3 : ((0 + 1 : Nat) : Int) = 1 := rfl
          have e4 : ((0 : Nat) : Int) = 0 := rfl
          rw [e1, e2, e3, e4, hnil]
        · rw [if_pos h, if_pos h]
      · intro h o' ro df hv'
        exact hsub 0 c1 rfl _ hlm (hq h).2.1 (hq h).2.2 o' ro df hv'
      · intro h o' ro df hv'
        exact hsub 1 c2 rfl _ (inotP_ok _) (inotP_lok _) (hq h).2.2 o' ro df hv'
termination_by c => SizeOf.sizeOf c
decreasing_by
  have := List.sizeOf_lt_of_mem hx
  simp
  omega

theorem rCheck_eq (l : List Iq) (hl : l.length ≤ 1000000) (hL : ∀ q ∈ l, LiOk q.1) (c : Cu) (hok : c.ok) (hsm : c.sm) (hs : csz c ≤ 400000) (o : List Obj) (ro : Nat) (df : List Nat) :
    (D T).call 20 [.sl 3 (l.map iqA), .agg c.cells] ⟨o, ro, df⟩ = some (.agg (gtA (ckT l c)), ⟨o, ro, df⟩) := by
  have hlm : (l.map iqA).length = l.length := by simp
  have y1 := cu_take c
  have y2 := cu_can c
  have y3 := culen c
  have y4 := cu_one c
  have hR := fun o ro df => rRightC_eq c hok (by omega) o ro df
  have hRc : (if 1024 < cdp c then (6 : Int) else if 4096 < csz c then 2 else pe c) = rtC c := rfl
  simp only [hRc, Cu.av] at hR
  have hbad := fun e o ro df => bad_eq e o ro df
  have hE : ckT l c = if 1024 < l.length then ([], 2) else if (l.any fun q => !lok q.1) = true then ([], 1) else if rtC c ≠ 0 then ([], rtC c) else ckC c l [] := rfl
  have hck := fun (hp : pe c = 0) (hl2 : l.length ≤ 1024) (hK : ∀ q ∈ l, lok q.1 = true) o ro df => rchk_eq c hok hsm hp (by have := cdp_csz c; omega) l hl2 hL hK o (.sl 3 (l.map iqA)) ro df (.inl rfl)
  generalize ckT l c = R at *
  have e0 : intA [] = [] := rfl
  have hRA : gtA R = [.sl 1 (intA R.1), .int .i64 R.2] := rfl
  have hRf := intA_flat R.1
  rw [hRA]
  obtain ⟨LL, hLL⟩ : ∃ LL, LL = l.map iqA := ⟨_, rfl⟩
  rw [← hLL] at hlm hck ⊢
  obtain ⟨BC, hBC⟩ : ∃ B, B = Obj.arr 29 7 [c.cells] := ⟨_, rfl⟩
  obtain ⟨BR, hBR⟩ : ∃ B, B = Obj.arr 41 2 [[.fsl 1 [], .int .i64 0]] := ⟨_, rfl⟩
  apply call_by (by exact rfl : T 20 = some _) (by simp)
  intro fr hfr hsl
  have s0 := hsl 0 _ rfl
  have s1 := hsl 1 _ rfl
  by_cases h1 : 1024 < l.length
  · rw [if_pos h1] at hE
    subst hE
    have h2 : (1024 : Int) < l.length := by omega
    simp only [e0]
    simp -implicitDefEqProofs [hfr, s0, s1, hlm, h2, h1, hbad, y1, y2, y3, y4, get_base0, get_base, set_base0, set_base, -getElem?_pos, List.getElem?_cons_zero, List.getElem?_cons_succ]
  rw [if_neg h1] at hE
  have h2 : ¬ (1024 : Int) < l.length := by omega
  simp -implicitDefEqProofs [hfr, s0, s1, hlm, h2, h1, y1, y2, y3, y4, get_base0, get_base, set_base0, set_base, -getElem?_pos, List.getElem?_cons_zero, List.getElem?_cons_succ]
  apply loop_inv L20_0.eq_1 List.length (fun (rest : List Iq) fr st => ∃ pre, l = pre ++ rest ∧ (∀ q ∈ pre, lok q.1 = true) ∧ fr.length = 34 ∧ slot fr 0 = .sl 3 LL ∧ slot fr 3 = .ptr o.length 0 0 ∧ slot fr 4 = .ptr (o.length + 1) 0 0 ∧ slot fr 5 = .int .i64 (pre.length : Int) ∧ st = ⟨o ++ [BC, BR], o.length, []⟩) ?_ l
    ⟨[], rfl, by simp, by simp [hfr], by simp [hfr, s0], by simp [hfr], by simp [hfr], by simp [hfr], by rw [hBC, hBR]⟩
  clear hfr s0 s1 hsl
  clear fr
  rintro rest fr _ ⟨pre, e, hp, hfr, q0, q3, q4, q5, rfl⟩
  cases rest with
  | nil =>
    have hlt := idx_end e
    have ee : l = pre := by simpa using e
    have hK : ∀ q ∈ l, lok q.1 = true := by rw [ee]; exact hp
    have hany : (l.any fun q => !lok q.1) = false := List.any_eq_false.2 fun q hq => by simp [hK q hq]
    rw [hany, if_neg (by simp)] at hE
    rw [← ee] at hlt q5
    by_cases h3 : rtC c = 0
    · rw [if_neg (by simpa using h3)] at hE
      rw [h3] at hR
      have hpe : pe c = 0 := by
        unfold rtC at h3
        split at h3
        · simp at h3
        · split at h3
          · simp at h3
          · exact h3
      have hck := hck hpe (by omega) hK
      rw [← hE, hRA] at hck
      clear hE
      subst hBC hBR
      generalize intA R.1 = W at *
      simp -implicitDefEqProofs [hfr, q0, q3, q4, q5, hlt, hlm, hR, hck, hRf, y1, y2, y3, y4, get_base0, get_base, set_base0, set_base, -getElem?_pos, List.getElem?_cons_zero, List.getElem?_cons_succ]
    · rw [if_pos h3] at hE
      have h3b : (rtC c != 0) = true := bne_iff_ne.2 h3
      subst hE
      subst hBC hBR
      simp only [e0]
      simp -implicitDefEqProofs [hfr, q0, q3, q4, q5, hlt, hlm, hR, hbad, h3b, y1, y2, y3, y4, get_base0, get_base, set_base0, set_base, -getElem?_pos, List.getElem?_cons_zero, List.getElem?_cons_succ]
  | cons q rest =>
    obtain ⟨hlt, hg, hpl⟩ := idx_at e
    have hwi := idx_next e (by omega)
    have hqm : q ∈ l := by simp [e]
    have hF := fun o ro df => form_eq q.1 (by have := (hL q hqm).2.2; omega) o ro df
    have hg2 : LL[pre.length]? = some (iqA q) := by rw [hLL]; simp [hg]
    have hQ : iqA q = [.int .i64 q.1.1, .sl 2 (moA q.1.2), .bool q.2] := rfl
    have hL2 : liA q.1 = [.int .i64 q.1.1, .sl 2 (moA q.1.2)] := rfl
    rw [hQ] at hg2
    rw [hL2] at hF
    cases hk : lok q.1 with
    | true =>
      rw [hk] at hF
      have hp2 : ∀ p ∈ pre ++ [q], lok p.1 = true := fun p hp' => by
        rcases List.mem_append.1 hp' with hp' | hp'
        · exact hp p hp'
        · rw [List.mem_singleton.1 hp']; exact hk
      generalize moA q.1.2 = M at *
      simp -implicitDefEqProofs [hfr, q0, q3, q4, q5, hlt, hpl, hwi, hlm, hg2, hF, -getElem?_pos, List.getElem?_cons_zero, List.getElem?_cons_succ]
      exact ⟨rest, by simp, pre ++ [q], by simp [e], by simpa using hp2, by simp⟩
    | false =>
      rw [hk] at hF
      have hany : (l.any fun q => !lok q.1) = true := List.any_eq_true.2 ⟨q, hqm, by simp [hk]⟩
      rw [hany, if_pos rfl] at hE
      subst hE
      subst hBC hBR
      simp only [e0]
      generalize moA q.1.2 = M at *
      simp -implicitDefEqProofs [hfr, q0, q3, q4, q5, hlt, hpl, hwi, hlm, hg2, hF, hbad, get_base0, get_base, set_base0, set_base, -getElem?_pos, List.getElem?_cons_zero, List.getElem?_cons_succ]

end Go.Proofs.Ytgabnhmjlhhojaa.A
