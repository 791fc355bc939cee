/- CutsMore: for any such input the law's function answers true. The lists' lengths at most 1048576, as the given statement's bulk has it. -/
import Derived.Test.YtgabnhmjlhhojaaQ20
import Derived.Test.YtgabnhmjlhhojaaZ9
import Derived.Test.YtgabnhmjlhhojaaZ6
import Derived.Test.YtgabnhmjlhhojaaG
namespace Go.Proofs.Ytgabnhmjlhhojaa.A
open Go
set_option maxRecDepth 10000
set_option linter.unusedSimpArgs false
set_option linter.unusedVariables false
attribute [-simp] List.all_eq_true put slot_def ld idxA lenOf elems canA app hand slc add64A

theorem more_l0 (m : List Iq) (hl : m.length ≤ 1000000) (hm : ∀ q ∈ m, q.1.2.length ≤ 9223372036854775807) (S : List Obj) (x0 x5 x7 : AV) (Q : AE → List AV → St → Prop) (fr : List AV) (hfr : fr.length = 70)
    (q0 : slot fr 0 = x0) (q1 : slot fr 1 = .sl 3 (m.map iqA)) (q5 : slot fr 5 = x5) (q7 : slot fr 7 = x7) (q8 : slot fr 8 = .int .i64 0)
    (kk : ∀ fr' : List AV, fr'.length = 70 → slot fr' 0 = x0 → slot fr' 1 = .sl 3 (m.map iqA) → slot fr' 5 = x5 → slot fr' 7 = x7 → (∀ q ∈ m, lok q.1 = true) → Q (.exit 0) fr' ⟨S, 0, []⟩)
    (kr : ∀ fr' : List AV, fr'.length = 70 → slot fr' 6 = .bool true → Q .ret fr' ⟨S, 0, []⟩) :
    ∃ e fr' st', (D T).loop false L6_0 fr ⟨S, 0, []⟩ = some (e, fr', st') ∧ Q e fr' st' := by
  have al := fun o ro df => goes_any o ro df
  apply loop_inv L6_0.eq_1 List.length (fun (rest : List Iq) fr st => ∃ pre, m = pre ++ rest ∧ (∀ q ∈ pre, lok q.1 = true) ∧ fr.length = 70 ∧ slot fr 0 = x0 ∧ slot fr 1 = .sl 3 (m.map iqA) ∧ slot fr 5 = x5 ∧ slot fr 7 = x7 ∧ slot fr 8 = .int .i64 (pre.length : Int) ∧ st = ⟨S, 0, []⟩) ?_ m
    ⟨[], rfl, by simp, hfr, q0, q1, q5, q7, q8, rfl⟩
  clear hfr q0 q1 q5 q7 q8
  clear fr
  rintro rest fr _ ⟨pre, e, hp, hfr, q0, q1, q5, q7, q8, rfl⟩
  have hml : (m.map iqA).length = m.length := by simp
  cases rest with
  | nil =>
    have hlt := idx_end e
    have ee : m = pre := by simpa using e
    rw [← ee] at hlt
    generalize hA : m.map iqA = A at *
    have hlt2 : ¬ ((pre.length : Int) < (m.length : Int)) := by rw [← ee]; exact hlt
    simp -implicitDefEqProofs [hfr, q0, q1, q5, q7, q8, hlt2, hml]
    exact kk _ (by simp [hfr]) (by simp [hfr, q0]) (by simp [hfr, q1]) (by simp [hfr, q5]) (by simp [hfr, q7]) (by rw [ee]; exact hp)
  | cons q rest =>
    obtain ⟨hlt, hg, hpl⟩ := idx_at e
    have hwi := idx_next e (by omega)
    have hq := iRight_eq q (hm q (by simp [e]))
    have hlr : lrE q.1 = if lok q.1 then 0 else 1 := rfl
    have hg2 : (m.map iqA)[pre.length]? = some (iqA q) := by simp [hg]
    have hQ : iqA q = [.int .i64 q.1.1, .sl 2 (moA q.1.2), .bool q.2] := rfl
    rw [hQ] at hq hg2
    generalize moA q.1.2 = M at *
    generalize lrE q.1 = E at *
    generalize hA : m.map iqA = A at *
    cases hb : lok q.1 with
    | true =>
      rw [hb] at hlr
      simp only [if_true] at hlr
      subst hlr
      simp -implicitDefEqProofs [hfr, q0, q1, q5, q7, q8, hlt, hpl, hwi, hml, hg2, hq, -getElem?_pos, List.getElem?_cons_zero, List.getElem?_cons_succ]
      have hp2 : ∀ k ∈ pre ++ [q], lok k.1 = true := fun k hk => by
        rcases List.mem_append.1 hk with hk | hk
        · exact hp k hk
        · rw [List.mem_singleton.1 hk]; exact hb
      exact ⟨rest, by simp, pre ++ [q], by simp [e], by simpa using hp2, by simp⟩
    | false =>
      rw [hb] at hlr
      simp at hlr
      subst hlr
      simp -implicitDefEqProofs [hfr, q0, q1, q5, q7, q8, hlt, hpl, hwi, hml, hg2, hq, al, -getElem?_pos, List.getElem?_cons_zero, List.getElem?_cons_succ]
      exact kr _ (by simp [hfr]) (by simp [hfr])

theorem law_more31 (l m : List Iq) (c : Cu) (k0 : (∀ q ∈ l, inI q.1.1 ∧ moL q.1.2) ∧ l.length ≤ mxB) (k1 : (∀ q ∈ m, inI q.1.1 ∧ moL q.1.2) ∧ m.length ≤ mxB) (k2 : c.ok) (hs1 : l.length ≤ 1048576) (hs2 : m.length ≤ 1048576) :
    (D T).call 6 [.sl 3 (l.map iqA), .sl 3 (m.map iqA), c.av] st0 = some (.bool true, st0) := by
  have al := fun o ro df => goes_any o ro df
  have f1 := fun o ro df => small31_eq c k2 o ro df
  have y1 := cu_take c
  have y2 := cu_can c
  have y3 := culen c
  have y4 := cu_one c
  simp only [Cu.av] at f1 ⊢
  have hll : (l.map iqA).length = l.length := by simp
  have hml : (m.map iqA).length = m.length := by simp
  obtain ⟨C, hC⟩ : ∃ C, C = Obj.arr 29 7 [c.cells] := ⟨_, rfl⟩
  obtain ⟨V, hV⟩ : ∃ V, V = AV.own 2 0 (l.length + m.length) false := ⟨_, rfl⟩
  have a1 : app ⟨[C], 0, []⟩ 51 3 40 (.fsl 3 []) (.sl 3 (l.map iqA)) = some (.own 1 0 l.length false, ⟨[C, .arr 51 3 (l.map iqA)], 0, []⟩) := by
    have : room l.length 40 = true := by simp [room]; omega
    simp [app, elems, this]
  have a2 : app ⟨[C, .arr 51 3 (l.map iqA)], 0, []⟩ 51 3 40 (.own 1 0 l.length false) (.sl 3 (m.map iqA)) = some (V, ⟨[C, .dead, .arr 51 3 ((l ++ m).map iqA)], 0, []⟩) := by
    have : room (l.length + m.length) 40 = true := by simp [room]; omega
    simp [app, elems, this, hV]
  have hF : Fs [C, .dead, .arr 51 3 ((l ++ m).map iqA)] V ((l ++ m).map iqA) := .inr (.inr ⟨2, by rw [hV]; simp, rfl⟩)
  have hcV : canA V = V := by rw [hV]; rfl
  have f2 := short_eq 60 (l ++ m) (by simp; omega) _ V hF
  obtain ⟨S, hS⟩ : ∃ S, S = [C, .dead, Obj.arr 51 3 ((l ++ m).map iqA)] := ⟨_, rfl⟩
  rw [← hS] at a2 hF f2
  have gC : S[0]? = some C := by rw [hS]; rfl
  rw [hC] at gC
  rw [hC] at a1 a2
  by_cases h1 : cw c 400 ≤ 400
  rotate_left
  · apply call_by (by exact rfl : T 6 = some _) (by simp)
    intro fr hfr hsl
    have s0 := hsl 0 _ rfl
    have s1 := hsl 1 _ rfl
    have s2 := hsl 2 _ rfl
    generalize l.map iqA = A at *
    generalize m.map iqA = B at *
    simp -implicitDefEqProofs [hfr, s0, s1, s2, st0, f1, al, h1, a1, a2, gC, y1, y2, y3, y4, -getElem?_pos, List.getElem?_cons_zero, List.getElem?_cons_succ]
  cases h2 : shrt 60 (l ++ m) with
  | false =>
    rw [h2] at f2
    apply call_by (by exact rfl : T 6 = some _) (by simp)
    intro fr hfr hsl
    have s0 := hsl 0 _ rfl
    have s1 := hsl 1 _ rfl
    have s2 := hsl 2 _ rfl
    generalize l.map iqA = A at *
    generalize m.map iqA = B at *
    simp -implicitDefEqProofs [hfr, s0, s1, s2, st0, f1, f2, al, h1, hcV, a1, a2, gC, y1, y2, y3, y4, -getElem?_pos, List.getElem?_cons_zero, List.getElem?_cons_succ]
  | true =>
    rw [h2] at f2
    unfold shrt at h2
    simp only [Bool.and_eq_true, List.all_eq_true, decide_eq_true_eq] at h2
    have hlen60 : l.length + m.length ≤ 60 := by have := h2.2; simp at this; omega
    have hLl : ∀ q ∈ l, LiOk q.1 := fun q hq => ⟨(k0.1 q hq).1, fun p hp => (k0.1 q hq).2.1 p hp, by have := h2.1 q (by simp [hq]); omega⟩
    have hLm : ∀ q ∈ m, LiOk q.1 := fun q hq => ⟨(k1.1 q hq).1, fun p hp => (k1.1 q hq).2.1 p hp, by have := h2.1 q (by simp [hq]); omega⟩
    have hLa : ∀ q ∈ l ++ m, LiOk q.1 := fun q hq => by
      rcases List.mem_append.1 hq with hq | hq
      · exact hLl q hq
      · exact hLm q hq
    have hs : csz c ≤ 400 := by have := cw_csz c 400 (by omega); omega
    have hd := cdp_csz c
    have hsm := cw_sm c 400 (by omega) h1
    obtain ⟨z1, z2, z3⟩ := upC_meas l.length m.length c
    have f3 := fun o ro df => cCheck_eq l (by omega) hLl c k2 hsm (by omega) (.sl 3 (l.map iqA)) o (.inl rfl) ro df
    have f4 := fun ro df => cCheck_eq (l ++ m) (by simp; omega) hLa (upC l.length m.length c) (upC_ok _ _ c k2) (upC_sm _ _ c hsm) (by rw [z1]; omega) V S hF ro df
    have f5 := fun o ro df => cShift_eq l.length m.length c hsm o ro df
    have hlaw := fun (hm : ∀ q ∈ m, lok q.1 = true) => more_law l m c hm (by omega)
    have hi := fun st => bints_eq [] [] (by simp) st
    have e0 : intA [] = [] := rfl
    have hib : (([] : List Int).length == ([] : List Int).length && leq ieq [] []) = true := by decide
    simp only [e0, hib] at hi
    have u1 := cu_take (upC l.length m.length c)
    have u2 := cu_can (upC l.length m.length c)
    have u3 := culen (upC l.length m.length c)
    have l0 := fun x0 x5 x7 Q fr => more_l0 m (by omega) (fun q hq => by have := (hLm q hq).2.2; omega) S x0 x5 x7 Q fr
    apply call_by (by exact rfl : T 6 = some _) (by simp)
    intro fr hfr hsl
    have s0 := hsl 0 _ rfl
    have s1 := hsl 1 _ rfl
    have s2 := hsl 2 _ rfl
    generalize l.map iqA = A at *
    generalize hB : m.map iqA = B at *
    generalize (upC l.length m.length c).cells = UC at *
    simp -implicitDefEqProofs [hfr, s0, s1, s2, st0, f1, f2, al, h1, hcV, a1, a2, gC, y1, y2, y3, y4, -getElem?_pos, List.getElem?_cons_zero, List.getElem?_cons_succ]
    refine l0 (.sl 3 A) (.ptr 0 0 0) V _ _ (by simp [hfr]) (by simp [hfr, s0]) (by simp [hfr, s1]) (by simp [hfr]) (by simp [hfr]) (by simp [hfr]) ?_ ?_
    · clear hfr s0 s1 s2 hsl
      clear fr
      intro fr hfr q0 q1 q5 q7 hlm
      have hlaw2 := hlaw hlm
      clear hlaw
      have hnil := ckT_nil l c
      generalize ckT (l ++ m) (upC l.length m.length c) = R2 at *
      generalize ckT l c = R at *
      obtain ⟨w, e⟩ := R
      simp only at hlaw2 hnil f3
      by_cases c1 : e = 0
      · obtain ⟨rfl, _⟩ := Prod.mk.inj (hnil c1)
        have h9 := hlaw2 c1
        subst h9
        subst c1
        simp only [e0] at f3 f4
        simp -implicitDefEqProofs [hfr, q0, q1, q5, q7, hcV, f3, f4, f5, hi, al, hll, hml, gC, y1, y2, y3, y4, u1, u2, u3, -getElem?_pos, List.getElem?_cons_zero, List.getElem?_cons_succ]
      · have c1b : (e != 0) = true := by simpa using c1
        generalize intA w = W at *
        simp -implicitDefEqProofs [hfr, q0, q1, q5, q7, f3, c1b, al, hll, hml, gC, y1, y2, y3, y4, -getElem?_pos, List.getElem?_cons_zero, List.getElem?_cons_succ]
    · clear hfr s0 s1 s2 hsl
      clear fr
      intro fr hfr q6
      simp -implicitDefEqProofs [hfr, q6]

end Go.Proofs.Ytgabnhmjlhhojaa.A
