/- ProofOpen: for any two proofs and any number the law's function answers true. No condition beyond the given statement's. -/
import Derived.Test.YtkecobdhgabknaaDoorLawProofPuts
import Derived.Test.YtkecobdhgabknaaDoorRowBaseI
namespace Go.Proofs.YtkecobdhgabknaaDoor.A
open Go
set_option maxRecDepth 10000
set_option linter.unusedSimpArgs false
set_option linter.unusedVariables false
attribute [-simp] List.all_eq_true put slot_def ld idxA lenOf elems canA app hand slc

theorem atP_len : ∀ (w : List Int) {p a : Pf}, atP p w = some a → (w.length : Int) + dP a ≤ dP p
  | [], p, a, h => by simp only [atP, Option.some.injEq] at h; subst h; simp
  | i :: w, p, a, h => by
    obtain ⟨k, s, rfl, h1, h2⟩ := atP_split h
    have h3 := atP_len w h2
    have h4 := dPL_mem (List.mem_of_getElem? h1)
    rw [dP_eq p]
    simp
    omega
theorem rule_cells (x : Pf) : x.cells.take 1 = [.int .i64 x.rule] := by
  obtain ⟨r, h, n, v, b, t, c, les, chs, cu, ps⟩ := x
  simp [Pf.cells_mk, Pf.rule]

mutual
theorem ctR_le0 (rule : Int) : ∀ p : Pf, 0 ≤ ctR rule p ∧ ctR rule p ≤ psz p
  | .mk r _ _ _ _ _ _ _ _ _ l => by have := ctRL_le0 rule l; simp only [ctR, psz]; split <;> omega
theorem ctRL_le0 (rule : Int) : ∀ l : List Pf, 0 ≤ ctRL rule l ∧ ctRL rule l ≤ pszL l
  | [] => by simp [ctRL, pszL]
  | c :: l => by have := ctR_le0 rule c; have := ctRL_le0 rule l; simp only [ctRL, pszL]; omega
end
theorem psz_mem0 : ∀ {ps : List Pf} {x : Pf}, x ∈ ps → psz x ≤ pszL ps
  | a :: l, x, hx => by
    have h1 := pszL_pos l
    have h2 := psz_pos a
    simp only [pszL]
    rcases List.mem_cons.1 hx with rfl | hx
    · omega
    · have := psz_mem0 hx; omega
theorem at_psz : ∀ (w : List Int) {p a : Pf}, atP p w = some a → psz a ≤ psz p
  | [], p, a, h => by simp only [atP, Option.some.injEq] at h; subst h; omega
  | i :: w, p, a, h => by
    obtain ⟨k, s, rfl, h1, h2⟩ := atP_split h
    have h3 := at_psz w h2
    have h4 := psz_mem0 (List.mem_of_getElem? h1)
    rw [psz_subs p]
    omega
theorem wrap_u64 {n : Int} (h0 : 0 ≤ n) (h1 : n ≤ 18446744073709551615) : IntKind.u64.wrap n = n := by
  simp [IntKind.wrap, IntKind.bits, IntKind.signed]
  omega

theorem law_open38 (p q : Pf) (kn : Nat) (hp : p.ok) (hq : q.ok) (hk0 : (kn : Int) ≤ 18446744073709551615) : (D T).call 5 [p.av, q.av, .int .u64 (kn : Int)] st0 = some (.bool true, st0) := by
  have f1 := fun st => few_eq p hp 1000 (by omega) (by omega) st
  have f2 := fun st => few_eq q hq 1000 (by omega) (by omega) st
  have al := fun o ro df => alive_any o ro df
  have x1 := p_take p
  have x2 := p_can p
  have x3 := plen p
  have x4 := p_one p
  have z1 := p_take q
  have z2 := p_can q
  have z3 := plen q
  have z4 := p_one q
  by_cases k : pw p 1000 ≤ 1000
  rotate_left
  · simp only [Pf.av] at f1 f2
    apply call_by (by exact rfl : T 5 = some _) (by simp)
    intro fr hfr hsl
    have s0 := hsl 0 _ rfl
    have s1 := hsl 1 _ rfl
    have s2 := hsl 2 _ rfl
    simp only [Pf.av] at s0 s1
    simp -implicitDefEqProofs [hfr, s0, s1, s2, st0, f1, al, k, x1, x2, x3, x4, z1, z2, z3, z4, get_base0, get_base, -getElem?_pos, List.getElem?_cons_zero]
  by_cases k2 : pw q 1000 ≤ 1000
  rotate_left
  · simp only [Pf.av] at f1 f2
    apply call_by (by exact rfl : T 5 = some _) (by simp)
    intro fr hfr hsl
    have s0 := hsl 0 _ rfl
    have s1 := hsl 1 _ rfl
    have s2 := hsl 2 _ rfl
    simp only [Pf.av] at s0 s1
    simp -implicitDefEqProofs [hfr, s0, s1, s2, st0, f1, f2, al, k, k2, x1, x2, x3, x4, z1, z2, z3, z4, get_base0, get_base, -getElem?_pos, List.getElem?_cons_zero, List.getElem?_cons_succ]
  obtain ⟨hsm, hsz⟩ := pw_sm p 1000 (by omega) (by omega) k
  obtain ⟨hsm2, hsz2⟩ := pw_sm q 1000 (by omega) (by omega) k2
  have d1 := dP_psz p
  have d2 := dP_psz q
  have h1 := fun o ro df => pOpen_eq p hp (by omega) o ro df
  have hcn := opW_cnt p []
  have h2 := fun o ro df => pCount_eq p hp (by omega) 0 o ro df
  have hcp := fun w (hw : w ∈ opW p []) => at_open p w hw
  have hls : (opW p []).length ≤ 1000000 := by
    have : ctR 0 p ≤ psz p := by
      have : ∀ (rule : Int), ctR rule p ≤ psz p := fun rule => (ctR_le0 rule p).2
      exact this 0
    omega
  rw [← hcn] at h2
  have hc2 := fun (a : Pf) (R : Pf) (w : List Int) (hR : putP p w q = some R) (ha : atP p w = some a) => ctR_put 0 w hR ha
  rw [← hcn] at hc2
  generalize opW p [] = OW at *
  have hln := litA_len OW
  have mx : OW.length ≤ 9223372036854775807 := by omega
  -- each way leads to an open part
  have lp : ∀ (fr : List AV) (Q : AE → List AV → St → Prop), fr.length = 95 → slot fr 2 = .int .u64 (kn : Int) → slot fr 3 = .ptr 0 0 0 → slot fr 4 = .ptr 1 0 0 → slot fr 7 = .sl 1 (litA OW) → slot fr 33 = .sl 1 (litA OW) → slot fr 34 = .int .i64 (OW.length : Int) → slot fr 35 = .int .i64 0 →
      (∀ (fr' : List AV) (o' : List Obj), fr'.length = 95 → slot fr' 2 = .int .u64 (kn : Int) → slot fr' 3 = .ptr 0 0 0 → slot fr' 4 = .ptr 1 0 0 → slot fr' 7 = .sl 1 (litA OW) → o'[0]? = some (.arr 42 24 [p.cells]) → o'[1]? = some (.arr 42 24 [q.cells]) → Q (.exit 0) fr' ⟨o', 0, []⟩) →
      ∃ e fr' st', (D T).loop false L5_0 fr ⟨[.arr 42 24 [p.cells], .arr 42 24 [q.cells]], 0, []⟩ = some (e, fr', st') ∧ Q e fr' st' := by
    intro fr Q hfr q2 q3 q4 q7 q33 q34 q35 kk
    apply loop_inv L5_0.eq_1 List.length (fun (rest : List (List Int)) fr st => ∃ pre o', OW = pre ++ rest ∧ fr.length = 95 ∧ slot fr 2 = .int .u64 (kn : Int) ∧ slot fr 3 = .ptr 0 0 0 ∧ slot fr 4 = .ptr 1 0 0 ∧ slot fr 7 = .sl 1 (litA OW) ∧ slot fr 33 = .sl 1 (litA OW) ∧ slot fr 34 = .int .i64 (OW.length : Int) ∧ slot fr 35 = .int .i64 (pre.length : Int) ∧
      st = ⟨o', 0, []⟩ ∧ o'[0]? = some (.arr 42 24 [p.cells]) ∧ o'[1]? = some (.arr 42 24 [q.cells])) ?_ OW ⟨[], _, rfl, hfr, q2, q3, q4, q7, q33, q34, q35, rfl, rfl, rfl⟩
    clear hfr q2 q3 q4 q7 q33 q34 q35
    clear fr
    rintro rest fr _ ⟨pre, o', e, hfr, q2, q3, q4, q7, q33, q34, q35, rfl, g0, g1⟩
    cases rest with
    | nil =>
      have hlt := idx_end e
      simp -implicitDefEqProofs [hfr, q2, q3, q4, q7, q33, q34, q35, hlt]
      exact kk _ o' (by simp [hfr]) (by simp [hfr, q2]) (by simp [hfr, q3]) (by simp [hfr, q4]) (by simp [hfr, q7]) g0 g1
    | cons w rest =>
      obtain ⟨hlt, hg, hpl⟩ := idx_at e
      have hw := idx_next e mx
      have hg' : (litA OW)[pre.length]? = some [.sl 1 (intA w)] := by simp [litA, hg]
      have hpl' : pre.length < (litA OW).length := by rw [hln]; exact hpl
      obtain ⟨x, a1, a2⟩ := hcp w (by simp [e])
      have a3 := atP_len w a1
      have a4 := dP_pos x
      have hat := fun o ro df => pAt_eq p hp hsm w (by omega) o ro df
      rw [a1] at hat
      simp only [Option.getD_some, Option.isSome_some] at hat
      have y1 := p_take x
      have y2 := p_can x
      have y3 := plen x
      have y4 := p_one x
      have y5 := rule_cells x
      rw [a2] at y5
      simp only [Pf.av] at hat
      simp -implicitDefEqProofs [hfr, q2, q3, q4, q7, q33, q34, q35, hlt, hg', hpl, hpl', hw, g0, hat, y1, y2, y3, y4, y5, x1, x2, x3, x4, pset, getO_last, setO_last, -List.getElem_map, -getElem?_pos, List.getElem?_cons_zero, List.getElem?_cons_succ]
      exact ⟨rest, by simp, pre ++ [w], by simp [e], by simp, getO_push g0 _, getO_push g1 _⟩
  simp only [Pf.av] at f1 f2 h1 h2
  apply call_by (by exact rfl : T 5 = some _) (by simp)
  intro fr hfr hsl
  have s0 := hsl 0 _ rfl
  have s1 := hsl 1 _ rfl
  have s2 := hsl 2 _ rfl
  simp only [Pf.av] at s0 s1
  simp -implicitDefEqProofs [hfr, s0, s1, s2, st0, f1, f2, al, k, k2, hln, h1, h2, x1, x2, x3, x4, z1, z2, z3, z4, get_base0, get_base, set_base0, set_base, -getElem?_pos, List.getElem?_cons_zero, List.getElem?_cons_succ]
  apply lp _ _ (by simp [hfr]) (by simp [hfr, s2]) (by simp [hfr]) (by simp [hfr]) (by simp [hfr]) (by simp [hfr]) (by simp [hfr]) (by simp [hfr])
  clear hfr s0 s1 s2 hsl lp
  clear fr
  intro fr o1 hfr q2 q3 q4 q7 g0 g1
  have l0 := lt_of_getO g0
  have l1 := lt_of_getO g1
  by_cases hn : OW.length = 0
  · have hOW : OW = [] := List.eq_nil_of_length_eq_zero hn
    subst hOW
    simp -implicitDefEqProofs [hfr, q2, q3, q4, q7, al, litA]
  have hn' : ¬ ((OW.length : Int) = 0) := by omega
  have hn2 : ((OW.length : Int) == 0) = false := by simpa using hn
  obtain ⟨m, hm⟩ : ∃ m : Nat, m = kn % OW.length := ⟨_, rfl⟩
  have hml : m < OW.length := by rw [hm]; exact Nat.mod_lt _ (by omega)
  have hmi : (m : Int) < (OW.length : Int) := by omega
  have w1 : IntKind.u64.wrap (OW.length : Int) = (OW.length : Int) := wrap_u64 (by omega) (by omega)
  have w2 : (kn : Int).tmod (OW.length : Int) = (m : Int) := by
    rw [hm, Int.tmod_eq_emod_of_nonneg (by omega)]
    omega
  have hgm : OW[m]? = some OW[m] := List.getElem?_eq_getElem hml
  obtain ⟨a, a1, a2⟩ := hcp _ (List.mem_of_getElem? hgm)
  generalize OW[m] = w at *
  have hg' : (litA OW)[m]? = some [.sl 1 (intA w)] := by simp [litA, hgm]
  have hml' : m < (litA OW).length := by rw [hln]; exact hml
  have a3 := atP_len w a1
  have a4 := dP_pos a
  have hat := fun o ro df => pAt_eq p hp hsm w (by omega) o ro df
  have hput := fun o ro df => pPut_eq p q hp hsm hq hsm2 (by omega) (by omega) w (by omega) o ro df
  have hiso := putP_at w p q
  rw [a1] at hat hiso
  obtain ⟨R, hR⟩ : ∃ R, putP p w q = some R := Option.isSome_iff_exists.1 hiso
  rw [hR] at hput
  simp only [Option.getD_some, Option.isSome_some] at hat hput
  have rok := putP_ok w hp hq hR
  have aok := atP_okq w hp a1
  have hcR := hc2 a R w hR a1
  have hpR := psz_put w hR a1
  have b1 := psz_pos a
  have c1 := ctR_le0 0 a
  have c2 := ctR_le0 0 q
  have hsa : psz a ≤ psz p := by
    have := psz_pos R
    have := at_psz w a1
    omega
  have h3 := fun o ro df => pCount_eq R rok (by omega) 0 o ro df
  have h4 := fun o ro df => pCount_eq a aok (by omega) 0 o ro df
  have h5 := fun o ro df => pCount_eq q hq (by omega) 0 o ro df
  rw [hcR] at h3
  generalize ctR 0 a = ca at *
  generalize ctR 0 q = cq at *
  have v1 : IntKind.i64.wrap ((OW.length : Int) - ca) = (OW.length : Int) - ca := wrap_id (by omega) (by omega)
  have v2 : IntKind.i64.wrap ((OW.length : Int) - ca + cq) = (OW.length : Int) - ca + cq := wrap_id (by omega) (by omega)
  have y1 := p_take a
  have y2 := p_can a
  have y3 := plen a
  have y4 := p_one a
  have r1 := p_take R
  have r2 := p_can R
  have r3 := plen R
  have r4 := p_one R
  have gP : ∀ m : List Obj, (o1 ++ m)[0]? = some (.arr 42 24 [p.cells]) := fun m => getO_push g0 m
  have gQ : ∀ m : List Obj, (o1 ++ m)[1]? = some (.arr 42 24 [q.cells]) := fun m => getO_push g1 m
  simp only [Pf.av] at hat hput h3 h4 h5
  simp -implicitDefEqProofs [hfr, q2, q3, q4, q7, al, hln, hn, hn', hn2, w1, w2, hg', hml, hml', hmi, g0, g1, gP, gQ, hat, hput, h3, h4, h5, v1, v2, pset, x1, x2, x3, x4, y1, y2, y3, y4, z1, z2, z3, z4, r1, r2, r3, r4, get_base0, get_base, set_base0, set_base, -List.getElem_map, -getElem?_pos, List.getElem?_cons_zero, List.getElem?_cons_succ]

end Go.Proofs.YtkecobdhgabknaaDoor.A
/- How unsigned numbers are read as arguments. -/
namespace Go.Proofs.YtkecobdhgabknaaDoor.A
open Go Go.ChangeShapes Go.WideShapes Go.RowKit
set_option linter.unusedVariables false

section
variable {P : Program} {H : Type}
theorem rd_u64 {t : TypeId} {k : Nat} (ht : P.underlying t = some (.int .u64)) : RdAt P k t 1 (fun a => ∃ n : Nat, (n : Int) ≤ 18446744073709551615 ∧ a = [.int .u64 (n : Int)]) := fun H enc W cs x hx => by
  obtain ⟨n, rfl, h1, h2⟩ := read_int ht hx
  have h1' : 0 ≤ n := h1
  have h2' : n ≤ 18446744073709551615 := h2
  obtain ⟨m, rfl⟩ : ∃ m : Nat, n = (m : Int) := ⟨n.toNat, by omega⟩
  exact ⟨_, ⟨m, h2', rfl⟩, ⟨rfl, fun j y v hy hv => by cases j with | zero => simp at hy hv; subst hy hv; exact .int _ _ | succ j => simp at hy⟩, rfl, by simp [Value.oneCell']⟩
end
theorem rdUint : Tryd.prog.readableRec 54 = true ∧ 54 < Tryd.prog.types.size := ⟨by kernel_rfl, of_decide_eq_true (by kernel_rfl)⟩
def AUint (a : AV) : Prop := ∃ n : Nat, (n : Int) ≤ 18446744073709551615 ∧ a = .int .u64 (n : Int)
theorem aUint : ArgRdW Tryd.prog 54 AUint := ((arg_one Tryd.underlying54 rfl fun _ => rd_u64 Tryd.underlying54).imp fun a ⟨n, h1, h2⟩ => ⟨n, h1, by simpa using h2⟩).w
def zeroUint : Value := .int .u64 0

end Go.Proofs.YtkecobdhgabknaaDoor.A
