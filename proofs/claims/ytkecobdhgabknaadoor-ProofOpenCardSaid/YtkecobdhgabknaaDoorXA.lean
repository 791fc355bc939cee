/- Which fields of a proof are not zero: the program's function. -/
import Derived.Test.YtkecobdhgabknaaDoorX5
import Derived.Test.YtkecobdhgabknaaDoorP6
namespace Go.Proofs.YtkecobdhgabknaaDoor.A
open Go
set_option pp.deepTerms true
set_option pp.maxSteps 100000
set_option maxRecDepth 10000
set_option linter.unusedSimpArgs false
set_option linter.unusedVariables false
attribute [-simp] List.all_eq_true put slot_def ld idxA lenOf elems canA app hand

def zT : Tm := .mk 0 ⟨#[]⟩ 0 []
def zC : Cl := .mk 0 ⟨#[]⟩ ⟨#[]⟩ [] []
def zU : Cu := .mk 0 [] [] 0 0 [] []
theorem zT_ok : zT.ok := by simp [zT, Tm.ok, okL, show (⟨#[]⟩ : ByteArray).size = 0 from rfl]
theorem zC_ok : zC.ok := by simp [zC, Cl.ok, okL, okC, show (⟨#[]⟩ : ByteArray).size = 0 from rfl]
theorem zU_ok : zU.ok := by simp [zU, Cu.ok, okCu, inI, inL, moL]
def ne (s : ByteArray) : Bool := !bytesEq s ⟨#[]⟩
def Cl.name : Cl → ByteArray
  | .mk _ s _ _ _ => s

def nine : Pf → List (Bool × Int)
  | .mk r h nw v b t c les chs cu ps => [(ne h, 1), (ne nw, 2), (ne v, 4), (b, 8), (!(cm t zT == 0), 16), (!(ccm c zC == 0) || ne c.name, 32), (!chs.isEmpty, 64), (!les.isEmpty, 128), (!cuEq cu zU, 256)]
/-- the fields' bits, together -/
def orF : List (Bool × Int) → Int → Int
  | [], n => n
  | x :: l, n => orF l (bif x.1 then bitI .or .i64 n x.2 else n)

theorem csame_eq (c d : Cl) (hc : c.ok) (hd : d.ok) (st : St) : (D T).call 52 [c.av, d.av] st = some (.bool (ccm c d == 0), st) := by
  have h := fun st => ccm_eq c hc d hd st
  simp only [Cl.av] at h
  apply call_by (by exact rfl : T 52 = some _) (by simp)
  intro fr hfr hsl
  have s0 := hsl 0 _ rfl
  have s1 := hsl 1 _ rfl
  simp only [Cl.av] at s0 s1
  simp -implicitDefEqProofs [hfr, s0, s1, get_base0, get_base, h]

theorem used_loop (l : List (Bool × Int)) (hl : l.length ≤ 100) {o : List Obj} {ro : Nat} (hro : ro ≤ o.length) (fr : List AV) (Q : AE → List AV → St → Prop) (hfr : fr.length = 72) (q3 : slot fr 3 = .int .i64 0) (q58 : slot fr 58 = .fsl 2 (l.map fun x => [.bool x.1, .int .i64 x.2])) (q59 : slot fr 59 = .int .i64 (l.length : Int)) (q60 : slot fr 60 = .int .i64 0)
    (k : ∀ (fr' : List AV) (o' : List Obj), fr'.length = 72 → slot fr' 3 = .int .i64 (orF l 0) → Q (.exit 0) fr' ⟨o', ro, []⟩) :
    ∃ e fr' st', (D T).loop false L32_0 fr ⟨o, ro, []⟩ = some (e, fr', st') ∧ Q e fr' st' := by
  apply loop_inv L32_0.eq_1 List.length (fun (rest : List (Bool × Int)) fr st => ∃ pre n o', l = pre ++ rest ∧ fr.length = 72 ∧ slot fr 3 = .int .i64 n ∧ slot fr 58 = .fsl 2 (l.map fun x => [.bool x.1, .int .i64 x.2]) ∧ slot fr 59 = .int .i64 (l.length : Int) ∧ slot fr 60 = .int .i64 (pre.length : Int) ∧
    st = ⟨o', ro, []⟩ ∧ ro ≤ o'.length ∧ orF l 0 = orF rest n) ?_ l ⟨[], 0, o, rfl, hfr, q3, q58, q59, q60, rfl, hro, rfl⟩
  clear hfr q3 q58 q59 q60 hro fr
  rintro rest fr _ ⟨pre, n, o', e, hfr, q3, q58, q59, q60, rfl, hlo, hn⟩
  cases rest with
  | nil =>
    have hlt := idx_end e
    simp -implicitDefEqProofs [hfr, q3, q58, q59, q60, hlt]
    exact k _ o' (by simp [hfr]) (by simp [hfr, q3, hn, orF])
  | cons x rest =>
    obtain ⟨hlt, hg, hpl⟩ := idx_at e
    have hw := idx_next e (by omega)
    obtain ⟨b, f⟩ := x
    simp only [orF] at hn
    cases b with
    | true =>
      simp -implicitDefEqProofs [hfr, q3, q58, q59, q60, hlt, hg, hpl, hw, hlo, setO_last, getO_last, -List.getElem_map, -getElem?_pos, List.getElem?_cons_zero]
      exact ⟨rest, by simp, pre ++ [(true, f)], by simp [e], by simp, by omega, hn⟩
    | false =>
      simp -implicitDefEqProofs [hfr, q3, q58, q59, q60, hlt, hg, hpl, hw, hlo, setO_last, getO_last, -List.getElem_map, -getElem?_pos, List.getElem?_cons_zero]
      exact ⟨rest, by simp, pre ++ [(false, f)], by simp [e], by simp, by omega, hn⟩

theorem used_eq : ∀ (p : Pf), p.ok → ∀ (o : List Obj) (ro : Nat) (df : List Nat), (D T).call 32 [p.av] ⟨o, ro, df⟩ = some (.int .i64 (orF (nine p) 0), ⟨o, ro, df⟩)
  | .mk r h nw v b t c les chs cu ps, hok, o, ro, df => by
    simp only [Pf.ok] at hok
    obtain ⟨_, k1, k2, k3, ot, oc, ole, och, ocu, kps, ops⟩ := hok
    have h1 := fun st => same_eq t zT ot zT_ok st
    have h2 := fun st => csame_eq c zC oc zC_ok st
    have h3 := fun st => scut_eq cu ocu zU zU_ok st
    have hE : nine (.mk r h nw v b t c les chs cu ps) = [(ne h, 1), (ne nw, 2), (ne v, 4), (b, 8), (!(cm t zT == 0), 16), (!(ccm c zC == 0) || ne c.name, 32), (!chs.isEmpty, 64), (!les.isEmpty, 128), (!cuEq cu zU, 256)] := rfl
    generalize nine (.mk r h nw v b t c les chs cu ps) = N at hE ⊢
    generalize (cm t zT == 0) = A at *
    generalize (ccm c zC == 0) = B at *
    generalize cuEq cu zU = C at *
    obtain ⟨t0, t1, t2, t3⟩ := t
    obtain ⟨c0, c1, c2, c3, c4⟩ := c
    obtain ⟨kd, fr0, by0, dv, kk, ms, cs⟩ := cu
    have e1 : ne h = !bytesEq h ⟨#[]⟩ := rfl
    have e2 : ne nw = !bytesEq nw ⟨#[]⟩ := rfl
    have e3 : ne v = !bytesEq v ⟨#[]⟩ := rfl
    have e4 : ne (Cl.name (.mk c0 c1 c2 c3 c4)) = !bytesEq c1 ⟨#[]⟩ := rfl
    have e5 : (!chs.isEmpty) = decide ((chs.length : Int) > 0) := by cases chs with
      | nil => rfl
      | cons x l => simp
    have e6 : (!les.isEmpty) = decide ((les.length : Int) > 0) := by cases les with
      | nil => rfl
      | cons x l => simp
    rw [e1, e2, e3, e4, e5, e6] at hE
    clear e1 e2 e3 e4 e5 e6
    simp only [Tm.av, Tm.cells_mk, Cl.av, Cl.cells_mk, Cu.av, Cu.cells_mk, zT, zC, zU, List.map_nil, show intA [] = [] from rfl, show moA [] = [] from rfl] at h1 h2 h3
    apply call_by (by exact rfl : T 32 = some _) (by simp)
    intro fr hfr hsl
    have s0 := hsl 0 _ rfl
    simp only [Pf.av, Pf.cells_all] at s0
    cases B with
    | true =>
      have hN : N = [(!bytesEq h ⟨#[]⟩, 1), (!bytesEq nw ⟨#[]⟩, 2), (!bytesEq v ⟨#[]⟩, 4), (b, 8), (!A, 16), (!bytesEq c1 ⟨#[]⟩, 32), (decide ((chs.length : Int) > 0), 64), (decide ((les.length : Int) > 0), 128), (!C, 256)] := by rw [hE]; rfl
      simp -implicitDefEqProofs [hfr, s0, get_base0, h1, h2, h3, -getElem?_pos, List.getElem?_cons_zero]
      apply used_loop N (by rw [hN]; simp) (by simp) _ _ (by simp [hfr]) (by simp [hfr]) (by simp [hfr, hN]) (by simp [hfr, hN]) (by simp [hfr])
      intro fr' o' hf h3
      simp -implicitDefEqProofs [hf, h3]
    | false =>
      have hN : N = [(!bytesEq h ⟨#[]⟩, 1), (!bytesEq nw ⟨#[]⟩, 2), (!bytesEq v ⟨#[]⟩, 4), (b, 8), (!A, 16), (true, 32), (decide ((chs.length : Int) > 0), 64), (decide ((les.length : Int) > 0), 128), (!C, 256)] := by rw [hE]; rfl
      simp -implicitDefEqProofs [hfr, s0, get_base0, h1, h2, h3, -getElem?_pos, List.getElem?_cons_zero]
      apply used_loop N (by rw [hN]; simp) (by simp) _ _ (by simp [hfr]) (by simp [hfr]) (by simp [hfr, hN]) (by simp [hfr, hN]) (by simp [hfr])
      intro fr' o' hf h3
      simp -implicitDefEqProofs [hf, h3]

end Go.Proofs.YtkecobdhgabknaaDoor.A
/- The part of a proof at a way: the program's function. -/
namespace Go.Proofs.YtkecobdhgabknaaDoor.A
open Go
set_option maxRecDepth 10000
set_option linter.unusedSimpArgs false
set_option linter.unusedVariables false
attribute [-simp] List.all_eq_true put slot_def ld idxA lenOf elems canA app hand

def Pf.subs : Pf → List Pf
  | .mk _ _ _ _ _ _ _ _ _ _ l => l
/-- the part at a way -/
def atP : Pf → List Int → Option Pf
  | p, [] => some p
  | p, i :: w => if i < 0 then none else match p.subs[i.toNat]? with
    | some q => atP q w
    | none => none
def zPf : Pf := .mk 0 ⟨#[]⟩ ⟨#[]⟩ ⟨#[]⟩ false zT zC [] [] zU []

theorem sub_sm {p q : Pf} {k : Nat} (h : p.sm) (e : p.subs[k]? = some q) : q.sm := by
  obtain ⟨r, h0, nw, v, b, t, c, les, chs, cu, ps⟩ := p
  simp only [Pf.sm] at h
  exact smPf_iff.1 h.2.2.2.2.2.2.2.2 q (List.mem_of_getElem? e)
theorem sub_ok {p q : Pf} {k : Nat} (h : p.ok) (e : p.subs[k]? = some q) : q.ok := by
  obtain ⟨r, h0, nw, v, b, t, c, les, chs, cu, ps⟩ := p
  simp only [Pf.ok] at h
  exact okPf_iff.1 h.2.2.2.2.2.2.2.2.2.2 q (List.mem_of_getElem? e)

theorem p_hand (n : Nat) (o : List Obj) : ∀ q : Pf, mapO (hand0 n o) q.cells = some q.cells
  | .mk r h nw v b (.mk t0 t1 t2 t3) (.mk a0 a1 a2 a3 a4) les chs (.mk kd fr0 by0 dv kk ms cs) ps => by
    simp [Pf.cells_all, mapO, hand0, AV.flat, pflat_list, cuflat_list, moA_flat, intA_flat, chflat_list, leflat_list, cflat_list, flat_list]

theorem pAt_eq (p : Pf) (hp : p.ok) (hs : p.sm) (w : List Int) (hw : w.length ≤ 1000000) (o : List Obj) (ro : Nat) (df : List Nat) :
    (D T).call 24 [p.av, .sl 1 (intA w)] ⟨o, ro, df⟩ = some (.tup [((atP p w).getD zPf).av, .bool (atP p w).isSome], ⟨o, ro, df⟩) := by
  have mx : w.length ≤ 9223372036854775807 := by omega
  have wlen := intA_len w
  have x1 := p_take p
  have x2 := p_can p
  have x3 := plen p
  have x4 := p_one p
  have fp := pflat
  apply call_by (by exact rfl : T 24 = some _) (by simp)
  intro fr hfr hsl
  have s0 := hsl 0 _ rfl
  have s1 := hsl 1 _ rfl
  simp only [Pf.av] at s0
  obtain ⟨Z, hZ⟩ : ∃ Z, Z = Obj.arr 42 24 [[.int .i64 0, .str ⟨#[]⟩, .str ⟨#[]⟩, .str ⟨#[]⟩, .bool false, .int .i64 0, .str ⟨#[]⟩, .int .i64 0, .fsl 4 [], .int .i64 0, .str ⟨#[]⟩, .str ⟨#[]⟩, .fsl 4 [], .fsl 5 [], .fsl 8 [], .fsl 2 [], .int .i64 0, .fsl 1 [], .fsl 1 [], .int .i64 0, .int .i64 0, .fsl 2 [], .fsl 7 [], .fsl 24 []]] := ⟨_, rfl⟩
  simp -implicitDefEqProofs [hfr, s0, s1, get_base0, x1, x2, x3, x4, wlen, ← hZ]
  generalize hR : atP p w = R
  apply loop_inv L24_0.eq_1 List.length (fun (rest : List Int) fr st => ∃ pre q, w = pre ++ rest ∧ fr.length = 32 ∧ slot fr 2 = .ptr o.length 0 0 ∧ slot fr 4 = .ptr (o.length + 1) 0 0 ∧ slot fr 8 = .sl 1 (intA w) ∧ slot fr 9 = .int .i64 (w.length : Int) ∧ slot fr 10 = .int .i64 (pre.length : Int) ∧
    st = ⟨o ++ [Obj.arr 42 24 [Pf.cells q], Z], o.length, []⟩ ∧ q.ok ∧ q.sm ∧ R = atP q rest) ?_ w ⟨[], p, rfl, by simp [hfr], by simp [hfr], by simp [hfr], by simp [hfr, s1], by simp [hfr], by simp [hfr], rfl, hp, hs, hR.symm⟩
  clear hfr s0 s1 hsl hR hp hs x1 x2 x3 x4
  clear fr
  rintro rest fr _ ⟨pre, q, e, hfr, q2, q4, q8, q9, q10, rfl, qok, qsm, hn⟩
  rw [hZ]
  have y1 := p_take q
  have y2 := p_can q
  have y3 := plen q
  have y4 := p_one q
  cases rest with
  | nil =>
    have hlt := idx_end e
    simp only [atP] at hn
    have hc := fun o ro df => pcopy_eq q qok qsm o ro df
    have hfl := pflat q
    simp -implicitDefEqProofs [hfr, q2, q4, q8, q9, q10, hlt, get_base0, get_base, set_base0, set_base, hc, hn, y1, y2, y3, y4, pset, Pf.av, p_hand, -getElem?_pos, List.getElem?_cons_zero, List.getElem?_cons_succ]
  | cons i rest =>
    obtain ⟨hlt, hg, hpl⟩ := idx_at e
    have hw := idx_next e mx
    have hg' : (intA w)[pre.length]? = some [.int .i64 i] := by simp [intA, hg]
    have hpl' : pre.length < (intA w).length := by rw [wlen]; exact hpl
    have hz := p_hand o.length (o ++ [Obj.arr 42 24 [Pf.cells q], Obj.arr 42 24 [zPf.cells]]) zPf
    obtain ⟨r, h, nw, v, b, t, c, les, chs, cu, ps⟩ := q
    have kps : ps.length ≤ 140737488355328 := by simp only [Pf.ok] at qok; exact qok.2.2.2.2.2.2.2.2.2.1
    have cid := qok
    obtain ⟨t0, t1, t2, t3⟩ := t
    obtain ⟨c0, c1, c2, c3, c4⟩ := c
    obtain ⟨kd, fr0, by0, dv, kk, ms, cs⟩ := cu
    simp only [atP, Pf.subs] at hn
    have zE : zPf.cells = [.int .i64 0, .str ⟨#[]⟩, .str ⟨#[]⟩, .str ⟨#[]⟩, .bool false, .int .i64 0, .str ⟨#[]⟩, .int .i64 0, .sl 4 [], .int .i64 0, .str ⟨#[]⟩, .str ⟨#[]⟩, .sl 4 [], .sl 5 [], .sl 8 [], .sl 2 [], .int .i64 0, .sl 1 [], .sl 1 [], .int .i64 0, .int .i64 0, .sl 2 [], .sl 7 [], .sl 24 []] := by
      simp [zPf, zT, zC, zU, Pf.cells_all, intA, moA]
    by_cases k1 : i < 0
    · rw [if_pos k1] at hn
      simp only [Pf.cells_all]
      simp -implicitDefEqProofs [hfr, q2, q4, q8, q9, q10, hlt, hg', hpl', hpl, hw, k1, get_base0, get_base, set_base0, set_base, hn, zE, Pf.av, -List.getElem_map, -getElem?_pos, List.getElem?_cons_zero, List.getElem?_cons_succ]
    · rw [if_neg k1] at hn
      obtain ⟨k, rfl⟩ : ∃ k : Nat, i = (k : Int) := ⟨i.toNat, by omega⟩
      rw [Int.toNat_natCast] at hn
      by_cases k2 : (ps.length : Int) ≤ k
      · rw [List.getElem?_eq_none (by omega)] at hn
        simp only [Pf.cells_all]
        simp -implicitDefEqProofs [hfr, q2, q4, q8, q9, q10, hlt, hg', hpl', hpl, hw, k1, k2, get_base0, get_base, set_base0, set_base, hn, zE, Pf.av, -List.getElem_map, -getElem?_pos, List.getElem?_cons_zero, List.getElem?_cons_succ]
        try omega
      · have hk : k < ps.length := by omega
        have hki : (k : Int) < ps.length := by omega
        have hx : ps[k]? = some ps[k] := List.getElem?_eq_getElem hk
        rw [hx] at hn
        have sm2 := sub_sm qsm (k := k) (q := ps[k]) hx
        have ok2 := sub_ok qok (k := k) (q := ps[k]) hx
        generalize ps[k] = x at *
        have z1 := p_take x
        have z2 := p_can x
        have z3 := plen x
        have z4 := p_one x
        have hxc : (ps.map Pf.cells)[k]? = some x.cells := by simp [hx]
        simp only [Pf.cells_all]
        simp -implicitDefEqProofs [hfr, q2, q4, q8, q9, q10, hlt, hg', hpl', hpl, hw, k1, k2, hk, hki, hx, hxc, get_base0, get_base, set_base0, set_base, pset, z1, z2, z3, z4, -List.getElem_map, -getElem?_pos, List.getElem?_cons_zero, List.getElem?_cons_succ]
        exact ⟨rest, by simp, pre ++ [(k : Int)], by simp [e], by simp, x, rfl, ok2, sm2, hn⟩

end Go.Proofs.YtkecobdhgabknaaDoor.A
