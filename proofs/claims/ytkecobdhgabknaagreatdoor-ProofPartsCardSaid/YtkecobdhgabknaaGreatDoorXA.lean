/- A proof in new memory: the program's function gives what it was given. -/
import Derived.Test.YtkecobdhgabknaaGreatDoorXT
import Derived.Test.YtkecobdhgabknaaGreatDoorXCC
import Derived.Test.YtkecobdhgabknaaGreatDoorXY
namespace Go.Proofs.YtkecobdhgabknaaGreatDoor.A
open Go
set_option maxRecDepth 10000
set_option linter.unusedSimpArgs false
set_option linter.unusedVariables false
attribute [-simp] List.all_eq_true put slot_def ld idxA lenOf elems canA app hand

mutual
/-- no list is long, no term or claim is large -/
def Pf.sm : Pf → Prop
  | .mk _ _ _ _ _ t c les chs cu ps => t.all.length ≤ 4294967296 ∧ c.ct ≤ 4294967296 ∧ les.length ≤ 1000000 ∧ (∀ x ∈ les, Lm.sm x) ∧ chs.length ≤ 1000000 ∧ (∀ x ∈ chs, Ch.sm x) ∧ cu.sm ∧ ps.length ≤ 1000000 ∧ smPf ps
def smPf : List Pf → Prop
  | [] => True
  | c :: l => c.sm ∧ smPf l
end
theorem smPf_iff : ∀ {l : List Pf}, smPf l ↔ ∀ t ∈ l, t.sm
  | [] => by simp [smPf]
  | t :: l => by simp [smPf, smPf_iff (l := l)]

theorem pcopy_eq : ∀ (p : Pf), p.ok → p.sm → ∀ (o : List Obj) (ro : Nat) (df : List Nat), (D T).call 22 [.agg p.cells] ⟨o, ro, df⟩ = some (.agg p.cells, ⟨o, ro, df⟩)
  | .mk r h nw v b t c les chs cu ps, hok, hs, o, ro, df => by
    simp only [Pf.ok] at hok
    obtain ⟨_, _, _, _, ot, oc, _, _, _, _, ops⟩ := hok
    simp only [Pf.sm] at hs
    obtain ⟨s1, s2, s3, s4, s5, s6, s7, s8, s9⟩ := hs
    have hl := okPf_iff.1 ops
    have hm := smPf_iff.1 s9
    have c1 := fun o ro df => copy_eq t ot s1 o ro df
    have c2 := fun o ro df => ccopy_eq c oc s2 o ro df
    have c3 := fun o ro df => eachLemma_eq 44 les s3 (fun x hx o ro df => clemma_eq x (s4 x hx) o ro df) o ro df
    have c4 := fun o ro df => eachChain_eq 47 chs s5 (fun x hx o ro df => cchain_eq x (s6 x hx) o ro df) o ro df
    have c5 := fun o ro df => ccut_eq cu s7 o ro df
    have c6 := fun o ro df => eachProof_eq 22 ps s8 (fun x hx o ro df => pcopy_eq x (hl x hx) (hm x hx) o ro df) o ro df
    have f0 := pflat (.mk r h nw v b t c les chs cu ps)
    obtain ⟨t0, t1, t2, t3⟩ := t
    obtain ⟨a0, a1, a2, a3, a4⟩ := c
    obtain ⟨kd, fr0, by0, dv, kk, ms, cs⟩ := cu
    simp only [Tm.av, Tm.cells_mk, Cl.av, Cl.cells_mk, Cu.cells_mk] at c1 c2 c5
    simp only [Pf.cells_all] at f0 ⊢
    simp only [AV.flatL, AV.flat, Bool.and_eq_true, Bool.true_and, Bool.and_true] at f0
    generalize List.map Tm.cells t3 = Q1 at *
    generalize List.map Tm.cells a3 = Q2 at *
    generalize List.map Cl.cells a4 = Q3 at *
    generalize List.map Lm.cells les = Q4 at *
    generalize List.map Ch.cells chs = Q5 at *
    generalize List.map Cu.cells cs = Q6 at *
    generalize List.map Pf.cells ps = Q7 at *
    generalize intA fr0 = Q8 at *
    generalize intA by0 = Q9 at *
    generalize moA ms = Q10 at *
    apply call_by (by exact rfl : T 22 = some _) (by simp)
    intro fr hfr hsl
    have s0 := hsl 0 _ rfl
    simp -implicitDefEqProofs [hfr, s0, get_base0, get_base, set_base0, set_base, c1, c2, c3, c4, c5, c6, f0, -getElem?_pos, List.getElem?_cons_zero, List.getElem?_cons_succ]
termination_by t => SizeOf.sizeOf t
decreasing_by
  have := List.sizeOf_lt_of_mem hx
  simp
  omega

end Go.Proofs.YtkecobdhgabknaaGreatDoor.A
/- The part of a proof at a way: the program's function. -/
namespace Go.Proofs.YtkecobdhgabknaaGreatDoor.A
open Go
set_option maxRecDepth 10000
set_option linter.unusedSimpArgs false
set_option linter.unusedVariables false
attribute [-simp] List.all_eq_true put slot_def ld idxA lenOf elems canA app hand

def Pf.subs : Pf → List Pf
  | .mk _ _ _ _ _ _ _ _ _ _ l => l
/-- the part at a way -/
def atP : Pf → List Int → Option Pf
  | p, [] => some p
  | p, i :: w => if i < 0 then none else match p.subs[i.toNat]? with
    | some q => atP q w
    | none => none
def zPf : Pf := .mk 0 ⟨#[]⟩ ⟨#[]⟩ ⟨#[]⟩ false zT zC [] [] zU []

theorem sub_sm {p q : Pf} {k : Nat} (h : p.sm) (e : p.subs[k]? = some q) : q.sm := by
  obtain ⟨r, h0, nw, v, b, t, c, les, chs, cu, ps⟩ := p
  simp only [Pf.sm] at h
  exact smPf_iff.1 h.2.2.2.2.2.2.2.2 q (List.mem_of_getElem? e)
theorem sub_ok {p q : Pf} {k : Nat} (h : p.ok) (e : p.subs[k]? = some q) : q.ok := by
  obtain ⟨r, h0, nw, v, b, t, c, les, chs, cu, ps⟩ := p
  simp only [Pf.ok] at h
  exact okPf_iff.1 h.2.2.2.2.2.2.2.2.2.2 q (List.mem_of_getElem? e)

theorem p_hand (n : Nat) (o : List Obj) : ∀ q : Pf, mapO (hand0 n o) q.cells = some q.cells
  | .mk r h nw v b (.mk t0 t1 t2 t3) (.mk a0 a1 a2 a3 a4) les chs (.mk kd fr0 by0 dv kk ms cs) ps => by
    simp [Pf.cells_all, mapO, hand0, AV.flat, pflat_list, cuflat_list, moA_flat, intA_flat, chflat_list, leflat_list, cflat_list, flat_list]

theorem pAt_eq (p : Pf) (hp : p.ok) (hs : p.sm) (w : List Int) (hw : w.length ≤ 1000000) (o : List Obj) (ro : Nat) (df : List Nat) :
    (D T).call 6 [p.av, .sl 1 (intA w)] ⟨o, ro, df⟩ = some (.tup [((atP p w).getD zPf).av, .bool (atP p w).isSome], ⟨o, ro, df⟩) := by
  have mx : w.length ≤ 9223372036854775807 := by omega
  have wlen := intA_len w
  have x1 := p_take p
  have x2 := p_can p
  have x3 := plen p
  have x4 := p_one p
  have fp := pflat
  apply call_by (by exact rfl : T 6 = some _) (by simp)
  intro fr hfr hsl
  have s0 := hsl 0 _ rfl
  have s1 := hsl 1 _ rfl
  simp only [Pf.av] at s0
  obtain ⟨Z, hZ⟩ : ∃ Z, Z = Obj.arr 42 24 [[.int .i64 0, .str ⟨#[]⟩, .str ⟨#[]⟩, .str ⟨#[]⟩, .bool false, .int .i64 0, .str ⟨#[]⟩, .int .i64 0, .fsl 4 [], .int .i64 0, .str ⟨#[]⟩, .str ⟨#[]⟩, .fsl 4 [], .fsl 5 [], .fsl 8 [], .fsl 2 [], .int .i64 0, .fsl 1 [], .fsl 1 [], .int .i64 0, .int .i64 0, .fsl 2 [], .fsl 7 [], .fsl 24 []]] := ⟨_, rfl⟩
  simp -implicitDefEqProofs [hfr, s0, s1, get_base0, x1, x2, x3, x4, wlen, ← hZ]
  generalize hR : atP p w = R
  apply loop_inv L6_0.eq_1 List.length (fun (rest : List Int) fr st => ∃ pre q, w = pre ++ rest ∧ fr.length = 32 ∧ slot fr 2 = .ptr o.length 0 0 ∧ slot fr 4 = .ptr (o.length + 1) 0 0 ∧ slot fr 8 = .sl 1 (intA w) ∧ slot fr 9 = .int .i64 (w.length : Int) ∧ slot fr 10 = .int .i64 (pre.length : Int) ∧
    st = ⟨o ++ [Obj.arr 42 24 [Pf.cells q], Z], o.length, []⟩ ∧ q.ok ∧ q.sm ∧ R = atP q rest) ?_ w ⟨[], p, rfl, by simp [hfr], by simp [hfr], by simp [hfr], by simp [hfr, s1], by simp [hfr], by simp [hfr], rfl, hp, hs, hR.symm⟩
  clear hfr s0 s1 hsl hR hp hs x1 x2 x3 x4
  clear fr
  rintro rest fr _ ⟨pre, q, e, hfr, q2, q4, q8, q9, q10, rfl, qok, qsm, hn⟩
  rw [hZ]
  have y1 := p_take q
  have y2 := p_can q
  have y3 := plen q
  have y4 := p_one q
  cases rest with
  | nil =>
    have hlt := idx_end e
    simp only [atP] at hn
    have hc := fun o ro df => pcopy_eq q qok qsm o ro df
    have hfl := pflat q
    simp -implicitDefEqProofs [hfr, q2, q4, q8, q9, q10, hlt, get_base0, get_base, set_base0, set_base, hc, hn, y1, y2, y3, y4, pset, Pf.av, p_hand, -getElem?_pos, List.getElem?_cons_zero, List.getElem?_cons_succ]
  | cons i rest =>
    obtain ⟨hlt, hg, hpl⟩ := idx_at e
    have hw := idx_next e mx
    have hg' : (intA w)[pre.length]? = some [.int .i64 i] := by simp [intA, hg]
    have hpl' : pre.length < (intA w).length := by rw [wlen]; exact hpl
    have hz := p_hand o.length (o ++ [Obj.arr 42 24 [Pf.cells q], Obj.arr 42 24 [zPf.cells]]) zPf
    obtain ⟨r, h, nw, v, b, t, c, les, chs, cu, ps⟩ := q
    have kps : ps.length ≤ 140737488355328 := by simp only [Pf.ok] at qok; exact qok.2.2.2.2.2.2.2.2.2.1
    have cid := qok
    obtain ⟨t0, t1, t2, t3⟩ := t
    obtain ⟨c0, c1, c2, c3, c4⟩ := c
    obtain ⟨kd, fr0, by0, dv, kk, ms, cs⟩ := cu
    simp only [atP, Pf.subs] at hn
    have zE : zPf.cells = [.int .i64 0, .str ⟨#[]⟩, .str ⟨#[]⟩, .str ⟨#[]⟩, .bool false, .int .i64 0, .str ⟨#[]⟩, .int .i64 0, .sl 4 [], .int .i64 0, .str ⟨#[]⟩, .str ⟨#[]⟩, .sl 4 [], .sl 5 [], .sl 8 [], .sl 2 [], .int .i64 0, .sl 1 [], .sl 1 [], .int .i64 0, .int .i64 0, .sl 2 [], .sl 7 [], .sl 24 []] := by
      simp [zPf, zT, zC, zU, Pf.cells_all, intA, moA]
    by_cases k1 : i < 0
    · rw [if_pos k1] at hn
      simp only [Pf.cells_all]
      simp -implicitDefEqProofs [hfr, q2, q4, q8, q9, q10, hlt, hg', hpl', hpl, hw, k1, get_base0, get_base, set_base0, set_base, hn, zE, Pf.av, -List.getElem_map, -getElem?_pos, List.getElem?_cons_zero, List.getElem?_cons_succ]
    · rw [if_neg k1] at hn
      obtain ⟨k, rfl⟩ : ∃ k : Nat, i = (k : Int) := ⟨i.toNat, by omega⟩
      rw [Int.toNat_natCast] at hn
      by_cases k2 : (ps.length : Int) ≤ k
      · rw [List.getElem?_eq_none (by omega)] at hn
        simp only [Pf.cells_all]
        simp -implicitDefEqProofs [hfr, q2, q4, q8, q9, q10, hlt, hg', hpl', hpl, hw, k1, k2, get_base0, get_base, set_base0, set_base, hn, zE, Pf.av, -List.getElem_map, -getElem?_pos, List.getElem?_cons_zero, List.getElem?_cons_succ]
        try omega
      · have hk : k < ps.length := by omega
        have hki : (k : Int) < ps.length := by omega
        have hx : ps[k]? = some ps[k] := List.getElem?_eq_getElem hk
        rw [hx] at hn
        have sm2 := sub_sm qsm (k := k) (q := ps[k]) hx
        have ok2 := sub_ok qok (k := k) (q := ps[k]) hx
        generalize ps[k] = x at *
        have z1 := p_take x
        have z2 := p_can x
        have z3 := plen x
        have z4 := p_one x
        have hxc : (ps.map Pf.cells)[k]? = some x.cells := by simp [hx]
        simp only [Pf.cells_all]
        simp -implicitDefEqProofs [hfr, q2, q4, q8, q9, q10, hlt, hg', hpl', hpl, hw, k1, k2, hk, hki, hx, hxc, get_base0, get_base, set_base0, set_base, pset, z1, z2, z3, z4, -List.getElem_map, -getElem?_pos, List.getElem?_cons_zero, List.getElem?_cons_succ]
        exact ⟨rest, by simp, pre ++ [(k : Int)], by simp [e], by simp, x, rfl, ok2, sm2, hn⟩

end Go.Proofs.YtkecobdhgabknaaGreatDoor.A
