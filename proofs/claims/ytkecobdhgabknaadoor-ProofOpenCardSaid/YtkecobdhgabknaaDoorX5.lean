/- A proof in new memory: the program's function gives what it was given. -/
import Derived.Test.YtkecobdhgabknaaDoorXT
import Derived.Test.YtkecobdhgabknaaDoorXCC
import Derived.Test.YtkecobdhgabknaaDoorGx0
namespace Go.Proofs.YtkecobdhgabknaaDoor.A
open Go
set_option maxRecDepth 10000
set_option linter.unusedSimpArgs false
set_option linter.unusedVariables false
attribute [-simp] List.all_eq_true put slot_def ld idxA lenOf elems canA app hand

mutual
/-- no list is long, no term or claim is large -/
def Pf.sm : Pf → Prop
  | .mk _ _ _ _ _ t c les chs cu ps => t.all.length ≤ 4294967296 ∧ c.ct ≤ 4294967296 ∧ les.length ≤ 1000000 ∧ (∀ x ∈ les, Lm.sm x) ∧ chs.length ≤ 1000000 ∧ (∀ x ∈ chs, Ch.sm x) ∧ cu.sm ∧ ps.length ≤ 1000000 ∧ smPf ps
def smPf : List Pf → Prop
  | [] => True
  | c :: l => c.sm ∧ smPf l
end
theorem smPf_iff : ∀ {l : List Pf}, smPf l ↔ ∀ t ∈ l, t.sm
  | [] => by simp [smPf]
  | t :: l => by simp [smPf, smPf_iff (l := l)]

theorem pcopy_eq : ∀ (p : Pf), p.ok → p.sm → ∀ (o : List Obj) (ro : Nat) (df : List Nat), (D T).call 18 [.agg p.cells] ⟨o, ro, df⟩ = some (.agg p.cells, ⟨o, ro, df⟩)
  | .mk r h nw v b t c les chs cu ps, hok, hs, o, ro, df => by
    simp only [Pf.ok] at hok
    obtain ⟨_, _, _, _, ot, oc, _, _, _, _, ops⟩ := hok
    simp only [Pf.sm] at hs
    obtain ⟨s1, s2, s3, s4, s5, s6, s7, s8, s9⟩ := hs
    have hl := okPf_iff.1 ops
    have hm := smPf_iff.1 s9
    have c1 := fun o ro df => copy_eq t ot s1 o ro df
    have c2 := fun o ro df => ccopy_eq c oc s2 o ro df
    have c3 := fun o ro df => eachLemma_eq 45 les s3 (fun x hx o ro df => clemma_eq x (s4 x hx) o ro df) o ro df
    have c4 := fun o ro df => eachChain_eq 48 chs s5 (fun x hx o ro df => cchain_eq x (s6 x hx) o ro df) o ro df
    have c5 := fun o ro df => ccut_eq cu s7 o ro df
    have c6 := fun o ro df => eachProof_eq 18 ps s8 (fun x hx o ro df => pcopy_eq x (hl x hx) (hm x hx) o ro df) o ro df
    have f0 := pflat (.mk r h nw v b t c les chs cu ps)
    obtain ⟨t0, t1, t2, t3⟩ := t
    obtain ⟨a0, a1, a2, a3, a4⟩ := c
    obtain ⟨kd, fr0, by0, dv, kk, ms, cs⟩ := cu
    simp only [Tm.av, Tm.cells_mk, Cl.av, Cl.cells_mk, Cu.cells_mk] at c1 c2 c5
    simp only [Pf.cells_all] at f0 ⊢
    simp only [AV.flatL, AV.flat, Bool.and_eq_true, Bool.true_and, Bool.and_true] at f0
    generalize List.map Tm.cells t3 = Q1 at *
    generalize List.map Tm.cells a3 = Q2 at *
    generalize List.map Cl.cells a4 = Q3 at *
    generalize List.map Lm.cells les = Q4 at *
    generalize List.map Ch.cells chs = Q5 at *
    generalize List.map Cu.cells cs = Q6 at *
    generalize List.map Pf.cells ps = Q7 at *
    generalize intA fr0 = Q8 at *
    generalize intA by0 = Q9 at *
    generalize moA ms = Q10 at *
    apply call_by (by exact rfl : T 18 = some _) (by simp)
    intro fr hfr hsl
    have s0 := hsl 0 _ rfl
    simp -implicitDefEqProofs [hfr, s0, get_base0, get_base, set_base0, set_base, c1, c2, c3, c4, c5, c6, f0, -getElem?_pos, List.getElem?_cons_zero, List.getElem?_cons_succ]
termination_by t => SizeOf.sizeOf t
decreasing_by
  have := List.sizeOf_lt_of_mem hx
  simp
  omega

end Go.Proofs.YtkecobdhgabknaaDoor.A
/- How many parts a proof has: the program's function, which counts by a closure. -/
namespace Go.Proofs.YtkecobdhgabknaaDoor.A
open Go
set_option maxRecDepth 10000
set_option linter.unusedSimpArgs false
set_option linter.unusedVariables false
attribute [-simp] List.all_eq_true put slot_def ld idxA lenOf elems canA app hand

mutual
def pn : Pf → Int → Int
  | .mk _ _ _ _ _ _ _ _ _ _ l, n => pnL l (n + 1)
def pnL : List Pf → Int → Int
  | [], n => n
  | c :: l, n => pnL l (if n ≤ 4096 then pn c n else n)
end

mutual
theorem pn_min : ∀ (c : Pf) (n : Int), 0 ≤ n → n ≤ 4096 → n ≤ pn c n ∧ pn c n ≤ 4097 ∧ min (pn c n) 4097 = min (n + psz c) 4097
  | .mk _ _ _ _ _ _ _ _ _ _ l, n, h0, h1 => by
    have k2 := pnL_min l (n + 1) (by omega) (by omega)
    have k3 := pszL_pos l
    simp only [pn, psz]
    omega
theorem pnL_min : ∀ (l : List Pf) (n : Int), 0 ≤ n → n ≤ 4097 → n ≤ pnL l n ∧ pnL l n ≤ 4097 ∧ min (pnL l n) 4097 = min (n + pszL l) 4097
  | [], n, h0, h1 => by simp [pnL, pszL]; omega
  | c :: l, n, h0, h1 => by
    have p1 := psz_pos c
    have p2 := pszL_pos l
    simp only [pnL, pszL]
    by_cases hn : n ≤ 4096
    · rw [if_pos hn]
      have k1 := pn_min c n h0 hn
      have k2 := pnL_min l (pn c n) (by omega) (by omega)
      omega
    · rw [if_neg hn]
      have := pnL_min l n h0 h1
      omega
end

def cntP (p q : Nat) : AV := .fn (.func 35) [] [.ptr p 0 0, .ptr q 0 0]

theorem pcount_eq : ∀ (c : Pf), c.ok → ∀ (n : Int), 0 ≤ n → n ≤ 4096 → ∀ (p q : Nat) (o : List Obj) (ro : Nat) (df : List Nat), p ≠ q → ro ≤ p → o[p]? = some (.arr 3 1 [[.int .i64 n]]) → o[q]? = some (.arr 53 1 [[cntP p q]]) →
    ∃ o', (D T).call 35 [c.av, .ptr p 0 0, .ptr q 0 0] ⟨o, ro, df⟩ = some (.tup [], ⟨o', ro, df⟩) ∧ o'[p]? = some (.arr 3 1 [[.int .i64 (pn c n)]]) ∧ o.length ≤ o'.length ∧ ∀ (i : Nat) y, i ≠ p → o[i]? = some y → o'[i]? = some y
  | .mk r h nw v b t c les chs cu ps, hok, n, n0, n1, p, q, o, ro, df, hpq, hro, hp, hq => by
    simp only [Pf.ok] at hok
    obtain ⟨_, _, _, _, _, _, _, _, _, kps, ops⟩ := hok
    have hl := okPf_iff.1 ops
    unfold mxB at kps
    have mx : ps.length ≤ 9223372036854775807 := by omega
    have ih := fun x (hx : x ∈ ps) => pcount_eq x (hl x hx)
    have hE : pn (.mk r h nw v b t c les chs cu ps) n = pnL ps (n + 1) := rfl
    generalize pn (.mk r h nw v b t c les chs cu ps) n = R at hE ⊢
    obtain ⟨t0, t1, t2, t3⟩ := t
    obtain ⟨c0, c1, c2, c3, c4⟩ := c
    obtain ⟨kd, fr0, by0, dv, kk, ms, cs⟩ := cu
    simp only [Pf.av] at ih
    suffices h : ∃ v' st', (D T).call 35 [(Pf.mk r h nw v b (.mk t0 t1 t2 t3) (.mk c0 c1 c2 c3 c4) les chs (.mk kd fr0 by0 dv kk ms cs) ps).av, .ptr p 0 0, .ptr q 0 0] ⟨o, ro, df⟩ = some (v', st') ∧ (fun v st' => ∃ o', v = .tup [] ∧ st' = ⟨o', ro, df⟩ ∧ o'[p]? = some (.arr 3 1 [[.int .i64 R]]) ∧ o.length ≤ o'.length ∧ ∀ (i : Nat) y, i ≠ p → o[i]? = some y → o'[i]? = some y) v' st' by
      obtain ⟨_, _, h1, o', rfl, rfl, h2⟩ := h
      exact ⟨o', h1, h2⟩
    apply call_for (by exact rfl : T 35 = some _) (by simp)
    intro fr hfr hsl
    have s0 := hsl 0 _ rfl
    have s1 := hsl 1 _ rfl
    have s2 := hsl 2 _ rfl
    simp only [Pf.av, Pf.cells_all] at s0
    have l1 : p < o.length := lt_of_getO hp
    have l2 : q < o.length := lt_of_getO hq
    have l3 : ro ≤ o.length := by omega
    have w1 : IntKind.i64.wrap (n + 1) = n + 1 := wrap_id (by omega) (by omega)
    simp -implicitDefEqProofs [hfr, s0, s1, s2, setO_last, getO_last, List.getElem?_append_left, l1, l2, l3, hp, hq, hro, w1, -getElem?_pos, List.getElem?_cons_zero]
    apply loop_inv L35_0.eq_1 List.length (fun (rest : List Pf) fr st => ∃ pre x o2, ps = pre ++ rest ∧ fr.length = 21 ∧ slot fr 1 = .ptr p 0 0 ∧ slot fr 2 = .ptr q 0 0 ∧ slot fr 9 = .sl 24 (ps.map Pf.cells) ∧ slot fr 10 = .int .i64 (ps.length : Int) ∧ slot fr 11 = .int .i64 (pre.length : Int) ∧
      st = ⟨o2, ro, []⟩ ∧ o2[p]? = some (.arr 3 1 [[.int .i64 x]]) ∧ o.length ≤ o2.length ∧ (∀ (i : Nat) y, i ≠ p → o[i]? = some y → o2[i]? = some y) ∧ 0 ≤ x ∧ x ≤ 4097 ∧ R = pnL rest x) ?_ ps
      ⟨[], n + 1, _, rfl, by simp [hfr], by simp [hfr, s1], by simp [hfr, s2], by simp [hfr], by simp [hfr], by simp [hfr], rfl, getO_push (getO_set l1) _, by simp, fun i y hi hy => getO_push (by rw [List.getElem?_set_ne (Ne.symm hi)]; exact hy) _, by omega, by omega, hE⟩
    rintro rest fr _ ⟨pre, x, o2, e, hfr, q1, q2, q9, q10, q11, rfl, h1, hlo, K, x0, x1, hx⟩
    have h3 := K q _ (Ne.symm hpq) hq
    have m1 : p < o2.length := lt_of_getO h1
    have m2 : q < o2.length := lt_of_getO h3
    have m3 : ro ≤ o2.length := by omega
    cases rest with
    | nil =>
      have hlt := idx_end e
      simp only [pnL] at hx
      simp -implicitDefEqProofs [hfr, q1, q2, q9, q10, q11, hlt]
      exact ⟨by rw [hx]; exact h1, hlo, K⟩
    | cons c rest =>
      obtain ⟨hlt, hg, hpl⟩ := idx_at e
      have hw := idx_next e mx
      have y1 := p_take c
      have y2 := p_can c
      have y3 := plen c
      have y4 := p_one c
      have y5 := pset
      simp only [pnL] at hx
      by_cases hn : x ≤ 4096
      · rw [if_pos hn] at hx
        obtain ⟨o3, e3, r1, r2, r3⟩ := ih c (by simp [e]) x x0 hn p q (o2 ++ [.arr 42 24 [c.cells]]) ro [] hpq hro (getO_push h1 _) (getO_push h3 _)
        have hb := pn_min c x x0 hn
        simp -implicitDefEqProofs [hfr, q1, q2, q9, q10, q11, hlt, hg, hpl, hw, hn, y1, y2, y3, y4, y5, setO_last, getO_last, List.getElem?_append_left, m1, m2, m3, h1, h3, cntP, e3, -List.getElem_map, -getElem?_pos, List.getElem?_cons_zero]
        refine ⟨rest, by simp, pre ++ [c], by simp [e], by simp, pn c x, r1, by simp at r2; omega, fun i y hi hy => r3 i y hi (getO_push (K i y hi hy) _), by omega, by omega, hx⟩
      · rw [if_neg hn] at hx
        simp -implicitDefEqProofs [hfr, q1, q2, q9, q10, q11, hlt, hg, hpl, hw, hn, y1, y2, y3, y4, y5, setO_last, getO_last, List.getElem?_append_left, m1, m2, m3, h1, h3, cntP, -List.getElem_map, -getElem?_pos, List.getElem?_cons_zero]
        exact ⟨rest, by simp, pre ++ [c], by simp [e], by simp, by omega, fun i y hi hy => getO_push (K i y hi hy) _, by omega, by omega, hx⟩
termination_by t => SizeOf.sizeOf t
decreasing_by
  have := List.sizeOf_lt_of_mem hx
  simp
  omega

theorem psize_eq (c : Pf) (hc : c.ok) (o : List Obj) (ro : Nat) (df : List Nat) : (D T).call 13 [c.av] ⟨o, ro, df⟩ = some (.int .i64 (min (psz c) 4097), ⟨o, ro, df⟩) := by
  obtain ⟨b1, b2, b3⟩ := pn_min c 0 (by omega) (by omega)
  obtain ⟨o', e, r1, r2, r3⟩ := pcount_eq c hc 0 (by omega) (by omega) (o.length + 1) (o.length + 2) (o ++ [Obj.arr 42 24 [c.cells], Obj.arr 3 1 [[.int .i64 0]], Obj.arr 53 1 [[cntP (o.length + 1) (o.length + 2)]]]) o.length [] (by omega) (by omega) (by simp [get_base]) (by simp [get_base])
  simp only [Pf.av, cntP] at e
  apply call_by (by exact rfl : T 13 = some _) (by simp)
  intro fr hfr hsl
  have s0 := hsl 0 _ rfl
  have y1 := p_take c
  have y2 := p_can c
  have y3 := plen c
  have y4 := p_one c
  simp only [Pf.av] at s0
  rw [show min (psz c) 4097 = min (pn c 0) 4097 by omega]
  generalize pn c 0 = v at *
  by_cases hb : 4097 < v
  · omega
  · have hv : min v 4097 = v := by omega
    simp -implicitDefEqProofs [hfr, s0, y1, y2, y3, y4, get_base0, get_base, set_base0, set_base, e, r1, hb, hv, -getElem?_pos, List.getElem?_cons_zero, List.getElem?_cons_succ]

end Go.Proofs.YtkecobdhgabknaaDoor.A
