/- How great a claim is: the program's function, which counts by a closure. -/
import Derived.Test.YtpenaaljaahanaaDoorD2
namespace Go.Proofs.YtpenaaljaahanaaDoor.A
open Go
set_option maxRecDepth 10000
set_option linter.unusedSimpArgs false
attribute [-simp] List.all_eq_true put slot_def ld idxA lenOf elems canA app hand

def cnT : List Tm → Int → Int
  | [], n => n
  | t :: l, n => cnT l (if n ≤ 4096 then n + min (t.all.length : Int) 4097 else n)

mutual
def cn : Cl → Int → Int
  | .mk _ _ _ ts cs, n => cnL cs (cnT ts (n + 1))
def cnL : List Cl → Int → Int
  | [], n => n
  | c :: l, n => cnL l (if n ≤ 4096 then cn c n else n)
end

theorem cnT_min : ∀ (l : List Tm) (n : Int), 0 ≤ n → n ≤ 8193 → n ≤ cnT l n ∧ cnT l n ≤ 8193 ∧ min (cnT l n) 4097 = min (n + ((allL l).length : Int)) 4097
  | [], n, h0, h1 => by simp [cnT, allL]; omega
  | t :: l, n, h0, h1 => by
    simp only [cnT, allL, List.length_append]
    by_cases hn : n ≤ 4096
    · rw [if_pos hn]
      have := cnT_min l (n + min (t.all.length : Int) 4097) (by omega) (by omega)
      omega
    · rw [if_neg hn]
      have := cnT_min l n h0 h1
      omega

mutual
theorem cn_min : ∀ (c : Cl) (n : Int), 0 ≤ n → n ≤ 4096 → n ≤ cn c n ∧ cn c n ≤ 8193 ∧ min (cn c n) 4097 = min (n + csz c) 4097
  | .mk _ _ _ ts cs, n, h0, h1 => by
    have k1 := cnT_min ts (n + 1) (by omega) (by omega)
    have k2 := cnL_min cs (cnT ts (n + 1)) (by omega) (by omega)
    have k3 := cszL_pos cs
    simp only [cn, csz]
    omega
theorem cnL_min : ∀ (l : List Cl) (n : Int), 0 ≤ n → n ≤ 8193 → n ≤ cnL l n ∧ cnL l n ≤ 8193 ∧ min (cnL l n) 4097 = min (n + cszL l) 4097
  | [], n, h0, h1 => by simp [cnL, cszL]; omega
  | c :: l, n, h0, h1 => by
    have p1 := csz_pos c
    have p2 := cszL_pos l
    simp only [cnL, cszL]
    by_cases hn : n ≤ 4096
    · rw [if_pos hn]
      have k1 := cn_min c n h0 hn
      have k2 := cnL_min l (cn c n) (by omega) (by omega)
      omega
    · rw [if_neg hn]
      have := cnL_min l n h0 h1
      omega
end

def cntFn (p q : Nat) : AV := .fn (.func 23) [] [.ptr p 0 0, .ptr q 0 0]

theorem count_eq : ∀ (c : Cl), c.ok → ∀ (n : Int), 0 ≤ n → n ≤ 4096 → ∀ (p q : Nat) (o : List Obj) (ro : Nat) (df : List Nat), p ≠ q → ro ≤ p → o[p]? = some (.arr 3 1 [[.int .i64 n]]) → o[q]? = some (.arr 40 1 [[cntFn p q]]) →
    ∃ o', (D T).call 23 [c.av, .ptr p 0 0, .ptr q 0 0] ⟨o, ro, df⟩ = some (.tup [], ⟨o', ro, df⟩) ∧ o'[p]? = some (.arr 3 1 [[.int .i64 (cn c n)]]) ∧ o.length ≤ o'.length ∧ ∀ (i : Nat) y, i ≠ p → o[i]? = some y → o'[i]? = some y
  | .mk a s u ts cs, hok, n, n0, n1, p, q, o, ro, df, hpq, hro, hp, hq => by
    simp only [Cl.ok] at hok
    have hl := okC_iff.1 hok.2.2.2.2.2.2
    have ht := okL_iff.1 hok.2.2.2.2.1
    have mx1 : ts.length ≤ 9223372036854775807 := Nat.le_trans hok.2.2.2.1 (by decide)
    have mx2 : cs.length ≤ 9223372036854775807 := Nat.le_trans hok.2.2.2.2.2.1 (by decide)
    have ih := fun x (hx : x ∈ cs) => count_eq x (hl x hx)
    have hS := fun x (hx : x ∈ ts) o ro df => Size_eq x (ht x hx) o ro df
    simp only [Cl.av, Tm.av] at ih hS
    have lp1 : ∀ (fr : List AV) (m : Int) (o1 : List Obj) (Q : AE → List AV → St → Prop), 0 ≤ m → m ≤ 8193 → fr.length = 37 → slot fr 1 = .ptr p 0 0 → slot fr 2 = .ptr q 0 0 → slot fr 25 = .sl 5 (cs.map Cl.cells) → slot fr 26 = .int .i64 (cs.length : Int) → slot fr 27 = .int .i64 0 →
        o1[p]? = some (.arr 3 1 [[.int .i64 m]]) → o1[q]? = some (.arr 40 1 [[cntFn p q]]) →
        (∀ (fr' : List AV) o2, fr'.length = 37 → o2[p]? = some (.arr 3 1 [[.int .i64 (cnL cs m)]]) → o1.length ≤ o2.length → (∀ (i : Nat) y, i ≠ p → o1[i]? = some y → o2[i]? = some y) → Q (.exit 2) fr' ⟨o2, ro, []⟩) →
        ∃ e fr' st', (D T).loop false L23_1 fr ⟨o1, ro, []⟩ = some (e, fr', st') ∧ Q e fr' st' := by
      intro fr m o1 Q m0 m1 f f1 f2 f25 f26 f27 g1 g2 k
      apply loop_inv L23_1.eq_1 List.length (fun (rest : List Cl) fr st => ∃ pre x o2, cs = pre ++ rest ∧ fr.length = 37 ∧ slot fr 1 = .ptr p 0 0 ∧ slot fr 2 = .ptr q 0 0 ∧ slot fr 25 = .sl 5 (cs.map Cl.cells) ∧ slot fr 26 = .int .i64 (cs.length : Int) ∧ slot fr 27 = .int .i64 (pre.length : Int) ∧
        st = ⟨o2, ro, []⟩ ∧ o2[p]? = some (.arr 3 1 [[.int .i64 x]]) ∧ o2[q]? = some (.arr 40 1 [[cntFn p q]]) ∧ o1.length ≤ o2.length ∧ (∀ (i : Nat) y, i ≠ p → o1[i]? = some y → o2[i]? = some y) ∧ 0 ≤ x ∧ x ≤ 8193 ∧ cnL cs m = cnL rest x) ?_ cs
        ⟨[], m, o1, rfl, f, f1, f2, f25, f26, f27, rfl, g1, g2, Nat.le_refl _, fun _ _ _ h => h, m0, m1, rfl⟩
      rintro rest fr _ ⟨pre, x, o2, e, hfr, q1, q2, q25, q26, q27, rfl, h1, h2, hlo, K, x0, x1, hx⟩
      cases rest with
      | nil =>
        have hlt := idx_end e
        simp only [cnL] at hx
        simp -implicitDefEqProofs [hfr, q1, q2, q25, q26, q27, hlt]
        exact k _ o2 (by simp [hfr]) (by rw [hx]; exact h1) hlo K
      | cons c rest =>
        obtain ⟨hlt, hg, _⟩ := idx_at e
        have hw := idx_next e mx2
        have l1 : p < o2.length := lt_of_getO h1
        have l2 : q < o2.length := lt_of_getO h2
        have l3 : ro ≤ o2.length := by omega
        simp only [cnL] at hx
        by_cases hn : x ≤ 4096
        · rw [if_pos hn] at hx
          obtain ⟨o3, e3, r1, r2, r3⟩ := ih c (by simp [e]) x x0 hn p q (o2 ++ [.arr 25 5 [c.cells]]) ro [] hpq hro (getO_push h1 _) (getO_push h2 _)
          have hb := cn_min c x x0 hn
          simp -implicitDefEqProofs [hfr, q1, q2, q25, q26, q27, hlt, hg, hw, hn, setO_last, getO_last, List.getElem?_append_left, l1, l2, l3, h1, h2, cntFn, e3, -getElem?_pos, List.getElem?_cons_zero]
          refine ⟨rest, by simp, pre ++ [c], by simp [e], by simp, cn c x, r1, r3 q _ (Ne.symm hpq) (getO_push h2 _), by simp at r2; omega, fun i y hi hy => r3 i y hi (getO_push (K i y hi hy) _), by omega, by omega, hx⟩
        · rw [if_neg hn] at hx
          simp -implicitDefEqProofs [hfr, q1, q2, q25, q26, q27, hlt, hg, hw, hn, setO_last, getO_last, List.getElem?_append_left, l1, l2, l3, h1, h2, cntFn, -getElem?_pos, List.getElem?_cons_zero]
          exact ⟨rest, by simp, pre ++ [c], by simp [e], by simp, by omega, fun i y hi hy => getO_push (K i y hi hy) _, by omega, by omega, hx⟩
    suffices h : ∃ v st', (D T).call 23 [(Cl.mk a s u ts cs).av, .ptr p 0 0, .ptr q 0 0] ⟨o, ro, df⟩ = some (v, st') ∧ (fun v st' => ∃ o', v = .tup [] ∧ st' = ⟨o', ro, df⟩ ∧ o'[p]? = some (.arr 3 1 [[.int .i64 (cn (.mk a s u ts cs) n)]]) ∧ o.length ≤ o'.length ∧ ∀ (i : Nat) y, i ≠ p → o[i]? = some y → o'[i]? = some y) v st' by
      obtain ⟨_, _, h1, o', rfl, rfl, h2⟩ := h
      exact ⟨o', h1, h2⟩
    apply call_for (by exact rfl : T 23 = some _) (by simp)
    intro fr hfr hsl
    have s0 := hsl 0 _ rfl
    have s1 := hsl 1 _ rfl
    have s2 := hsl 2 _ rfl
    simp only [Cl.av, Cl.cells_mk] at s0
    have l1 : p < o.length := lt_of_getO hp
    have l2 : q < o.length := lt_of_getO hq
    have l3 : ro ≤ o.length := by omega
    have w1 : IntKind.i64.wrap (n + 1) = n + 1 := wrap_id (by omega) (by omega)
    have hn1 := cnT_min ts (n + 1) (by omega) (by omega)
    simp -implicitDefEqProofs [hfr, s0, s1, s2, setO_last, getO_last, List.getElem?_append_left, l1, l2, l3, hp, hq, hro, w1, -getElem?_pos, List.getElem?_cons_zero]
    apply loop_inv L23_0.eq_1 List.length (fun (rest : List Tm) fr st => ∃ pre x o2, ts = pre ++ rest ∧ fr.length = 37 ∧ slot fr 1 = .ptr p 0 0 ∧ slot fr 2 = .ptr q 0 0 ∧ slot fr 3 = .ptr o.length 0 0 ∧ slot fr 11 = .sl 4 (ts.map Tm.cells) ∧ slot fr 12 = .int .i64 (ts.length : Int) ∧ slot fr 13 = .int .i64 (pre.length : Int) ∧
      st = ⟨o2, ro, []⟩ ∧ o2[p]? = some (.arr 3 1 [[.int .i64 x]]) ∧ o2[o.length]? = some (.arr 25 5 [[.int .i64 a, .str s, .str u, .sl 4 (ts.map Tm.cells), .sl 5 (cs.map Cl.cells)]]) ∧ o.length ≤ o2.length ∧ (∀ (i : Nat) y, i ≠ p → o[i]? = some y → o2[i]? = some y) ∧ 0 ≤ x ∧ x ≤ 8193 ∧ cnT ts (n + 1) = cnT rest x) ?_ ts
      ⟨[], n + 1, _, rfl, by simp [hfr], by simp [hfr, s1], by simp [hfr, s2], by simp [hfr], by simp [hfr], by simp [hfr], by simp [hfr], rfl, getO_push (getO_set l1) _, getO_last (by simp), by simp, fun i y hi hy => getO_push (by rw [List.getElem?_set_ne (Ne.symm hi)]; exact hy) _, by omega, by omega, rfl⟩
    rintro rest fr _ ⟨pre, x, o2, e, hfr, q1, q2, q3, q11, q12, q13, rfl, h1, h2, hlo, K, x0, x1, hx⟩
    have h3 := K q _ (Ne.symm hpq) hq
    have m1 : p < o2.length := lt_of_getO h1
    have m2 : o.length < o2.length := lt_of_getO h2
    have m3 : ro ≤ o2.length := by omega
    cases rest with
    | nil =>
      have hlt := idx_end e
      simp only [cnT] at hx
      simp -implicitDefEqProofs [hfr, q1, q2, q3, q11, q12, q13, hlt, h2, -getElem?_pos, List.getElem?_cons_zero]
      apply lp1 _ x o2 _ x0 x1
      · simp [hfr]
      · simp [hfr, q1]
      · simp [hfr, q2]
      · simp [hfr]
      · simp [hfr]
      · simp [hfr]
      · exact h1
      · exact h3
      · intro fr' o3 hf r1 r2 r3
        simp -implicitDefEqProofs [hf]
        refine ⟨?_, by omega, fun i y hi hy => r3 i y hi (K i y hi hy)⟩
        rw [r1]; simp [cn, hx]
    | cons t rest =>
      obtain ⟨hlt, hg, _⟩ := idx_at e
      have hw := idx_next e mx1
      simp only [cnT] at hx
      by_cases hn : x ≤ 4096
      · rw [if_pos hn] at hx
        have hc := fun o ro df => hS t (by simp [e]) o ro df
        obtain ⟨z, hz⟩ : ∃ z, z = min (t.all.length : Int) 4097 := ⟨_, rfl⟩
        rw [← hz] at hx
        simp only [← hz] at hc
        have w2 : IntKind.i64.wrap (x + z) = x + z := wrap_id (by omega) (by omega)
        simp -implicitDefEqProofs [hfr, q1, q2, q3, q11, q12, q13, hlt, hg, hw, hn, setO_last, getO_last, List.getElem?_append_left, m1, m2, m3, h1, hro, hc, w2, -getElem?_pos, List.getElem?_cons_zero]
        exact ⟨rest, by simp, pre ++ [t], by simp [e], by simp, by rw [List.getElem?_set_ne (by omega)]; exact h2, by omega, fun i y hi hy => getO_push (by rw [List.getElem?_set_ne (Ne.symm hi)]; exact K i y hi hy) _, by omega, by omega, hx⟩
      · rw [if_neg hn] at hx
        simp -implicitDefEqProofs [hfr, q1, q2, q3, q11, q12, q13, hlt, hg, hw, hn, setO_last, getO_last, List.getElem?_append_left, m1, m2, m3, h1, -getElem?_pos, List.getElem?_cons_zero]
        exact ⟨rest, by simp, pre ++ [t], by simp [e], by simp, h2, by omega, fun i y hi hy => getO_push (K i y hi hy) _, by omega, by omega, hx⟩
termination_by t => SizeOf.sizeOf t
decreasing_by
  have := List.sizeOf_lt_of_mem hx
  simp
  omega

theorem cSize_eq (c : Cl) (hc : c.ok) (o : List Obj) (ro : Nat) (df : List Nat) : (D T).call 9 [c.av] ⟨o, ro, df⟩ = some (.int .i64 (min (csz c) 4097), ⟨o, ro, df⟩) := by
  obtain ⟨b1, b2, b3⟩ := cn_min c 0 (by omega) (by omega)
  obtain ⟨o', e, r1, r2, r3⟩ := count_eq c hc 0 (by omega) (by omega) (o.length + 1) (o.length + 2) (o ++ [Obj.arr 25 5 [c.cells], Obj.arr 3 1 [[.int .i64 0]], Obj.arr 40 1 [[cntFn (o.length + 1) (o.length + 2)]]]) o.length [] (by omega) (by omega) (by simp [get_base]) (by simp [get_base])
  simp only [Cl.av, cntFn] at e
  apply call_by (by exact rfl : T 9 = some _) (by simp)
  intro fr hfr hsl
  have s0 := hsl 0 _ rfl
  simp only [Cl.av] at s0
  rw [show min (csz c) 4097 = min (cn c 0) 4097 by omega]
  generalize cn c 0 = v at *
  by_cases hb : 4097 < v
  · have hv : min v 4097 = 4097 := by omega
    simp -implicitDefEqProofs [hfr, s0, get_base0, get_base, set_base0, set_base, e, r1, hb, hv, -getElem?_pos, List.getElem?_cons_zero, List.getElem?_cons_succ]
  · have hv : min v 4097 = v := by omega
    simp -implicitDefEqProofs [hfr, s0, get_base0, get_base, set_base0, set_base, e, r1, hb, hv, -getElem?_pos, List.getElem?_cons_zero, List.getElem?_cons_succ]

end Go.Proofs.YtpenaaljaahanaaDoor.A
