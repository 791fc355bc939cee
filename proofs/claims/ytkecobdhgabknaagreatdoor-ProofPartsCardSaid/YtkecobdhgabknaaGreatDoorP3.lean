/- How many parts a proof has: the program's function, which counts by a closure. -/
import Derived.Test.YtkecobdhgabknaaGreatDoorX4
import Derived.Test.YtkecobdhgabknaaGreatDoorP1
namespace Go.Proofs.YtkecobdhgabknaaGreatDoor.A
open Go
set_option maxRecDepth 10000
set_option linter.unusedSimpArgs false
set_option linter.unusedVariables false
attribute [-simp] List.all_eq_true put slot_def ld idxA lenOf elems canA app hand

mutual
def pn : Pf → Int → Int
  | .mk _ _ _ _ _ _ _ _ _ _ l, n => pnL l (n + 1)
def pnL : List Pf → Int → Int
  | [], n => n
  | c :: l, n => pnL l (if n ≤ 4096 then pn c n else n)
end

mutual
theorem pn_min : ∀ (c : Pf) (n : Int), 0 ≤ n → n ≤ 4096 → n ≤ pn c n ∧ pn c n ≤ 4097 ∧ min (pn c n) 4097 = min (n + psz c) 4097
  | .mk _ _ _ _ _ _ _ _ _ _ l, n, h0, h1 => by
    have k2 := pnL_min l (n + 1) (by omega) (by omega)
    have k3 := pszL_pos l
    simp only [pn, psz]
    omega
theorem pnL_min : ∀ (l : List Pf) (n : Int), 0 ≤ n → n ≤ 4097 → n ≤ pnL l n ∧ pnL l n ≤ 4097 ∧ min (pnL l n) 4097 = min (n + pszL l) 4097
  | [], n, h0, h1 => by simp [pnL, pszL]; omega
  | c :: l, n, h0, h1 => by
    have p1 := psz_pos c
    have p2 := pszL_pos l
    simp only [pnL, pszL]
    by_cases hn : n ≤ 4096
    · rw [if_pos hn]
      have k1 := pn_min c n h0 hn
      have k2 := pnL_min l (pn c n) (by omega) (by omega)
      omega
    · rw [if_neg hn]
      have := pnL_min l n h0 h1
      omega
end

def cntP (p q : Nat) : AV := .fn (.func 39) [] [.ptr p 0 0, .ptr q 0 0]

theorem pcount_eq : ∀ (c : Pf), c.ok → ∀ (n : Int), 0 ≤ n → n ≤ 4096 → ∀ (p q : Nat) (o : List Obj) (ro : Nat) (df : List Nat), p ≠ q → ro ≤ p → o[p]? = some (.arr 3 1 [[.int .i64 n]]) → o[q]? = some (.arr 80 1 [[cntP p q]]) →
    ∃ o', (D T).call 39 [c.av, .ptr p 0 0, .ptr q 0 0] ⟨o, ro, df⟩ = some (.tup [], ⟨o', ro, df⟩) ∧ o'[p]? = some (.arr 3 1 [[.int .i64 (pn c n)]]) ∧ o.length ≤ o'.length ∧ ∀ (i : Nat) y, i ≠ p → o[i]? = some y → o'[i]? = some y
  | .mk r h nw v b t c les chs cu ps, hok, n, n0, n1, p, q, o, ro, df, hpq, hro, hp, hq => by
    simp only [Pf.ok] at hok
    obtain ⟨_, _, _, _, _, _, _, _, _, kps, ops⟩ := hok
    have hl := okPf_iff.1 ops
    unfold mxB at kps
    have mx : ps.length ≤ 9223372036854775807 := by omega
    have ih := fun x (hx : x ∈ ps) => pcount_eq x (hl x hx)
    have hE : pn (.mk r h nw v b t c les chs cu ps) n = pnL ps (n + 1) := rfl
    generalize pn (.mk r h nw v b t c les chs cu ps) n = R at hE ⊢
    obtain ⟨t0, t1, t2, t3⟩ := t
    obtain ⟨c0, c1, c2, c3, c4⟩ := c
    obtain ⟨kd, fr0, by0, dv, kk, ms, cs⟩ := cu
    simp only [Pf.av] at ih
    suffices h : ∃ v' st', (D T).call 39 [(Pf.mk r h nw v b (.mk t0 t1 t2 t3) (.mk c0 c1 c2 c3 c4) les chs (.mk kd fr0 by0 dv kk ms cs) ps).av, .ptr p 0 0, .ptr q 0 0] ⟨o, ro, df⟩ = some (v', st') ∧ (fun v st' => ∃ o', v = .tup [] ∧ st' = ⟨o', ro, df⟩ ∧ o'[p]? = some (.arr 3 1 [[.int .i64 R]]) ∧ o.length ≤ o'.length ∧ ∀ (i : Nat) y, i ≠ p → o[i]? = some y → o'[i]? = some y) v' st' by
      obtain ⟨_, _, h1, o', rfl, rfl, h2⟩ := h
      exact ⟨o', h1, h2⟩
    apply call_for (by exact rfl : T 39 = some _) (by simp)
    intro fr hfr hsl
    have s0 := hsl 0 _ rfl
    have s1 := hsl 1 _ rfl
    have s2 := hsl 2 _ rfl
    simp only [Pf.av, Pf.cells_all] at s0
    have l1 : p < o.length := lt_of_getO hp
    have l2 : q < o.length := lt_of_getO hq
    have l3 : ro ≤ o.length := by omega
    have w1 : IntKind.i64.wrap (n + 1) = n + 1 := wrap_id (by omega) (by omega)
    simp -implicitDefEqProofs [hfr, s0, s1, s2, setO_last, getO_last, List.getElem?_append_left, l1, l2, l3, hp, hq, hro, w1, -getElem?_pos, List.getElem?_cons_zero]
    apply loop_inv L39_0.eq_1 List.length (fun (rest : List Pf) fr st => ∃ pre x o2, ps = pre ++ rest ∧ fr.length = 21 ∧ slot fr 1 = .ptr p 0 0 ∧ slot fr 2 = .ptr q 0 0 ∧ slot fr 9 = .sl 24 (ps.map Pf.cells) ∧ slot fr 10 = .int .i64 (ps.length : Int) ∧ slot fr 11 = .int .i64 (pre.length : Int) ∧
      st = ⟨o2, ro, []⟩ ∧ o2[p]? = some (.arr 3 1 [[.int .i64 x]]) ∧ o.length ≤ o2.length ∧ (∀ (i : Nat) y, i ≠ p → o[i]? = some y → o2[i]? = some y) ∧ 0 ≤ x ∧ x ≤ 4097 ∧ R = pnL rest x) ?_ ps
      ⟨[], n + 1, _, rfl, by simp [hfr], by simp [hfr, s1], by simp [hfr, s2], by simp [hfr], by simp [hfr], by simp [hfr], rfl, getO_push (getO_set l1) _, by simp, fun i y hi hy => getO_push (by rw [List.getElem?_set_ne (Ne.symm hi)]; exact hy) _, by omega, by omega, hE⟩
    rintro rest fr _ ⟨pre, x, o2, e, hfr, q1, q2, q9, q10, q11, rfl, h1, hlo, K, x0, x1, hx⟩
    have h3 := K q _ (Ne.symm hpq) hq
    have m1 : p < o2.length := lt_of_getO h1
    have m2 : q < o2.length := lt_of_getO h3
    have m3 : ro ≤ o2.length := by omega
    cases rest with
    | nil =>
      have hlt := idx_end e
      simp only [pnL] at hx
      simp -implicitDefEqProofs [hfr, q1, q2, q9, q10, q11, hlt]
      exact ⟨by rw [hx]; exact h1, hlo, K⟩
    | cons c rest =>
      obtain ⟨hlt, hg, hpl⟩ := idx_at e
      have hw := idx_next e mx
      have y1 := p_take c
      have y2 := p_can c
      have y3 := plen c
      have y4 := p_one c
      have y5 := pset
      simp only [pnL] at hx
      by_cases hn : x ≤ 4096
      · rw [if_pos hn] at hx
        obtain ⟨o3, e3, r1, r2, r3⟩ := ih c (by simp [e]) x x0 hn p q (o2 ++ [.arr 42 24 [c.cells]]) ro [] hpq hro (getO_push h1 _) (getO_push h3 _)
        have hb := pn_min c x x0 hn
        simp -implicitDefEqProofs [hfr, q1, q2, q9, q10, q11, hlt, hg, hpl, hw, hn, y1, y2, y3, y4, y5, setO_last, getO_last, List.getElem?_append_left, m1, m2, m3, h1, h3, cntP, e3, -List.getElem_map, -getElem?_pos, List.getElem?_cons_zero]
        refine ⟨rest, by simp, pre ++ [c], by simp [e], by simp, pn c x, r1, by simp at r2; omega, fun i y hi hy => r3 i y hi (getO_push (K i y hi hy) _), by omega, by omega, hx⟩
      · rw [if_neg hn] at hx
        simp -implicitDefEqProofs [hfr, q1, q2, q9, q10, q11, hlt, hg, hpl, hw, hn, y1, y2, y3, y4, y5, setO_last, getO_last, List.getElem?_append_left, m1, m2, m3, h1, h3, cntP, -List.getElem_map, -getElem?_pos, List.getElem?_cons_zero]
        exact ⟨rest, by simp, pre ++ [c], by simp [e], by simp, by omega, fun i y hi hy => getO_push (K i y hi hy) _, by omega, by omega, hx⟩
termination_by t => SizeOf.sizeOf t
decreasing_by
  have := List.sizeOf_lt_of_mem hx
  simp
  omega

theorem psize_eq (c : Pf) (hc : c.ok) (o : List Obj) (ro : Nat) (df : List Nat) : (D T).call 19 [c.av] ⟨o, ro, df⟩ = some (.int .i64 (min (psz c) 4097), ⟨o, ro, df⟩) := by
  obtain ⟨b1, b2, b3⟩ := pn_min c 0 (by omega) (by omega)
  obtain ⟨o', e, r1, r2, r3⟩ := pcount_eq c hc 0 (by omega) (by omega) (o.length + 1) (o.length + 2) (o ++ [Obj.arr 42 24 [c.cells], Obj.arr 3 1 [[.int .i64 0]], Obj.arr 80 1 [[cntP (o.length + 1) (o.length + 2)]]]) o.length [] (by omega) (by omega) (by simp [get_base]) (by simp [get_base])
  simp only [Pf.av, cntP] at e
  apply call_by (by exact rfl : T 19 = some _) (by simp)
  intro fr hfr hsl
  have s0 := hsl 0 _ rfl
  have y1 := p_take c
  have y2 := p_can c
  have y3 := plen c
  have y4 := p_one c
  simp only [Pf.av] at s0
  rw [show min (psz c) 4097 = min (pn c 0) 4097 by omega]
  generalize pn c 0 = v at *
  by_cases hb : 4097 < v
  · omega
  · have hv : min v 4097 = v := by omega
    simp -implicitDefEqProofs [hfr, s0, y1, y2, y3, y4, get_base0, get_base, set_base0, set_base, e, r1, hb, hv, -getElem?_pos, List.getElem?_cons_zero, List.getElem?_cons_succ]

end Go.Proofs.YtkecobdhgabknaaGreatDoor.A
/- Terms stand in an order. -/
namespace Go.Proofs.YtkecobdhgabknaaGreatDoor.A
open Go

theorem bl_trans : ∀ x y z : List UInt8, Op.bytesLess x y = true → Op.bytesLess y z = true → Op.bytesLess x z = true
  | _, _, [], _, h => by simp [Op.bytesLess] at h
  | x, [], _ :: _, h, _ => by simp [Op.bytesLess] at h
  | [], _ :: _, _ :: _, _, _ => by simp [Op.bytesLess]
  | a :: x, b :: y, c :: z, h1, h2 => by
    simp only [Op.bytesLess, Bool.or_eq_true, Bool.and_eq_true, decide_eq_true_eq, beq_iff_eq] at h1 h2 ⊢
    rcases h1 with h1 | ⟨rfl, h1⟩
    · rcases h2 with h2 | ⟨rfl, h2⟩
      · exact .inl (UInt8.lt_trans h1 h2)
      · exact .inl h1
    · rcases h2 with h2 | ⟨rfl, h2⟩
      · exact .inl h2
      · exact .inr ⟨rfl, bl_trans x y z h1 h2⟩

theorem bl_total : ∀ x y : List UInt8, Op.bytesLess x y = false → x ≠ y → Op.bytesLess y x = true
  | [], [], _, h => absurd rfl h
  | [], _ :: _, h, _ => by simp [Op.bytesLess] at h
  | _ :: _, [], _, _ => by simp [Op.bytesLess]
  | a :: x, b :: y, h1, h2 => by
    simp only [Op.bytesLess, Bool.or_eq_false_iff, Bool.and_eq_false_iff, decide_eq_false_iff_not, beq_eq_false_iff_ne, Bool.or_eq_true, Bool.and_eq_true, decide_eq_true_eq, beq_iff_eq] at h1 ⊢
    by_cases hab : a = b
    · subst hab
      right
      refine ⟨rfl, bl_total x y ?_ ?_⟩
      · rcases h1.2 with h | h
        · exact absurd rfl h
        · exact h
      · rintro rfl
        exact h2 rfl
    · left
      rcases UInt8.lt_or_lt_of_ne hab with h | h
      · exact absurd h h1.1
      · exact h

/-- x, y, z stand as three things compared: a with b, b with c, a with c -/
def Tr (x y z : Int) : Prop := x ≤ 0 → y ≤ 0 → z ≤ 0 ∧ (z = 0 ↔ x = 0 ∧ y = 0)

theorem cmpI_tr (a b c : Int) : Tr (cmpI a b) (cmpI b c) (cmpI a c) := by
  unfold Tr cmpI
  intro h1 h2
  by_cases a1 : a < b <;> by_cases a2 : b < a <;> by_cases b1 : b < c <;> by_cases b2 : c < b <;> by_cases c1 : a < c <;> by_cases c2 : c < a <;> simp [a1, a2, b1, b2, c1, c2] at h1 h2 ⊢ <;> omega

theorem cmpI_neg (a b : Int) : cmpI a b = - cmpI b a := by
  unfold cmpI
  by_cases a1 : a < b <;> by_cases a2 : b < a <;> simp [a1, a2]
  omega

theorem cmpI_rng (a b : Int) : -1 ≤ cmpI a b ∧ cmpI a b ≤ 1 := by
  unfold cmpI
  split
  · omega
  · split <;> omega

/-- the three ways -/
theorem cmpS_ways (a b : ByteArray) : (cmpS a b = -1 ∧ bytesLt a b = true) ∨ (cmpS a b = 0 ∧ a.toList = b.toList) ∨ (cmpS a b = 1 ∧ bytesLt b a = true) := by
  unfold cmpS
  cases h : bytesLt a b with
  | true => exact .inl ⟨rfl, rfl⟩
  | false =>
    right
    cases h2 : bytesEq a b with
    | true => exact .inl ⟨rfl, (bytesEq_iff a b).1 h2⟩
    | false =>
      refine .inr ⟨rfl, bl_total _ _ h fun e => ?_⟩
      rw [(bytesEq_iff a b).2 e] at h2
      cases h2

theorem bl_irr {x : List UInt8} (h : Op.bytesLess x x = true) : False := by rw [bytesLess_self] at h; cases h

theorem cmpS_rng (a b : ByteArray) : -1 ≤ cmpS a b ∧ cmpS a b ≤ 1 := by
  rcases cmpS_ways a b with h | h | h <;> omega

theorem cmpS_neg (a b : ByteArray) : cmpS a b = - cmpS b a := by
  rcases cmpS_ways a b with ⟨h, h'⟩ | ⟨h, h'⟩ | ⟨h, h'⟩ <;> rcases cmpS_ways b a with ⟨k, k'⟩ | ⟨k, k'⟩ | ⟨k, k'⟩ <;> rw [h, k] <;> try rfl
  all_goals exfalso
  all_goals simp only [bytesLt] at *
  · exact bl_irr (bl_trans _ _ _ h' k')
  · rw [k'] at h'; exact bl_irr h'
  · rw [h'] at k'; exact bl_irr k'
  · rw [h'] at k'; exact bl_irr k'
  · rw [k'] at h'; exact bl_irr h'
  · exact bl_irr (bl_trans _ _ _ h' k')

theorem cmpS_tr (a b c : ByteArray) : Tr (cmpS a b) (cmpS b c) (cmpS a c) := by
  unfold Tr
  intro h1 h2
  rcases cmpS_ways a b with ⟨h, h'⟩ | ⟨h, h'⟩ | ⟨h, h'⟩ <;> rcases cmpS_ways b c with ⟨k, k'⟩ | ⟨k, k'⟩ | ⟨k, k'⟩ <;> rcases cmpS_ways a c with ⟨m, m'⟩ | ⟨m, m'⟩ | ⟨m, m'⟩ <;> rw [h] at h1 ⊢ <;> rw [k] at h2 ⊢ <;> rw [m] <;> try omega
  all_goals exfalso
  all_goals simp only [bytesLt] at *
  · rw [m'] at h'; exact bl_irr (bl_trans _ _ _ h' k')
  · exact bl_irr (bl_trans _ _ _ m' (bl_trans _ _ _ h' k'))
  · rw [m', k'] at h'; exact bl_irr h'
  · rw [k'] at h'; exact bl_irr (bl_trans _ _ _ m' h')
  · rw [← m', h'] at k'; exact bl_irr k'
  · rw [← h'] at k'; exact bl_irr (bl_trans _ _ _ m' k')
  · rw [h', k'] at m'; exact bl_irr m'
  · rw [h', k'] at m'; exact bl_irr m'

end Go.Proofs.YtkecobdhgabknaaGreatDoor.A
/- Terms stand in an order, whole. -/
namespace Go.Proofs.YtkecobdhgabknaaGreatDoor.A
open Go

abbrev Rng (x : Int) : Prop := -1 ≤ x ∧ x ≤ 1

theorem orc_rng {x : Int} {l : List Int} (h : Rng x) (k : Rng (orL l)) : Rng (orL (x :: l)) := by
  simp only [orL]; split <;> assumption
theorem orc_neg {x y : Int} {l k : List Int} (h : x = - y) (e : orL l = - orL k) : orL (x :: l) = - orL (y :: k) := by
  simp only [orL]
  by_cases hy : y = 0
  · have hx : x = 0 := by omega
    rw [if_pos hx, if_pos hy, e]
  · have hx : ¬ x = 0 := by omega
    rw [if_neg hx, if_neg hy, h]
theorem lex_tr {x y z a b c : Int} (h : Tr x y z) (e : Tr a b c) : Tr (if x = 0 then a else x) (if y = 0 then b else y) (if z = 0 then c else z) := by
  unfold Tr at *
  intro h1 h2
  have hx : x ≤ 0 := by split at h1 <;> omega
  have hy : y ≤ 0 := by split at h2 <;> omega
  obtain ⟨k1, k2⟩ := h hx hy
  by_cases hz : z = 0
  · obtain ⟨x0, y0⟩ := k2.1 hz
    rw [if_pos hz, if_pos x0, if_pos y0]
    rw [if_pos x0] at h1
    rw [if_pos y0] at h2
    exact e h1 h2
  · rw [if_neg hz]
    refine ⟨k1, fun q => absurd q hz, fun ⟨q1, q2⟩ => ?_⟩
    by_cases x0 : x = 0
    · by_cases y0 : y = 0
      · exact k2.2 ⟨x0, y0⟩
      · rw [if_neg y0] at q2; exact absurd q2 y0
    · rw [if_neg x0] at q1; exact absurd q1 x0
theorem orc_tr {x y z : Int} {l k m : List Int} (h : Tr x y z) (e : Tr (orL l) (orL k) (orL m)) : Tr (orL (x :: l)) (orL (y :: k)) (orL (z :: m)) := by
  exact lex_tr h e
theorem or_nil_tr : Tr (orL []) (orL []) (orL []) := by unfold Tr; simp [orL]

mutual
theorem cm_rng : ∀ t u : Tm, Rng (cm t u)
  | .mk a s b l, .mk a' s' b' l' => by
    rw [cm]
    exact orc_rng (cmpI_rng _ _) (orc_rng (cmpI_rng _ _) (orc_rng (cmpS_rng _ _) (orc_rng (cmpI_rng _ _) (orc_rng (cmL_rng l l') (by simp [orL, Rng])))))
theorem cmL_rng : ∀ l k : List Tm, Rng (cmL l k)
  | [], [] => by simp [cmL, Rng]
  | [], _ :: _ => by simp [cmL, Rng]
  | _ :: _, [] => by simp [cmL, Rng]
  | t :: l, u :: k => by
    rw [cmL]
    split
    · exact cmL_rng l k
    · exact cm_rng t u
end

mutual
theorem cm_neg : ∀ t u : Tm, cm t u = - cm u t
  | .mk a s b l, .mk a' s' b' l' => by
    rw [cm, cm]
    exact orc_neg (cmpI_neg _ _) (orc_neg (cmpI_neg _ _) (orc_neg (cmpS_neg _ _) (orc_neg (cmpI_neg _ _) (orc_neg (cmL_neg l l') (by simp [orL])))))
theorem cmL_neg : ∀ l k : List Tm, cmL l k = - cmL k l
  | [], [] => by simp [cmL]
  | [], _ :: _ => by simp [cmL]
  | _ :: _, [] => by simp [cmL]
  | t :: l, u :: k => by
    have h := cm_neg t u
    rw [cmL, cmL]
    by_cases hz : cm u t = 0
    · have hz' : cm t u = 0 := by omega
      rw [if_pos hz, if_pos hz']
      exact cmL_neg l k
    · have hz' : ¬ cm t u = 0 := by omega
      rw [if_neg hz, if_neg hz', h]
end

mutual
theorem cm_tr : ∀ t u v : Tm, Tr (cm t u) (cm u v) (cm t v)
  | .mk a s b l, .mk a' s' b' l', .mk a2 s2 b2 l2 => by
    rw [cm, cm, cm]
    exact orc_tr (cmpI_tr _ _ _) (orc_tr (cmpI_tr _ _ _) (orc_tr (cmpS_tr _ _ _) (orc_tr (cmpI_tr _ _ _) (orc_tr (cmL_tr l l' l2) or_nil_tr))))
theorem cmL_tr : ∀ l k m : List Tm, Tr (cmL l k) (cmL k m) (cmL l m)
  | [], [], [] => by simp [cmL, Tr]
  | [], [], _ :: _ => by simp [cmL, Tr]
  | [], _ :: _, [] => by simp [cmL, Tr]
  | [], _ :: _, _ :: _ => by simp [cmL, Tr]
  | _ :: _, [], [] => by simp [cmL, Tr]
  | _ :: _, [], _ :: _ => by simp [cmL, Tr]
  | _ :: _, _ :: _, [] => by simp [cmL, Tr]
  | t :: l, u :: k, v :: m => by
    exact lex_tr (cm_tr t u v) (cmL_tr l k m)
end

theorem cm_self (t : Tm) : cm t t = 0 := by have := cm_neg t t; omega

end Go.Proofs.YtkecobdhgabknaaGreatDoor.A
