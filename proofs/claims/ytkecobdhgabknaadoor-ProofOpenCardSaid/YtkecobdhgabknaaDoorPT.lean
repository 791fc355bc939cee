/- When two proofs are the same with binders' names, as far as a proof's own claim goes: the document's function. -/
import Derived.Test.YtkecobdhgabknaaDoorXS
import Derived.Test.YtkecobdhgabknaaDoorP1
import Derived.Test.YtkecobdhgabknaaDoorS4T
namespace Go.Proofs.YtkecobdhgabknaaDoor.A
open Go
set_option maxRecDepth 10000
set_option linter.unusedSimpArgs false
set_option linter.unusedVariables false
attribute [-simp] List.all_eq_true put slot_def ld idxA lenOf elems canA app hand

mutual
def xcEq : Pf → Pf → Bool
  | .mk r h n v b t c les chs cu ps, .mk r' h' n' v' b' t' c' les' chs' cu' ps' => exEq c c' && (ps.length == ps'.length) && xcsEq ps ps' && prEq (.mk r h n v b t c les chs cu ps) (.mk r' h' n' v' b' t' c' les' chs' cu' ps')
def xcsEq : List Pf → List Pf → Bool
  | a :: l, b :: k => xcEq a b && xcsEq l k
  | _, _ => true
end

theorem rexact_eq : ∀ (p : Pf), p.ok → ∀ (q : Pf), q.ok → ∀ (st : St), (D T).call 19 [.agg p.cells, .agg q.cells] st = some (.bool (xcEq p q), st)
  | .mk r h n v b t c les chs cu ps, hok, .mk r' h' n' v' b' t' c' les' chs' cu' ps', hok', st => by
    obtain ⟨o, ro, df⟩ := st
    have hpr := fun st => bproof_eq _ hok _ hok' st
    simp only [Pf.ok] at hok hok'
    obtain ⟨_, _, _, _, ot, oc, ole, och, ocu, kps, ops⟩ := hok
    obtain ⟨_, _, _, _, ot', oc', ole', och', ocu', kps', ops'⟩ := hok'
    have hl := okPf_iff.1 ops
    have hl' := okPf_iff.1 ops'
    unfold mxB at kps kps'
    have mx : ps.length ≤ 9223372036854775807 := by omega
    have h1 := fun st => ex_eq c oc c' oc' st
    have ih := fun x (hx : x ∈ ps) u (hu : u ∈ ps') st => rexact_eq x (hl x hx) u (hl' u hu) st
    have hE : xcEq (.mk r h n v b t c les chs cu ps) (.mk r' h' n' v' b' t' c' les' chs' cu' ps') = (exEq c c' && (ps.length == ps'.length) && xcsEq ps ps' && prEq (.mk r h n v b t c les chs cu ps) (.mk r' h' n' v' b' t' c' les' chs' cu' ps')) := rfl
    generalize xcEq (.mk r h n v b t c les chs cu ps) (.mk r' h' n' v' b' t' c' les' chs' cu' ps') = R at hE ⊢
    generalize prEq (.mk r h n v b t c les chs cu ps) (.mk r' h' n' v' b' t' c' les' chs' cu' ps') = P at *
    generalize exEq c c' = E1 at *
    clear hl hl' ops ops' ole och ole' och' ot oc ot' oc' ocu ocu'
    obtain ⟨t0, t1, t2, t3⟩ := t
    obtain ⟨c0, c1, c2, c3, c4⟩ := c
    obtain ⟨kd, fr0, by0, dv, kk, ms, cs⟩ := cu
    obtain ⟨t0', t1', t2', t3'⟩ := t'
    obtain ⟨c0', c1', c2', c3', c4'⟩ := c'
    obtain ⟨kd', fr0', by0', dv', kk', ms', cs'⟩ := cu'
    simp only [Cl.av, Cl.cells_mk] at h1
    simp only [Pf.cells_all] at hpr ⊢
    apply call_by (by exact rfl : T 19 = some _) (by simp)
    intro fr hfr hsl
    have s0 := hsl 0 _ rfl
    have s1 := hsl 1 _ rfl
    cases E1 with
    | false =>
      simp only [Bool.false_and] at hE
      simp -implicitDefEqProofs [hfr, s0, s1, get_base0, get_base, h1, hE, -getElem?_pos, List.getElem?_cons_zero, List.getElem?_cons_succ]
    | true =>
      by_cases hlk : ps.length = ps'.length
      rotate_left
      · have hb : (ps.length == ps'.length) = false := by simpa using hlk
        have hne : ((ps.length : Int) != (ps'.length : Int)) = true := by simp [bne]; omega
        rw [hb] at hE
        simp only [Bool.true_and, Bool.false_and] at hE
        simp -implicitDefEqProofs [hfr, s0, s1, get_base0, get_base, h1, hE, hlk, hne, -getElem?_pos, List.getElem?_cons_zero, List.getElem?_cons_succ]
      · have hb : (ps.length == ps'.length) = true := by simpa using hlk
        have hne : ((ps.length : Int) != (ps'.length : Int)) = false := by simp [bne, hlk]
        rw [hb] at hE
        simp only [Bool.true_and] at hE
        obtain ⟨X, hX⟩ : ∃ X, X = Obj.arr 42 24 [[.int .i64 r, .str h, .str n, .str v, .bool b, .int .i64 t0, .str t1, .int .i64 t2, .sl 4 (t3.map Tm.cells), .int .i64 c0, .str c1, .str c2, .sl 4 (c3.map Tm.cells), .sl 5 (c4.map Cl.cells), .sl 8 (les.map Lm.cells), .sl 2 (chs.map Ch.cells),
          .int .i64 kd, .sl 1 (intA fr0), .sl 1 (intA by0), .int .i64 dv, .int .i64 kk, .sl 2 (moA ms), .sl 7 (cs.map Cu.cells), .sl 24 (ps.map Pf.cells)]] := ⟨_, rfl⟩
        obtain ⟨Y, hY⟩ : ∃ Y, Y = Obj.arr 42 24 [[.int .i64 r', .str h', .str n', .str v', .bool b', .int .i64 t0', .str t1', .int .i64 t2', .sl 4 (t3'.map Tm.cells), .int .i64 c0', .str c1', .str c2', .sl 4 (c3'.map Tm.cells), .sl 5 (c4'.map Cl.cells), .sl 8 (les'.map Lm.cells), .sl 2 (chs'.map Ch.cells),
          .int .i64 kd', .sl 1 (intA fr0'), .sl 1 (intA by0'), .int .i64 dv', .int .i64 kk', .sl 2 (moA ms'), .sl 7 (cs'.map Cu.cells), .sl 24 (ps'.map Pf.cells)]] := ⟨_, rfl⟩
        simp -implicitDefEqProofs [hfr, s0, s1, get_base0, get_base, h1, hne, -getElem?_pos, List.getElem?_cons_zero, List.getElem?_cons_succ]
        rw [← hX, ← hY]
        apply loop_inv L19_0.eq_1 (fun s : List Pf × List Pf => s.1.length) (fun s fr st => ∃ pre pre', ps = pre ++ s.1 ∧ ps' = pre' ++ s.2 ∧ pre.length = pre'.length ∧ fr.length = 43 ∧ slot fr 2 = .ptr o.length 0 0 ∧ slot fr 3 = .ptr (o.length + 1) 0 0 ∧ slot fr 5 = .int .i64 (pre.length : Int) ∧
          st = ⟨o ++ [X, Y], o.length, []⟩ ∧ R = (xcsEq s.1 s.2 && P)) ?_ (ps, ps') ⟨[], [], rfl, rfl, rfl, by simp [hfr], by simp [hfr], by simp [hfr], by simp [hfr], rfl, hE⟩
        clear hE hfr s0 s1 hsl
        clear fr
        rintro ⟨rest, rest'⟩ fr _ ⟨pre, pre', e, e', hp, hfr, q2, q3, q5, rfl, hin⟩
        simp only at e e' hin
        rw [hX, hY]
        cases rest with
        | nil =>
          have hlt := idx_end e
          cases rest' with
          | nil =>
            simp only [xcsEq, Bool.true_and] at hin
            simp -implicitDefEqProofs [hfr, q2, q3, q5, hlt, get_base0, get_base, hpr, hin, -getElem?_pos, List.getElem?_cons_zero, List.getElem?_cons_succ]
          | cons u rest' => simp [e, e'] at hlk; omega
        | cons x rest =>
          cases rest' with
          | nil => simp [e, e'] at hlk; omega
          | cons u rest' =>
            obtain ⟨hlt, hg, hpl⟩ := idx_at e
            obtain ⟨hlt', hg', hpl'⟩ := idx_at e'
            rw [← hp] at hlt' hg' hpl'
            have hw := idx_next e mx
            have hu := fun st => ih x (by simp [e]) u (by simp [e']) st
            have y1 := p_take x
            have y2 := p_can x
            have y3 := plen x
            have z1 := p_take u
            have z2 := p_can u
            have z3 := plen u
            simp only [xcsEq] at hin
            cases hx : xcEq x u with
            | true =>
              rw [hx, Bool.true_and] at hin
              simp -implicitDefEqProofs [hfr, q2, q3, q5, hlt, hlt', hg, hg', hpl, hpl', hw, hu, hx, y1, y2, y3, z1, z2, z3, get_base0, get_base, -List.getElem_map, -getElem?_pos, List.getElem?_cons_zero, List.getElem?_cons_succ]
              exact ⟨rest, by simp, rest', pre ++ [x], by simp [e], pre' ++ [u], by simp [e'], by simp [hp], by simp, hin⟩
            | false =>
              rw [hx, Bool.false_and, Bool.false_and] at hin
              simp -implicitDefEqProofs [hfr, q2, q3, q5, hlt, hlt', hg, hg', hpl, hpl', hw, hu, hx, y1, y2, y3, z1, z2, z3, hin, get_base0, get_base, -List.getElem_map, -getElem?_pos, List.getElem?_cons_zero, List.getElem?_cons_succ]
termination_by t => SizeOf.sizeOf t
decreasing_by
  have := List.sizeOf_lt_of_mem hx
  simp
  omega

end Go.Proofs.YtkecobdhgabknaaDoor.A
/- The terms of all parts of a claim, and how many parts there are. -/
namespace Go.Proofs.YtkecobdhgabknaaDoor.A
open Go
set_option maxRecDepth 10000
set_option linter.unusedSimpArgs false

mutual
def partTs : Cl → List Tm
  | .mk _ _ _ ts cs => ts ++ partTsL cs
def partTsL : List Cl → List Tm
  | [] => []
  | c :: l => partTs c ++ partTsL l
end

mutual
theorem partTs_oks : ∀ c : Cl, c.ok → ∀ x ∈ partTs c, x.ok
  | .mk a s u ts cs, h, x, hx => by
    simp only [Cl.ok] at h
    simp only [partTs, List.mem_append] at hx
    rcases hx with hx | hx
    · exact okL_iff.1 h.2.2.2.2.1 x hx
    · exact partTsL_oks cs (okC_iff.1 h.2.2.2.2.2.2) x hx
theorem partTsL_oks : ∀ l : List Cl, (∀ t ∈ l, t.ok) → ∀ x ∈ partTsL l, x.ok
  | [], _, x, hx => by simp [partTsL] at hx
  | c :: l, h, x, hx => by
    simp only [partTsL, List.mem_append] at hx
    rcases hx with hx | hx
    · exact partTs_oks c (h c (List.mem_cons_self ..)) x hx
    · exact partTsL_oks l (fun t ht => h t (List.mem_cons_of_mem _ ht)) x hx
end
theorem partTs_ok {c : Cl} (h : c.ok) : ∀ x ∈ partTs c, x.ok := partTs_oks c h

mutual
/-- how many claims -/
def cnt : Cl → Nat
  | .mk _ _ _ _ cs => 1 + cntL cs
def cntL : List Cl → Nat
  | [] => 0
  | c :: l => cnt c + cntL l
end

theorem szL_low : ∀ (l : List Tm) (m n : Int), n ≤ m + 1 → n ≤ szL l m n
  | [], _, _, _ => by simp [szL]
  | t :: l, m, n, h => by
    simp only [szL]
    split
    · have := sz_le t (m - n) (by omega)
      have := szL_low l m (n + sz t (m - n)) (by omega)
      omega
    · omega

mutual
theorem sz_allC : ∀ (t : Tm) (m : Int), 0 ≤ m → sz t m ≤ m → (t.all.length : Int) = sz t m
  | .mk a s b l, m, h0, h => by
    simp only [sz] at h ⊢
    have := szL_allC l m 1 h
    simp only [Tm.all, List.length_cons]
    omega
theorem szL_allC : ∀ (l : List Tm) (m n : Int), szL l m n ≤ m → n + ((allL l).length : Int) = szL l m n
  | [], m, n, h => by simp [szL, allL]
  | t :: l, m, n, h => by
    simp only [szL] at h ⊢
    by_cases hn : n ≤ m
    · rw [if_pos hn] at h ⊢
      by_cases ht : sz t (m - n) ≤ m - n
      · have h1 := sz_allC t (m - n) (by omega) ht
        have h2 := szL_allC l m _ h
        simp only [allL, List.length_append]
        omega
      · rw [szL_out _ _ _ (by omega)] at h
        omega
    · rw [if_neg hn] at h
      omega
end

theorem allL_apC : ∀ (l k : List Tm), allL (l ++ k) = allL l ++ allL k
  | [], k => rfl
  | t :: l, k => by simp [allL, allL_apC l k]

theorem wtL_low : ∀ (l : List Cl) (m n : Int), n ≤ m + 1 → n ≤ wtL l m n
  | [], _, _, _ => by simp [wtL]
  | t :: l, m, n, h => by
    simp only [wtL]
    split
    · have := wt_le t (m - n) (by omega)
      have := wtL_low l m (n + wt t (m - n)) (by omega)
      omega
    · omega

mutual
theorem wt_parts : ∀ (c : Cl) (m : Int), 0 ≤ m → wt c m ≤ m → ((allL (partTs c)).length : Int) + cnt c = wt c m
  | .mk a s u ts cs, m, h0, h => by
    simp only [wt] at h ⊢
    have h3 : szL ts m 1 ≤ m := by
      have := szL_le ts m 1 (by omega) (by omega)
      have := wtL_low cs m (szL ts m 1) (by omega)
      omega
    have h1 := szL_allC ts m 1 h3
    have := wtL_parts cs m _ h
    simp only [cnt, partTs, allL_apC, List.length_append]
    omega
theorem wtL_parts : ∀ (l : List Cl) (m n : Int), wtL l m n ≤ m → n + ((allL (partTsL l)).length : Int) + cntL l = wtL l m n
  | [], m, n, h => by simp [wtL, cntL, partTsL, allL]
  | c :: l, m, n, h => by
    simp only [wtL] at h ⊢
    by_cases hn : n ≤ m
    · rw [if_pos hn] at h ⊢
      by_cases ht : wt c (m - n) ≤ m - n
      · have h1 := wt_parts c (m - n) (by omega) ht
        have h2 := wtL_parts l m _ h
        simp only [cntL, partTsL, allL_apC, List.length_append]
        omega
      · rw [wtL_out _ _ _ (by omega)] at h
        omega
    · rw [if_neg hn] at h
      omega
end

theorem le_allL : ∀ l : List Tm, l.length ≤ (allL l).length
  | [] => Nat.le_refl _
  | t :: l => by
    have h1 := le_allL l
    have h2 : 1 ≤ t.all.length := by cases t; simp [Tm.all]
    simp only [allL, List.length_append, List.length_cons]
    omega

end Go.Proofs.YtkecobdhgabknaaDoor.A
