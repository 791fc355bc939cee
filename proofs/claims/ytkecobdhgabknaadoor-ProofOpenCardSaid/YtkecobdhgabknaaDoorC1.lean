/- When two claims are the same: what the functions give that ask so. -/
import Derived.Test.YtkecobdhgabknaaDoorS4T
import Derived.Test.YtkecobdhgabknaaDoorRead
namespace Go.Proofs.YtkecobdhgabknaaDoor.A
open Go
set_option maxRecDepth 10000
set_option linter.unusedSimpArgs false
attribute [-simp] List.all_eq_true put slot_def ld idxA lenOf elems canA app hand
attribute [simp] ctake_cells ccanL_cells ccells_length call_one cset_cells cflat_cells cflat_list

def binder (op : Int) : Bool := op == 11 || op == 12

mutual
/-- the same, but for binders' names -/
def clEq : Cl → Cl → Bool
  | .mk a s u ts cs, .mk a' s' u' ts' cs' => a == a' && bytesEq u u' && (binder a || bytesEq s s') && (ts.length == ts'.length && tsEq ts ts') && (cs.length == cs'.length && clsEq cs cs')
def clsEq : List Cl → List Cl → Bool
  | c :: l, d :: k => clEq c d && clsEq l k
  | _, _ => true
end

mutual
/-- the same, with binders' names -/
def exEq : Cl → Cl → Bool
  | .mk a s u ts cs, .mk a' s' u' ts' cs' => a == a' && bytesEq u u' && bytesEq s s' && (ts.length == ts'.length && tsEq ts ts') && (cs.length == cs'.length && exsEq cs cs')
def exsEq : List Cl → List Cl → Bool
  | c :: l, d :: k => exEq c d && exsEq l k
  | _, _ => true
end

theorem clsv_eq (l k : List Cl) {o : List Obj} {v w : AV} (L : Ls o 5 v (l.map Cl.cells)) (K : Ls o 5 w (k.map Cl.cells)) (hl : l.length ≤ maxLen)
    (ih : ∀ t ∈ l, ∀ u ∈ k, ∀ st, (D T).call 63 [t.av, u.av] st = some (.bool (clEq t u), st)) (ro : Nat) (df : List Nat) :
    (D T).call 86 [v, w] ⟨o, ro, df⟩ = some (.bool (l.length == k.length && clsEq l k), ⟨o, ro, df⟩) := by
  have hmx : l.length ≤ 9223372036854775807 := Nat.le_trans hl (by decide)
  have h1 := L.len
  have h2 := K.len
  have g1 := fun (i : Nat) u (h : l[i]? = some u) => L.get [] o.length [] i u.cells (by simp [h]) (ccells_length u)
  have g2 := fun (i : Nat) u (h : k[i]? = some u) => K.get [] o.length [] i u.cells (by simp [h]) (ccells_length u)
  simp only [Cl.av, List.length_map, List.append_nil] at h1 h2 g1 g2 ih
  apply call_by (by exact rfl : T 86 = some _) (by simp)
  intro fr hfr hsl
  have s0 := hsl 0 _ rfl
  have s1 := hsl 1 _ rfl
  by_cases hlk : l.length = k.length
  · simp -implicitDefEqProofs [hfr, s0, s1, h1, h2, hlk]
    apply loop_inv L86_0.eq_1 (fun s : List Cl × List Cl => s.1.length) (fun s fr st => ∃ pre pre', l = pre ++ s.1 ∧ k = pre' ++ s.2 ∧ pre.length = pre'.length ∧ fr.length = 27 ∧ slot fr 0 = v ∧ slot fr 1 = w ∧ slot fr 5 = .int .i64 (pre.length : Int) ∧
      st = ⟨o, o.length, []⟩ ∧ clsEq l k = clsEq s.1 s.2) ?_ (l, k) ⟨[], [], rfl, rfl, rfl, by simp [hfr], by simp [hfr, s0], by simp [hfr, s1], by simp [hfr], rfl, rfl⟩
    rintro ⟨rest, rest'⟩ fr _ ⟨pre, pre', e, e', hp, hfr, q0, q1, q5, rfl, hin⟩
    simp only at e e' hin
    cases rest with
    | nil =>
      have hlt := idx_end e
      cases rest' with
      | nil => simp -implicitDefEqProofs [hfr, q0, q1, q5, hlt, h1, h2, hin, clsEq]
      | cons u rest' => simp [e, e'] at hlk; omega
    | cons t rest =>
      cases rest' with
      | nil => simp [e, e'] at hlk; omega
      | cons u rest' =>
        obtain ⟨hlt, hg, _⟩ := idx_at e
        obtain ⟨hlt', hg', _⟩ := idx_at e'
        rw [← hp] at hlt' hg'
        have hw := idx_next e hmx
        obtain ⟨p, p1, p2⟩ := g1 _ _ hg
        obtain ⟨p', p3, p4⟩ := g2 _ _ hg'
        have hu := ih t (by simp [e]) u (by simp [e'])
        simp only [clsEq] at hin
        cases h : clEq t u with
        | true =>
          simp -implicitDefEqProofs [hfr, q0, q1, q5, hlt, hlt', h1, h2, p1, p2, p3, p4, hu, h, hw]
          exact ⟨rest, by simp, rest', pre ++ [t], by simp [e], pre' ++ [u], by simp [e'], by simp [hp], by simp, by simpa [h] using hin⟩
        | false =>
          simp -implicitDefEqProofs [hfr, q0, q1, q5, hlt, hlt', h1, h2, p1, p2, p3, p4, hu, h, hw]
          simp [hin, h]
  · have hne : ¬ ((l.length : Int) = (k.length : Int)) := by omega
    simp -implicitDefEqProofs [hfr, s0, s1, h1, h2, hlk, hne]

theorem exsv_eq (l k : List Cl) {o : List Obj} {v w : AV} (L : Ls o 5 v (l.map Cl.cells)) (K : Ls o 5 w (k.map Cl.cells)) (hl : l.length ≤ maxLen)
    (ih : ∀ t ∈ l, ∀ u ∈ k, ∀ st, (D T).call 50 [t.av, u.av] st = some (.bool (exEq t u), st)) (ro : Nat) (df : List Nat) :
    (D T).call 79 [v, w] ⟨o, ro, df⟩ = some (.bool (l.length == k.length && exsEq l k), ⟨o, ro, df⟩) := by
  have hmx : l.length ≤ 9223372036854775807 := Nat.le_trans hl (by decide)
  have h1 := L.len
  have h2 := K.len
  have g1 := fun (i : Nat) u (h : l[i]? = some u) => L.get [] o.length [] i u.cells (by simp [h]) (ccells_length u)
  have g2 := fun (i : Nat) u (h : k[i]? = some u) => K.get [] o.length [] i u.cells (by simp [h]) (ccells_length u)
  simp only [Cl.av, List.length_map, List.append_nil] at h1 h2 g1 g2 ih
  apply call_by (by exact rfl : T 79 = some _) (by simp)
  intro fr hfr hsl
  have s0 := hsl 0 _ rfl
  have s1 := hsl 1 _ rfl
  by_cases hlk : l.length = k.length
  · simp -implicitDefEqProofs [hfr, s0, s1, h1, h2, hlk]
    apply loop_inv L79_0.eq_1 (fun s : List Cl × List Cl => s.1.length) (fun s fr st => ∃ pre pre', l = pre ++ s.1 ∧ k = pre' ++ s.2 ∧ pre.length = pre'.length ∧ fr.length = 27 ∧ slot fr 0 = v ∧ slot fr 1 = w ∧ slot fr 5 = .int .i64 (pre.length : Int) ∧
      st = ⟨o, o.length, []⟩ ∧ exsEq l k = exsEq s.1 s.2) ?_ (l, k) ⟨[], [], rfl, rfl, rfl, by simp [hfr], by simp [hfr, s0], by simp [hfr, s1], by simp [hfr], rfl, rfl⟩
    rintro ⟨rest, rest'⟩ fr _ ⟨pre, pre', e, e', hp, hfr, q0, q1, q5, rfl, hin⟩
    simp only at e e' hin
    cases rest with
    | nil =>
      have hlt := idx_end e
      cases rest' with
      | nil => simp -implicitDefEqProofs [hfr, q0, q1, q5, hlt, h1, h2, hin, exsEq]
      | cons u rest' => simp [e, e'] at hlk; omega
    | cons t rest =>
      cases rest' with
      | nil => simp [e, e'] at hlk; omega
      | cons u rest' =>
        obtain ⟨hlt, hg, _⟩ := idx_at e
        obtain ⟨hlt', hg', _⟩ := idx_at e'
        rw [← hp] at hlt' hg'
        have hw := idx_next e hmx
        obtain ⟨p, p1, p2⟩ := g1 _ _ hg
        obtain ⟨p', p3, p4⟩ := g2 _ _ hg'
        have hu := ih t (by simp [e]) u (by simp [e'])
        simp only [exsEq] at hin
        cases h : exEq t u with
        | true =>
          simp -implicitDefEqProofs [hfr, q0, q1, q5, hlt, hlt', h1, h2, p1, p2, p3, p4, hu, h, hw]
          exact ⟨rest, by simp, rest', pre ++ [t], by simp [e], pre' ++ [u], by simp [e'], by simp [hp], by simp, by simpa [h] using hin⟩
        | false =>
          simp -implicitDefEqProofs [hfr, q0, q1, q5, hlt, hlt', h1, h2, p1, p2, p3, p4, hu, h, hw]
          simp [hin, h]
  · have hne : ¬ ((l.length : Int) = (k.length : Int)) := by omega
    simp -implicitDefEqProofs [hfr, s0, s1, h1, h2, hlk, hne]

set_option maxHeartbeats 1000000 in
theorem clm_eq : ∀ (c : Cl), c.ok → ∀ (d : Cl), d.ok → ∀ (st : St), (D T).call 63 [c.av, d.av] st = some (.bool (clEq c d), st)
  | .mk a s u ts cs, hok, .mk a' s' u' ts' cs', hok', st => by
    simp only [Cl.ok] at hok hok'
    have hl := okC_iff.1 hok.2.2.2.2.2.2
    have hl' := okC_iff.1 hok'.2.2.2.2.2.2
    have ht := okL_iff.1 hok.2.2.2.2.1
    have ht' := okL_iff.1 hok'.2.2.2.2.1
    have h1 := fun st => ts_eq ts ts' hok.2.2.2.1 (fun t h u h' st => tm_eq t (ht t h) u (ht' u h') st) st
    have h2 := fun (o : List Obj) (ro : Nat) (df : List Nat) => clsv_eq cs cs' (o := o) (ls_sl _) (ls_sl _) hok.2.2.2.2.2.1 (fun t ht u hu st => clm_eq t (hl t ht) u (hl' u hu) st) ro df
    apply call_by (by exact rfl : T 63 = some _) (by simp)
    intro fr hfr hsl
    have s0 := hsl 0 _ rfl
    have s1 := hsl 1 _ rfl
    simp only [Cl.av, Cl.cells_mk] at s0 s1
    by_cases e1 : a = a'
    · subst e1
      cases e2 : bytesEq u u' with
      | true =>
        by_cases b1 : a = 11
        · subst b1
          cases e4 : (ts.length == ts'.length && tsEq ts ts') with
          | true => simp -implicitDefEqProofs [hfr, s0, s1, Cl.av, Cl.cells_mk, get_base0, get_base, e2, e4, h1, h2, clEq, binder]
          | false => simp -implicitDefEqProofs [hfr, s0, s1, Cl.av, Cl.cells_mk, get_base0, get_base, e2, e4, h1, h2, clEq, binder]
        · by_cases b2 : a = 12
          · subst b2
            cases e4 : (ts.length == ts'.length && tsEq ts ts') with
            | true => simp -implicitDefEqProofs [hfr, s0, s1, Cl.av, Cl.cells_mk, get_base0, get_base, e2, e4, h1, h2, clEq, binder]
            | false => simp -implicitDefEqProofs [hfr, s0, s1, Cl.av, Cl.cells_mk, get_base0, get_base, e2, e4, h1, h2, clEq, binder]
          · have c1 : (a == 11) = false := by simpa using b1
            have c2 : (a == 12) = false := by simpa using b2
            have c3 : (a != 11) = true := by simpa using b1
            have c4 : (a != 12) = true := by simpa using b2
            cases e3 : bytesEq s s' with
            | true =>
              cases e4 : (ts.length == ts'.length && tsEq ts ts') with
              | true => simp -implicitDefEqProofs [hfr, s0, s1, Cl.av, Cl.cells_mk, get_base0, get_base, e2, e3, e4, b1, b2, c1, c2, c3, c4, h1, h2, clEq, binder]
              | false => simp -implicitDefEqProofs [hfr, s0, s1, Cl.av, Cl.cells_mk, get_base0, get_base, e2, e3, e4, b1, b2, c1, c2, c3, c4, h1, h2, clEq, binder]
            | false => simp -implicitDefEqProofs [hfr, s0, s1, Cl.av, Cl.cells_mk, get_base0, get_base, e2, e3, b1, b2, c1, c2, c3, c4, h1, h2, clEq, binder]
      | false => simp -implicitDefEqProofs [hfr, s0, s1, Cl.av, Cl.cells_mk, get_base0, get_base, e2, h1, h2, clEq, binder]
    · have e1' : (a == a') = false := by simpa using e1
      have e2' : (a != a') = true := by simpa using e1
      simp -implicitDefEqProofs [hfr, s0, s1, Cl.av, Cl.cells_mk, get_base0, get_base, e1, e1', e2', h1, h2, clEq, binder]
termination_by t => SizeOf.sizeOf t
decreasing_by
  have := List.sizeOf_lt_of_mem ht
  simp
  omega

theorem ex_eq : ∀ (c : Cl), c.ok → ∀ (d : Cl), d.ok → ∀ (st : St), (D T).call 50 [c.av, d.av] st = some (.bool (exEq c d), st)
  | .mk a s u ts cs, hok, .mk a' s' u' ts' cs', hok', st => by
    simp only [Cl.ok] at hok hok'
    have hl := okC_iff.1 hok.2.2.2.2.2.2
    have hl' := okC_iff.1 hok'.2.2.2.2.2.2
    have ht := okL_iff.1 hok.2.2.2.2.1
    have ht' := okL_iff.1 hok'.2.2.2.2.1
    have h1 := fun st => ts_eq ts ts' hok.2.2.2.1 (fun t h u h' st => tm_eq t (ht t h) u (ht' u h') st) st
    have h2 := fun (o : List Obj) (ro : Nat) (df : List Nat) => exsv_eq cs cs' (o := o) (ls_sl _) (ls_sl _) hok.2.2.2.2.2.1 (fun t ht u hu st => ex_eq t (hl t ht) u (hl' u hu) st) ro df
    apply call_by (by exact rfl : T 50 = some _) (by simp)
    intro fr hfr hsl
    have s0 := hsl 0 _ rfl
    have s1 := hsl 1 _ rfl
    simp only [Cl.av, Cl.cells_mk] at s0 s1
    by_cases e1 : a = a'
    · subst e1
      cases e2 : bytesEq u u' with
      | true =>
        cases e3 : bytesEq s s' with
        | true =>
          cases e4 : (ts.length == ts'.length && tsEq ts ts') with
          | true => simp -implicitDefEqProofs [hfr, s0, s1, Cl.av, Cl.cells_mk, get_base0, get_base, e2, e3, e4, h1, h2, exEq]
          | false => simp -implicitDefEqProofs [hfr, s0, s1, Cl.av, Cl.cells_mk, get_base0, get_base, e2, e3, e4, h1, h2, exEq]
        | false => simp -implicitDefEqProofs [hfr, s0, s1, Cl.av, Cl.cells_mk, get_base0, get_base, e2, e3, h1, h2, exEq]
      | false => simp -implicitDefEqProofs [hfr, s0, s1, Cl.av, Cl.cells_mk, get_base0, get_base, e2, h1, h2, exEq]
    · have e1' : (a == a') = false := by simpa using e1
      simp -implicitDefEqProofs [hfr, s0, s1, Cl.av, Cl.cells_mk, get_base0, get_base, e1, e1', h1, h2, exEq]
termination_by t => SizeOf.sizeOf t
decreasing_by
  have := List.sizeOf_lt_of_mem ht
  simp
  omega

end Go.Proofs.YtkecobdhgabknaaDoor.A
