/- Cuts: when two are the same, by the base's function. -/
import Derived.Test.YtgabnhmjlhhojaaZ1
namespace Go.Proofs.Ytgabnhmjlhhojaa.A
open Go
set_option maxRecDepth 10000
set_option linter.unusedSimpArgs false
set_option linter.unusedVariables false
attribute [-simp] List.all_eq_true put slot_def ld idxA lenOf elems canA app hand

/-- pair by pair, as far as both go -/
def leq {α : Type} (eq : α → α → Bool) : List α → List α → Bool
  | a :: l, b :: k => eq a b && leq eq l k
  | _, _ => true
def ieq (a b : Int) : Bool := a == b
def meq (a b : Int × Int) : Bool := a.1 == b.1 && a.2 == b.2

theorem bints_eq (l k : List Int) (hl : l.length ≤ mxB) (st : St) :
    (D T).call 21 [.sl 1 (intA l), .sl 1 (intA k)] st = some (.bool (l.length == k.length && leq ieq l k), st) := by
  obtain ⟨o, ro, df⟩ := st
  have hmx : l.length ≤ 9223372036854775807 := Nat.le_trans hl (by decide)
  have L := ls_sl (o := o) (sz := 1) (intA l)
  have K := ls_sl (o := o) (sz := 1) (intA k)
  have h1 := L.len
  have h2 := K.len
  have g1 := fun (i : Nat) u (h : l[i]? = some u) => L.get [] o.length [] i [.int .i64 u] (by simp [intA, h]) rfl
  have g2 := fun (i : Nat) u (h : k[i]? = some u) => K.get [] o.length [] i [.int .i64 u] (by simp [intA, h]) rfl
  clear L K
  simp only [intA_len, List.append_nil] at h1 h2 g1 g2
  generalize (AV.sl 1 (intA l)) = v at *
  generalize (AV.sl 1 (intA k)) = w at *
  apply call_by (by exact rfl : T 21 = some _) (by simp)
  intro fr hfr hsl
  have s0 := hsl 0 _ rfl
  have s1 := hsl 1 _ rfl
  by_cases hlk : l.length = k.length
  · simp -implicitDefEqProofs [hfr, s0, s1, h1, h2, hlk]
    apply loop_inv L21_0.eq_1 (fun s : List Int × List Int => s.1.length) (fun s fr st => ∃ pre pre', l = pre ++ s.1 ∧ k = pre' ++ s.2 ∧ pre.length = pre'.length ∧ fr.length = 26 ∧ slot fr 0 = v ∧ slot fr 1 = w ∧ slot fr 5 = .int .i64 (pre.length : Int) ∧
      st = ⟨o, o.length, []⟩ ∧ leq ieq l k = leq ieq s.1 s.2) ?_ (l, k) ⟨[], [], rfl, rfl, rfl, by simp [hfr], by simp [hfr, s0], by simp [hfr, s1], by simp [hfr], rfl, rfl⟩
    rintro ⟨rest, rest'⟩ fr _ ⟨pre, pre', e, e', hp, hfr, q0, q1, q5, rfl, hin⟩
    simp only at e e' hin
    cases rest with
    | nil =>
      have hlt := idx_end e
      have hlt2 : ¬ ((pre.length : Int) < (k.length : Int)) := by rw [← hlk]; exact hlt
      cases rest' with
      | nil => simp -implicitDefEqProofs [hfr, q0, q1, q5, hlt, hlt2, h1, h2, hin, leq]
      | cons u rest' => simp [e, e'] at hlk; omega
    | cons t rest =>
      cases rest' with
      | nil => simp [e, e'] at hlk; omega
      | cons u rest' =>
        obtain ⟨hlt, hg, _⟩ := idx_at e
        obtain ⟨hlt', hg', _⟩ := idx_at e'
        rw [← hp] at hlt' hg'
        have hw := idx_next e hmx
        obtain ⟨p, p1, p2⟩ := g1 _ _ hg
        obtain ⟨p', p3, p4⟩ := g2 _ _ hg'
        simp only [leq] at hin
        cases h : ieq t u with
        | true =>
          have h9 : t = u := by simpa [ieq] using h
          simp -implicitDefEqProofs [hfr, q0, q1, q5, hlt, hlt', h1, h2, p1, p2, p3, p4, hw, h9]
          exact ⟨rest, by simp, rest', pre ++ [t], by simp [e], pre' ++ [u], by simp [e'], by simp [hp], by simp, by simpa [h] using hin⟩
        | false =>
          have h9 : ¬ t = u := by simpa [ieq] using h
          have h8 : (t == u) = false := by simpa using h9
          have h7 : (t != u) = true := by simp [bne, h8]
          simp -implicitDefEqProofs [hfr, q0, q1, q5, hlt, hlt', h1, h2, p1, p2, p3, p4, hw, h9, h8, h7]
          simp [hin, h]
  · have hne : ¬ ((l.length : Int) = (k.length : Int)) := by omega
    simp -implicitDefEqProofs [hfr, s0, s1, h1, h2, hlk, hne]

theorem bint64s_eq (l k : List Int) (hl : l.length ≤ mxB) (st : St) :
    (D T).call 47 [.sl 1 (intA l), .sl 1 (intA k)] st = some (.bool (l.length == k.length && leq ieq l k), st) := by
  obtain ⟨o, ro, df⟩ := st
  have hmx : l.length ≤ 9223372036854775807 := Nat.le_trans hl (by decide)
  have L := ls_sl (o := o) (sz := 1) (intA l)
  have K := ls_sl (o := o) (sz := 1) (intA k)
  have h1 := L.len
  have h2 := K.len
  have g1 := fun (i : Nat) u (h : l[i]? = some u) => L.get [] o.length [] i [.int .i64 u] (by simp [intA, h]) rfl
  have g2 := fun (i : Nat) u (h : k[i]? = some u) => K.get [] o.length [] i [.int .i64 u] (by simp [intA, h]) rfl
  clear L K
  simp only [intA_len, List.append_nil] at h1 h2 g1 g2
  generalize (AV.sl 1 (intA l)) = v at *
  generalize (AV.sl 1 (intA k)) = w at *
  apply call_by (by exact rfl : T 47 = some _) (by simp)
  intro fr hfr hsl
  have s0 := hsl 0 _ rfl
  have s1 := hsl 1 _ rfl
  by_cases hlk : l.length = k.length
  · simp -implicitDefEqProofs [hfr, s0, s1, h1, h2, hlk]
    apply loop_inv L47_0.eq_1 (fun s : List Int × List Int => s.1.length) (fun s fr st => ∃ pre pre', l = pre ++ s.1 ∧ k = pre' ++ s.2 ∧ pre.length = pre'.length ∧ fr.length = 26 ∧ slot fr 0 = v ∧ slot fr 1 = w ∧ slot fr 5 = .int .i64 (pre.length : Int) ∧
      st = ⟨o, o.length, []⟩ ∧ leq ieq l k = leq ieq s.1 s.2) ?_ (l, k) ⟨[], [], rfl, rfl, rfl, by simp [hfr], by simp [hfr, s0], by simp [hfr, s1], by simp [hfr], rfl, rfl⟩
    rintro ⟨rest, rest'⟩ fr _ ⟨pre, pre', e, e', hp, hfr, q0, q1, q5, rfl, hin⟩
    simp only at e e' hin
    cases rest with
    | nil =>
      have hlt := idx_end e
      have hlt2 : ¬ ((pre.length : Int) < (k.length : Int)) := by rw [← hlk]; exact hlt
      cases rest' with
      | nil => simp -implicitDefEqProofs [hfr, q0, q1, q5, hlt, hlt2, h1, h2, hin, leq]
      | cons u rest' => simp [e, e'] at hlk; omega
    | cons t rest =>
      cases rest' with
      | nil => simp [e, e'] at hlk; omega
      | cons u rest' =>
        obtain ⟨hlt, hg, _⟩ := idx_at e
        obtain ⟨hlt', hg', _⟩ := idx_at e'
        rw [← hp] at hlt' hg'
        have hw := idx_next e hmx
        obtain ⟨p, p1, p2⟩ := g1 _ _ hg
        obtain ⟨p', p3, p4⟩ := g2 _ _ hg'
        simp only [leq] at hin
        cases h : ieq t u with
        | true =>
          have h9 : t = u := by simpa [ieq] using h
          simp -implicitDefEqProofs [hfr, q0, q1, q5, hlt, hlt', h1, h2, p1, p2, p3, p4, hw, h9]
          exact ⟨rest, by simp, rest', pre ++ [t], by simp [e], pre' ++ [u], by simp [e'], by simp [hp], by simp, by simpa [h] using hin⟩
        | false =>
          have h9 : ¬ t = u := by simpa [ieq] using h
          have h8 : (t == u) = false := by simpa using h9
          have h7 : (t != u) = true := by simp [bne, h8]
          simp -implicitDefEqProofs [hfr, q0, q1, q5, hlt, hlt', h1, h2, p1, p2, p3, p4, hw, h9, h8, h7]
          simp [hin, h]
  · have hne : ¬ ((l.length : Int) = (k.length : Int)) := by omega
    simp -implicitDefEqProofs [hfr, s0, s1, h1, h2, hlk, hne]

theorem bmonos_eq (l k : List (Int × Int)) (hl : l.length ≤ mxB) (st : St) :
    (D T).call 64 [.sl 2 (moA l), .sl 2 (moA k)] st = some (.bool (l.length == k.length && leq meq l k), st) := by
  obtain ⟨o, ro, df⟩ := st
  have hmx : l.length ≤ 9223372036854775807 := Nat.le_trans hl (by decide)
  have L := ls_sl (o := o) (sz := 2) (moA l)
  have K := ls_sl (o := o) (sz := 2) (moA k)
  have h1 := L.len
  have h2 := K.len
  have g1 := fun (i : Nat) u (h : l[i]? = some u) => L.get [] o.length [] i [.int .i64 u.1, .int .i64 u.2] (by simp [moA, h]) rfl
  have g2 := fun (i : Nat) u (h : k[i]? = some u) => K.get [] o.length [] i [.int .i64 u.1, .int .i64 u.2] (by simp [moA, h]) rfl
  clear L K
  simp only [moA_len, List.append_nil] at h1 h2 g1 g2
  generalize (AV.sl 2 (moA l)) = v at *
  generalize (AV.sl 2 (moA k)) = w at *
  apply call_by (by exact rfl : T 64 = some _) (by simp)
  intro fr hfr hsl
  have s0 := hsl 0 _ rfl
  have s1 := hsl 1 _ rfl
  by_cases hlk : l.length = k.length
  · simp -implicitDefEqProofs [hfr, s0, s1, h1, h2, hlk]
    apply loop_inv L64_0.eq_1 (fun s : List (Int × Int) × List (Int × Int) => s.1.length) (fun s fr st => ∃ pre pre', l = pre ++ s.1 ∧ k = pre' ++ s.2 ∧ pre.length = pre'.length ∧ fr.length = 26 ∧ slot fr 0 = v ∧ slot fr 1 = w ∧ slot fr 5 = .int .i64 (pre.length : Int) ∧
      st = ⟨o, o.length, []⟩ ∧ leq meq l k = leq meq s.1 s.2) ?_ (l, k) ⟨[], [], rfl, rfl, rfl, by simp [hfr], by simp [hfr, s0], by simp [hfr, s1], by simp [hfr], rfl, rfl⟩
    rintro ⟨rest, rest'⟩ fr _ ⟨pre, pre', e, e', hp, hfr, q0, q1, q5, rfl, hin⟩
    simp only at e e' hin
    cases rest with
    | nil =>
      have hlt := idx_end e
      have hlt2 : ¬ ((pre.length : Int) < (k.length : Int)) := by rw [← hlk]; exact hlt
      cases rest' with
      | nil => simp -implicitDefEqProofs [hfr, q0, q1, q5, hlt, hlt2, h1, h2, hin, leq]
      | cons u rest' => simp [e, e'] at hlk; omega
    | cons t rest =>
      cases rest' with
      | nil => simp [e, e'] at hlk; omega
      | cons u rest' =>
        obtain ⟨hlt, hg, _⟩ := idx_at e
        obtain ⟨hlt', hg', _⟩ := idx_at e'
        rw [← hp] at hlt' hg'
        have hw := idx_next e hmx
        obtain ⟨p, p1, p2⟩ := g1 _ _ hg
        obtain ⟨p', p3, p4⟩ := g2 _ _ hg'
        simp only [leq] at hin
        cases h : meq t u with
        | true =>
          have h9 := h
          simp only [meq] at h9
          simp -implicitDefEqProofs [hfr, q0, q1, q5, hlt, hlt', h1, h2, p1, p2, p3, p4, hw, eqCells, eqCell, h9]
          exact ⟨rest, by simp, rest', pre ++ [t], by simp [e], pre' ++ [u], by simp [e'], by simp [hp], by simp, by simpa [h] using hin⟩
        | false =>
          have h9 := h
          simp only [meq] at h9
          simp -implicitDefEqProofs [hfr, q0, q1, q5, hlt, hlt', h1, h2, p1, p2, p3, p4, hw, eqCells, eqCell, h9]
          simp [hin, h]
  · have hne : ¬ ((l.length : Int) = (k.length : Int)) := by omega
    simp -implicitDefEqProofs [hfr, s0, s1, h1, h2, hlk, hne]

section
variable {ceq : Cu → Cu → Bool}

theorem bcuts_eq (l k : List Cu) (hl : l.length ≤ mxB) (ih : ∀ t ∈ l, ∀ u ∈ k, ∀ st, (D T).call 28 [.agg (Cu.cells t), .agg (Cu.cells u)] st = some (.bool (ceq t u), st)) (st : St) :
    (D T).call 49 [.sl 7 (l.map Cu.cells), .sl 7 (k.map Cu.cells)] st = some (.bool (l.length == k.length && leq ceq l k), st) := by
  obtain ⟨o, ro, df⟩ := st
  have hmx : l.length ≤ 9223372036854775807 := Nat.le_trans hl (by decide)
  have L := ls_sl (o := o) (sz := 7) (l.map Cu.cells)
  have K := ls_sl (o := o) (sz := 7) (k.map Cu.cells)
  have h1 := L.len
  have h2 := K.len
  have g1 := fun (i : Nat) u (h : l[i]? = some u) => L.get [] o.length [] i (Cu.cells u) (by simp [h]) (culen u)
  have g2 := fun (i : Nat) u (h : k[i]? = some u) => K.get [] o.length [] i (Cu.cells u) (by simp [h]) (culen u)
  clear L K
  simp only [List.length_map, List.append_nil] at h1 h2 g1 g2
  generalize (AV.sl 7 (l.map Cu.cells)) = v at *
  generalize (AV.sl 7 (k.map Cu.cells)) = w at *
  apply call_by (by exact rfl : T 49 = some _) (by simp)
  intro fr hfr hsl
  have s0 := hsl 0 _ rfl
  have s1 := hsl 1 _ rfl
  by_cases hlk : l.length = k.length
  · simp -implicitDefEqProofs [hfr, s0, s1, h1, h2, hlk]
    apply loop_inv L49_0.eq_1 (fun s : List Cu × List Cu => s.1.length) (fun s fr st => ∃ pre pre', l = pre ++ s.1 ∧ k = pre' ++ s.2 ∧ pre.length = pre'.length ∧ fr.length = 27 ∧ slot fr 0 = v ∧ slot fr 1 = w ∧ slot fr 5 = .int .i64 (pre.length : Int) ∧
      st = ⟨o, o.length, []⟩ ∧ leq ceq l k = leq ceq s.1 s.2) ?_ (l, k) ⟨[], [], rfl, rfl, rfl, by simp [hfr], by simp [hfr, s0], by simp [hfr, s1], by simp [hfr], rfl, rfl⟩
    rintro ⟨rest, rest'⟩ fr _ ⟨pre, pre', e, e', hp, hfr, q0, q1, q5, rfl, hin⟩
    simp only at e e' hin
    cases rest with
    | nil =>
      have hlt := idx_end e
      cases rest' with
      | nil => simp -implicitDefEqProofs [hfr, q0, q1, q5, hlt, h1, h2, hin, leq]
      | cons u rest' => simp [e, e'] at hlk; omega
    | cons t rest =>
      cases rest' with
      | nil => simp [e, e'] at hlk; omega
      | cons u rest' =>
        obtain ⟨hlt, hg, _⟩ := idx_at e
        obtain ⟨hlt', hg', _⟩ := idx_at e'
        rw [← hp] at hlt' hg'
        have hw := idx_next e hmx
        obtain ⟨p, p1, p2⟩ := g1 _ _ hg
        obtain ⟨p', p3, p4⟩ := g2 _ _ hg'
        have hu := ih t (by simp [e]) u (by simp [e'])
        have c1 := cu_can t
        have c2 := cu_can u
        simp only [leq] at hin
        cases h : ceq t u with
        | true =>
          simp -implicitDefEqProofs [hfr, q0, q1, q5, hlt, hlt', h1, h2, p1, p2, p3, p4, c1, c2, hu, h, hw]
          exact ⟨rest, by simp, rest', pre ++ [t], by simp [e], pre' ++ [u], by simp [e'], by simp [hp], by simp, by simpa [h] using hin⟩
        | false =>
          simp -implicitDefEqProofs [hfr, q0, q1, q5, hlt, hlt', h1, h2, p1, p2, p3, p4, c1, c2, hu, h, hw]
          simp [hin, h]
  · have hne : ¬ ((l.length : Int) = (k.length : Int)) := by omega
    simp -implicitDefEqProofs [hfr, s0, s1, h1, h2, hlk, hne]
end

def ilq (a b : List Int) : Bool := a.length == b.length && leq ieq a b
def mlq (a b : List (Int × Int)) : Bool := a.length == b.length && leq meq a b

mutual
/-- the same, field by field -/
def cuEq : Cu → Cu → Bool
  | .mk kd fr b dv k ms cs, .mk kd' fr' b' dv' k' ms' cs' => kd == kd' && dv == dv' && ilq fr fr' && ilq b b' && k == k' && mlq ms ms' && (cs.length == cs'.length && cusEq cs cs')
def cusEq : List Cu → List Cu → Bool
  | a :: l, b :: k => cuEq a b && cusEq l k
  | _, _ => true
end
theorem cusEq_leq : ∀ l k, leq cuEq l k = cusEq l k
  | [], _ => by simp [leq, cusEq]
  | _ :: _, [] => by simp [leq, cusEq]
  | a :: l, b :: k => by simp [leq, cusEq, cusEq_leq l k]

theorem blin_eq (k k' : Int) (ms ms' : List (Int × Int)) (hm : ms.length ≤ mxB) (st : St) : (D T).call 48 [.agg [.int .i64 k, .sl 2 (moA ms)], .agg [.int .i64 k', .sl 2 (moA ms')]] st = some (.bool (k == k' && mlq ms ms'), st) := by
  obtain ⟨o, ro, df⟩ := st
  have h1 := fun st => bmonos_eq ms ms' hm st
  apply call_by (by exact rfl : T 48 = some _) (by simp)
  intro fr hfr hsl
  have s0 := hsl 0 _ rfl
  have s1 := hsl 1 _ rfl
  cases e1 : (k == k') with
  | false => simp -implicitDefEqProofs [hfr, s0, s1, get_base0, get_base, h1, e1, mlq]
  | true => simp -implicitDefEqProofs [hfr, s0, s1, get_base0, get_base, h1, e1, mlq]

theorem bcut_eq : ∀ (c : Cu), c.ok → ∀ (d : Cu), d.ok → ∀ (st : St), (D T).call 28 [c.av, d.av] st = some (.bool (cuEq c d), st)
  | .mk kd fr0 by0 dv k ms cs, hok, .mk kd' fr0' by0' dv' k' ms' cs', hok', st => by
    obtain ⟨o, ro, df⟩ := st
    simp only [Cu.ok] at hok hok'
    obtain ⟨_, o1, o2, _, _, o3, o4, o5⟩ := hok
    obtain ⟨_, _, _, _, _, _, _, o5'⟩ := hok'
    have hl := okCu_iff.1 o5
    have hl' := okCu_iff.1 o5'
    have h1 := fun st => bints_eq fr0 fr0' o1.2 st
    have h2 := fun st => bint64s_eq by0 by0' o2.2 st
    have h3 := fun st => blin_eq k k' ms ms' o3.2 st
    have h4 := fun st => bcuts_eq (ceq := cuEq) cs cs' o4 (fun t ht u hu st => bcut_eq t (hl t ht) u (hl' u hu) st) st
    simp only [cusEq_leq] at h4
    apply call_by (by exact rfl : T 28 = some _) (by simp)
    intro fr hfr hsl
    have s0 := hsl 0 _ rfl
    have s1 := hsl 1 _ rfl
    simp only [Cu.av, Cu.cells_mk] at s0 s1
    cases e1 : (kd == kd') with
    | false =>
      simp -implicitDefEqProofs [hfr, s0, s1, get_base0, get_base, Cu.av, Cu.cells_mk, h1, h2, h3, h4, cuEq, ilq, mlq, e1]
    | true =>
      cases e2 : (dv == dv') with
      | false =>
        simp -implicitDefEqProofs [hfr, s0, s1, get_base0, get_base, Cu.av, Cu.cells_mk, h1, h2, h3, h4, cuEq, ilq, mlq, e1, e2]
      | true =>
        cases e3 : (fr0.length == fr0'.length && leq ieq fr0 fr0') with
        | false =>
          simp -implicitDefEqProofs [hfr, s0, s1, get_base0, get_base, Cu.av, Cu.cells_mk, h1, h2, h3, h4, cuEq, ilq, mlq, e1, e2, e3]
        | true =>
          cases e4 : (by0.length == by0'.length && leq ieq by0 by0') with
          | false =>
            simp -implicitDefEqProofs [hfr, s0, s1, get_base0, get_base, Cu.av, Cu.cells_mk, h1, h2, h3, h4, cuEq, ilq, mlq, e1, e2, e3, e4]
          | true =>
            cases e5 : (k == k') with
            | false =>
              simp -implicitDefEqProofs [hfr, s0, s1, get_base0, get_base, Cu.av, Cu.cells_mk, h1, h2, h3, h4, cuEq, ilq, mlq, e1, e2, e3, e4, e5]
            | true =>
              cases e6 : (ms.length == ms'.length && leq meq ms ms') with
              | false =>
                simp -implicitDefEqProofs [hfr, s0, s1, get_base0, get_base, Cu.av, Cu.cells_mk, h1, h2, h3, h4, cuEq, ilq, mlq, e1, e2, e3, e4, e5, e6]
              | true =>
                simp -implicitDefEqProofs [hfr, s0, s1, get_base0, get_base, Cu.av, Cu.cells_mk, h1, h2, h3, h4, cuEq, ilq, mlq, e1, e2, e3, e4, e5, e6]
termination_by t => SizeOf.sizeOf t
decreasing_by
  have := List.sizeOf_lt_of_mem ht
  simp
  omega

theorem leq_refl {α : Type} {eq : α → α → Bool} (h : ∀ x, eq x x = true) : ∀ l : List α, leq eq l l = true
  | [] => rfl
  | a :: l => by simp [leq, h a, leq_refl h l]
mutual
theorem cu_self : ∀ c : Cu, cuEq c c = true
  | .mk kd fr b dv k ms cs => by
    have h1 := leq_refl (eq := ieq) (fun x => by simp [ieq])
    have h2 := leq_refl (eq := meq) (fun x => by simp [meq])
    simp [cuEq, ilq, mlq, h1, h2, cus_self cs]
theorem cus_self : ∀ l : List Cu, cusEq l l = true
  | [] => by simp [cusEq]
  | c :: l => by simp [cusEq, cu_self c, cus_self l]
end

end Go.Proofs.Ytgabnhmjlhhojaa.A
