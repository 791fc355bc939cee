/- Lists of numbers, cuts, clauses and proofs: when two are the same (printed by genx1.py). -/
import Derived.Test.YtkecobdhgabknaaDoorX0
namespace Go.Proofs.YtkecobdhgabknaaDoor.A
open Go
set_option maxRecDepth 10000
set_option linter.unusedSimpArgs false
set_option linter.unusedVariables false
attribute [-simp] List.all_eq_true put slot_def ld idxA lenOf elems canA app hand

/-- pair by pair, as far as both go -/
def leq {α : Type} (eq : α → α → Bool) : List α → List α → Bool
  | a :: l, b :: k => eq a b && leq eq l k
  | _, _ => true
def ieq (a b : Int) : Bool := a == b
def meq (a b : Int × Int) : Bool := a.1 == b.1 && a.2 == b.2

theorem bints_eq (l k : List Int) (hl : l.length ≤ mxB) (st : St) :
    (D T).call 12 [.sl 1 (intA l), .sl 1 (intA k)] st = some (.bool (l.length == k.length && leq ieq l k), st) := by
  obtain ⟨o, ro, df⟩ := st
  have hmx : l.length ≤ 9223372036854775807 := Nat.le_trans hl (by decide)
  have L := ls_sl (o := o) (sz := 1) (intA l)
  have K := ls_sl (o := o) (sz := 1) (intA k)
  have h1 := L.len
  have h2 := K.len
  have g1 := fun (i : Nat) u (h : l[i]? = some u) => L.get [] o.length [] i [.int .i64 u] (by simp [intA, h]) rfl
  have g2 := fun (i : Nat) u (h : k[i]? = some u) => K.get [] o.length [] i [.int .i64 u] (by simp [intA, h]) rfl
  clear L K
  simp only [intA_len, List.append_nil] at h1 h2 g1 g2
  generalize (AV.sl 1 (intA l)) = v at *
  generalize (AV.sl 1 (intA k)) = w at *
  apply call_by (by exact rfl : T 12 = some _) (by simp)
  intro fr hfr hsl
  have s0 := hsl 0 _ rfl
  have s1 := hsl 1 _ rfl
  by_cases hlk : l.length = k.length
  · simp -implicitDefEqProofs [hfr, s0, s1, h1, h2, hlk]
    apply loop_inv L12_0.eq_1 (fun s : List Int × List Int => s.1.length) (fun s fr st => ∃ pre pre', l = pre ++ s.1 ∧ k = pre' ++ s.2 ∧ pre.length = pre'.length ∧ fr.length = 26 ∧ slot fr 0 = v ∧ slot fr 1 = w ∧ slot fr 5 = .int .i64 (pre.length : Int) ∧
      st = ⟨o, o.length, []⟩ ∧ leq ieq l k = leq ieq s.1 s.2) ?_ (l, k) ⟨[], [], rfl, rfl, rfl, by simp [hfr], by simp [hfr, s0], by simp [hfr, s1], by simp [hfr], rfl, rfl⟩
    rintro ⟨rest, rest'⟩ fr _ ⟨pre, pre', e, e', hp, hfr, q0, q1, q5, rfl, hin⟩
    simp only at e e' hin
    cases rest with
    | nil =>
      have hlt := idx_end e
      have hlt2 : ¬ ((pre.length : Int) < (k.length : Int)) := by rw [← hlk]; exact hlt
      cases rest' with
      | nil => simp -implicitDefEqProofs [hfr, q0, q1, q5, hlt, hlt2, h1, h2, hin, leq]
      | cons u rest' => simp [e, e'] at hlk; omega
    | cons t rest =>
      cases rest' with
      | nil => simp [e, e'] at hlk; omega
      | cons u rest' =>
        obtain ⟨hlt, hg, _⟩ := idx_at e
        obtain ⟨hlt', hg', _⟩ := idx_at e'
        rw [← hp] at hlt' hg'
        have hw := idx_next e hmx
        obtain ⟨p, p1, p2⟩ := g1 _ _ hg
        obtain ⟨p', p3, p4⟩ := g2 _ _ hg'
        simp only [leq] at hin
        cases h : ieq t u with
        | true =>
          have h9 : t = u := by simpa [ieq] using h
          simp -implicitDefEqProofs [hfr, q0, q1, q5, hlt, hlt', h1, h2, p1, p2, p3, p4, hw, h9]
          exact ⟨rest, by simp, rest', pre ++ [t], by simp [e], pre' ++ [u], by simp [e'], by simp [hp], by simp, by simpa [h] using hin⟩
        | false =>
          have h9 : ¬ t = u := by simpa [ieq] using h
          have h8 : (t == u) = false := by simpa using h9
          have h7 : (t != u) = true := by simp [bne, h8]
          simp -implicitDefEqProofs [hfr, q0, q1, q5, hlt, hlt', h1, h2, p1, p2, p3, p4, hw, h9, h8, h7]
          simp [hin, h]
  · have hne : ¬ ((l.length : Int) = (k.length : Int)) := by omega
    simp -implicitDefEqProofs [hfr, s0, s1, h1, h2, hlk, hne]

theorem bint64s_eq (l k : List Int) (hl : l.length ≤ mxB) (st : St) :
    (D T).call 100 [.sl 1 (intA l), .sl 1 (intA k)] st = some (.bool (l.length == k.length && leq ieq l k), st) := by
  obtain ⟨o, ro, df⟩ := st
  have hmx : l.length ≤ 9223372036854775807 := Nat.le_trans hl (by decide)
  have L := ls_sl (o := o) (sz := 1) (intA l)
  have K := ls_sl (o := o) (sz := 1) (intA k)
  have h1 := L.len
  have h2 := K.len
  have g1 := fun (i : Nat) u (h : l[i]? = some u) => L.get [] o.length [] i [.int .i64 u] (by simp [intA, h]) rfl
  have g2 := fun (i : Nat) u (h : k[i]? = some u) => K.get [] o.length [] i [.int .i64 u] (by simp [intA, h]) rfl
  clear L K
  simp only [intA_len, List.append_nil] at h1 h2 g1 g2
  generalize (AV.sl 1 (intA l)) = v at *
  generalize (AV.sl 1 (intA k)) = w at *
  apply call_by (by exact rfl : T 100 = some _) (by simp)
  intro fr hfr hsl
  have s0 := hsl 0 _ rfl
  have s1 := hsl 1 _ rfl
  by_cases hlk : l.length = k.length
  · simp -implicitDefEqProofs [hfr, s0, s1, h1, h2, hlk]
    apply loop_inv L100_0.eq_1 (fun s : List Int × List Int => s.1.length) (fun s fr st => ∃ pre pre', l = pre ++ s.1 ∧ k = pre' ++ s.2 ∧ pre.length = pre'.length ∧ fr.length = 26 ∧ slot fr 0 = v ∧ slot fr 1 = w ∧ slot fr 5 = .int .i64 (pre.length : Int) ∧
      st = ⟨o, o.length, []⟩ ∧ leq ieq l k = leq ieq s.1 s.2) ?_ (l, k) ⟨[], [], rfl, rfl, rfl, by simp [hfr], by simp [hfr, s0], by simp [hfr, s1], by simp [hfr], rfl, rfl⟩
    rintro ⟨rest, rest'⟩ fr _ ⟨pre, pre', e, e', hp, hfr, q0, q1, q5, rfl, hin⟩
    simp only at e e' hin
    cases rest with
    | nil =>
      have hlt := idx_end e
      have hlt2 : ¬ ((pre.length : Int) < (k.length : Int)) := by rw [← hlk]; exact hlt
      cases rest' with
      | nil => simp -implicitDefEqProofs [hfr, q0, q1, q5, hlt, hlt2, h1, h2, hin, leq]
      | cons u rest' => simp [e, e'] at hlk; omega
    | cons t rest =>
      cases rest' with
      | nil => simp [e, e'] at hlk; omega
      | cons u rest' =>
        obtain ⟨hlt, hg, _⟩ := idx_at e
        obtain ⟨hlt', hg', _⟩ := idx_at e'
        rw [← hp] at hlt' hg'
        have hw := idx_next e hmx
        obtain ⟨p, p1, p2⟩ := g1 _ _ hg
        obtain ⟨p', p3, p4⟩ := g2 _ _ hg'
        simp only [leq] at hin
        cases h : ieq t u with
        | true =>
          have h9 : t = u := by simpa [ieq] using h
          simp -implicitDefEqProofs [hfr, q0, q1, q5, hlt, hlt', h1, h2, p1, p2, p3, p4, hw, h9]
          exact ⟨rest, by simp, rest', pre ++ [t], by simp [e], pre' ++ [u], by simp [e'], by simp [hp], by simp, by simpa [h] using hin⟩
        | false =>
          have h9 : ¬ t = u := by simpa [ieq] using h
          have h8 : (t == u) = false := by simpa using h9
          have h7 : (t != u) = true := by simp [bne, h8]
          simp -implicitDefEqProofs [hfr, q0, q1, q5, hlt, hlt', h1, h2, p1, p2, p3, p4, hw, h9, h8, h7]
          simp [hin, h]
  · have hne : ¬ ((l.length : Int) = (k.length : Int)) := by omega
    simp -implicitDefEqProofs [hfr, s0, s1, h1, h2, hlk, hne]

theorem bmonos_eq (l k : List (Int × Int)) (hl : l.length ≤ mxB) (st : St) :
    (D T).call 106 [.sl 2 (moA l), .sl 2 (moA k)] st = some (.bool (l.length == k.length && leq meq l k), st) := by
  obtain ⟨o, ro, df⟩ := st
  have hmx : l.length ≤ 9223372036854775807 := Nat.le_trans hl (by decide)
  have L := ls_sl (o := o) (sz := 2) (moA l)
  have K := ls_sl (o := o) (sz := 2) (moA k)
  have h1 := L.len
  have h2 := K.len
  have g1 := fun (i : Nat) u (h : l[i]? = some u) => L.get [] o.length [] i [.int .i64 u.1, .int .i64 u.2] (by simp [moA, h]) rfl
  have g2 := fun (i : Nat) u (h : k[i]? = some u) => K.get [] o.length [] i [.int .i64 u.1, .int .i64 u.2] (by simp [moA, h]) rfl
  clear L K
  simp only [moA_len, List.append_nil] at h1 h2 g1 g2
  generalize (AV.sl 2 (moA l)) = v at *
  generalize (AV.sl 2 (moA k)) = w at *
  apply call_by (by exact rfl : T 106 = some _) (by simp)
  intro fr hfr hsl
  have s0 := hsl 0 _ rfl
  have s1 := hsl 1 _ rfl
  by_cases hlk : l.length = k.length
  · simp -implicitDefEqProofs [hfr, s0, s1, h1, h2, hlk]
    apply loop_inv L106_0.eq_1 (fun s : List (Int × Int) × List (Int × Int) => s.1.length) (fun s fr st => ∃ pre pre', l = pre ++ s.1 ∧ k = pre' ++ s.2 ∧ pre.length = pre'.length ∧ fr.length = 26 ∧ slot fr 0 = v ∧ slot fr 1 = w ∧ slot fr 5 = .int .i64 (pre.length : Int) ∧
      st = ⟨o, o.length, []⟩ ∧ leq meq l k = leq meq s.1 s.2) ?_ (l, k) ⟨[], [], rfl, rfl, rfl, by simp [hfr], by simp [hfr, s0], by simp [hfr, s1], by simp [hfr], rfl, rfl⟩
    rintro ⟨rest, rest'⟩ fr _ ⟨pre, pre', e, e', hp, hfr, q0, q1, q5, rfl, hin⟩
    simp only at e e' hin
    cases rest with
    | nil =>
      have hlt := idx_end e
      have hlt2 : ¬ ((pre.length : Int) < (k.length : Int)) := by rw [← hlk]; exact hlt
      cases rest' with
      | nil => simp -implicitDefEqProofs [hfr, q0, q1, q5, hlt, hlt2, h1, h2, hin, leq]
      | cons u rest' => simp [e, e'] at hlk; omega
    | cons t rest =>
      cases rest' with
      | nil => simp [e, e'] at hlk; omega
      | cons u rest' =>
        obtain ⟨hlt, hg, _⟩ := idx_at e
        obtain ⟨hlt', hg', _⟩ := idx_at e'
        rw [← hp] at hlt' hg'
        have hw := idx_next e hmx
        obtain ⟨p, p1, p2⟩ := g1 _ _ hg
        obtain ⟨p', p3, p4⟩ := g2 _ _ hg'
        simp only [leq] at hin
        cases h : meq t u with
        | true =>
          have h9 := h
          simp only [meq] at h9
          simp -implicitDefEqProofs [hfr, q0, q1, q5, hlt, hlt', h1, h2, p1, p2, p3, p4, hw, eqCells, eqCell, h9]
          exact ⟨rest, by simp, rest', pre ++ [t], by simp [e], pre' ++ [u], by simp [e'], by simp [hp], by simp, by simpa [h] using hin⟩
        | false =>
          have h9 := h
          simp only [meq] at h9
          simp -implicitDefEqProofs [hfr, q0, q1, q5, hlt, hlt', h1, h2, p1, p2, p3, p4, hw, eqCells, eqCell, h9]
          simp [hin, h]
  · have hne : ¬ ((l.length : Int) = (k.length : Int)) := by omega
    simp -implicitDefEqProofs [hfr, s0, s1, h1, h2, hlk, hne]

theorem sints_eq (l k : List Int) (hl : l.length ≤ mxB) (st : St) :
    (D T).call 82 [.sl 1 (intA l), .sl 1 (intA k)] st = some (.bool (l.length == k.length && leq ieq l k), st) := by
  obtain ⟨o, ro, df⟩ := st
  have hmx : l.length ≤ 9223372036854775807 := Nat.le_trans hl (by decide)
  have L := ls_sl (o := o) (sz := 1) (intA l)
  have K := ls_sl (o := o) (sz := 1) (intA k)
  have h1 := L.len
  have h2 := K.len
  have g1 := fun (i : Nat) u (h : l[i]? = some u) => L.get [] o.length [] i [.int .i64 u] (by simp [intA, h]) rfl
  have g2 := fun (i : Nat) u (h : k[i]? = some u) => K.get [] o.length [] i [.int .i64 u] (by simp [intA, h]) rfl
  clear L K
  simp only [intA_len, List.append_nil] at h1 h2 g1 g2
  generalize (AV.sl 1 (intA l)) = v at *
  generalize (AV.sl 1 (intA k)) = w at *
  apply call_by (by exact rfl : T 82 = some _) (by simp)
  intro fr hfr hsl
  have s0 := hsl 0 _ rfl
  have s1 := hsl 1 _ rfl
  by_cases hlk : l.length = k.length
  · simp -implicitDefEqProofs [hfr, s0, s1, h1, h2, hlk]
    apply loop_inv L82_0.eq_1 (fun s : List Int × List Int => s.1.length) (fun s fr st => ∃ pre pre', l = pre ++ s.1 ∧ k = pre' ++ s.2 ∧ pre.length = pre'.length ∧ fr.length = 26 ∧ slot fr 0 = v ∧ slot fr 1 = w ∧ slot fr 12 = .int .i64 (k.length : Int) ∧ slot fr 13 = .int .i64 (pre.length : Int) ∧
      st = ⟨o, o.length, []⟩ ∧ leq ieq l k = leq ieq s.1 s.2) ?_ (l, k) ⟨[], [], rfl, rfl, rfl, by simp [hfr], by simp [hfr, s0], by simp [hfr, s1], by simp [hfr, hlk], by simp [hfr], rfl, rfl⟩
    rintro ⟨rest, rest'⟩ fr _ ⟨pre, pre', e, e', hp, hfr, q0, q1, q12, q13, rfl, hin⟩
    simp only at e e' hin
    cases rest with
    | nil =>
      have hlt := idx_end e
      have hlt2 : ¬ ((pre.length : Int) < (k.length : Int)) := by rw [← hlk]; exact hlt
      cases rest' with
      | nil => simp -implicitDefEqProofs [hfr, q0, q1, q12, q13, hlt, hlt2, h1, h2, hin, leq]
      | cons u rest' => simp [e, e'] at hlk; omega
    | cons t rest =>
      cases rest' with
      | nil => simp [e, e'] at hlk; omega
      | cons u rest' =>
        obtain ⟨hlt, hg, _⟩ := idx_at e
        obtain ⟨hlt', hg', _⟩ := idx_at e'
        rw [← hp] at hlt' hg'
        have hw := idx_next e hmx
        obtain ⟨p, p1, p2⟩ := g1 _ _ hg
        obtain ⟨p', p3, p4⟩ := g2 _ _ hg'
        simp only [leq] at hin
        cases h : ieq t u with
        | true =>
          have h9 : t = u := by simpa [ieq] using h
          simp -implicitDefEqProofs [hfr, q0, q1, q12, q13, hlt, hlt', h1, h2, p1, p2, p3, p4, hw, h9]
          exact ⟨rest, by simp, rest', pre ++ [t], by simp [e], pre' ++ [u], by simp [e'], by simp [hp], by simp, by simpa [h] using hin⟩
        | false =>
          have h9 : ¬ t = u := by simpa [ieq] using h
          have h8 : (t == u) = false := by simpa using h9
          have h7 : (t != u) = true := by simp [bne, h8]
          simp -implicitDefEqProofs [hfr, q0, q1, q12, q13, hlt, hlt', h1, h2, p1, p2, p3, p4, hw, h9, h8, h7]
          simp [hin, h]
  · have hne : ¬ ((l.length : Int) = (k.length : Int)) := by omega
    simp -implicitDefEqProofs [hfr, s0, s1, h1, h2, hlk, hne]

theorem sint64s_eq (l k : List Int) (hl : l.length ≤ mxB) (st : St) :
    (D T).call 84 [.sl 1 (intA l), .sl 1 (intA k)] st = some (.bool (l.length == k.length && leq ieq l k), st) := by
  obtain ⟨o, ro, df⟩ := st
  have hmx : l.length ≤ 9223372036854775807 := Nat.le_trans hl (by decide)
  have L := ls_sl (o := o) (sz := 1) (intA l)
  have K := ls_sl (o := o) (sz := 1) (intA k)
  have h1 := L.len
  have h2 := K.len
  have g1 := fun (i : Nat) u (h : l[i]? = some u) => L.get [] o.length [] i [.int .i64 u] (by simp [intA, h]) rfl
  have g2 := fun (i : Nat) u (h : k[i]? = some u) => K.get [] o.length [] i [.int .i64 u] (by simp [intA, h]) rfl
  clear L K
  simp only [intA_len, List.append_nil] at h1 h2 g1 g2
  generalize (AV.sl 1 (intA l)) = v at *
  generalize (AV.sl 1 (intA k)) = w at *
  apply call_by (by exact rfl : T 84 = some _) (by simp)
  intro fr hfr hsl
  have s0 := hsl 0 _ rfl
  have s1 := hsl 1 _ rfl
  by_cases hlk : l.length = k.length
  · simp -implicitDefEqProofs [hfr, s0, s1, h1, h2, hlk]
    apply loop_inv L84_0.eq_1 (fun s : List Int × List Int => s.1.length) (fun s fr st => ∃ pre pre', l = pre ++ s.1 ∧ k = pre' ++ s.2 ∧ pre.length = pre'.length ∧ fr.length = 26 ∧ slot fr 0 = v ∧ slot fr 1 = w ∧ slot fr 12 = .int .i64 (k.length : Int) ∧ slot fr 13 = .int .i64 (pre.length : Int) ∧
      st = ⟨o, o.length, []⟩ ∧ leq ieq l k = leq ieq s.1 s.2) ?_ (l, k) ⟨[], [], rfl, rfl, rfl, by simp [hfr], by simp [hfr, s0], by simp [hfr, s1], by simp [hfr, hlk], by simp [hfr], rfl, rfl⟩
    rintro ⟨rest, rest'⟩ fr _ ⟨pre, pre', e, e', hp, hfr, q0, q1, q12, q13, rfl, hin⟩
    simp only at e e' hin
    cases rest with
    | nil =>
      have hlt := idx_end e
      have hlt2 : ¬ ((pre.length : Int) < (k.length : Int)) := by rw [← hlk]; exact hlt
      cases rest' with
      | nil => simp -implicitDefEqProofs [hfr, q0, q1, q12, q13, hlt, hlt2, h1, h2, hin, leq]
      | cons u rest' => simp [e, e'] at hlk; omega
    | cons t rest =>
      cases rest' with
      | nil => simp [e, e'] at hlk; omega
      | cons u rest' =>
        obtain ⟨hlt, hg, _⟩ := idx_at e
        obtain ⟨hlt', hg', _⟩ := idx_at e'
        rw [← hp] at hlt' hg'
        have hw := idx_next e hmx
        obtain ⟨p, p1, p2⟩ := g1 _ _ hg
        obtain ⟨p', p3, p4⟩ := g2 _ _ hg'
        simp only [leq] at hin
        cases h : ieq t u with
        | true =>
          have h9 : t = u := by simpa [ieq] using h
          simp -implicitDefEqProofs [hfr, q0, q1, q12, q13, hlt, hlt', h1, h2, p1, p2, p3, p4, hw, h9]
          exact ⟨rest, by simp, rest', pre ++ [t], by simp [e], pre' ++ [u], by simp [e'], by simp [hp], by simp, by simpa [h] using hin⟩
        | false =>
          have h9 : ¬ t = u := by simpa [ieq] using h
          have h8 : (t == u) = false := by simpa using h9
          have h7 : (t != u) = true := by simp [bne, h8]
          simp -implicitDefEqProofs [hfr, q0, q1, q12, q13, hlt, hlt', h1, h2, p1, p2, p3, p4, hw, h9, h8, h7]
          simp [hin, h]
  · have hne : ¬ ((l.length : Int) = (k.length : Int)) := by omega
    simp -implicitDefEqProofs [hfr, s0, s1, h1, h2, hlk, hne]

theorem smonos_eq (l k : List (Int × Int)) (hl : l.length ≤ mxB) (st : St) :
    (D T).call 83 [.sl 2 (moA l), .sl 2 (moA k)] st = some (.bool (l.length == k.length && leq meq l k), st) := by
  obtain ⟨o, ro, df⟩ := st
  have hmx : l.length ≤ 9223372036854775807 := Nat.le_trans hl (by decide)
  have L := ls_sl (o := o) (sz := 2) (moA l)
  have K := ls_sl (o := o) (sz := 2) (moA k)
  have h1 := L.len
  have h2 := K.len
  have g1 := fun (i : Nat) u (h : l[i]? = some u) => L.get [] o.length [] i [.int .i64 u.1, .int .i64 u.2] (by simp [moA, h]) rfl
  have g2 := fun (i : Nat) u (h : k[i]? = some u) => K.get [] o.length [] i [.int .i64 u.1, .int .i64 u.2] (by simp [moA, h]) rfl
  clear L K
  simp only [moA_len, List.append_nil] at h1 h2 g1 g2
  generalize (AV.sl 2 (moA l)) = v at *
  generalize (AV.sl 2 (moA k)) = w at *
  apply call_by (by exact rfl : T 83 = some _) (by simp)
  intro fr hfr hsl
  have s0 := hsl 0 _ rfl
  have s1 := hsl 1 _ rfl
  by_cases hlk : l.length = k.length
  · simp -implicitDefEqProofs [hfr, s0, s1, h1, h2, hlk]
    apply loop_inv L83_0.eq_1 (fun s : List (Int × Int) × List (Int × Int) => s.1.length) (fun s fr st => ∃ pre pre', l = pre ++ s.1 ∧ k = pre' ++ s.2 ∧ pre.length = pre'.length ∧ fr.length = 26 ∧ slot fr 0 = v ∧ slot fr 1 = w ∧ slot fr 12 = .int .i64 (k.length : Int) ∧ slot fr 13 = .int .i64 (pre.length : Int) ∧
      st = ⟨o, o.length, []⟩ ∧ leq meq l k = leq meq s.1 s.2) ?_ (l, k) ⟨[], [], rfl, rfl, rfl, by simp [hfr], by simp [hfr, s0], by simp [hfr, s1], by simp [hfr, hlk], by simp [hfr], rfl, rfl⟩
    rintro ⟨rest, rest'⟩ fr _ ⟨pre, pre', e, e', hp, hfr, q0, q1, q12, q13, rfl, hin⟩
    simp only at e e' hin
    cases rest with
    | nil =>
      have hlt := idx_end e
      have hlt2 : ¬ ((pre.length : Int) < (k.length : Int)) := by rw [← hlk]; exact hlt
      cases rest' with
      | nil => simp -implicitDefEqProofs [hfr, q0, q1, q12, q13, hlt, hlt2, h1, h2, hin, leq]
      | cons u rest' => simp [e, e'] at hlk; omega
    | cons t rest =>
      cases rest' with
      | nil => simp [e, e'] at hlk; omega
      | cons u rest' =>
        obtain ⟨hlt, hg, _⟩ := idx_at e
        obtain ⟨hlt', hg', _⟩ := idx_at e'
        rw [← hp] at hlt' hg'
        have hw := idx_next e hmx
        obtain ⟨p, p1, p2⟩ := g1 _ _ hg
        obtain ⟨p', p3, p4⟩ := g2 _ _ hg'
        simp only [leq] at hin
        cases h : meq t u with
        | true =>
          have h9 := h
          simp only [meq] at h9
          simp -implicitDefEqProofs [hfr, q0, q1, q12, q13, hlt, hlt', h1, h2, p1, p2, p3, p4, hw, eqCells, eqCell, h9]
          exact ⟨rest, by simp, rest', pre ++ [t], by simp [e], pre' ++ [u], by simp [e'], by simp [hp], by simp, by simpa [h] using hin⟩
        | false =>
          have h9 := h
          simp only [meq] at h9
          simp -implicitDefEqProofs [hfr, q0, q1, q12, q13, hlt, hlt', h1, h2, p1, p2, p3, p4, hw, eqCells, eqCell, h9]
          simp [hin, h]
  · have hne : ¬ ((l.length : Int) = (k.length : Int)) := by omega
    simp -implicitDefEqProofs [hfr, s0, s1, h1, h2, hlk, hne]

section
variable {ceq : Cu → Cu → Bool} {heq' : Ch → Ch → Bool} {lmeq : Lm → Lm → Bool} {peq : Pf → Pf → Bool}

theorem bcuts_eq (l k : List Cu) (hl : l.length ≤ mxB) (ih : ∀ t ∈ l, ∀ u ∈ k, ∀ st, (D T).call 89 [.agg (Cu.cells t), .agg (Cu.cells u)] st = some (.bool (ceq t u), st)) (st : St) :
    (D T).call 102 [.sl 7 (l.map Cu.cells), .sl 7 (k.map Cu.cells)] st = some (.bool (l.length == k.length && leq ceq l k), st) := by
  obtain ⟨o, ro, df⟩ := st
  have hmx : l.length ≤ 9223372036854775807 := Nat.le_trans hl (by decide)
  have L := ls_sl (o := o) (sz := 7) (l.map Cu.cells)
  have K := ls_sl (o := o) (sz := 7) (k.map Cu.cells)
  have h1 := L.len
  have h2 := K.len
  have g1 := fun (i : Nat) u (h : l[i]? = some u) => L.get [] o.length [] i (Cu.cells u) (by simp [h]) (culen u)
  have g2 := fun (i : Nat) u (h : k[i]? = some u) => K.get [] o.length [] i (Cu.cells u) (by simp [h]) (culen u)
  clear L K
  simp only [List.length_map, List.append_nil] at h1 h2 g1 g2
  generalize (AV.sl 7 (l.map Cu.cells)) = v at *
  generalize (AV.sl 7 (k.map Cu.cells)) = w at *
  apply call_by (by exact rfl : T 102 = some _) (by simp)
  intro fr hfr hsl
  have s0 := hsl 0 _ rfl
  have s1 := hsl 1 _ rfl
  by_cases hlk : l.length = k.length
  · simp -implicitDefEqProofs [hfr, s0, s1, h1, h2, hlk]
    apply loop_inv L102_0.eq_1 (fun s : List Cu × List Cu => s.1.length) (fun s fr st => ∃ pre pre', l = pre ++ s.1 ∧ k = pre' ++ s.2 ∧ pre.length = pre'.length ∧ fr.length = 27 ∧ slot fr 0 = v ∧ slot fr 1 = w ∧ slot fr 5 = .int .i64 (pre.length : Int) ∧
      st = ⟨o, o.length, []⟩ ∧ leq ceq l k = leq ceq s.1 s.2) ?_ (l, k) ⟨[], [], rfl, rfl, rfl, by simp [hfr], by simp [hfr, s0], by simp [hfr, s1], by simp [hfr], rfl, rfl⟩
    rintro ⟨rest, rest'⟩ fr _ ⟨pre, pre', e, e', hp, hfr, q0, q1, q5, rfl, hin⟩
    simp only at e e' hin
    cases rest with
    | nil =>
      have hlt := idx_end e
      cases rest' with
      | nil => simp -implicitDefEqProofs [hfr, q0, q1, q5, hlt, h1, h2, hin, leq]
      | cons u rest' => simp [e, e'] at hlk; omega
    | cons t rest =>
      cases rest' with
      | nil => simp [e, e'] at hlk; omega
      | cons u rest' =>
        obtain ⟨hlt, hg, _⟩ := idx_at e
        obtain ⟨hlt', hg', _⟩ := idx_at e'
        rw [← hp] at hlt' hg'
        have hw := idx_next e hmx
        obtain ⟨p, p1, p2⟩ := g1 _ _ hg
        obtain ⟨p', p3, p4⟩ := g2 _ _ hg'
        have hu := ih t (by simp [e]) u (by simp [e'])
        have c1 := cu_can t
        have c2 := cu_can u
        simp only [leq] at hin
        cases h : ceq t u with
        | true =>
          simp -implicitDefEqProofs [hfr, q0, q1, q5, hlt, hlt', h1, h2, p1, p2, p3, p4, c1, c2, hu, h, hw]
          exact ⟨rest, by simp, rest', pre ++ [t], by simp [e], pre' ++ [u], by simp [e'], by simp [hp], by simp, by simpa [h] using hin⟩
        | false =>
          simp -implicitDefEqProofs [hfr, q0, q1, q5, hlt, hlt', h1, h2, p1, p2, p3, p4, c1, c2, hu, h, hw]
          simp [hin, h]
  · have hne : ¬ ((l.length : Int) = (k.length : Int)) := by omega
    simp -implicitDefEqProofs [hfr, s0, s1, h1, h2, hlk, hne]

theorem scuts_eq (l k : List Cu) (g : Nat) (hl : l.length ≤ mxB) (ih : ∀ t ∈ l, ∀ u ∈ k, ∀ st, (D T).call g [.agg (Cu.cells t), .agg (Cu.cells u)] st = some (.bool (ceq t u), st)) (st : St) :
    (D T).call 85 [.sl 7 (l.map Cu.cells), .sl 7 (k.map Cu.cells), .fn (.func g) [] []] st = some (.bool (l.length == k.length && leq ceq l k), st) := by
  obtain ⟨o, ro, df⟩ := st
  have hmx : l.length ≤ 9223372036854775807 := Nat.le_trans hl (by decide)
  have sa : ∀ (cs : List AV) (t : Cu), cs.length = 7 → setMany cs 0 (Cu.cells t) = Cu.cells t := fun cs t h => set_all _ _ (by rw [h, culen])
  apply call_by (by exact rfl : T 85 = some _) (by simp)
  intro fr hfr hsl
  have s0 := hsl 0 _ rfl
  have s1 := hsl 1 _ rfl
  have s2 := hsl 2 _ rfl
  by_cases hlk : l.length = k.length
  · simp -implicitDefEqProofs [hfr, s0, s1, s2, hlk]
    apply loop_inv L85_0.eq_1 (fun s : List Cu × List Cu => s.1.length) (fun s fr st => ∃ pre pre' o', l = pre ++ s.1 ∧ k = pre' ++ s.2 ∧ pre.length = pre'.length ∧ fr.length = 32 ∧ slot fr 1 = .sl 7 (k.map Cu.cells) ∧ slot fr 2 = .fn (.func g) [] [] ∧ slot fr 15 = .sl 7 (l.map Cu.cells) ∧ slot fr 16 = .int .i64 (k.length : Int) ∧ slot fr 17 = .int .i64 (pre.length : Int) ∧
      st = ⟨o', o.length, []⟩ ∧ o.length ≤ o'.length ∧ leq ceq l k = leq ceq s.1 s.2) ?_ (l, k) ⟨[], [], o, rfl, rfl, rfl, by simp [hfr], by simp [hfr, s1], by simp [hfr, s2], by simp [hfr, s0], by simp [hfr, hlk], by simp [hfr], rfl, Nat.le_refl _, rfl⟩
    rintro ⟨rest, rest'⟩ fr _ ⟨pre, pre', o', e, e', hp, hfr, q1, q2, q15, q16, q17, rfl, hle, hin⟩
    simp only at e e' hin
    cases rest with
    | nil =>
      have hlt := idx_end e
      have hlt2 : ¬ ((pre.length : Int) < (k.length : Int)) := by rw [← hlk]; exact hlt
      cases rest' with
      | nil => simp -implicitDefEqProofs [hfr, q1, q2, q15, q16, q17, hlt2, hin, leq]
      | cons u rest' => simp [e, e'] at hlk; omega
    | cons t rest =>
      cases rest' with
      | nil => simp [e, e'] at hlk; omega
      | cons u rest' =>
        obtain ⟨hlt, hg, hpl⟩ := idx_at e
        obtain ⟨hlt', hg', hpl'⟩ := idx_at e'
        rw [← hp] at hlt' hg' hpl'
        have hw := idx_next e hmx
        have hu := ih t (by simp [e]) u (by simp [e'])
        have c1 := cu_can t
        have c2 := cu_can u
        have t1 := cu_take t
        have t2 := cu_take u
        have n1 := culen t
        have n2 := culen u
        have a1 := cu_one t
        have a2 := cu_one u
        have b1 : o.length ≤ o'.length + 1 := by omega
        simp only [leq] at hin
        cases h : ceq t u with
        | true =>
          simp -implicitDefEqProofs [hfr, q1, q2, q15, q16, q17, hlt', hlt, hg, hg', hpl, hpl', c1, c2, t1, t2, n1, n2, a1, a2, sa, hle, b1, hu, h, hw, get_base0, get_base, set_base0, set_base, -List.getElem_map, -getElem?_pos, List.getElem?_cons_zero, List.getElem?_cons_succ, setO_last, getO_last, List.append_assoc]
          exact ⟨rest, by simp, rest', pre ++ [t], by simp [e], pre' ++ [u], by simp [e'], by simp [hp], by simp, by first | omega | (simp; omega), by simpa [h] using hin⟩
        | false =>
          simp -implicitDefEqProofs [hfr, q1, q2, q15, q16, q17, hlt', hlt, hg, hg', hpl, hpl', c1, c2, t1, t2, n1, n2, a1, a2, sa, hle, b1, hu, h, hw, get_base0, get_base, set_base0, set_base, -List.getElem_map, -getElem?_pos, List.getElem?_cons_zero, List.getElem?_cons_succ, setO_last, getO_last, List.append_assoc]
          simp [hin, h]
  · have hne : ¬ ((l.length : Int) = (k.length : Int)) := by omega
    simp -implicitDefEqProofs [hfr, s0, s1, s2, hlk, hne]

theorem bchains_eq (l k : List Ch) (hl : l.length ≤ mxB) (ih : ∀ t ∈ l, ∀ u ∈ k, ∀ st, (D T).call 99 [.agg (Ch.cells t), .agg (Ch.cells u)] st = some (.bool (heq' t u), st)) (st : St) :
    (D T).call 88 [.sl 2 (l.map Ch.cells), .sl 2 (k.map Ch.cells)] st = some (.bool (l.length == k.length && leq heq' l k), st) := by
  obtain ⟨o, ro, df⟩ := st
  have hmx : l.length ≤ 9223372036854775807 := Nat.le_trans hl (by decide)
  have L := ls_sl (o := o) (sz := 2) (l.map Ch.cells)
  have K := ls_sl (o := o) (sz := 2) (k.map Ch.cells)
  have h1 := L.len
  have h2 := K.len
  have g1 := fun (i : Nat) u (h : l[i]? = some u) => L.get [] o.length [] i (Ch.cells u) (by simp [h]) (chlen u)
  have g2 := fun (i : Nat) u (h : k[i]? = some u) => K.get [] o.length [] i (Ch.cells u) (by simp [h]) (chlen u)
  clear L K
  simp only [List.length_map, List.append_nil] at h1 h2 g1 g2
  generalize (AV.sl 2 (l.map Ch.cells)) = v at *
  generalize (AV.sl 2 (k.map Ch.cells)) = w at *
  apply call_by (by exact rfl : T 88 = some _) (by simp)
  intro fr hfr hsl
  have s0 := hsl 0 _ rfl
  have s1 := hsl 1 _ rfl
  by_cases hlk : l.length = k.length
  · simp -implicitDefEqProofs [hfr, s0, s1, h1, h2, hlk]
    apply loop_inv L88_0.eq_1 (fun s : List Ch × List Ch => s.1.length) (fun s fr st => ∃ pre pre', l = pre ++ s.1 ∧ k = pre' ++ s.2 ∧ pre.length = pre'.length ∧ fr.length = 27 ∧ slot fr 0 = v ∧ slot fr 1 = w ∧ slot fr 5 = .int .i64 (pre.length : Int) ∧
      st = ⟨o, o.length, []⟩ ∧ leq heq' l k = leq heq' s.1 s.2) ?_ (l, k) ⟨[], [], rfl, rfl, rfl, by simp [hfr], by simp [hfr, s0], by simp [hfr, s1], by simp [hfr], rfl, rfl⟩
    rintro ⟨rest, rest'⟩ fr _ ⟨pre, pre', e, e', hp, hfr, q0, q1, q5, rfl, hin⟩
    simp only at e e' hin
    cases rest with
    | nil =>
      have hlt := idx_end e
      cases rest' with
      | nil => simp -implicitDefEqProofs [hfr, q0, q1, q5, hlt, h1, h2, hin, leq]
      | cons u rest' => simp [e, e'] at hlk; omega
    | cons t rest =>
      cases rest' with
      | nil => simp [e, e'] at hlk; omega
      | cons u rest' =>
        obtain ⟨hlt, hg, _⟩ := idx_at e
        obtain ⟨hlt', hg', _⟩ := idx_at e'
        rw [← hp] at hlt' hg'
        have hw := idx_next e hmx
        obtain ⟨p, p1, p2⟩ := g1 _ _ hg
        obtain ⟨p', p3, p4⟩ := g2 _ _ hg'
        have hu := ih t (by simp [e]) u (by simp [e'])
        have c1 := ch_can t
        have c2 := ch_can u
        simp only [leq] at hin
        cases h : heq' t u with
        | true =>
          simp -implicitDefEqProofs [hfr, q0, q1, q5, hlt, hlt', h1, h2, p1, p2, p3, p4, c1, c2, hu, h, hw]
          exact ⟨rest, by simp, rest', pre ++ [t], by simp [e], pre' ++ [u], by simp [e'], by simp [hp], by simp, by simpa [h] using hin⟩
        | false =>
          simp -implicitDefEqProofs [hfr, q0, q1, q5, hlt, hlt', h1, h2, p1, p2, p3, p4, c1, c2, hu, h, hw]
          simp [hin, h]
  · have hne : ¬ ((l.length : Int) = (k.length : Int)) := by omega
    simp -implicitDefEqProofs [hfr, s0, s1, h1, h2, hlk, hne]

theorem blemmas_eq (l k : List Lm) (hl : l.length ≤ mxB) (ih : ∀ t ∈ l, ∀ u ∈ k, ∀ st, (D T).call 98 [.agg (Lm.cells t), .agg (Lm.cells u)] st = some (.bool (lmeq t u), st)) (st : St) :
    (D T).call 87 [.sl 8 (l.map Lm.cells), .sl 8 (k.map Lm.cells)] st = some (.bool (l.length == k.length && leq lmeq l k), st) := by
  obtain ⟨o, ro, df⟩ := st
  have hmx : l.length ≤ 9223372036854775807 := Nat.le_trans hl (by decide)
  have L := ls_sl (o := o) (sz := 8) (l.map Lm.cells)
  have K := ls_sl (o := o) (sz := 8) (k.map Lm.cells)
  have h1 := L.len
  have h2 := K.len
  have g1 := fun (i : Nat) u (h : l[i]? = some u) => L.get [] o.length [] i (Lm.cells u) (by simp [h]) (lelen u)
  have g2 := fun (i : Nat) u (h : k[i]? = some u) => K.get [] o.length [] i (Lm.cells u) (by simp [h]) (lelen u)
  clear L K
  simp only [List.length_map, List.append_nil] at h1 h2 g1 g2
  generalize (AV.sl 8 (l.map Lm.cells)) = v at *
  generalize (AV.sl 8 (k.map Lm.cells)) = w at *
  apply call_by (by exact rfl : T 87 = some _) (by simp)
  intro fr hfr hsl
  have s0 := hsl 0 _ rfl
  have s1 := hsl 1 _ rfl
  by_cases hlk : l.length = k.length
  · simp -implicitDefEqProofs [hfr, s0, s1, h1, h2, hlk]
    apply loop_inv L87_0.eq_1 (fun s : List Lm × List Lm => s.1.length) (fun s fr st => ∃ pre pre', l = pre ++ s.1 ∧ k = pre' ++ s.2 ∧ pre.length = pre'.length ∧ fr.length = 27 ∧ slot fr 0 = v ∧ slot fr 1 = w ∧ slot fr 5 = .int .i64 (pre.length : Int) ∧
      st = ⟨o, o.length, []⟩ ∧ leq lmeq l k = leq lmeq s.1 s.2) ?_ (l, k) ⟨[], [], rfl, rfl, rfl, by simp [hfr], by simp [hfr, s0], by simp [hfr, s1], by simp [hfr], rfl, rfl⟩
    rintro ⟨rest, rest'⟩ fr _ ⟨pre, pre', e, e', hp, hfr, q0, q1, q5, rfl, hin⟩
    simp only at e e' hin
    cases rest with
    | nil =>
      have hlt := idx_end e
      cases rest' with
      | nil => simp -implicitDefEqProofs [hfr, q0, q1, q5, hlt, h1, h2, hin, leq]
      | cons u rest' => simp [e, e'] at hlk; omega
    | cons t rest =>
      cases rest' with
      | nil => simp [e, e'] at hlk; omega
      | cons u rest' =>
        obtain ⟨hlt, hg, _⟩ := idx_at e
        obtain ⟨hlt', hg', _⟩ := idx_at e'
        rw [← hp] at hlt' hg'
        have hw := idx_next e hmx
        obtain ⟨p, p1, p2⟩ := g1 _ _ hg
        obtain ⟨p', p3, p4⟩ := g2 _ _ hg'
        have hu := ih t (by simp [e]) u (by simp [e'])
        have c1 := le_can t
        have c2 := le_can u
        simp only [leq] at hin
        cases h : lmeq t u with
        | true =>
          simp -implicitDefEqProofs [hfr, q0, q1, q5, hlt, hlt', h1, h2, p1, p2, p3, p4, c1, c2, hu, h, hw]
          exact ⟨rest, by simp, rest', pre ++ [t], by simp [e], pre' ++ [u], by simp [e'], by simp [hp], by simp, by simpa [h] using hin⟩
        | false =>
          simp -implicitDefEqProofs [hfr, q0, q1, q5, hlt, hlt', h1, h2, p1, p2, p3, p4, c1, c2, hu, h, hw]
          simp [hin, h]
  · have hne : ¬ ((l.length : Int) = (k.length : Int)) := by omega
    simp -implicitDefEqProofs [hfr, s0, s1, h1, h2, hlk, hne]

theorem bproofs_eq (l k : List Pf) (hl : l.length ≤ mxB) (ih : ∀ t ∈ l, ∀ u ∈ k, ∀ st, (D T).call 27 [.agg (Pf.cells t), .agg (Pf.cells u)] st = some (.bool (peq t u), st)) (st : St) :
    (D T).call 65 [.sl 24 (l.map Pf.cells), .sl 24 (k.map Pf.cells)] st = some (.bool (l.length == k.length && leq peq l k), st) := by
  obtain ⟨o, ro, df⟩ := st
  have hmx : l.length ≤ 9223372036854775807 := Nat.le_trans hl (by decide)
  have L := ls_sl (o := o) (sz := 24) (l.map Pf.cells)
  have K := ls_sl (o := o) (sz := 24) (k.map Pf.cells)
  have h1 := L.len
  have h2 := K.len
  have g1 := fun (i : Nat) u (h : l[i]? = some u) => L.get [] o.length [] i (Pf.cells u) (by simp [h]) (plen u)
  have g2 := fun (i : Nat) u (h : k[i]? = some u) => K.get [] o.length [] i (Pf.cells u) (by simp [h]) (plen u)
  clear L K
  simp only [List.length_map, List.append_nil] at h1 h2 g1 g2
  generalize (AV.sl 24 (l.map Pf.cells)) = v at *
  generalize (AV.sl 24 (k.map Pf.cells)) = w at *
  apply call_by (by exact rfl : T 65 = some _) (by simp)
  intro fr hfr hsl
  have s0 := hsl 0 _ rfl
  have s1 := hsl 1 _ rfl
  by_cases hlk : l.length = k.length
  · simp -implicitDefEqProofs [hfr, s0, s1, h1, h2, hlk]
    apply loop_inv L65_0.eq_1 (fun s : List Pf × List Pf => s.1.length) (fun s fr st => ∃ pre pre', l = pre ++ s.1 ∧ k = pre' ++ s.2 ∧ pre.length = pre'.length ∧ fr.length = 27 ∧ slot fr 0 = v ∧ slot fr 1 = w ∧ slot fr 5 = .int .i64 (pre.length : Int) ∧
      st = ⟨o, o.length, []⟩ ∧ leq peq l k = leq peq s.1 s.2) ?_ (l, k) ⟨[], [], rfl, rfl, rfl, by simp [hfr], by simp [hfr, s0], by simp [hfr, s1], by simp [hfr], rfl, rfl⟩
    rintro ⟨rest, rest'⟩ fr _ ⟨pre, pre', e, e', hp, hfr, q0, q1, q5, rfl, hin⟩
    simp only at e e' hin
    cases rest with
    | nil =>
      have hlt := idx_end e
      cases rest' with
      | nil => simp -implicitDefEqProofs [hfr, q0, q1, q5, hlt, h1, h2, hin, leq]
      | cons u rest' => simp [e, e'] at hlk; omega
    | cons t rest =>
      cases rest' with
      | nil => simp [e, e'] at hlk; omega
      | cons u rest' =>
        obtain ⟨hlt, hg, _⟩ := idx_at e
        obtain ⟨hlt', hg', _⟩ := idx_at e'
        rw [← hp] at hlt' hg'
        have hw := idx_next e hmx
        obtain ⟨p, p1, p2⟩ := g1 _ _ hg
        obtain ⟨p', p3, p4⟩ := g2 _ _ hg'
        have hu := ih t (by simp [e]) u (by simp [e'])
        have c1 := p_can t
        have c2 := p_can u
        simp only [leq] at hin
        cases h : peq t u with
        | true =>
          simp -implicitDefEqProofs [hfr, q0, q1, q5, hlt, hlt', h1, h2, p1, p2, p3, p4, c1, c2, hu, h, hw]
          exact ⟨rest, by simp, rest', pre ++ [t], by simp [e], pre' ++ [u], by simp [e'], by simp [hp], by simp, by simpa [h] using hin⟩
        | false =>
          simp -implicitDefEqProofs [hfr, q0, q1, q5, hlt, hlt', h1, h2, p1, p2, p3, p4, c1, c2, hu, h, hw]
          simp [hin, h]
  · have hne : ¬ ((l.length : Int) = (k.length : Int)) := by omega
    simp -implicitDefEqProofs [hfr, s0, s1, h1, h2, hlk, hne]

end
end Go.Proofs.YtkecobdhgabknaaDoor.A
