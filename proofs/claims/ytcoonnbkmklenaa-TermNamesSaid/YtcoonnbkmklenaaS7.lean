/- What the functions that gather parts of terms give. -/
import Derived.Test.YtcoonnbkmklenaaS6
import Derived.Test.YtcoonnbkmklenaaS4T
namespace Go.Proofs.Ytcoonnbkmklenaa.A
open Go
set_option maxRecDepth 10000
set_option linter.unusedSimpArgs false
attribute [-simp] List.all_eq_true put slot_def ld idxA lenOf elems canA app hand

def inL (l : List Tm) (t : Tm) : Bool := l.any fun u => tmEq u t

theorem in_eq {o : List Obj} {v : AV} {l : List Tm} (L : Ls o 4 v (l.map Tm.cells)) (hl : l.length ≤ 9223372036854775807) (hok : ∀ u ∈ l, u.ok) (t : Tm) (ht : t.ok) (ro : Nat) (df : List Nat) :
    (D T).call 21 [v, t.av] ⟨o, ro, df⟩ = some (.bool (inL l t), ⟨o, ro, df⟩) := by
  have hlen := L.len
  have get := fun (x : List AV) (i : Nat) u (h : l[i]? = some u) => L.get [Obj.arr 24 4 [x]] o.length [] i u.cells (by simp [h]) (cells_length u)
  have htm := fun u (hu : u ∈ l) st => tm_eq u (hok u hu) t ht st
  simp only [Tm.av, List.length_map] at htm hlen
  apply call_by (by exact rfl : T 21 = some _) (by simp)
  intro fr hfr hsl
  have s0 := hsl 0 _ rfl
  have s1 := hsl 1 _ rfl
  simp only [Tm.av] at s1
  simp -implicitDefEqProofs [hfr, s0, s1]
  apply loop_inv L21_0.eq_1 List.length (fun (rest : List Tm) fr st => ∃ pre, l = pre ++ rest ∧ fr.length = 18 ∧ slot fr 0 = v ∧ slot fr 3 = .ptr o.length 0 0 ∧ slot fr 5 = .int .i64 (pre.length : Int) ∧
    st = ⟨o ++ [.arr 24 4 [t.cells]], o.length, []⟩ ∧ inL l t = inL rest t) ?_ l ⟨[], rfl, by simp [hfr], by simp [hfr, s0], by simp [hfr], by simp [hfr], rfl, rfl⟩
  rintro rest fr _ ⟨pre, e, hfr, q0, q3, q5, rfl, hin⟩
  cases rest with
  | nil =>
    have hlt := idx_end e
    simp -implicitDefEqProofs [hfr, q0, q3, q5, hlt, hlen, hin]
    rfl
  | cons u rest =>
    obtain ⟨hlt, hg, _⟩ := idx_at e
    have hw := idx_next e hl
    obtain ⟨p, g1, g2⟩ := get t.cells _ _ hg
    have hu := htm u (by simp [e])
    simp only [inL, List.any_cons] at hin
    cases h : tmEq u t with
    | true =>
      simp -implicitDefEqProofs [hfr, q0, q3, q5, hlt, hlen, g1, g2, hu, h, hw]
      simp [inL, hin, h]
    | false =>
      simp -implicitDefEqProofs [hfr, q0, q3, q5, hlt, hlen, g1, g2, hu, h, hw]
      exact ⟨rest, by simp, pre ++ [u], by simp [e], by simp, by simpa [inL, h] using hin⟩

def hasL (l : List Tm) (x : Tm) : Bool := l.any fun u => cm x u == 0

theorem is_eq (t : Tm) (st : St) : (D T).call 41 [t.av] st = some (.fn (.func 55) [] [.vptr t.cells], st) := by
  apply call_by (by exact rfl : T 41 = some _) (by simp)
  intro fr hfr hsl
  have s0 := hsl 0 _ rfl
  simp only [Tm.av] at s0
  simp -implicitDefEqProofs [hfr, s0]

theorem is1_eq (t x : Tm) (ht : t.ok) (hx : x.ok) (st : St) : (D T).call 55 [x.av, .vptr t.cells] st = some (.bool (cm t x == 0), st) := by
  have h := fun st => same_eq t x ht hx st
  simp only [Tm.av] at h
  apply call_by (by exact rfl : T 55 = some _) (by simp)
  intro fr hfr hsl
  have s0 := hsl 0 _ rfl
  have s1 := hsl 1 _ rfl
  simp only [Tm.av] at s0
  simp -implicitDefEqProofs [hfr, s0, s1, h]

theorem index_eq {o : List Obj} {v : AV} {l : List Tm} (L : Ls o 4 v (l.map Tm.cells)) (hl : l.length ≤ 9223372036854775807) (hok : ∀ u ∈ l, u.ok) (t : Tm) (ht : t.ok) (ro : Nat) (df : List Nat) :
    ∃ i : Int, decide (0 ≤ i) = hasL l t ∧ (D T).call 54 [v, .fn (.func 55) [] [.vptr t.cells]] ⟨o, ro, df⟩ = some (.int .i64 i, ⟨o, ro, df⟩) := by
  have hlen := L.len
  have get := fun (i : Nat) u (h : l[i]? = some u) => L.get [] o.length [] i u.cells (by simp [h]) (cells_length u)
  have htm := fun u (hu : u ∈ l) st => is1_eq t u ht (hok u hu) st
  simp only [Tm.av, List.length_map, List.append_nil] at htm hlen get
  suffices h : ∃ v' st', (D T).call 54 [v, .fn (.func 55) [] [.vptr t.cells]] ⟨o, ro, df⟩ = some (v', st') ∧ (fun v' st' => ∃ i : Int, v' = .int .i64 i ∧ decide (0 ≤ i) = hasL l t ∧ st' = ⟨o, ro, df⟩) v' st' by
    obtain ⟨_, _, h1, i, rfl, h2, rfl⟩ := h
    exact ⟨i, h2, h1⟩
  apply call_for (by exact rfl : T 54 = some _) (by simp)
  intro fr hfr hsl
  have s0 := hsl 0 _ rfl
  have s1 := hsl 1 _ rfl
  simp -implicitDefEqProofs [hfr, s0, s1, hlen]
  apply loop_inv L54_0.eq_1 List.length (fun (rest : List Tm) fr st => ∃ pre, l = pre ++ rest ∧ fr.length = 19 ∧ slot fr 0 = v ∧ slot fr 1 = .fn (.func 55) [] [.vptr t.cells] ∧ slot fr 7 = .int .i64 (l.length : Int) ∧ slot fr 8 = .int .i64 (pre.length : Int) ∧
    st = ⟨o, o.length, []⟩ ∧ hasL l t = hasL rest t) ?_ l ⟨[], rfl, by simp [hfr], by simp [hfr, s0], by simp [hfr, s1], by simp [hfr], by simp [hfr], rfl, rfl⟩
  rintro rest fr _ ⟨pre, e, hfr, q0, q1, q7, q8, rfl, hin⟩
  cases rest with
  | nil =>
    have hlt := idx_end e
    simp -implicitDefEqProofs [hfr, q0, q1, q7, q8, hlt, hlen, hin]
    rfl
  | cons u rest =>
    obtain ⟨hlt, hg, _⟩ := idx_at e
    have hw := idx_next e hl
    obtain ⟨p, g1, g2⟩ := get _ _ hg
    have hu := htm u (by simp [e])
    simp only [hasL, List.any_cons] at hin
    cases h : (cm t u == 0) with
    | true =>
      simp -implicitDefEqProofs [hfr, q0, q1, q7, q8, hlt, hlen, g1, g2, hu, h, hw]
      simp [hasL, hin, h]
    | false =>
      simp -implicitDefEqProofs [hfr, q0, q1, q7, q8, hlt, hlen, g1, g2, hu, h, hw]
      exact ⟨rest, by simp, pre ++ [u], by simp [e], by simp, by simpa [hasL, h] using hin⟩

theorem contains_eq {o : List Obj} {v : AV} {l : List Tm} (L : Ls o 4 v (l.map Tm.cells)) (hl : l.length ≤ 9223372036854775807) (hok : ∀ u ∈ l, u.ok) (t : Tm) (ht : t.ok) (ro : Nat) (df : List Nat) :
    (D T).call 40 [v, .fn (.func 55) [] [.vptr t.cells]] ⟨o, ro, df⟩ = some (.bool (hasL l t), ⟨o, ro, df⟩) := by
  have hcan := L.can
  obtain ⟨i, hi, e⟩ := index_eq L hl hok t ht o.length []
  rw [← hi]
  apply call_by (by exact rfl : T 40 = some _) (by simp)
  intro fr hfr hsl
  have s0 := hsl 0 _ rfl
  have s1 := hsl 1 _ rfl
  simp -implicitDefEqProofs [hfr, s0, s1, hcan, e]

theorem room_of {n b : Nat} (h : n * b ≤ 140737488355328) (h2 : n ≤ 4611686018427387904) : room n b = true := by simp [room, h, h2]

end Go.Proofs.Ytcoonnbkmklenaa.A
