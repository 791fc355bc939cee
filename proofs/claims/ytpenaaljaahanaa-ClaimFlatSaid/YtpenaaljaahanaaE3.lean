/- Claims: the terms, and the atoms, that the program gathers, each once. -/
import Derived.Test.YtpenaaljaahanaaE2
import Derived.Test.YtpenaaljaahanaaP6
namespace Go.Proofs.Ytpenaaljaahanaa.A
open Go
set_option maxRecDepth 10000
set_option linter.unusedSimpArgs false
attribute [-simp] List.all_eq_true put slot_def ld idxA lenOf elems canA app hand

theorem indexC {α : Type} {cells : α → List AV} {o : List Obj} {v : AV} {l : List α} (L : Ls o 5 v (l.map cells)) (hc : ∀ x, (cells x).length = 5) (hn : ∀ x, canL (cells x) = cells x) (hl : l.length ≤ 9223372036854775807) (g : Nat) (cap : List AV) (pr : α → Bool)
    (hp : ∀ u ∈ l, (D T).call g (.agg (cells u) :: cap) ⟨o, o.length, []⟩ = some (.bool (pr u), ⟨o, o.length, []⟩)) (ro : Nat) (df : List Nat) :
    ∃ i : Int, decide (0 ≤ i) = l.any pr ∧ (D T).call 73 [v, .fn (.func g) [] cap] ⟨o, ro, df⟩ = some (.int .i64 i, ⟨o, ro, df⟩) := by
  have hlen := L.len
  have get := fun (i : Nat) u (h : l[i]? = some u) => L.get [] o.length [] i (cells u) (by simp [h]) (hc u)
  simp only [List.length_map, List.append_nil] at hlen get
  suffices h : ∃ v' st', (D T).call 73 [v, .fn (.func g) [] cap] ⟨o, ro, df⟩ = some (v', st') ∧ (fun v' st' => ∃ i : Int, v' = .int .i64 i ∧ decide (0 ≤ i) = l.any pr ∧ st' = ⟨o, ro, df⟩) v' st' by
    obtain ⟨_, _, h1, i, rfl, h2, rfl⟩ := h
    exact ⟨i, h2, h1⟩
  apply call_for (by exact rfl : T 73 = some _) (by simp)
  intro fr hfr hsl
  have s0 := hsl 0 _ rfl
  have s1 := hsl 1 _ rfl
  simp -implicitDefEqProofs [hfr, s0, s1, hlen]
  apply loop_inv L73_0.eq_1 List.length (fun (rest : List α) fr st => ∃ pre, l = pre ++ rest ∧ fr.length = 19 ∧ slot fr 0 = v ∧ slot fr 1 = .fn (.func g) [] cap ∧ slot fr 7 = .int .i64 (l.length : Int) ∧ slot fr 8 = .int .i64 (pre.length : Int) ∧
    st = ⟨o, o.length, []⟩ ∧ l.any pr = rest.any pr) ?_ l ⟨[], rfl, by simp [hfr], by simp [hfr, s0], by simp [hfr, s1], by simp [hfr], by simp [hfr], rfl, rfl⟩
  rintro rest fr _ ⟨pre, e, hfr, q0, q1, q7, q8, rfl, hin⟩
  cases rest with
  | nil =>
    have hlt := idx_end e
    simp -implicitDefEqProofs [hfr, q0, q1, q7, q8, hlt, hlen, hin]
  | cons u rest =>
    obtain ⟨hlt, hg, _⟩ := idx_at e
    have hw := idx_next e hl
    obtain ⟨p, g1, g2⟩ := get _ _ hg
    have hu := hp u (by simp [e])
    rw [List.any_cons] at hin
    cases h : pr u with
    | true =>
      simp -implicitDefEqProofs [hfr, q0, q1, q7, q8, hlt, hlen, g1, g2, hu, hn, h, hw]
      exact ⟨u, by simp [e], h⟩
    | false =>
      simp -implicitDefEqProofs [hfr, q0, q1, q7, q8, hlt, hlen, g1, g2, hu, hn, h, hw]
      exact ⟨rest, by simp, pre ++ [u], by simp [e], by simp, by simpa [h] using hin⟩

theorem containsC {α : Type} {cells : α → List AV} {o : List Obj} {v : AV} {l : List α} (L : Ls o 5 v (l.map cells)) (hc : ∀ x, (cells x).length = 5) (hn : ∀ x, canL (cells x) = cells x) (hl : l.length ≤ 9223372036854775807) (g : Nat) (cap : List AV) (pr : α → Bool)
    (hp : ∀ u ∈ l, (D T).call g (.agg (cells u) :: cap) ⟨o, o.length, []⟩ = some (.bool (pr u), ⟨o, o.length, []⟩)) (ro : Nat) (df : List Nat) :
    (D T).call 54 [v, .fn (.func g) [] cap] ⟨o, ro, df⟩ = some (.bool (l.any pr), ⟨o, ro, df⟩) := by
  have hcan := L.can
  obtain ⟨i, hi, e⟩ := indexC L hc hn hl g cap pr hp o.length []
  rw [← hi]
  apply call_by (by exact rfl : T 54 = some _) (by simp)
  intro fr hfr hsl
  have s0 := hsl 0 _ rfl
  have s1 := hsl 1 _ rfl
  simp -implicitDefEqProofs [hfr, s0, s1, hcan, e]

theorem indexT {α : Type} {cells : α → List AV} {o : List Obj} {v : AV} {l : List α} (L : Ls o 4 v (l.map cells)) (hc : ∀ x, (cells x).length = 4) (hn : ∀ x, canL (cells x) = cells x) (hl : l.length ≤ 9223372036854775807) (g : Nat) (cap : List AV) (pr : α → Bool)
    (hp : ∀ u ∈ l, (D T).call g (.agg (cells u) :: cap) ⟨o, o.length, []⟩ = some (.bool (pr u), ⟨o, o.length, []⟩)) (ro : Nat) (df : List Nat) :
    ∃ i : Int, decide (0 ≤ i) = l.any pr ∧ (D T).call 77 [v, .fn (.func g) [] cap] ⟨o, ro, df⟩ = some (.int .i64 i, ⟨o, ro, df⟩) := by
  have hlen := L.len
  have get := fun (i : Nat) u (h : l[i]? = some u) => L.get [] o.length [] i (cells u) (by simp [h]) (hc u)
  simp only [List.length_map, List.append_nil] at hlen get
  suffices h : ∃ v' st', (D T).call 77 [v, .fn (.func g) [] cap] ⟨o, ro, df⟩ = some (v', st') ∧ (fun v' st' => ∃ i : Int, v' = .int .i64 i ∧ decide (0 ≤ i) = l.any pr ∧ st' = ⟨o, ro, df⟩) v' st' by
    obtain ⟨_, _, h1, i, rfl, h2, rfl⟩ := h
    exact ⟨i, h2, h1⟩
  apply call_for (by exact rfl : T 77 = some _) (by simp)
  intro fr hfr hsl
  have s0 := hsl 0 _ rfl
  have s1 := hsl 1 _ rfl
  simp -implicitDefEqProofs [hfr, s0, s1, hlen]
  apply loop_inv L77_0.eq_1 List.length (fun (rest : List α) fr st => ∃ pre, l = pre ++ rest ∧ fr.length = 19 ∧ slot fr 0 = v ∧ slot fr 1 = .fn (.func g) [] cap ∧ slot fr 7 = .int .i64 (l.length : Int) ∧ slot fr 8 = .int .i64 (pre.length : Int) ∧
    st = ⟨o, o.length, []⟩ ∧ l.any pr = rest.any pr) ?_ l ⟨[], rfl, by simp [hfr], by simp [hfr, s0], by simp [hfr, s1], by simp [hfr], by simp [hfr], rfl, rfl⟩
  rintro rest fr _ ⟨pre, e, hfr, q0, q1, q7, q8, rfl, hin⟩
  cases rest with
  | nil =>
    have hlt := idx_end e
    simp -implicitDefEqProofs [hfr, q0, q1, q7, q8, hlt, hlen, hin]
  | cons u rest =>
    obtain ⟨hlt, hg, _⟩ := idx_at e
    have hw := idx_next e hl
    obtain ⟨p, g1, g2⟩ := get _ _ hg
    have hu := hp u (by simp [e])
    rw [List.any_cons] at hin
    cases h : pr u with
    | true =>
      simp -implicitDefEqProofs [hfr, q0, q1, q7, q8, hlt, hlen, g1, g2, hu, hn, h, hw]
      exact ⟨u, by simp [e], h⟩
    | false =>
      simp -implicitDefEqProofs [hfr, q0, q1, q7, q8, hlt, hlen, g1, g2, hu, hn, h, hw]
      exact ⟨rest, by simp, pre ++ [u], by simp [e], by simp, by simpa [h] using hin⟩

theorem containsT {α : Type} {cells : α → List AV} {o : List Obj} {v : AV} {l : List α} (L : Ls o 4 v (l.map cells)) (hc : ∀ x, (cells x).length = 4) (hn : ∀ x, canL (cells x) = cells x) (hl : l.length ≤ 9223372036854775807) (g : Nat) (cap : List AV) (pr : α → Bool)
    (hp : ∀ u ∈ l, (D T).call g (.agg (cells u) :: cap) ⟨o, o.length, []⟩ = some (.bool (pr u), ⟨o, o.length, []⟩)) (ro : Nat) (df : List Nat) :
    (D T).call 61 [v, .fn (.func g) [] cap] ⟨o, ro, df⟩ = some (.bool (l.any pr), ⟨o, ro, df⟩) := by
  have hcan := L.can
  obtain ⟨i, hi, e⟩ := indexT L hc hn hl g cap pr hp o.length []
  rw [← hi]
  apply call_by (by exact rfl : T 61 = some _) (by simp)
  intro fr hfr hsl
  have s0 := hsl 0 _ rfl
  have s1 := hsl 1 _ rfl
  simp -implicitDefEqProofs [hfr, s0, s1, hcan, e]

theorem cmT (t u : Tm) : (cm t u == 0) = tmEq t u := by
  rw [Bool.eq_iff_iff, ← cm_tm t u]; simp
theorem ccmC (t u : Cl) : (ccm t u == 0) = clEq t u := by
  rw [Bool.eq_iff_iff, ← ccm_cl t u]; simp

theorem same1T (t x : Tm) (ht : t.ok) (hx : x.ok) {o : List Obj} {b ro : Nat} (h : o[b]? = some (.arr 56 4 [t.cells])) (df : List Nat) :
    (D T).call 62 [x.av, .ptr b 0 0] ⟨o, ro, df⟩ = some (.bool (tmEq x t), ⟨o, ro, df⟩) := by
  have hs := fun st => same_eq x t hx ht st
  rw [cmT] at hs
  simp only [Tm.av] at hs
  have hl := lt_of_getO h
  apply call_by (by exact rfl : T 62 = some _) (by simp)
  intro fr hfr hsl
  have s0 := hsl 0 _ rfl
  have s1 := hsl 1 _ rfl
  simp only [Tm.av] at s0
  have h' : (o ++ [Obj.arr 56 4 [x.cells]])[b]? = some (.arr 56 4 [t.cells]) := getO_push h _
  simp -implicitDefEqProofs [hfr, s0, s1, getO_last, h', hs, -getElem?_pos, List.getElem?_cons_zero]

theorem same1C (t x : Cl) (ht : t.ok) (hx : x.ok) {o : List Obj} {b ro : Nat} (h : o[b]? = some (.arr 25 5 [t.cells])) (df : List Nat) :
    (D T).call 55 [x.av, .ptr b 0 0] ⟨o, ro, df⟩ = some (.bool (clEq x t), ⟨o, ro, df⟩) := by
  have hs := fun st => csame_eq x t hx ht st
  rw [ccmC] at hs
  simp only [Cl.av] at hs
  have hl := lt_of_getO h
  apply call_by (by exact rfl : T 55 = some _) (by simp)
  intro fr hfr hsl
  have s0 := hsl 0 _ rfl
  have s1 := hsl 1 _ rfl
  simp only [Cl.av] at s0
  have h' : (o ++ [Obj.arr 25 5 [x.cells]])[b]? = some (.arr 25 5 [t.cells]) := getO_push h _
  simp -implicitDefEqProofs [hfr, s0, s1, getO_last, h', hs, -getElem?_pos, List.getElem?_cons_zero]

/-- a slice that grew, all else kept -/
structure Gw (ty sz lo : Nat) (o : List Obj) (v : AV) (o' : List Obj) (v' : AV) (es : List (List AV)) : Prop where
  G : Gx ty sz lo o' v' es
  le : o.length ≤ o'.length
  keep : ∀ i, i < o.length → (∀ n f, v ≠ .own i 0 n f) → o'[i]? = o[i]? ∧ ∀ n f, v' ≠ .own i 0 n f

theorem Gx.ref {ty sz lo : Nat} {o : List Obj} {v : AV} {es : List (List AV)} (h : Gx ty sz lo o v es) (m : List Obj) : Gw ty sz lo o v (o ++ m) v es :=
  ⟨h.push m, by simp, fun i hi hv => ⟨List.getElem?_append_left hi, hv⟩⟩

theorem Gw.trans {ty sz lo : Nat} {o o1 o2 : List Obj} {v v1 v2 : AV} {es es2 : List (List AV)} (h : Gw ty sz lo o v o1 v1 es) (k : Gw ty sz lo o1 v1 o2 v2 es2) : Gw ty sz lo o v o2 v2 es2 :=
  ⟨k.G, Nat.le_trans h.le k.le, fun i hi hv => by
    obtain ⟨a, b⟩ := h.keep i hi hv
    obtain ⟨c, d⟩ := k.keep i (Nat.lt_of_lt_of_le hi h.le) b
    exact ⟨by rw [c, a], d⟩⟩

theorem gx_appw {ty sz lo ro bytes : Nat} {o : List Obj} {v : AV} {es : List (List AV)} (h : Gx ty sz lo o v es) (hro : ro ≤ lo) (hlo : lo ≤ o.length) {df : List Nat} {x : AV} {xs : List (List AV)}
    (hx : elems ⟨o, ro, df⟩ x = some (sz, xs)) (hr : room (es.length + xs.length) bytes = true) :
    ∃ o', app ⟨o, ro, df⟩ ty sz bytes v x = some (.own o.length 0 (es.length + xs.length) false, ⟨o', ro, df⟩) ∧ o'.length = o.length + 1 ∧ Gw ty sz lo o v o' (.own o.length 0 (es.length + xs.length) false) (es ++ xs) := by
  obtain ⟨o', a1, a2, a3, a4⟩ := app_get' (bytes := bytes) (df := df) h.G hro hx (fun hv => .inl (h.nil hv)) hr
  refine ⟨o', a1, a2, ⟨gr_new a3 hlo (by simp), by simp⟩, by omega, fun i hi hv => ⟨?_, fun n f => by simp; omega⟩⟩
  rw [List.getElem?_eq_getElem hi]
  exact a4 i _ (List.getElem?_eq_getElem hi) hv

end Go.Proofs.Ytpenaaljaahanaa.A
