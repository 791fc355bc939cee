/- Lifted, opened and closed, the document's. -/
import Derived.Test.YtjmhkbnhfpgciaaB5
namespace Go.Proofs.Ytjmhkbnhfpgciaa.A
open Go
set_option maxRecDepth 10000
set_option linter.unusedSimpArgs false
attribute [-simp] List.all_eq_true put slot_def ld idxA lenOf elems canA app hand

theorem rLift_eq (t : Tm) (ht : t.ok) (hn : t.all.length ≤ 4294967296) (by' : Int) (o : List Obj) (ro : Nat) (df : List Nat) : (D T).call 28 [t.av, .int .i64 by'] ⟨o, ro, df⟩ = some ((tmap (fLift by' 0 0) t).av, ⟨o, ro, df⟩) := by
  have h2 := fun o ro df => rTerm_eq (.lift by' 0) trivial t 0 (by omega) ht hn o ro df
  obtain ⟨a', s', b', l', hr⟩ : ∃ a' s' b' l', tmap (fLift by' 0 0) t = .mk a' s' b' l' := by
    cases tmap (fLift by' 0 0) t; exact ⟨_, _, _, _, rfl⟩
  simp only [Wk.cells, Wk.f, hr, Int.natCast_zero] at h2
  rw [hr]
  obtain ⟨a, s, b, l⟩ := t
  simp only [Tm.av, Tm.cells_mk] at h2
  apply call_by (by exact rfl : T 28 = some _) (by simp)
  intro fr hfr hsl
  have s0 := hsl 0 _ rfl
  have s1 := hsl 1 _ rfl
  simp only [Tm.av, Tm.cells_mk] at s0
  simp -implicitDefEqProofs [hfr, s0, s1, h2, get_base0, get_base, set_base0, set_base, hand0_int, hand0_str, Tm.av, Tm.cells_mk, flat_list, -getElem?_pos, List.getElem?_cons_zero, List.getElem?_cons_succ]

theorem rLiftClaim_eq (c : Cl) (hc : c.ok) (hn : c.ct ≤ 4294967296) (by' from' : Int) (o : List Obj) (ro : Nat) (df : List Nat) : (D T).call 25 [c.av, .int .i64 by', .int .i64 from'] ⟨o, ro, df⟩ = some ((cmapW (fLift by' from') 0 c).av, ⟨o, ro, df⟩) := by
  have h2 := fun o ro df => rClaim_eq (.lift by' from') trivial c 0 hc (by omega) o ro df
  obtain ⟨a', s', u', l', m', hr⟩ : ∃ a' s' u' l' m', cmapW (fLift by' from') 0 c = .mk a' s' u' l' m' := by
    cases cmapW (fLift by' from') 0 c; exact ⟨_, _, _, _, _, rfl⟩
  simp only [Wk.cells, Wk.f, hr, Int.natCast_zero] at h2
  rw [hr]
  obtain ⟨a, s, u, ts, cs⟩ := c
  simp only [Cl.av, Cl.cells_mk] at h2
  apply call_by (by exact rfl : T 25 = some _) (by simp)
  intro fr hfr hsl
  have s0 := hsl 0 _ rfl
  have s1 := hsl 1 _ rfl
  have s2 := hsl 2 _ rfl
  simp only [Cl.av, Cl.cells_mk] at s0
  simp -implicitDefEqProofs [hfr, s0, s1, s2, h2, get_base0, get_base, set_base0, set_base, hand0_int, hand0_str, Cl.av, Cl.cells_mk, flat_list, cflat_list, -getElem?_pos, List.getElem?_cons_zero, List.getElem?_cons_succ]

theorem rOpen_eq (c : Cl) (hc : c.ok) (hn : c.ct ≤ 4294967296) (x : Tm) (hx : x.ok) (hxn : x.all.length ≤ 4294967296) (o : List Obj) (ro : Nat) (df : List Nat) : (D T).call 14 [c.av, x.av] ⟨o, ro, df⟩ = some ((cmapW (fOpen x) 0 c).av, ⟨o, ro, df⟩) := by
  have h2 := fun o ro df => rClaim_eq (.open' x) ⟨hx, hxn⟩ c 0 hc (by omega) o ro df
  obtain ⟨a', s', u', l', m', hr⟩ : ∃ a' s' u' l' m', cmapW (fOpen x) 0 c = .mk a' s' u' l' m' := by
    cases cmapW (fOpen x) 0 c; exact ⟨_, _, _, _, _, rfl⟩
  simp only [Wk.f, hr, Int.natCast_zero] at h2
  rw [hr]
  obtain ⟨a, s, u, ts, cs⟩ := c
  obtain ⟨xa, xs, xb, xl⟩ := x
  simp only [Wk.cells, Cl.av, Cl.cells_mk] at h2
  apply call_by (by exact rfl : T 14 = some _) (by simp)
  intro fr hfr hsl
  have s0 := hsl 0 _ rfl
  have s1 := hsl 1 _ rfl
  simp only [Cl.av, Cl.cells_mk, Tm.av, Tm.cells_mk] at s0 s1
  simp -implicitDefEqProofs [hfr, s0, s1, h2, get_base0, get_base, set_base0, set_base, hand0_int, hand0_str, Cl.av, Cl.cells_mk, flat_list, cflat_list, -getElem?_pos, List.getElem?_cons_zero, List.getElem?_cons_succ]

end Go.Proofs.Ytjmhkbnhfpgciaa.A
