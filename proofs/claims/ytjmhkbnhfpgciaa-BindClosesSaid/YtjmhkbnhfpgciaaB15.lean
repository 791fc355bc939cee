/- Closed by the document; bound by either binder. -/
import Derived.Test.YtjmhkbnhfpgciaaB6
namespace Go.Proofs.Ytjmhkbnhfpgciaa.A
open Go
set_option maxRecDepth 10000
set_option linter.unusedSimpArgs false
attribute [-simp] List.all_eq_true put slot_def ld idxA lenOf elems canA app hand

theorem rClose_eq (c : Cl) (hc : c.ok) (hn : c.ct ≤ 4294967296) (name : ByteArray) (o : List Obj) (ro : Nat) (df : List Nat) : (D T).call 29 [c.av, .str name] ⟨o, ro, df⟩ = some ((cmapW (fClose name) 0 c).av, ⟨o, ro, df⟩) := by
  have h2 := fun o ro df => rClaim_eq (.close name) trivial c 0 hc (by omega) o ro df
  obtain ⟨a', s', u', l', m', hr⟩ : ∃ a' s' u' l' m', cmapW (fClose name) 0 c = .mk a' s' u' l' m' := by
    cases cmapW (fClose name) 0 c; exact ⟨_, _, _, _, _, rfl⟩
  simp only [Wk.cells, Wk.f, hr, Int.natCast_zero] at h2
  rw [hr]
  obtain ⟨a, s, u, ts, cs⟩ := c
  simp only [Cl.av, Cl.cells_mk] at h2
  apply call_by (by exact rfl : T 29 = some _) (by simp)
  intro fr hfr hsl
  have s0 := hsl 0 _ rfl
  have s1 := hsl 1 _ rfl
  simp only [Cl.av, Cl.cells_mk] at s0
  simp -implicitDefEqProofs [hfr, s0, s1, h2, get_base0, get_base, set_base0, set_base, hand0_int, hand0_str, Cl.av, Cl.cells_mk, flat_list, cflat_list, -getElem?_pos, List.getElem?_cons_zero, List.getElem?_cons_succ]

theorem binder_eq (op : Int) (name so : ByteArray) (c : Cl) (hc : c.ok) (hn : c.ct ≤ 4294967296) (o : List Obj) (ro : Nat) (df : List Nat) :
    (D T).call 55 [.int .i64 op, .str name, .str so, c.av] ⟨o, ro, df⟩ = some ((Cl.mk op name so [] [cmapW (fClose name) 0 c]).av, ⟨o, ro, df⟩) := by
  have h2 := fun o ro df => Close_eq c hc hn name o ro df
  have hfl := cflat_list [cmapW (fClose name) 0 c]
  obtain ⟨a', s', u', l', m', hr⟩ : ∃ a' s' u' l' m', cmapW (fClose name) 0 c = .mk a' s' u' l' m' := by
    cases cmapW (fClose name) 0 c; exact ⟨_, _, _, _, _, rfl⟩
  rw [hr] at h2 hfl ⊢
  obtain ⟨a, s, u, ts, cs⟩ := c
  simp only [Cl.av, Cl.cells_mk, List.map_cons, List.map_nil] at h2 hfl
  apply call_by (by exact rfl : T 55 = some _) (by simp)
  intro fr hfr hsl
  have s0 := hsl 0 _ rfl
  have s1 := hsl 1 _ rfl
  have s2 := hsl 2 _ rfl
  have s3 := hsl 3 _ rfl
  simp only [Cl.av, Cl.cells_mk] at s3
  simp -implicitDefEqProofs [hfr, s0, s1, s2, s3, h2, hfl, get_base0, get_base, set_base0, set_base, hand0_int, hand0_str, Cl.av, Cl.cells_mk, flat_list, cflat_list, -getElem?_pos, List.getElem?_cons_zero, List.getElem?_cons_succ]

theorem All_eq (name so : ByteArray) (c : Cl) (hc : c.ok) (hn : c.ct ≤ 4294967296) (o : List Obj) (ro : Nat) (df : List Nat) :
    (D T).call 30 [.str name, .str so, c.av] ⟨o, ro, df⟩ = some ((Cl.mk 11 name so [] [cmapW (fClose name) 0 c]).av, ⟨o, ro, df⟩) := by
  have h2 := fun o ro df => binder_eq 11 name so c hc hn o ro df
  have hfl := cflat_list [cmapW (fClose name) 0 c]
  obtain ⟨a', s', u', l', m', hr⟩ : ∃ a' s' u' l' m', cmapW (fClose name) 0 c = .mk a' s' u' l' m' := by
    cases cmapW (fClose name) 0 c; exact ⟨_, _, _, _, _, rfl⟩
  rw [hr] at h2 hfl ⊢
  obtain ⟨a, s, u, ts, cs⟩ := c
  simp only [Cl.av, Cl.cells_mk, List.map_cons, List.map_nil] at h2 hfl
  apply call_by (by exact rfl : T 30 = some _) (by simp)
  intro fr hfr hsl
  have s0 := hsl 0 _ rfl
  have s1 := hsl 1 _ rfl
  have s2 := hsl 2 _ rfl
  simp only [Cl.av, Cl.cells_mk] at s2
  simp -implicitDefEqProofs [hfr, s0, s1, s2, h2, hfl, get_base0, get_base, set_base0, set_base, hand0_int, hand0_str, Cl.av, Cl.cells_mk, flat_list, cflat_list, -getElem?_pos, List.getElem?_cons_zero, List.getElem?_cons_succ]

theorem Ex_eq (name so : ByteArray) (c : Cl) (hc : c.ok) (hn : c.ct ≤ 4294967296) (o : List Obj) (ro : Nat) (df : List Nat) :
    (D T).call 31 [.str name, .str so, c.av] ⟨o, ro, df⟩ = some ((Cl.mk 12 name so [] [cmapW (fClose name) 0 c]).av, ⟨o, ro, df⟩) := by
  have h2 := fun o ro df => binder_eq 12 name so c hc hn o ro df
  have hfl := cflat_list [cmapW (fClose name) 0 c]
  obtain ⟨a', s', u', l', m', hr⟩ : ∃ a' s' u' l' m', cmapW (fClose name) 0 c = .mk a' s' u' l' m' := by
    cases cmapW (fClose name) 0 c; exact ⟨_, _, _, _, _, rfl⟩
  rw [hr] at h2 hfl ⊢
  obtain ⟨a, s, u, ts, cs⟩ := c
  simp only [Cl.av, Cl.cells_mk, List.map_cons, List.map_nil] at h2 hfl
  apply call_by (by exact rfl : T 31 = some _) (by simp)
  intro fr hfr hsl
  have s0 := hsl 0 _ rfl
  have s1 := hsl 1 _ rfl
  have s2 := hsl 2 _ rfl
  simp only [Cl.av, Cl.cells_mk] at s2
  simp -implicitDefEqProofs [hfr, s0, s1, s2, h2, hfl, get_base0, get_base, set_base0, set_base, hand0_int, hand0_str, Cl.av, Cl.cells_mk, flat_list, cflat_list, -getElem?_pos, List.getElem?_cons_zero, List.getElem?_cons_succ]

end Go.Proofs.Ytjmhkbnhfpgciaa.A
