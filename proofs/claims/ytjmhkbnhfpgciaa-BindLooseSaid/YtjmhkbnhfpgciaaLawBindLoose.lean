/- BindLoose: for any claim and any term the law's function answers true, and its arguments read as before. No condition beyond the given statement's. -/
import Derived.Test.YtjmhkbnhfpgciaaB14
import Derived.Test.YtjmhkbnhfpgciaaB7
import Derived.Test.YtjmhkbnhfpgciaaG
namespace Go.Proofs.Ytjmhkbnhfpgciaa.A
open Go
set_option maxRecDepth 10000
set_option linter.unusedSimpArgs false
attribute [-simp] List.all_eq_true put slot_def ld idxA lenOf elems canA app hand

theorem law_loose (c : Cl) (t : Tm) (hc : c.ok) (ht : t.ok) :
    (D T).call 8 [c.av, t.av] st0 = some (.bool true, st0) := by
  have sb := fun st => big_eq c hc 200 (by omega) (by omega) st
  have ss := fun st => size_eq t ht 200 st (by omega) (by omega)
  have al := fun o ro df => alive_any o ro df
  have h1 := fun (k : c.ct ≤ 4294967295) o ro df => rLoose_eq c hc k o ro df
  have h2 := fun (k : c.ct ≤ 4294967296) o ro df => Loose_eq c hc k o ro df
  have h3 := fun (k : t.all.length ≤ 4294967295) o ro df => rLooseTerm_eq t ht k o ro df
  have h4 := fun (k : t.all.length ≤ 4294967296) o ro df => LooseTerm_eq t ht k o ro df
  have h5 := fun (k : c.ct ≤ 4294967296) o ro df => Closed_eq c hc k o ro df
  rw [← risingI_put] at h1 h3
  have b1 := risingI_len (lsC 0 c)
  have b2 := risingI_len (lsT 0 t)
  have b3 := lsC_len 0 c
  have b4 := lsT_len 0 t
  obtain ⟨A, hA⟩ : ∃ A, A = risingI (lsC 0 c) := ⟨_, rfl⟩
  obtain ⟨B, hB⟩ : ∃ B, B = risingI (lsT 0 t) := ⟨_, rfl⟩
  rw [← hA] at h1 h2 h5 b1
  rw [← hB] at h3 h4 b2
  have w1 := fun h => ct_wt c 200 (by omega) h
  have w2 := fun h => sz_allC t 200 (by omega) h
  have i1 := fun (h : A.length ≤ 4294967296) o ro df => ints_true A (o := o) (ls_sl _) (ls_sl _) h ro df
  have i2 := fun (h : B.length ≤ 4294967296) o ro df => ints_true B (o := o) (ls_sl _) (ls_sl _) h ro df
  clear hA hB
  obtain ⟨a, s, u, ts, cs⟩ := c
  obtain ⟨xa, xs, xb, xl⟩ := t
  simp only [Cl.av, Cl.cells_mk, Tm.av, Tm.cells_mk] at sb ss h1 h2 h3 h4 h5
  apply call_by (by exact rfl : T 8 = some _) (by simp)
  intro fr hfr hsl
  have s0 := hsl 0 _ rfl
  have s1 := hsl 1 _ rfl
  simp only [Cl.av, Cl.cells_mk, Tm.av, Tm.cells_mk] at s0 s1
  by_cases k1 : 200 < wt (.mk a s u ts cs) 200
  · simp -implicitDefEqProofs [hfr, s0, s1, st0, sb, al, k1, get_base0, get_base, -getElem?_pos, List.getElem?_cons_zero, List.getElem?_cons_succ]
  · have w1 := w1 k1
    by_cases k2 : 200 < sz (.mk xa xs xb xl) 200
    · simp -implicitDefEqProofs [hfr, s0, s1, st0, sb, ss, al, k1, k2, get_base0, get_base, -getElem?_pos, List.getElem?_cons_zero, List.getElem?_cons_succ]
    · have w2 := w2 (by omega)
      have h1 := h1 (by omega)
      have h2 := h2 (by omega)
      have h3 := h3 (by omega)
      have h4 := h4 (by omega)
      have h5 := h5 (by omega)
      have i1 := i1 (by omega)
      have i2 := i2 (by omega)
      cases A with
      | nil =>
        simp only [List.length_nil] at h5
        simp -implicitDefEqProofs [hfr, s0, s1, st0, sb, ss, al, k1, k2, h1, h2, h3, h4, h5, i1, i2, get_base0, get_base, -getElem?_pos, List.getElem?_cons_zero, List.getElem?_cons_succ]
      | cons x A =>
        have hne : ¬ ((A.length : Int) + 1 = 0) := by omega
        have hne2 : (((A.length : Int) + 1) == 0) = false := by simp; omega
        simp -implicitDefEqProofs [hfr, s0, s1, st0, sb, ss, al, k1, k2, h1, h2, h3, h4, h5, i1, i2, hne, hne2, get_base0, get_base, -getElem?_pos, List.getElem?_cons_zero, List.getElem?_cons_succ]

end Go.Proofs.Ytjmhkbnhfpgciaa.A
