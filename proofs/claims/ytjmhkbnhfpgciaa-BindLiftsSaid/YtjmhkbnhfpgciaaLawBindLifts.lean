/- BindLifts: for any claim, any term and any numbers the law's function answers true, and its arguments read as before. No condition beyond the given statement's. -/
import Derived.Test.YtjmhkbnhfpgciaaB7
import Derived.Test.YtjmhkbnhfpgciaaG
namespace Go.Proofs.Ytjmhkbnhfpgciaa.A
open Go
set_option maxRecDepth 10000
set_option linter.unusedSimpArgs false
attribute [-simp] List.all_eq_true put slot_def ld idxA lenOf elems canA app hand

theorem law_lifts (c : Cl) (t : Tm) (n : Int × Int) (hc : c.ok) (ht : t.ok) :
    (D T).call 6 [c.av, t.av, .agg [.int .i64 n.1, .int .i64 n.2]] st0 = some (.bool true, st0) := by
  obtain ⟨n0, n1⟩ := n
  have sb := fun st => big_eq c hc 200 (by omega) (by omega) st
  have ss := fun st => size_eq t ht 200 st (by omega) (by omega)
  have al := fun o ro df => alive_any o ro df
  obtain ⟨C, hC⟩ : ∃ C, C = cmapW (fLift n0 n1) 0 c := ⟨_, rfl⟩
  obtain ⟨X, hX⟩ : ∃ X, X = tmap (fLift n0 0 0) t := ⟨_, rfl⟩
  have hXok : X.ok := hX ▸ tmap_ok _ (fun t h => fLift_ok _ _ _ t h) t ht
  have hCok : c.ct ≤ 4294967296 → C.ok := fun h => hC ▸ cmapW_ok (fLift n0 n1) 4294967296 (fun d u _ hu => fLift_ok _ _ d u hu) c 0 (by omega) hc
  have h1 := fun (k : c.ct ≤ 4294967296) o ro df => LiftClaim_eq c hc k n0 n1 o ro df
  have h2 := fun (k : c.ct ≤ 4294967296) o ro df => rLiftClaim_eq c hc k n0 n1 o ro df
  have h4 := fun (k : t.all.length ≤ 4294967296) o ro df => Lift_eq t ht k n0 o ro df
  have h5 := fun (k : t.all.length ≤ 4294967296) o ro df => rLift_eq t ht k n0 o ro df
  rw [← hC] at h1 h2
  rw [← hX] at h4 h5
  have h3 := fun (k : c.ct ≤ 4294967296) st => ex_eq C (hCok k) C (hCok k) st
  have h6 := fun st => tm_eq X hXok X hXok st
  simp only [ex_self, tmE_self] at h3 h6
  have w1 := fun h => ct_wt c 200 (by omega) h
  have w2 := fun h => sz_allC t 200 (by omega) h
  clear hC hCok hX hXok
  obtain ⟨a, s, u, ts, cs⟩ := c
  obtain ⟨xa, xs, xb, xl⟩ := t
  obtain ⟨a', s', u', ts', cs'⟩ := C
  obtain ⟨xa', xs', xb', xl'⟩ := X
  simp only [Cl.av, Cl.cells_mk, Tm.av, Tm.cells_mk] at sb ss h1 h2 h3 h4 h5 h6
  apply call_by (by exact rfl : T 6 = some _) (by simp)
  intro fr hfr hsl
  have s0 := hsl 0 _ rfl
  have s1 := hsl 1 _ rfl
  have s2 := hsl 2 _ rfl
  simp only [Cl.av, Cl.cells_mk, Tm.av, Tm.cells_mk] at s0 s1
  by_cases k1 : 200 < wt (.mk a s u ts cs) 200
  · simp -implicitDefEqProofs [hfr, s0, s1, s2, st0, sb, al, k1, get_base0, get_base, -getElem?_pos, List.getElem?_cons_zero, List.getElem?_cons_succ]
  · have w1 := w1 k1
    by_cases k2 : 200 < sz (.mk xa xs xb xl) 200
    · simp -implicitDefEqProofs [hfr, s0, s1, s2, st0, sb, ss, al, k1, k2, get_base0, get_base, -getElem?_pos, List.getElem?_cons_zero, List.getElem?_cons_succ]
    · have w2 := w2 (by omega)
      have h1 := h1 (by omega)
      have h2 := h2 (by omega)
      have h3 := h3 (by omega)
      have h4 := h4 (by omega)
      have h5 := h5 (by omega)
      simp -implicitDefEqProofs [hfr, s0, s1, s2, st0, sb, ss, al, k1, k2, h1, h2, h3, h4, h5, h6, get_base0, get_base, -getElem?_pos, List.getElem?_cons_zero, List.getElem?_cons_succ]

end Go.Proofs.Ytjmhkbnhfpgciaa.A
