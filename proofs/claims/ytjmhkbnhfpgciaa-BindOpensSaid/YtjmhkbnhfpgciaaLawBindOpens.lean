/- BindOpens: for any claim and any term the law's function answers true, and its arguments read as before. No condition beyond the given statement's. -/
import Derived.Test.YtjmhkbnhfpgciaaB7
import Derived.Test.YtjmhkbnhfpgciaaG
namespace Go.Proofs.Ytjmhkbnhfpgciaa.A
open Go
set_option maxRecDepth 10000
set_option linter.unusedSimpArgs false
attribute [-simp] List.all_eq_true put slot_def ld idxA lenOf elems canA app hand

theorem law_opens (c : Cl) (t : Tm) (hc : c.ok) (ht : t.ok) :
    (D T).call 3 [c.av, t.av] st0 = some (.bool true, st0) := by
  have sb := fun st => big_eq c hc 100 (by omega) (by omega) st
  have ss := fun st => size_eq t ht 30 st (by omega) (by omega)
  have al := fun o ro df => alive_any o ro df
  obtain ⟨C, hC⟩ : ∃ C, C = cmapW (fOpen t) 0 c := ⟨_, rfl⟩
  have hCok : c.ct ≤ 4294967296 → C.ok := fun h => hC ▸ cmapW_ok (fOpen t) 4294967296 (fun d u _ hu => fOpen_ok t ht d u hu) c 0 (by omega) hc
  have h1 := fun (k : c.ct ≤ 4294967296) (k2 : t.all.length ≤ 4294967296) o ro df => Open_eq c hc k t ht k2 o ro df
  have h2 := fun (k : c.ct ≤ 4294967296) (k2 : t.all.length ≤ 4294967296) o ro df => rOpen_eq c hc k t ht k2 o ro df
  rw [← hC] at h1 h2
  have h3 := fun (k : c.ct ≤ 4294967296) st => ex_eq C (hCok k) C (hCok k) st
  simp only [ex_self] at h3
  have w1 := fun h => ct_wt c 100 (by omega) h
  have w2 := fun h => sz_allC t 30 (by omega) h
  clear hC hCok
  obtain ⟨a, s, u, ts, cs⟩ := c
  obtain ⟨xa, xs, xb, xl⟩ := t
  obtain ⟨a', s', u', ts', cs'⟩ := C
  simp only [Cl.av, Cl.cells_mk, Tm.av, Tm.cells_mk] at sb ss h1 h2 h3
  apply call_by (by exact rfl : T 3 = some _) (by simp)
  intro fr hfr hsl
  have s0 := hsl 0 _ rfl
  have s1 := hsl 1 _ rfl
  simp only [Cl.av, Cl.cells_mk, Tm.av, Tm.cells_mk] at s0 s1
  by_cases k1 : 100 < wt (.mk a s u ts cs) 100
  · simp -implicitDefEqProofs [hfr, s0, s1, st0, sb, al, k1, get_base0, get_base, -getElem?_pos, List.getElem?_cons_zero, List.getElem?_cons_succ]
  · have w1 := w1 k1
    by_cases k2 : 30 < sz (.mk xa xs xb xl) 30
    · simp -implicitDefEqProofs [hfr, s0, s1, st0, sb, ss, al, k1, k2, get_base0, get_base, -getElem?_pos, List.getElem?_cons_zero, List.getElem?_cons_succ]
    · have w2 := w2 (by omega)
      have h1 := h1 (by omega) (by omega)
      have h2 := h2 (by omega) (by omega)
      have h3 := h3 (by omega)
      simp -implicitDefEqProofs [hfr, s0, s1, st0, sb, ss, al, k1, k2, h1, h2, h3, get_base0, get_base, -getElem?_pos, List.getElem?_cons_zero, List.getElem?_cons_succ]

end Go.Proofs.Ytjmhkbnhfpgciaa.A
