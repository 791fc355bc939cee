/- BindCloses: for any claim, any name and any sort the law's function answers true, and its arguments read as before. No condition beyond the given statement's. -/
import Derived.Test.YtjmhkbnhfpgciaaB15
import Derived.Test.YtjmhkbnhfpgciaaB7
import Derived.Test.YtjmhkbnhfpgciaaG
namespace Go.Proofs.Ytjmhkbnhfpgciaa.A
open Go
set_option maxRecDepth 10000
set_option linter.unusedSimpArgs false
attribute [-simp] List.all_eq_true put slot_def ld idxA lenOf elems canA app hand

theorem law_closes (c : Cl) (name so : ByteArray) (hc : c.ok) (hs : name.size ≤ maxLen) (hso : so.size ≤ maxLen) :
    (D T).call 7 [c.av, .str name, .str so] st0 = some (.bool true, st0) := by
  have sb := fun st => big_eq c hc 200 (by omega) (by omega) st
  have al := fun o ro df => alive_any o ro df
  obtain ⟨C, hC⟩ : ∃ C, C = cmapW (fClose name) 0 c := ⟨_, rfl⟩
  have hCok : c.ct ≤ 4294967296 → C.ok := fun k => by rw [hC]; exact cmapW_ok _ 4294967296 (fun d t hd ht => fClose_ok name d hd t ht) c 0 (by omega) hc
  have h1 := fun (k : c.ct ≤ 4294967296) o ro df => Close_eq c hc k name o ro df
  have h2 := fun (k : c.ct ≤ 4294967296) o ro df => rClose_eq c hc k name o ro df
  have h3 := fun (k : c.ct ≤ 4294967296) o ro df => All_eq name so c hc k o ro df
  have h4 := fun (k : c.ct ≤ 4294967296) o ro df => Ex_eq name so c hc k o ro df
  rw [← hC] at h1 h2 h3 h4
  have ok2 : ∀ n : Int, (-9223372036854775808 ≤ n ∧ n ≤ 9223372036854775807) → c.ct ≤ 4294967296 → (Cl.mk n name so [] [C]).ok := fun n hn k => by
    simp only [Cl.ok, okL, okC]
    exact ⟨hn, hs, hso, by simp, trivial, by simp [maxLen], hCok k, trivial⟩
  have e1 := fun (k : c.ct ≤ 4294967296) st => ex_eq C (hCok k) C (hCok k) st
  have e2 := fun (k : c.ct ≤ 4294967296) st => ex_eq _ (ok2 11 (by omega) k) _ (ok2 11 (by omega) k) st
  have e3 := fun (k : c.ct ≤ 4294967296) st => ex_eq _ (ok2 12 (by omega) k) _ (ok2 12 (by omega) k) st
  simp only [ex_self] at e1 e2 e3
  have w1 := fun h => ct_wt c 200 (by omega) h
  clear hC hCok ok2
  obtain ⟨a, s, u, ts, cs⟩ := c
  obtain ⟨a', s', u', ts', cs'⟩ := C
  simp only [Cl.av, Cl.cells_mk, Tm.av, Tm.cells_mk, List.map_cons, List.map_nil] at sb h1 h2 h3 h4 e1 e2 e3
  apply call_by (by exact rfl : T 7 = some _) (by simp)
  intro fr hfr hsl
  have s0 := hsl 0 _ rfl
  have s1 := hsl 1 _ rfl
  have s2 := hsl 2 _ rfl
  simp only [Cl.av, Cl.cells_mk] at s0
  by_cases k1 : 200 < wt (.mk a s u ts cs) 200
  · simp -implicitDefEqProofs [hfr, s0, s1, s2, st0, sb, al, k1, get_base0, get_base, -getElem?_pos, List.getElem?_cons_zero, List.getElem?_cons_succ]
  · have w1 := w1 k1
    by_cases k2 : 300 < (name.size : Int)
    · simp -implicitDefEqProofs [hfr, s0, s1, s2, st0, sb, al, k1, k2, get_base0, get_base, -getElem?_pos, List.getElem?_cons_zero, List.getElem?_cons_succ]
    · have h1 := h1 (by omega)
      have h2 := h2 (by omega)
      have h3 := h3 (by omega)
      have h4 := h4 (by omega)
      have e1 := e1 (by omega)
      have e2 := e2 (by omega)
      have e3 := e3 (by omega)
      simp -implicitDefEqProofs [hfr, s0, s1, s2, st0, sb, al, k1, k2, h1, h2, h3, h4, e1, e2, e3, get_base0, get_base, set_base0, set_base, -getElem?_pos, List.getElem?_cons_zero, List.getElem?_cons_succ]

end Go.Proofs.Ytjmhkbnhfpgciaa.A
