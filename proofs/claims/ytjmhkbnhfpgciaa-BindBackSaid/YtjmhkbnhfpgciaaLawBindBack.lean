/- BindBack: for any claim and any name the law's function answers true, and its arguments read as before. No condition beyond the given statement's. -/
import Derived.Test.YtjmhkbnhfpgciaaH3
import Derived.Test.YtjmhkbnhfpgciaaG
namespace Go.Proofs.Ytjmhkbnhfpgciaa.A
open Go
set_option maxRecDepth 10000
set_option linter.unusedSimpArgs false
attribute [-simp] List.all_eq_true put slot_def ld idxA lenOf elems canA app hand

theorem law_back (c : Cl) (name : ByteArray) (hc : c.ok) (hs : name.size ≤ maxLen) :
    (D T).call 4 [c.av, .str name] st0 = some (.bool true, st0) := by
  have sb := fun st => big_eq c hc 200 (by omega) (by omega) st
  have al := fun o ro df => alive_any o ro df
  have hR := fun o ro df => crRight_eq c hc o ro df
  have hS := fun o ro df => small_eq c hc o ro df
  have w1 := fun h => ct_wt c 200 (by omega) h
  have hcp := ct_parts c
  have vok : (Tm.mk 1 name 0 []).ok := by simp only [Tm.ok, okL]; exact ⟨by omega, hs, by omega, by simp, trivial⟩
  have vn : (Tm.mk 1 name 0 []).all.length ≤ 4294967296 := by simp [Tm.all, allL]
  obtain ⟨C1, hC1⟩ : ∃ C, C = cmapW (fClose name) 0 c := ⟨_, rfl⟩
  obtain ⟨C2, hC2⟩ : ∃ C, C = cmapW (fOpen (.mk 1 name 0 [])) 0 c := ⟨_, rfl⟩
  have l1 : C1.ct ≤ c.ct := by rw [hC1]; exact cmapW_ct _ (fClose_one name) c 0
  have l2 : C2.ct ≤ c.ct := by rw [hC2]; exact cmapW_ct _ (fOpenV_one name) c 0
  have ok1 : c.ct ≤ 4294967296 → C1.ok := fun k => by rw [hC1]; exact cmapW_ok _ 4294967296 (fun d t hd ht => fClose_ok name d hd t ht) c 0 (by omega) hc
  have ok2 : c.ct ≤ 4294967296 → C2.ok := fun k => by rw [hC2]; exact cmapW_ok _ 4294967296 (fun d t hd ht => fOpen_ok _ vok d t ht) c 0 (by omega) hc
  have h1 := fun (k : c.ct ≤ 4294967296) o ro df => Close_eq c hc k name o ro df
  have h2 := fun (k : c.ct ≤ 4294967296) o ro df => Open_eq C1 (ok1 k) (by omega) (.mk 1 name 0 []) vok vn o ro df
  have h3 := fun (k : c.ct ≤ 4294967296) o ro df => Open_eq c hc k (.mk 1 name 0 []) vok vn o ro df
  have h4 := fun (k : c.ct ≤ 4294967296) o ro df => Close_eq C2 (ok2 k) (by omega) name o ro df
  have e1 := fun hr hS k => back_claim c name hc hr hS k
  have e2 := fun hr hf k => forth_claim c name hc hr hf k
  rw [← hC1] at h1 e1
  rw [← hC2] at h3 e2
  have hN := fun (k : (allL (partTsL [c])).length ≤ 4294967295) o ro df => rNames8f_eq [c] (by simpa using hc) (by simp) k o ro df
  simp only [partTsL, List.append_nil] at hN
  have hNl := putF_len (varsOf (allL (partTs c))) []
  have hVl := varsOf_len (allL (partTs c))
  have hmem := putF_mem (varsOf (allL (partTs c))) []
  obtain ⟨N, hNN⟩ : ∃ N, N = (varsOf (allL (partTs c))).foldl putF [] := ⟨_, rfl⟩
  rw [← hNN] at hN hNl hmem
  have hH := fun (k : N.length ≤ 4294967296) st => has_eq N name k st
  have hE := fun st => ex_eq c hc c hc st
  rw [ex_self] at hE
  have hf : hasS N name = false → ∀ x ∈ varsOf (allL (partTs c)), x ≠ name := fun h x hx => hasS_false h x ((hmem x).2 (.inr hx))
  clear hC1 hC2 hNN hmem ok1 ok2
  obtain ⟨r, hr⟩ : ∃ r, r = rightC c := ⟨_, rfl⟩
  rw [← hr] at hR e1 e2
  clear hr
  obtain ⟨a, s, u, ts, cs⟩ := c
  obtain ⟨a1, s1', u1, ts1, cs1⟩ := C1
  obtain ⟨a2, s2', u2, ts2, cs2⟩ := C2
  simp only [Cl.av, Cl.cells_mk, Tm.av, Tm.cells_mk, List.map_cons, List.map_nil] at sb hR hS h1 h2 h3 h4 hN hE
  apply call_by (by exact rfl : T 4 = some _) (by simp)
  intro fr hfr hsl
  have s0 := hsl 0 _ rfl
  have s1 := hsl 1 _ rfl
  simp only [Cl.av, Cl.cells_mk, Tm.av, Tm.cells_mk] at s0 s1
  by_cases k1 : 200 < wt (.mk a s u ts cs) 200
  · simp -implicitDefEqProofs [hfr, s0, s1, st0, sb, al, k1, get_base0, get_base, -getElem?_pos, List.getElem?_cons_zero, List.getElem?_cons_succ]
  · have w1 := w1 k1
    by_cases k2 : 300 < (name.size : Int)
    · simp -implicitDefEqProofs [hfr, s0, s1, st0, sb, al, k1, k2, get_base0, get_base, -getElem?_pos, List.getElem?_cons_zero, List.getElem?_cons_succ]
    · by_cases k3 : r = 0
      · subst k3
        cases k4 : smC (.mk a s u ts cs) with
        | false => simp -implicitDefEqProofs [hfr, s0, s1, st0, sb, al, hR, hS, k1, k2, k4, get_base0, get_base, -getElem?_pos, List.getElem?_cons_zero, List.getElem?_cons_succ]
        | true =>
          have e1 := e1 rfl k4 (by omega)
          have h1 := h1 (by omega)
          have h2 := h2 (by omega)
          rw [e1] at h2
          have hN := hN (by omega)
          have hH := hH (by simp at hNl; omega)
          simp only [Cl.cells_mk] at h2
          cases k5 : hasS N name with
          | true => simp -implicitDefEqProofs [hfr, s0, s1, st0, sb, al, hR, hS, k1, k2, k4, h1, h2, hE, hN, hH, k5, get_base0, get_base, set_base0, set_base, -getElem?_pos, List.getElem?_cons_zero, List.getElem?_cons_succ]
          | false =>
            have e2 := e2 rfl (hf k5) (by omega)
            have h3 := h3 (by omega)
            have h4 := h4 (by omega)
            rw [e2] at h4
            simp only [Cl.cells_mk] at h4
            simp -implicitDefEqProofs [hfr, s0, s1, st0, sb, al, hR, hS, k1, k2, k4, h1, h2, h3, h4, hE, hN, hH, k5, get_base0, get_base, set_base0, set_base, -getElem?_pos, List.getElem?_cons_zero, List.getElem?_cons_succ]
      · have k3' : (r != 0) = true := by simpa using k3
        simp -implicitDefEqProofs [hfr, s0, s1, st0, sb, al, hR, k1, k2, k3, k3', get_base0, get_base, -getElem?_pos, List.getElem?_cons_zero, List.getElem?_cons_succ]

end Go.Proofs.Ytjmhkbnhfpgciaa.A
