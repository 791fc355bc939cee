/- Claims: the atoms and the terms, gathered each once: the program's Atoms, and the document's. -/
import Derived.Test.YtpenaaljaahanaaE6
namespace Go.Proofs.Ytpenaaljaahanaa.A
open Go
set_option maxRecDepth 10000
set_option linter.unusedSimpArgs false
attribute [-simp] List.all_eq_true put slot_def ld idxA lenOf elems canA app hand

theorem catomsf_eq (l : List Cl) (hl : ∀ t ∈ l, t.ok) (hlen : l.length ≤ 4294967296) (hn : (atomsL l).length ≤ 4294967295) (o0 : List Obj) (ro : Nat) (df : List Nat) :
    (D T).call 29 [.fsl 5 (l.map Cl.cells)] ⟨o0, ro, df⟩ = some (.sl 5 (((atomsL l).foldl addC []).map Cl.cells), ⟨o0, ro, df⟩) := by
  have hmx : l.length ≤ 9223372036854775807 := by omega
  apply call_by (by exact rfl : T 29 = some _) (by simp)
  intro fr hfr hsl
  have s0 := hsl 0 _ rfl
  simp -implicitDefEqProofs [hfr, s0, get_base0, get_base]
  apply loop_inv L29_0.eq_1 List.length (fun (rest : List Cl) fr st => ∃ pre o' v out, l = pre ++ rest ∧ fr.length = 19 ∧ slot fr 3 = .ptr o0.length 0 0 ∧ slot fr 4 = .ptr (o0.length + 1) 0 0 ∧ slot fr 8 = .fsl 5 (l.map Cl.cells) ∧ slot fr 9 = .int .i64 (l.length : Int) ∧
    slot fr 10 = .int .i64 (pre.length : Int) ∧ st = ⟨o', o0.length, []⟩ ∧ KA o0.length (o0.length + 1) (atomsL l).length ((atomsL l).foldl addC []) (atomsL rest) o' v out) ?_ l
    ⟨[], _, .fsl 5 [], [], rfl, by simp [hfr], by simp [hfr], by simp [hfr], by simp [hfr], by simp [hfr], by simp [hfr], rfl, ⟨rfl, by simp, by simp [get_base0, set_base], by simp [get_base, set_base], ⟨.inl rfl, by simp⟩, by simp, by simp⟩⟩
  rintro rest fr _ ⟨pre, o', v, out, e, hfr, q3, q4, q8, q9, q10, rfl, h⟩
  have hco := h.co
  cases rest with
  | nil =>
    have hlt := idx_end e
    have hp := h.hp
    simp only [atomsL, List.foldl_nil] at hp
    have hh := gr_hand h.G.G (show o0.length ≤ _ by omega) (cflat_list out)
    simp -implicitDefEqProofs [hfr, q3, q4, q8, q9, q10, hlt, hco, hh, hp, -getElem?_pos, List.getElem?_cons_zero]
  | cons x rest =>
    obtain ⟨hlt, hg, _⟩ := idx_at e
    have hw := idx_next e hmx
    simp only [atomsL] at h
    have lb := h.lb
    have h' := h.push [Obj.arr 25 5 [x.cells]]
    have hcf := h'.cf
    obtain ⟨o2, hcall, v2, out2, h2⟩ := atoms1_eq (n0 := o0.length) (Nat.le_refl _) (by omega) (by omega) x (hl x (by simp [e])) (atomsL rest) (o' ++ [Obj.arr 25 5 [x.cells]]) [] v out h'
    simp only [Cl.av] at hcall
    have l1 : o0.length ≤ o'.length := by omega
    simp -implicitDefEqProofs [hfr, q3, q4, q8, q9, q10, hlt, hg, hw, hcf, hcall, setO_last, getO_last, l1, -getElem?_pos, List.getElem?_cons_zero]
    exact ⟨rest, by simp, pre ++ [x], by simp [e], by simp, v2, out2, h2⟩

end Go.Proofs.Ytpenaaljaahanaa.A
