/- Each element of a list copied: the list itself (printed by genxe.py). -/
import Derived.Test.YtkecobdhgabknaaDoorGx0
namespace Go.Proofs.YtkecobdhgabknaaDoor.A
open Go
set_option maxRecDepth 10000
set_option linter.unusedSimpArgs false
set_option linter.unusedVariables false
attribute [-simp] List.all_eq_true put slot_def ld idxA lenOf elems canA app hand

theorem eachCut_eq (g : Nat) (l : List Cu) (hl : l.length ≤ 1000000) (h : ∀ x ∈ l, ∀ o ro df, (D T).call g [.agg (Cu.cells x)] ⟨o, ro, df⟩ = some (.agg (Cu.cells x), ⟨o, ro, df⟩)) (o : List Obj) (ro : Nat) (df : List Nat) :
    (D T).call 77 [.sl 7 (l.map Cu.cells), .fn (.func g) [] []] ⟨o, ro, df⟩ = some (.sl 7 (l.map Cu.cells), ⟨o, ro, df⟩) := by
  have mx : l.length ≤ 9223372036854775807 := by omega
  have sa : ∀ (cs : List AV) (t : Cu), cs.length = 7 → setMany cs 0 (Cu.cells t) = Cu.cells t := fun cs t h => set_all _ _ (by rw [h, culen])
  apply call_by (by exact rfl : T 77 = some _) (by simp)
  intro fr hfr hsl
  have s0 := hsl 0 _ rfl
  have s1 := hsl 1 _ rfl
  simp -implicitDefEqProofs [hfr, s0, s1]
  apply loop_inv L77_0.eq_1 List.length (fun (rest : List Cu) fr st => ∃ pre v o', l = pre ++ rest ∧ fr.length = 22 ∧ slot fr 1 = .fn (.func g) [] [] ∧ slot fr 5 = v ∧ slot fr 8 = .sl 7 (l.map Cu.cells) ∧ slot fr 9 = .int .i64 (l.length : Int) ∧ slot fr 10 = .int .i64 (pre.length : Int) ∧
    st = ⟨o', o.length, []⟩ ∧ o.length ≤ o'.length ∧ Gx 37 7 o.length o' v (pre.map Cu.cells)) ?_ l ⟨[], .fsl 7 [], o, rfl, by simp [hfr], by simp [hfr, s1], by simp [hfr], by simp [hfr, s0], by simp [hfr], by simp [hfr], rfl, Nat.le_refl _, ⟨.inl rfl, fun _ => rfl⟩⟩
  clear s0 s1 hsl hfr
  clear fr
  rintro rest fr _ ⟨pre, v, o', e, hfr, q1, q5, q8, q9, q10, rfl, hlo, G⟩
  cases rest with
  | nil =>
    have hlt := idx_end e
    have ee : pre = l := by simpa using e.symm
    subst ee
    have hh : hand o.length o' v = some (.sl 7 (pre.map Cu.cells)) := by
      have h0 := gx_hand0 G (Nat.le_refl _) (cuflat_list pre)
      rcases G.G with rfl | ⟨r, r1, rfl, r2⟩ <;> simpa [hand, hand1] using h0
    simp -implicitDefEqProofs [hfr, q1, q5, q8, q9, q10, hlt, hh]
  | cons x rest =>
    obtain ⟨hlt, hg, hpl⟩ := idx_at e
    have hw := idx_next e mx
    have hc := h x (by simp [e])
    have x1 := cu_take x
    have x2 := cu_can x
    have x3 := culen x
    have x4 := cu_one x
    have hle : pre.length + 1 ≤ 1000000 := by have := congrArg List.length e; simp at this; omega
    obtain ⟨o1, a1, c1, W1⟩ := gx_appw (G.push [Obj.arr 37 7 [Cu.cells x]]) (ro := o.length) (df := []) (bytes := 120) (Nat.le_refl _) (by simp; omega) (elems_fsl _ 7 [Cu.cells x]) (room_of0 (by simp; omega) (by simp; omega))
    simp only [List.length_map, List.length_append, List.length_cons, List.length_nil, Nat.zero_add] at a1 c1 W1
    simp -implicitDefEqProofs [hfr, q1, q5, q8, q9, q10, hlt, hg, hpl, hw, hc, hlo, x1, x2, x3, x4, sa, a1, setO_last, getO_last, -List.getElem_map, -getElem?_pos, List.getElem?_cons_zero]
    exact ⟨rest, by simp, pre ++ [x], by simp [e], by simp, by omega, by simpa using W1.G⟩

theorem eachChain_eq (g : Nat) (l : List Ch) (hl : l.length ≤ 1000000) (h : ∀ x ∈ l, ∀ o ro df, (D T).call g [.agg (Ch.cells x)] ⟨o, ro, df⟩ = some (.agg (Ch.cells x), ⟨o, ro, df⟩)) (o : List Obj) (ro : Nat) (df : List Nat) :
    (D T).call 47 [.sl 2 (l.map Ch.cells), .fn (.func g) [] []] ⟨o, ro, df⟩ = some (.sl 2 (l.map Ch.cells), ⟨o, ro, df⟩) := by
  have mx : l.length ≤ 9223372036854775807 := by omega
  have sa : ∀ (cs : List AV) (t : Ch), cs.length = 2 → setMany cs 0 (Ch.cells t) = Ch.cells t := fun cs t h => set_all _ _ (by rw [h, chlen])
  apply call_by (by exact rfl : T 47 = some _) (by simp)
  intro fr hfr hsl
  have s0 := hsl 0 _ rfl
  have s1 := hsl 1 _ rfl
  simp -implicitDefEqProofs [hfr, s0, s1]
  apply loop_inv L47_0.eq_1 List.length (fun (rest : List Ch) fr st => ∃ pre v o', l = pre ++ rest ∧ fr.length = 22 ∧ slot fr 1 = .fn (.func g) [] [] ∧ slot fr 5 = v ∧ slot fr 8 = .sl 2 (l.map Ch.cells) ∧ slot fr 9 = .int .i64 (l.length : Int) ∧ slot fr 10 = .int .i64 (pre.length : Int) ∧
    st = ⟨o', o.length, []⟩ ∧ o.length ≤ o'.length ∧ Gx 81 2 o.length o' v (pre.map Ch.cells)) ?_ l ⟨[], .fsl 2 [], o, rfl, by simp [hfr], by simp [hfr, s1], by simp [hfr], by simp [hfr, s0], by simp [hfr], by simp [hfr], rfl, Nat.le_refl _, ⟨.inl rfl, fun _ => rfl⟩⟩
  clear s0 s1 hsl hfr
  clear fr
  rintro rest fr _ ⟨pre, v, o', e, hfr, q1, q5, q8, q9, q10, rfl, hlo, G⟩
  cases rest with
  | nil =>
    have hlt := idx_end e
    have ee : pre = l := by simpa using e.symm
    subst ee
    have hh : hand o.length o' v = some (.sl 2 (pre.map Ch.cells)) := by
      have h0 := gx_hand0 G (Nat.le_refl _) (chflat_list pre)
      rcases G.G with rfl | ⟨r, r1, rfl, r2⟩ <;> simpa [hand, hand1] using h0
    simp -implicitDefEqProofs [hfr, q1, q5, q8, q9, q10, hlt, hh]
  | cons x rest =>
    obtain ⟨hlt, hg, hpl⟩ := idx_at e
    have hw := idx_next e mx
    have hc := h x (by simp [e])
    have x1 := ch_take x
    have x2 := ch_can x
    have x3 := chlen x
    have x4 := ch_one x
    have hle : pre.length + 1 ≤ 1000000 := by have := congrArg List.length e; simp at this; omega
    obtain ⟨o1, a1, c1, W1⟩ := gx_appw (G.push [Obj.arr 81 2 [Ch.cells x]]) (ro := o.length) (df := []) (bytes := 48) (Nat.le_refl _) (by simp; omega) (elems_fsl _ 2 [Ch.cells x]) (room_of0 (by simp; omega) (by simp; omega))
    simp only [List.length_map, List.length_append, List.length_cons, List.length_nil, Nat.zero_add] at a1 c1 W1
    simp -implicitDefEqProofs [hfr, q1, q5, q8, q9, q10, hlt, hg, hpl, hw, hc, hlo, x1, x2, x3, x4, sa, a1, setO_last, getO_last, -List.getElem_map, -getElem?_pos, List.getElem?_cons_zero]
    exact ⟨rest, by simp, pre ++ [x], by simp [e], by simp, by omega, by simpa using W1.G⟩

theorem eachLemma_eq (g : Nat) (l : List Lm) (hl : l.length ≤ 1000000) (h : ∀ x ∈ l, ∀ o ro df, (D T).call g [.agg (Lm.cells x)] ⟨o, ro, df⟩ = some (.agg (Lm.cells x), ⟨o, ro, df⟩)) (o : List Obj) (ro : Nat) (df : List Nat) :
    (D T).call 44 [.sl 8 (l.map Lm.cells), .fn (.func g) [] []] ⟨o, ro, df⟩ = some (.sl 8 (l.map Lm.cells), ⟨o, ro, df⟩) := by
  have mx : l.length ≤ 9223372036854775807 := by omega
  have sa : ∀ (cs : List AV) (t : Lm), cs.length = 8 → setMany cs 0 (Lm.cells t) = Lm.cells t := fun cs t h => set_all _ _ (by rw [h, lelen])
  apply call_by (by exact rfl : T 44 = some _) (by simp)
  intro fr hfr hsl
  have s0 := hsl 0 _ rfl
  have s1 := hsl 1 _ rfl
  simp -implicitDefEqProofs [hfr, s0, s1]
  apply loop_inv L44_0.eq_1 List.length (fun (rest : List Lm) fr st => ∃ pre v o', l = pre ++ rest ∧ fr.length = 22 ∧ slot fr 1 = .fn (.func g) [] [] ∧ slot fr 5 = v ∧ slot fr 8 = .sl 8 (l.map Lm.cells) ∧ slot fr 9 = .int .i64 (l.length : Int) ∧ slot fr 10 = .int .i64 (pre.length : Int) ∧
    st = ⟨o', o.length, []⟩ ∧ o.length ≤ o'.length ∧ Gx 76 8 o.length o' v (pre.map Lm.cells)) ?_ l ⟨[], .fsl 8 [], o, rfl, by simp [hfr], by simp [hfr, s1], by simp [hfr], by simp [hfr, s0], by simp [hfr], by simp [hfr], rfl, Nat.le_refl _, ⟨.inl rfl, fun _ => rfl⟩⟩
  clear s0 s1 hsl hfr
  clear fr
  rintro rest fr _ ⟨pre, v, o', e, hfr, q1, q5, q8, q9, q10, rfl, hlo, G⟩
  cases rest with
  | nil =>
    have hlt := idx_end e
    have ee : pre = l := by simpa using e.symm
    subst ee
    have hh : hand o.length o' v = some (.sl 8 (pre.map Lm.cells)) := by
      have h0 := gx_hand0 G (Nat.le_refl _) (leflat_list pre)
      rcases G.G with rfl | ⟨r, r1, rfl, r2⟩ <;> simpa [hand, hand1] using h0
    simp -implicitDefEqProofs [hfr, q1, q5, q8, q9, q10, hlt, hh]
  | cons x rest =>
    obtain ⟨hlt, hg, hpl⟩ := idx_at e
    have hw := idx_next e mx
    have hc := h x (by simp [e])
    have x1 := le_take x
    have x2 := le_can x
    have x3 := lelen x
    have x4 := le_one x
    have hle : pre.length + 1 ≤ 1000000 := by have := congrArg List.length e; simp at this; omega
    obtain ⟨o1, a1, c1, W1⟩ := gx_appw (G.push [Obj.arr 76 8 [Lm.cells x]]) (ro := o.length) (df := []) (bytes := 144) (Nat.le_refl _) (by simp; omega) (elems_fsl _ 8 [Lm.cells x]) (room_of0 (by simp; omega) (by simp; omega))
    simp only [List.length_map, List.length_append, List.length_cons, List.length_nil, Nat.zero_add] at a1 c1 W1
    simp -implicitDefEqProofs [hfr, q1, q5, q8, q9, q10, hlt, hg, hpl, hw, hc, hlo, x1, x2, x3, x4, sa, a1, setO_last, getO_last, -List.getElem_map, -getElem?_pos, List.getElem?_cons_zero]
    exact ⟨rest, by simp, pre ++ [x], by simp [e], by simp, by omega, by simpa using W1.G⟩

theorem eachProof_eq (g : Nat) (l : List Pf) (hl : l.length ≤ 1000000) (h : ∀ x ∈ l, ∀ o ro df, (D T).call g [.agg (Pf.cells x)] ⟨o, ro, df⟩ = some (.agg (Pf.cells x), ⟨o, ro, df⟩)) (o : List Obj) (ro : Nat) (df : List Nat) :
    (D T).call 49 [.sl 24 (l.map Pf.cells), .fn (.func g) [] []] ⟨o, ro, df⟩ = some (.sl 24 (l.map Pf.cells), ⟨o, ro, df⟩) := by
  have mx : l.length ≤ 9223372036854775807 := by omega
  have sa : ∀ (cs : List AV) (t : Pf), cs.length = 24 → setMany cs 0 (Pf.cells t) = Pf.cells t := fun cs t h => set_all _ _ (by rw [h, plen])
  apply call_by (by exact rfl : T 49 = some _) (by simp)
  intro fr hfr hsl
  have s0 := hsl 0 _ rfl
  have s1 := hsl 1 _ rfl
  simp -implicitDefEqProofs [hfr, s0, s1]
  apply loop_inv L49_0.eq_1 List.length (fun (rest : List Pf) fr st => ∃ pre v o', l = pre ++ rest ∧ fr.length = 22 ∧ slot fr 1 = .fn (.func g) [] [] ∧ slot fr 5 = v ∧ slot fr 8 = .sl 24 (l.map Pf.cells) ∧ slot fr 9 = .int .i64 (l.length : Int) ∧ slot fr 10 = .int .i64 (pre.length : Int) ∧
    st = ⟨o', o.length, []⟩ ∧ o.length ≤ o'.length ∧ Gx 42 24 o.length o' v (pre.map Pf.cells)) ?_ l ⟨[], .fsl 24 [], o, rfl, by simp [hfr], by simp [hfr, s1], by simp [hfr], by simp [hfr, s0], by simp [hfr], by simp [hfr], rfl, Nat.le_refl _, ⟨.inl rfl, fun _ => rfl⟩⟩
  clear s0 s1 hsl hfr
  clear fr
  rintro rest fr _ ⟨pre, v, o', e, hfr, q1, q5, q8, q9, q10, rfl, hlo, G⟩
  cases rest with
  | nil =>
    have hlt := idx_end e
    have ee : pre = l := by simpa using e.symm
    subst ee
    have hh : hand o.length o' v = some (.sl 24 (pre.map Pf.cells)) := by
      have h0 := gx_hand0 G (Nat.le_refl _) (pflat_list pre)
      rcases G.G with rfl | ⟨r, r1, rfl, r2⟩ <;> simpa [hand, hand1] using h0
    simp -implicitDefEqProofs [hfr, q1, q5, q8, q9, q10, hlt, hh]
  | cons x rest =>
    obtain ⟨hlt, hg, hpl⟩ := idx_at e
    have hw := idx_next e mx
    have hc := h x (by simp [e])
    have x1 := p_take x
    have x2 := p_can x
    have x3 := plen x
    have x4 := p_one x
    have hle : pre.length + 1 ≤ 1000000 := by have := congrArg List.length e; simp at this; omega
    obtain ⟨o1, a1, c1, W1⟩ := gx_appw (G.push [Obj.arr 42 24 [Pf.cells x]]) (ro := o.length) (df := []) (bytes := 400) (Nat.le_refl _) (by simp; omega) (elems_fsl _ 24 [Pf.cells x]) (room_of0 (by simp; omega) (by simp; omega))
    simp only [List.length_map, List.length_append, List.length_cons, List.length_nil, Nat.zero_add] at a1 c1 W1
    simp -implicitDefEqProofs [hfr, q1, q5, q8, q9, q10, hlt, hg, hpl, hw, hc, hlo, x1, x2, x3, x4, sa, a1, setO_last, getO_last, -List.getElem_map, -getElem?_pos, List.getElem?_cons_zero]
    exact ⟨rest, by simp, pre ++ [x], by simp [e], by simp, by omega, by simpa using W1.G⟩

end Go.Proofs.YtkecobdhgabknaaDoor.A
