/- The document's walk through a proof: the first error, with its way. -/
import Derived.Test.YtcfhomdkchhigaaDoorX7
namespace Go.Proofs.YtcfhomdkchhigaaDoor.A
open Go
set_option maxRecDepth 10000
set_option linter.unusedSimpArgs false
set_option linter.unusedVariables false
attribute [-simp] List.all_eq_true put slot_def ld idxA lenOf elems canA app hand

/-- a list of numbers by value, or the literal while it is empty -/
def Iv (v : AV) (l : List Int) : Prop := v = .sl 1 (intA l) ∨ (v = .fsl 1 [] ∧ l = [])
theorem Iv.hand {v : AV} {l : List Int} (h : Iv v l) (n : Nat) (o : List Obj) : hand n o v = some (.sl 1 (intA l)) := by
  rcases h with rfl | ⟨rfl, rfl⟩
  · simp [intA_flat]
  · simp [intA]
theorem Iv.can {v : AV} {l : List Int} (h : Iv v l) : canA v = v := by
  rcases h with rfl | ⟨rfl, rfl⟩ <;> rfl
theorem iv_sl (l : List Int) : Iv (.sl 1 (intA l)) l := .inl rfl
theorem intA_app (l k : List Int) : intA (l ++ k) = intA l ++ intA k := by simp [intA]

theorem with_eq {v : AV} {w : List Int} (hv : Iv v w) (i : Int) (hw : w.length ≤ 1000) (o : List Obj) (ro : Nat) (df : List Nat) : (D T).call 71 [v, .int .i64 i] ⟨o, ro, df⟩ = some (.sl 1 (intA (w ++ [i])), ⟨o, ro, df⟩) := by
  have hc := hv.can
  have a1 : app ⟨o, o.length, []⟩ 3 1 8 (.fsl 1 []) v = some (.own o.length 0 w.length false, ⟨o ++ [.arr 3 1 (intA w)], o.length, []⟩) := by
    rcases hv with rfl | ⟨rfl, rfl⟩
    · simp [app, elems, room, intA_len, show w.length * 8 ≤ 140737488355328 by omega, show w.length ≤ 4611686018427387904 by omega]
    · simp [app, elems, room, intA]
  have a2 : app ⟨o ++ [.arr 3 1 (intA w)], o.length, []⟩ 3 1 8 (.own o.length 0 w.length false) (.fsl 1 [[.int .i64 i]]) = some (.own (o.length + 1) 0 (w.length + 1) false, ⟨o ++ [.dead, .arr 3 1 (intA (w ++ [i]))], o.length, []⟩) := by
    simp [app, elems, room, intA_len, intA_app, show (w.length + 1) * 8 ≤ 140737488355328 by omega, show w.length + 1 ≤ 4611686018427387904 by omega, show intA [i] = [[.int .i64 i]] from rfl]
  have a3 : hand o.length (o ++ [.dead, .arr 3 1 (intA (w ++ [i]))]) (.own (o.length + 1) 0 (w.length + 1) false) = some (.sl 1 (intA (w ++ [i]))) := by
    have hl : (intA (w ++ [i])).length = w.length + 1 := by simp [intA_len]
    generalize hI : intA (w ++ [i]) = I at *
    have hf : AV.flatLL I = true := by rw [← hI]; exact intA_flat _
    rw [← hl]
    simp [hand, hf]
  apply call_by (by exact rfl : T 71 = some _) (by simp)
  intro fr hfr hsl
  have s0 := hsl 0 _ rfl
  have s1 := hsl 1 _ rfl
  simp -implicitDefEqProofs [hfr, s0, s1, a1, a2, a3]

/-- what is wrong with a proof's first part, as the document has it -/
def er : Pf → Int
  | .mk r h nw v b t c les chs cu ps => if r < 0 ∨ 27 < r then 20 else if (ps.length : Int) ≠ sbs r then 12 else if form (.mk r h nw v b t c les chs cu ps) = false then 7 else 0
mutual
/-- the first error, with its way -/
def wk : Pf → List Int → List Int × Int
  | .mk r h nw v b t c les chs cu ps, w => if er (.mk r h nw v b t c les chs cu ps) ≠ 0 then (w, er (.mk r h nw v b t c les chs cu ps)) else wkL ps 0 w
def wkL : List Pf → Int → List Int → List Int × Int
  | [], _, _ => ([], 0)
  | c :: l, i, w => if (wk c (w ++ [i])).2 ≠ 0 then wk c (w ++ [i]) else wkL l (i + 1) w
end

theorem dPL_mem : ∀ {ps : List Pf} {x : Pf}, x ∈ ps → dP x ≤ dPL ps
  | a :: l, x, hx => by
    simp only [dPL]
    rcases List.mem_cons.1 hx with rfl | hx
    · split <;> omega
    · have := dPL_mem hx; split <;> omega

mutual
theorem wk_zero : ∀ (p : Pf) (w : List Int), (wk p w).2 = 0 → (wk p w).1 = []
  | .mk r h nw v b t c les chs cu ps, w, h0 => by
    simp only [wk] at h0 ⊢
    split
    · rename_i hz
      rw [if_pos hz] at h0
      exact (hz h0).elim
    · rename_i hz
      rw [if_neg hz] at h0
      exact wkL_zero ps 0 w h0
theorem wkL_zero : ∀ (l : List Pf) (i : Int) (w : List Int), (wkL l i w).2 = 0 → (wkL l i w).1 = []
  | [], _, _, _ => rfl
  | c :: l, i, w, h0 => by
    simp only [wkL] at h0 ⊢
    split
    · rename_i hz
      rw [if_pos hz] at h0
      exact (hz h0).elim
    · rename_i hz
      rw [if_neg hz] at h0
      exact wkL_zero l (i + 1) w h0
end

theorem rparts_eq : ∀ (p : Pf), p.ok → ∀ (v : AV) (w : List Int), Iv v w → w.length + dP p ≤ 1000 → ∀ (o : List Obj) (ro : Nat) (df : List Nat), (D T).call 34 [p.av, v] ⟨o, ro, df⟩ = some (.tup [.sl 1 (intA (wk p w).1), .int .i64 (wk p w).2], ⟨o, ro, df⟩)
  | .mk r h nw v b t c les chs cu ps, hok, vw, w, hv, hd, o, ro, df => by
    have hfm := fun o ro df => form_eq (.mk r h nw v b t c les chs cu ps) hok o ro df
    simp only [Pf.ok] at hok
    obtain ⟨_, _, _, _, _, _, _, _, _, kps, ops⟩ := hok
    have hl := okPf_iff.1 ops
    unfold mxB at kps
    have mx : ps.length ≤ 9223372036854775807 := by omega
    have hdl : ∀ x ∈ ps, dP x ≤ dPL ps := fun x hx => dPL_mem hx
    simp only [dP] at hd
    have ih := fun x (hx : x ∈ ps) v' w' hv' hd' o ro df => rparts_eq x (hl x hx) v' w' hv' hd' o ro df
    have hwl : w.length ≤ 1000 := by have := dPL_pos ps; omega
    have hw1 := fun i o ro df => with_eq hv i hwl o ro df
    have hS := fun st => Subs_eq r st
    have hE1 : er (.mk r h nw v b t c les chs cu ps) = if r < 0 ∨ 27 < r then 20 else if (ps.length : Int) ≠ sbs r then 12 else if form (.mk r h nw v b t c les chs cu ps) = false then 7 else 0 := rfl
    have hE : wk (.mk r h nw v b t c les chs cu ps) w = if er (.mk r h nw v b t c les chs cu ps) ≠ 0 then (w, er (.mk r h nw v b t c les chs cu ps)) else wkL ps 0 w := rfl
    have hcan := hv.can
    generalize wk (.mk r h nw v b t c les chs cu ps) w = R at hE ⊢
    generalize er (.mk r h nw v b t c les chs cu ps) = E at hE hE1
    generalize form (.mk r h nw v b t c les chs cu ps) = FM at *
    obtain ⟨t0, t1, t2, t3⟩ := t
    obtain ⟨c0, c1, c2, c3, c4⟩ := c
    obtain ⟨kd, fr0, by0, dv, kk, ms, cs⟩ := cu
    simp only [Pf.av] at ih
    simp only [Pf.av, Pf.cells_all] at hfm
    apply call_by (by exact rfl : T 34 = some _) (by simp)
    intro fr hfr hsl
    have s0 := hsl 0 _ rfl
    have s1 := hsl 1 _ rfl
    simp only [Pf.av, Pf.cells_all] at s0
    by_cases z1 : r < 0
    · have hE3 : E = 20 := by rw [hE1, if_pos (.inl z1)]
      have hE4 : R = (w, 20) := by rw [hE, if_pos (by omega), hE3]
      rcases hv with rfl | ⟨rfl, rfl⟩ <;> simp -implicitDefEqProofs [hfr, s0, s1, get_base0, z1, hE4, intA_flat, show intA [] = [] from rfl, -getElem?_pos, List.getElem?_cons_zero]
    by_cases z2 : 27 < r
    · have hE3 : E = 20 := by rw [hE1, if_pos (.inr z2)]
      have hE4 : R = (w, 20) := by rw [hE, if_pos (by omega), hE3]
      rcases hv with rfl | ⟨rfl, rfl⟩ <;> simp -implicitDefEqProofs [hfr, s0, s1, get_base0, z1, z2, hE4, intA_flat, show intA [] = [] from rfl, -getElem?_pos, List.getElem?_cons_zero]
    rw [if_neg (by omega)] at hE1
    by_cases z3 : (ps.length : Int) = sbs r
    rotate_left
    · have hE3 : E = 12 := by rw [hE1, if_pos z3]
      have hE4 : R = (w, 12) := by rw [hE, if_pos (by omega), hE3]
      have z3' : ((ps.length : Int) == sbs r) = false := by simpa using z3
      have z3n : ((ps.length : Int) != sbs r) = true := by simp [bne, z3']
      rcases hv with rfl | ⟨rfl, rfl⟩ <;> simp -implicitDefEqProofs [hfr, s0, s1, get_base0, z1, z2, z3, z3', z3n, hS, hE4, intA_flat, show intA [] = [] from rfl, -getElem?_pos, List.getElem?_cons_zero]
    rw [if_neg (by simpa using z3)] at hE1
    have z3n : ((ps.length : Int) != sbs r) = false := by simp [bne, z3]
    cases FM with
    | false =>
      have hE3 : E = 7 := by rw [hE1, if_pos rfl]
      have hE4 : R = (w, 7) := by rw [hE, if_pos (by omega), hE3]
      rcases hv with rfl | ⟨rfl, rfl⟩ <;> simp -implicitDefEqProofs [hfr, s0, s1, get_base0, z1, z2, z3n, hS, hfm, hE4, intA_flat, show intA [] = [] from rfl, -getElem?_pos, List.getElem?_cons_zero]
    | true =>
      have hE3 : E = 0 := by rw [hE1, if_neg (by simp)]
      have hE4 : R = wkL ps 0 w := by rw [hE, if_neg (by simp [hE3])]
      clear hE hE1
      obtain ⟨X, hX⟩ : ∃ X, X = Obj.arr 42 24 [[.int .i64 r, .str h, .str nw, .str v, .bool b, .int .i64 t0, .str t1, .int .i64 t2, .sl 4 (t3.map Tm.cells), .int .i64 c0, .str c1, .str c2, .sl 4 (c3.map Tm.cells), .sl 5 (c4.map Cl.cells), .sl 8 (les.map Lm.cells), .sl 2 (chs.map Ch.cells),
        .int .i64 kd, .sl 1 (intA fr0), .sl 1 (intA by0), .int .i64 dv, .int .i64 kk, .sl 2 (moA ms), .sl 7 (cs.map Cu.cells), .sl 24 (ps.map Pf.cells)]] := ⟨_, rfl⟩
      simp -implicitDefEqProofs [hfr, s0, s1, get_base0, z1, z2, z3n, hS, hfm, hcan, -getElem?_pos, List.getElem?_cons_zero]
      rw [← hX]
      apply loop_inv L34_0.eq_1 List.length (fun (rest : List Pf) fr st => ∃ pre, ps = pre ++ rest ∧ fr.length = 53 ∧ slot fr 1 = vw ∧ slot fr 2 = .ptr o.length 0 0 ∧ slot fr 6 = .int .i64 (pre.length : Int) ∧
        st = ⟨o ++ [X], o.length, []⟩ ∧ R = wkL rest (pre.length : Int) w) ?_ ps ⟨[], rfl, by simp [hfr], by simp [hfr, s1], by simp [hfr], by simp [hfr], rfl, hE4⟩
      rintro rest fr _ ⟨pre, e, hfr, q1, q2, q6, rfl, hn⟩
      rw [hX]
      cases rest with
      | nil =>
        have hlt := idx_end e
        simp only [wkL] at hn
        simp -implicitDefEqProofs [hfr, q1, q2, q6, hlt, get_base0, hn, intA, -getElem?_pos, List.getElem?_cons_zero]
      | cons x rest =>
        obtain ⟨hlt, hg, hpl⟩ := idx_at e
        have hw := idx_next e mx
        have hx : x ∈ ps := by simp [e]
        have hc := fun o ro df => ih x hx _ _ (iv_sl (w ++ [(pre.length : Int)])) (by have := hdl x hx; simp; omega) o ro df
        have x1 := p_take x
        have x2 := p_can x
        have x3 := plen x
        simp only [wkL] at hn
        have hw2 := fun o ro df => hw1 (pre.length : Int) o ro df
        generalize hW : wk x (w ++ [(pre.length : Int)]) = W at *
        by_cases hz : W.2 = 0
        · rw [if_neg (by simpa using hz)] at hn
          simp -implicitDefEqProofs [hfr, q1, q2, q6, hlt, get_base0, hg, hpl, hw, hw2, hc, hcan, hz, x1, x2, x3, -List.getElem_map, -getElem?_pos, List.getElem?_cons_zero]
          exact ⟨rest, by simp, pre ++ [x], by simp [e], by simp, by simpa using hn⟩
        · rw [if_pos hz] at hn
          simp -implicitDefEqProofs [hfr, q1, q2, q6, hlt, get_base0, hg, hpl, hw, hw2, hc, hcan, hz, hn, intA_flat, x1, x2, x3, -List.getElem_map, -getElem?_pos, List.getElem?_cons_zero]
termination_by t => SizeOf.sizeOf t
decreasing_by
  have := List.sizeOf_lt_of_mem hx
  simp
  omega

theorem rRight_eq (p : Pf) (hp : p.ok) (o : List Obj) (ro : Nat) (df : List Nat) : (D T).call 11 [p.av] ⟨o, ro, df⟩ =
    some (if 64 < dP p then .tup [.sl 1 [], .int .i64 6] else if 4096 < psz p then .tup [.sl 1 [], .int .i64 2] else .tup [.sl 1 (intA (wk p []).1), .int .i64 (wk p []).2], ⟨o, ro, df⟩) := by
  have hd := fun o ro df => prDepth_eq p hp o ro df
  have hs := fun o ro df => rsize_eq p hp o ro df
  have x1 := p_take p
  have x2 := p_can p
  have x3 := plen p
  have x4 := p_one p
  have hr := fun (h : ¬ 64 < dP p) o ro df => rparts_eq p hp _ [] (.inr ⟨rfl, rfl⟩) (by simp; omega) o ro df
  simp only [Pf.av] at hd hs hr
  have b1 : 64 < min (dP p) 65 ↔ 64 < dP p := by omega
  have b2 : 4096 < min (psz p) 4097 ↔ 4096 < psz p := by omega
  apply call_by (by exact rfl : T 11 = some _) (by simp)
  intro fr hfr hsl
  have s0 := hsl 0 _ rfl
  simp only [Pf.av] at s0
  by_cases h1 : 64 < dP p
  · simp -implicitDefEqProofs [hfr, s0, get_base0, hd, hs, b1, b2, h1, x1, x2, x3, x4]
  · have hr := hr h1
    by_cases h2 : 4096 < psz p
    · simp -implicitDefEqProofs [hfr, s0, get_base0, hd, hs, b1, b2, h1, h2, x1, x2, x3, x4]
    · simp -implicitDefEqProofs [hfr, s0, get_base0, hd, hs, b1, b2, h1, h2, hr, intA_flat, x1, x2, x3, x4]

end Go.Proofs.YtcfhomdkchhigaaDoor.A
