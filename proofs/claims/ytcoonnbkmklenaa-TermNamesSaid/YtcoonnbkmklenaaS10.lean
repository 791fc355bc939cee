/- The parts of a term, each once: the program's. -/
import Derived.Test.YtcoonnbkmklenaaS9
namespace Go.Proofs.Ytcoonnbkmklenaa.A
open Go
set_option maxRecDepth 10000
set_option linter.unusedSimpArgs false
attribute [-simp] List.all_eq_true put slot_def ld idxA lenOf elems canA app hand

def addP (out : List Tm) (x : Tm) : List Tm := if hasL out x = true then out else out ++ [x]
def partsP (t : Tm) : List Tm := t.all.foldl addP []

theorem parts_eq (t : Tm) (ht : t.ok) (hn : t.all.length ≤ 4294967296) (o0 : List Obj) (ro : Nat) (df : List Nat) : (D T).call 19 [t.av] ⟨o0, ro, df⟩ = some (.sl 4 ((partsP t).map Tm.cells), ⟨o0, ro, df⟩) := by
  have hall := fun st => all_eq t st
  simp only [Tm.av] at hall
  apply call_by (by exact rfl : T 19 = some _) (by simp)
  intro fr hfr hsl
  have s0 := hsl 0 _ rfl
  simp only [Tm.av] at s0
  simp -implicitDefEqProofs [hfr, s0, hall]
  generalize hF : put _ _ _ = F
  have f3 : slot F 3 = .ptr (o0.length + 1) 0 0 := by subst hF; simp [hfr]
  have fl : F.length = 20 := by subst hF; simp [hfr]
  clear hF
  clear s0 hsl hfr
  rw [show o0.length + 2 + 1 = o0.length + 3 from rfl]
  obtain ⟨b, o', hw, h1, h2⟩ := walk_eq (ro := o0.length) (r := o0.length + 3)
    (fun rest o bx => ∃ v out, partsP t = rest.foldl addP out ∧ o0.length + 4 ≤ o.length ∧ o[o0.length + 1]? = some (.arr 22 1 [[v]]) ∧
      o[o0.length + 3]? = some (.loop .ready none F [7] A19_0 B19_0) ∧ Gr (o0.length + 4) 24 4 o v (out.map Tm.cells) ∧ out.length + rest.length ≤ t.all.length ∧ (∀ u ∈ out, u.ok) ∧
      ∀ i c, (i, c) ∈ bx → o0.length + 4 ≤ i ∧ o[i]? = some (.arr 24 4 [c]) ∧ ∀ k f, v ≠ .own i 0 k f)
    (fun o => False)
    (fun l o x h => by obtain ⟨_, _, _, h, _⟩ := h; omega)
    (fun l o x c h => by
      obtain ⟨v, out, h1, h2, h3, h4, G, h5, h6, h7⟩ := h
      refine ⟨v, out, h1, by simp; omega, getO_push h3 _, getO_push h4 _, G.push _, h5, h6, fun i c' hi => ?_⟩
      rcases List.mem_cons.1 hi with hi | hi
      · simp only [Prod.mk.injEq] at hi
        obtain ⟨rfl, rfl⟩ := hi
        exact ⟨h2, by simp, G.lt (Nat.le_refl _)⟩
      · exact ⟨(h7 i c' hi).1, getO_push (h7 i c' hi).2.1 _, (h7 i c' hi).2.2⟩)
    (fun l o x i c h hi => by obtain ⟨v, out, h1, h2, h3, h4, G, h5, h6, h7⟩ := h; exact (h7 i c hi).2.1)
    (fun l o x p h => by obtain ⟨v, out, h1, h2, h3, h4, G, h5, h6, h7⟩ := h; exact ⟨v, out, h1, h2, h3, h4, G, h5, h6, fun i c hi => h7 i c (List.mem_cons_of_mem _ hi)⟩)
    (fun x l o bx df hx h => by
      obtain ⟨v, out, h1, h2, h3, h4, G, h5, h6, h7⟩ := h
      simp only [List.foldl_cons, addP] at h1
      simp only [List.length_cons] at h5
      suffices h : ∃ v1 s, (D T).yield (o0.length + 3) [x.av] ⟨o, o0.length, df⟩ = some (v1, s) ∧ (fun v1 s => ∃ o', v1 = .bool true ∧ s = ⟨o', o0.length, df⟩ ∧
          ∃ v out, partsP t = l.foldl addP out ∧ o0.length + 4 ≤ o'.length ∧ o'[o0.length + 1]? = some (.arr 22 1 [[v]]) ∧
            o'[o0.length + 3]? = some (.loop .ready none F [7] A19_0 B19_0) ∧ Gr (o0.length + 4) 24 4 o' v (out.map Tm.cells) ∧ out.length + l.length ≤ t.all.length ∧ (∀ u ∈ out, u.ok) ∧
            ∀ i c, (i, c) ∈ bx → o0.length + 4 ≤ i ∧ o'[i]? = some (.arr 24 4 [c]) ∧ ∀ k f, v ≠ .own i 0 k f) v1 s by
        obtain ⟨_, _, e, o', rfl, rfl, q1⟩ := h
        exact ⟨true, o', e, fun _ => q1, by simp⟩
      apply yield_step A19_0.eq_1 B19_0.eq_1 h4 rfl (by simp)
      have l1 : o0.length ≤ o.length := by omega
      have l2 : o0.length + 3 < o.length := by omega
      have l3 : ¬ (o0.length + 3 = o.length) := by omega
      have l4 : ¬ (o.length = o0.length + 3) := by omega
      have l5 : o0.length + 1 < o.length := by omega
      have is := fun st => is_eq x st
      simp only [Tm.av] at is
      obtain ⟨LB, hLB⟩ : ∃ LB, LB = Obj.loop .busy none F [7] A19_0 B19_0 := ⟨_, rfl⟩
      have G2 : Gr (o0.length + 4) 24 4 (o.set (o0.length + 3) LB ++ [Obj.arr 24 4 [x.cells]]) v (out.map Tm.cells) := (G.set (by omega) _).push _
      have L := gr_ls G2
      have hcan := L.can
      have hlen := L.len
      simp only [List.length_map] at hlen
      have hct := contains_eq L (by omega) h6 x hx o0.length []
      cases hc : hasL out x with
      | true =>
        simp only [hc, if_true] at h1
        rw [← hLB]; simp -implicitDefEqProofs [Tm.av, fl, f3, List.getElem?_cons_zero, List.getElem?_cons_succ, setO_last, getO_last, getO_set, List.getElem?_append_left, -getElem?_pos, l1, l2, l3, l4, l5, h3, h4, hcan, hlen, is, hct, hc, yend]
        subst hLB
        dsimp only
        refine ⟨v, out, h1, by omega, rfl, ⟨rfl, rfl, rfl, rfl⟩, (G.set (by omega) _).push _, by omega, h6, fun i c hi => ?_⟩
        obtain ⟨k1, k2, k3⟩ := h7 i c hi
        exact ⟨k1, getO_push (by rw [List.getElem?_set_ne (by omega)]; exact k2) _, fun k => ⟨k3 k false, k3 k true⟩⟩
      | false =>
        simp only [hc, Bool.false_eq_true, if_false] at h1
        obtain ⟨o3, a1, a2, a3, a4⟩ := app_get (bytes := 56) (ro := o0.length) (df := []) G2 (by omega) (x := .fsl 4 [[.int .i64 0, .str ⟨#[]⟩, .int .i64 0, .sl 0 []]]) rfl (.inr (by simp)) (room_of (by simp; omega) (by simp; omega))
        have k1 : (o.set (o0.length + 3) LB ++ [Obj.arr 24 4 [x.cells]])[o0.length + 1]? = some (Obj.arr 22 1 [[v]]) := getO_push (by rw [List.getElem?_set_ne (by omega)]; exact h3) _
        have b1 : o3[o0.length + 1]? = some (Obj.arr 22 1 [[v]]) := a4 _ _ k1 (G.not (by omega))
        have k3 : (o.set (o0.length + 3) LB ++ [Obj.arr 24 4 [x.cells]])[o0.length + 3]? = some LB := getO_push (getO_set l2) _
        have b3 : o3[o0.length + 3]? = some LB := a4 _ _ k3 (G.not (by omega))
        simp only [List.length_append, List.length_set, List.length_cons, List.length_nil, Nat.zero_add, List.length_map] at a1 a2 a3
        have l6 : o0.length + 1 < o3.length := by omega
        have l7 : o0.length + 3 < o3.length := by omega
        have l8 : o.length + 1 < o3.length := by omega
        have l9 : (out.length : Int) < (out.length : Int) + 1 := by omega
        have l10 : o0.length ≤ o.length + 1 := by omega
        have l11 : ¬ (o.length = o0.length) := by omega
        have l12 : ¬ (o0.length = o.length) := by omega
        have l13 : ¬ (o.length = o0.length + 2) := by omega
        have l14 : ¬ (o0.length + 2 = o.length) := by omega
        rw [← hLB]; simp -implicitDefEqProofs [Tm.av, fl, f3, List.getElem?_cons_zero, List.getElem?_cons_succ, setO_last, getO_last, getO_set, List.getElem?_append_left, -getElem?_pos, l1, l2, l3, l4, l5, l6, l7, l8, l9, l10, l11, l12, l13, l14, h3, h4, hcan, hlen, is, hct, hc, a1, a2, a3, b1, b3, yend]
        subst hLB
        dsimp only
        have G3 : Gr (o.length + 1) 24 4 (o3.set (o.length + 1) (Obj.arr 24 4 (out.map Tm.cells ++ [x.cells]))) (.own (o.length + 1) 0 (out.length + 1) false) ((out ++ [x]).map Tm.cells) :=
          .inr ⟨o.length + 1, Nat.le_refl _, by simp, by rw [getO_set l8]; simp⟩
        refine ⟨_, out ++ [x], h1, by omega, getO_set (by simpa using l6), getO_set (by simpa using l7), ((G3.set (i := o0.length + 1) (by omega) _).set (i := o0.length + 3) (by omega) _).le (by omega), by simp; omega, ?_, fun i c hi => ?_⟩
        · intro u hu
          rcases List.mem_append.1 hu with hu | hu
          · exact h6 u hu
          · obtain rfl := List.mem_singleton.1 hu
            exact hx
        · obtain ⟨k1, k2, k3⟩ := h7 i c hi
          have k4 := lt_of_getO k2
          have k5 : i ≠ o0.length + 3 := by omega
          refine ⟨k1, ?_, fun k => by simp; omega⟩
          rw [List.getElem?_set_ne (by omega), List.getElem?_set_ne (by omega), List.getElem?_set_ne (by omega)]
          exact a4 i _ (getO_push (by rw [List.getElem?_set_ne (by omega)]; exact k2) _) k3)
    t ht [] (o0 ++ [Obj.arr 24 4 [t.cells], Obj.arr 22 1 [[AV.fsl 4 []]], Obj.dfr, Obj.loop LoopState.ready none F [7] A19_0 B19_0]) [] []
      ⟨.fsl 4 [], [], by simp [partsP], by simp, by simp [get_base], by simp [get_base], .inl rfl, by simp, by simp, by simp⟩
  have hc := all1_eq hw [o0.length + 2]
  refine ⟨_, _, hc, ?_⟩
  cases b with
  | true =>
    obtain ⟨v, out, q1, q2, q3, q4, G, q5, _⟩ := h1 rfl
    simp only [List.foldl_nil] at q1
    have hh := gr_hand ((G.set (i := o0.length + 3) (by omega) (.loop .exhausted none F [7] A19_0 B19_0)).set (i := o0.length + 2) (by omega) .dead) (show o0.length ≤ _ by omega) (flat_list out)
    simp -implicitDefEqProofs [kEnd, fl, f3, q3, q4, hh, q1, -getElem?_pos, getO_set, List.getElem?_cons_zero]
  | false => exact (h2 rfl).elim

end Go.Proofs.Ytcoonnbkmklenaa.A
