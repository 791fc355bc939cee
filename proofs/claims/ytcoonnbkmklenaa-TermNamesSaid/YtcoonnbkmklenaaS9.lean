/- Whether a term has a part. -/
import Derived.Test.YtcoonnbkmklenaaS8
namespace Go.Proofs.Ytcoonnbkmklenaa.A
open Go
set_option maxRecDepth 10000
set_option linter.unusedSimpArgs false
attribute [-simp] List.all_eq_true put slot_def ld idxA lenOf elems canA app hand

def has (t part : Tm) : Bool := t.all.any fun x => cm x part == 0

theorem has_eq (t : Tm) (ht : t.ok) (part : Tm) (hp : part.ok) (o0 : List Obj) (ro : Nat) (df : List Nat) : (D T).call 20 [t.av, part.av] ⟨o0, ro, df⟩ = some (.bool (has t part), ⟨o0, ro, df⟩) := by
  have hall := fun st => all_eq t st
  simp only [Tm.av] at hall
  apply call_by (by exact rfl : T 20 = some _) (by simp)
  intro fr hfr hsl
  have s0 := hsl 0 _ rfl
  have s1 := hsl 1 _ rfl
  simp only [Tm.av] at s0 s1
  simp -implicitDefEqProofs [hfr, s0, s1, hall]
  generalize hF : put _ _ _ = F
  have f3 : slot F 3 = .ptr (o0.length + 1) 0 0 := by subst hF; simp [hfr]
  have f4 : slot F 4 = .ptr (o0.length + 2) 0 0 := by subst hF; simp [hfr]
  have fl : F.length = 12 := by subst hF; simp [hfr]
  clear hF
  clear s0 s1 hsl hfr
  rw [show o0.length + 3 + 1 = o0.length + 4 from rfl]
  obtain ⟨b, o', hw, h1, h2⟩ := walk_eq (ro := o0.length) (r := o0.length + 4)
    (fun rest o bx => has t part = (rest.any fun x => cm x part == 0) ∧ o0.length + 5 ≤ o.length ∧ o[o0.length + 1]? = some (.arr 24 4 [part.cells]) ∧ o[o0.length + 2]? = some (.arr 4 1 [[.bool false]]) ∧
      o[o0.length + 4]? = some (.loop .ready none F [8] A20_0 B20_0) ∧ ∀ i c, (i, c) ∈ bx → o0.length + 5 ≤ i ∧ o[i]? = some (.arr 24 4 [c]))
    (fun o => has t part = true ∧ o0.length + 5 ≤ o.length ∧ o[o0.length + 2]? = some (.arr 4 1 [[.bool true]]) ∧ ∃ fr ps asg body, o[o0.length + 4]? = some (.loop .done (some .ret) fr ps asg body))
    (fun l o x h => by omega)
    (fun l o x c h => by
      obtain ⟨h1, h2, h3, h4, h5, h6⟩ := h
      refine ⟨h1, by simp; omega, getO_push h3 _, getO_push h4 _, getO_push h5 _, fun i c' hi => ?_⟩
      rcases List.mem_cons.1 hi with hi | hi
      · simp only [Prod.mk.injEq] at hi
        obtain ⟨rfl, rfl⟩ := hi
        exact ⟨h2, by simp⟩
      · exact ⟨(h6 i c' hi).1, getO_push (h6 i c' hi).2 _⟩)
    (fun l o x i c h hi => (h.2.2.2.2.2 i c hi).2)
    (fun l o x p h => ⟨h.1, h.2.1, h.2.2.1, h.2.2.2.1, h.2.2.2.2.1, fun i c hi => h.2.2.2.2.2 i c (List.mem_cons_of_mem _ hi)⟩)
    (fun x l o bx df hx h => by
      obtain ⟨h1, h2, h3, h4, h5, h6⟩ := h
      have hs := fun st => same_eq x part hx hp st
      simp only [Tm.av] at hs
      suffices h : ∃ v s, (D T).yield (o0.length + 4) [x.av] ⟨o, o0.length, df⟩ = some (v, s) ∧ (fun v s => ∃ b o', v = .bool b ∧ s = ⟨o', o0.length, df⟩ ∧
          (b = true → has t part = (l.any fun x => cm x part == 0) ∧ o0.length + 5 ≤ o'.length ∧ o'[o0.length + 1]? = some (.arr 24 4 [part.cells]) ∧ o'[o0.length + 2]? = some (.arr 4 1 [[.bool false]]) ∧
            o'[o0.length + 4]? = some (.loop .ready none F [8] A20_0 B20_0) ∧ ∀ i c, (i, c) ∈ bx → o0.length + 5 ≤ i ∧ o'[i]? = some (.arr 24 4 [c])) ∧
          (b = false → has t part = true ∧ o0.length + 5 ≤ o'.length ∧ o'[o0.length + 2]? = some (.arr 4 1 [[.bool true]]) ∧ ∃ fr ps asg body, o'[o0.length + 4]? = some (.loop .done (some .ret) fr ps asg body))) v s by
        obtain ⟨_, _, e, b, o', rfl, rfl, q1, q2⟩ := h
        exact ⟨b, o', e, q1, q2⟩
      apply yield_of h5 rfl (by simp)
      rw [A20_0.eq_1, B20_0.eq_1]
      have l1 : o0.length ≤ o.length := by omega
      have l2 : o0.length + 4 < o.length := by omega
      have l3 : ¬ (o0.length + 4 = o.length) := by omega
      have l4 : ¬ (o.length = o0.length + 4) := by omega
      have l5 : o0.length + 1 < o.length := by omega
      have l6 : o0.length + 2 < o.length := by omega
      simp only [List.any_cons] at h1
      cases hc : (cm x part == 0) with
      | true =>
        simp -implicitDefEqProofs [Tm.av, fl, f3, f4, List.getElem?_cons_zero, List.getElem?_cons_succ, setO_last, getO_last, getO_set, List.getElem?_append_left, -getElem?_pos, l1, l2, l3, l4, l5, l6, h3, h4, h5, hs, hc, yend]
        exact ⟨by simpa [hc] using h1, by omega⟩
      | false =>
        simp -implicitDefEqProofs [Tm.av, fl, f3, f4, List.getElem?_cons_zero, List.getElem?_cons_succ, setO_last, getO_last, getO_set, List.getElem?_append_left, -getElem?_pos, l1, l2, l3, l4, l5, l6, h3, h4, h5, hs, hc, yend]
        refine ⟨by simpa [hc] using h1, by omega, ⟨rfl, rfl⟩, fun i c hi => ⟨(h6 i c hi).1, ?_⟩⟩
        have := (h6 i c hi).1
        rw [List.getElem?_append_left (by simpa using lt_of_getO (h6 i c hi).2)]
        try rw [List.getElem?_set_ne (by omega)]
        try rw [List.getElem?_set_ne (by omega)]
        exact (h6 i c hi).2)
    t ht [] (o0 ++ [Obj.arr 24 4 [t.cells], Obj.arr 24 4 [part.cells], Obj.arr 4 1 [[AV.bool false]], Obj.dfr, Obj.loop LoopState.ready none F [8] A20_0 B20_0]) [] []
      ⟨by simp [has], by simp, by simp [get_base], by simp [get_base], by simp [get_base], by simp⟩
  have hc := all1_eq hw [o0.length + 3]
  refine ⟨_, _, hc, ?_⟩
  cases b with
  | true =>
    obtain ⟨q1, q2, q3, q4, q5, _⟩ := h1 rfl
    simp only [List.any_nil] at q1
    simp -implicitDefEqProofs [kEnd, fl, f4, q1, q4, q5, show o0.length + 2 < o'.length by omega, -getElem?_pos, getO_set, List.getElem?_cons_zero]
  | false =>
    obtain ⟨q1, q2, q3, fr', ps, asg, body, q4⟩ := h2 rfl
    simp -implicitDefEqProofs [kEnd, fl, f4, q1, q3, q4, -getElem?_pos, getO_set, List.getElem?_cons_zero]

end Go.Proofs.Ytcoonnbkmklenaa.A
