/- Whether a term is right: the program's function and the document's. -/
import Derived.Test.YtpenaaljaahanaaDoorR2
namespace Go.Proofs.YtpenaaljaahanaaDoor.A
open Go
set_option maxRecDepth 10000
set_option linter.unusedSimpArgs false
attribute [-simp] List.all_eq_true put slot_def ld idxA lenOf elems canA app hand

/-- the first error -/
def firstE : List Tm → Int
  | [] => 0
  | x :: l => if x.err = 0 then firstE l else x.err

def rightP (t : Tm) : Int := if 64 < min (dT t) 65 then 6 else if 4096 < min (t.all.length : Int) 4097 then 2 else firstE t.all

theorem Right_eq (t : Tm) (ht : t.ok) (o0 : List Obj) (ro : Nat) (df : List Nat) : (D T).call 37 [t.av] ⟨o0, ro, df⟩ = some (.int .i64 (rightP t), ⟨o0, ro, df⟩) := by
  have hall := fun st => all_eq t st
  have hd := fun o ro df => Depth_eq t ht o ro df
  have hs := fun o ro df => Size_eq t ht o ro df
  simp only [Tm.av] at hall hd hs
  apply call_by (by exact rfl : T 37 = some _) (by simp)
  intro fr hfr hsl
  have s0 := hsl 0 _ rfl
  simp only [Tm.av] at s0
  generalize hmd : min (dT t) 65 = md at *
  generalize hms : min (t.all.length : Int) 4097 = ms at *
  by_cases c1 : 64 < md
  · have e : rightP t = 6 := by simp only [rightP, hmd]; rw [if_pos c1]
    simp -implicitDefEqProofs [hfr, s0, get_base0, get_base, set_base0, set_base, hd, c1, e]
  · by_cases c2 : 4096 < ms
    · have e : rightP t = 2 := by simp only [rightP, hmd, hms]; rw [if_neg c1, if_pos c2]
      simp -implicitDefEqProofs [hfr, s0, get_base0, get_base, set_base0, set_base, hd, hs, c1, c2, e]
    · have e : rightP t = firstE t.all := by simp only [rightP, hmd, hms]; rw [if_neg c1, if_neg c2]
      rw [e]
      simp -implicitDefEqProofs [hfr, s0, hall, hd, hs, c1, c2, get_base0, get_base, set_base0, set_base]
      generalize hF : put _ _ _ = F
      have f2 : slot F 2 = .ptr (o0.length + 1) 0 0 := by subst hF; simp [hfr]
      have fl : F.length = 21 := by subst hF; simp [hfr]
      clear hF
      clear s0 hsl hfr
      rw [show o0.length + 2 + 1 = o0.length + 3 from rfl]
      obtain ⟨b, o', hw, h1, h2⟩ := walk_eq (ro := o0.length) (r := o0.length + 3)
        (fun rest o bx => firstE t.all = firstE rest ∧ o0.length + 4 ≤ o.length ∧ o[o0.length + 1]? = some (.arr 28 1 [[.int .i64 0]]) ∧
          o[o0.length + 3]? = some (.loop .ready none F [15] A37_0 B37_0) ∧ ∀ i c, (i, c) ∈ bx → o0.length + 4 ≤ i ∧ o[i]? = some (.arr 42 4 [c]))
        (fun o => o0.length + 4 ≤ o.length ∧ o[o0.length + 1]? = some (.arr 28 1 [[.int .i64 (firstE t.all)]]) ∧ ∃ fr ps asg body, o[o0.length + 3]? = some (.loop .done (some .ret) fr ps asg body))
        (fun l o x h => by obtain ⟨_, h, _⟩ := h; omega)
        (fun l o x c h => by
          obtain ⟨h1, h2, h3, h4, h5⟩ := h
          refine ⟨h1, by simp; omega, getO_push h3 _, getO_push h4 _, fun i c' hi => ?_⟩
          rcases List.mem_cons.1 hi with hi | hi
          · simp only [Prod.mk.injEq] at hi
            obtain ⟨rfl, rfl⟩ := hi
            exact ⟨h2, by simp⟩
          · exact ⟨(h5 i c' hi).1, getO_push (h5 i c' hi).2 _⟩)
        (fun l o x i c h hi => by obtain ⟨h1, h2, h3, h4, h5⟩ := h; exact (h5 i c hi).2)
        (fun l o x p h => by obtain ⟨h1, h2, h3, h4, h5⟩ := h; exact ⟨h1, h2, h3, h4, fun i c hi => h5 i c (List.mem_cons_of_mem _ hi)⟩)
        (fun x l o bx df hx h => by
          obtain ⟨h1, h2, h3, h4, h5⟩ := h
          have hp := fun o ro df => part_eq x o ro df
          simp only [Tm.av] at hp
          simp only [firstE] at h1
          suffices h : ∃ v s, (D T).yield (o0.length + 3) [x.av] ⟨o, o0.length, df⟩ = some (v, s) ∧ (fun v s => ∃ b o', v = .bool b ∧ s = ⟨o', o0.length, df⟩ ∧
              (b = true → firstE t.all = firstE l ∧ o0.length + 4 ≤ o'.length ∧ o'[o0.length + 1]? = some (.arr 28 1 [[.int .i64 0]]) ∧
                o'[o0.length + 3]? = some (.loop .ready none F [15] A37_0 B37_0) ∧ ∀ i c, (i, c) ∈ bx → o0.length + 4 ≤ i ∧ o'[i]? = some (.arr 42 4 [c])) ∧
              (b = false → o0.length + 4 ≤ o'.length ∧ o'[o0.length + 1]? = some (.arr 28 1 [[.int .i64 (firstE t.all)]]) ∧ ∃ fr ps asg body, o'[o0.length + 3]? = some (.loop .done (some .ret) fr ps asg body))) v s by
            obtain ⟨_, _, e, b, o', rfl, rfl, q1, q2⟩ := h
            exact ⟨b, o', e, q1, q2⟩
          apply yield_step A37_0.eq_1 B37_0.eq_1 h4 rfl (by simp)
          have l1 : o0.length ≤ o.length := by omega
          have l2 : o0.length + 3 < o.length := by omega
          have l3 : ¬ (o0.length + 3 = o.length) := by omega
          have l4 : ¬ (o.length = o0.length + 3) := by omega
          have l5 : o0.length + 1 < o.length := by omega
          by_cases hz : x.err = 0
          · rw [if_pos hz] at h1
            simp -implicitDefEqProofs [Tm.av, fl, f2, List.getElem?_cons_zero, List.getElem?_cons_succ, setO_last, getO_last, getO_set, List.getElem?_append_left, -getElem?_pos, l1, l2, l3, l4, l5, h3, h4, hp, hz, yend]
            refine ⟨h1, by omega, fun i c hi => ⟨(h5 i c hi).1, ?_⟩⟩
            have := (h5 i c hi).1
            rw [List.getElem?_append_left (by simpa using lt_of_getO (h5 i c hi).2)]
            repeat rw [List.getElem?_set_ne (by omega)]
            exact (h5 i c hi).2
          · rw [if_neg hz] at h1
            have hzb : (x.err != 0) = true := by simpa using hz
            simp -implicitDefEqProofs [Tm.av, fl, f2, List.getElem?_cons_zero, List.getElem?_cons_succ, setO_last, getO_last, getO_set, List.getElem?_append_left, -getElem?_pos, l1, l2, l3, l4, l5, h3, h4, hp, hz, hzb, yend]
            exact ⟨by omega, h1.symm⟩)
        t ht [] (o0 ++ [Obj.arr 42 4 [t.cells], Obj.arr 28 1 [[AV.int IntKind.i64 0]], Obj.dfr, Obj.loop LoopState.ready none F [15] A37_0 B37_0]) [] []
          ⟨by simp, by simp, by simp [get_base], by simp [get_base], by simp⟩
      have hc := all1_eq hw [o0.length + 2]
      refine ⟨_, _, hc, ?_⟩
      cases b with
      | true =>
        obtain ⟨q1, q2, q3, q4, _⟩ := h1 rfl
        simp only [firstE] at q1
        simp -implicitDefEqProofs [kEnd, fl, f2, q1, q3, q4, show o0.length + 1 < o'.length by omega, -getElem?_pos, getO_set, List.getElem?_cons_zero]
      | false =>
        obtain ⟨q2, q3, fr', ps, asg, body, q4⟩ := h2 rfl
        simp -implicitDefEqProofs [kEnd, fl, f2, q3, q4, -getElem?_pos, getO_set, List.getElem?_cons_zero]

end Go.Proofs.YtpenaaljaahanaaDoor.A
