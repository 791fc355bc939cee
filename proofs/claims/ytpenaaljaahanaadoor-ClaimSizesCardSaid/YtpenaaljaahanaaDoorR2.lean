/- How great a term is, which error a part has, whether a term is right: the program's functions. -/
import Derived.Test.YtpenaaljaahanaaDoorR1
namespace Go.Proofs.YtpenaaljaahanaaDoor.A
open Go
set_option maxRecDepth 10000
set_option linter.unusedSimpArgs false
attribute [-simp] List.all_eq_true put slot_def ld idxA lenOf elems canA app hand

theorem Size_eq (t : Tm) (ht : t.ok) (o0 : List Obj) (ro : Nat) (df : List Nat) : (D T).call 24 [t.av] ⟨o0, ro, df⟩ = some (.int .i64 (min (t.all.length : Int) 4097), ⟨o0, ro, df⟩) := by
  have hall := fun st => all_eq t st
  simp only [Tm.av] at hall
  apply call_by (by exact rfl : T 24 = some _) (by simp)
  intro fr hfr hsl
  have s0 := hsl 0 _ rfl
  simp only [Tm.av] at s0
  simp -implicitDefEqProofs [hfr, s0, hall, get_base0, get_base, set_base0, set_base]
  generalize hF : put _ _ _ = F
  have f3 : slot F 3 = .ptr (o0.length + 1) 0 0 := by subst hF; simp [hfr]
  have fl : F.length = 12 := by subst hF; simp [hfr]
  clear hF
  clear s0 hsl hfr
  rw [show o0.length + 2 + 1 = o0.length + 3 from rfl]
  obtain ⟨b, o', hw, h1, h2⟩ := walk_eq (ro := o0.length) (r := o0.length + 3)
    (fun rest o bx => ∃ n : Nat, n + rest.length = t.all.length ∧ n ≤ 4096 ∧ o0.length + 4 ≤ o.length ∧ o[o0.length + 1]? = some (.arr 3 1 [[.int .i64 (n : Int)]]) ∧
      o[o0.length + 3]? = some (.loop .ready none F [6] A24_0 B24_0) ∧ ∀ i c, (i, c) ∈ bx → o0.length + 4 ≤ i ∧ o[i]? = some (.arr 42 4 [c]))
    (fun o => 4096 < t.all.length ∧ o0.length + 4 ≤ o.length ∧ o[o0.length + 1]? = some (.arr 3 1 [[.int .i64 4097]]) ∧ ∃ fr ps asg body, o[o0.length + 3]? = some (.loop .done (some (.exit 0)) fr ps asg body))
    (fun l o x h => by obtain ⟨_, _, _, h, _⟩ := h; omega)
    (fun l o x c h => by
      obtain ⟨n, h1, h2, h3, h4, h5, h6⟩ := h
      refine ⟨n, h1, h2, by simp; omega, getO_push h4 _, getO_push h5 _, fun i c' hi => ?_⟩
      rcases List.mem_cons.1 hi with hi | hi
      · simp only [Prod.mk.injEq] at hi
        obtain ⟨rfl, rfl⟩ := hi
        exact ⟨h3, by simp⟩
      · exact ⟨(h6 i c' hi).1, getO_push (h6 i c' hi).2 _⟩)
    (fun l o x i c h hi => by obtain ⟨n, h1, h2, h3, h4, h5, h6⟩ := h; exact (h6 i c hi).2)
    (fun l o x p h => by obtain ⟨n, h1, h2, h3, h4, h5, h6⟩ := h; exact ⟨n, h1, h2, h3, h4, h5, fun i c hi => h6 i c (List.mem_cons_of_mem _ hi)⟩)
    (fun x l o bx df hx h => by
      obtain ⟨n, h1, h2, h3, h4, h5, h6⟩ := h
      simp only [List.length_cons] at h1
      suffices h : ∃ v s, (D T).yield (o0.length + 3) [x.av] ⟨o, o0.length, df⟩ = some (v, s) ∧ (fun v s => ∃ b o', v = .bool b ∧ s = ⟨o', o0.length, df⟩ ∧
          (b = true → ∃ n : Nat, n + l.length = t.all.length ∧ n ≤ 4096 ∧ o0.length + 4 ≤ o'.length ∧ o'[o0.length + 1]? = some (.arr 3 1 [[.int .i64 (n : Int)]]) ∧
            o'[o0.length + 3]? = some (.loop .ready none F [6] A24_0 B24_0) ∧ ∀ i c, (i, c) ∈ bx → o0.length + 4 ≤ i ∧ o'[i]? = some (.arr 42 4 [c])) ∧
          (b = false → 4096 < t.all.length ∧ o0.length + 4 ≤ o'.length ∧ o'[o0.length + 1]? = some (.arr 3 1 [[.int .i64 4097]]) ∧ ∃ fr ps asg body, o'[o0.length + 3]? = some (.loop .done (some (.exit 0)) fr ps asg body))) v s by
        obtain ⟨_, _, e, b, o', rfl, rfl, q1, q2⟩ := h
        exact ⟨b, o', e, q1, q2⟩
      apply yield_step A24_0.eq_1 B24_0.eq_1 h5 rfl (by simp)
      have l1 : o0.length ≤ o0.length + 1 := by omega
      have l2 : o0.length + 3 < o.length := by omega
      have l5 : o0.length + 1 < o.length := by omega
      have w1 : IntKind.i64.wrap ((n : Int) + 1) = (n : Int) + 1 := wrap_id (by omega) (by omega)
      by_cases hn : 4096 < (n : Int) + 1
      · obtain rfl : n = 4096 := by omega
        have w2 : IntKind.i64.wrap 4097 = 4097 := wrap_id (by omega) (by omega)
        simp -implicitDefEqProofs [fl, f3, List.getElem?_cons_zero, getO_set, -getElem?_pos, l1, l2, l5, h4, h5, w1, w2, yend]
        omega
      · simp -implicitDefEqProofs [fl, f3, List.getElem?_cons_zero, getO_set, -getElem?_pos, l1, l2, l5, h4, h5, w1, hn, yend]
        refine ⟨n + 1, by omega, by omega, by omega, by simp, fun i c hi => ?_⟩
        obtain ⟨k1, k2⟩ := h6 i c hi
        refine ⟨k1, ?_⟩
        repeat rw [List.getElem?_set_ne (by omega)]
        exact k2)
    t ht [] (o0 ++ [Obj.arr 42 4 [t.cells], Obj.arr 3 1 [[AV.int IntKind.i64 0]], Obj.dfr, Obj.loop LoopState.ready none F [6] A24_0 B24_0]) [] []
      ⟨0, by simp, by omega, by simp, by simp [get_base], by simp [get_base], by simp⟩
  have hc := all1_eq hw [o0.length + 2]
  refine ⟨_, _, hc, ?_⟩
  cases b with
  | true =>
    obtain ⟨n, q1, q2, q3, q4, q5, _⟩ := h1 rfl
    simp only [List.length_nil, Nat.add_zero] at q1
    have hm : min (t.all.length : Int) 4097 = (n : Int) := by omega
    simp -implicitDefEqProofs [kEnd, fl, f3, q4, q5, hm, -getElem?_pos, List.getElem?_cons_zero]
  | false =>
    obtain ⟨q1, q2, q3, fr', ps, asg, body, q4⟩ := h2 rfl
    have hm : min (t.all.length : Int) 4097 = 4097 := by omega
    simp -implicitDefEqProofs [kEnd, fl, f3, q3, q4, hm, -getElem?_pos, List.getElem?_cons_zero]

set_option maxHeartbeats 4000000 in
theorem part_eq (x : Tm) (o : List Obj) (ro : Nat) (df : List Nat) : (D T).call 46 [x.av] ⟨o, ro, df⟩ = some (.int .i64 x.err, ⟨o, ro, df⟩) := by
  obtain ⟨a, s, b, l⟩ := x
  apply call_by (by exact rfl : T 46 = some _) (by simp)
  intro fr hfr hsl
  have s0 := hsl 0 _ rfl
  simp only [Tm.av, Tm.cells_mk] at s0
  by_cases a1 : a < 1
  · have e : (Tm.mk a s b l).err = 7 := by simp only [Tm.err, partE]; rw [if_pos (.inl a1)]
    have k : ∀ n : Int, 1 ≤ n → (a == n) = false := fun n h => by simp; omega
    simp -implicitDefEqProofs [hfr, s0, get_base0, a1, e, k 1 (by omega), k 2 (by omega), k 3 (by omega), k 4 (by omega), k 8 (by omega), show ¬ a = 1 by omega, show ¬ a = 2 by omega, show ¬ a = 3 by omega, show ¬ a = 4 by omega, show ¬ a = 8 by omega]
  · by_cases a8 : 8 < a
    · have e : (Tm.mk a s b l).err = 7 := by simp only [Tm.err, partE]; rw [if_pos (.inr (.inl a8))]
      have k : ∀ n : Int, n ≤ 8 → (a == n) = false := fun n h => by simp; omega
      simp -implicitDefEqProofs [hfr, s0, get_base0, a1, a8, e, k 1 (by omega), k 2 (by omega), k 3 (by omega), k 4 (by omega), k 8 (by omega), show ¬ a = 1 by omega, show ¬ a = 2 by omega, show ¬ a = 3 by omega, show ¬ a = 4 by omega, show ¬ a = 8 by omega]
    · obtain ⟨n, hn⟩ : ∃ n : Int, n = (l.length : Int) := ⟨_, rfl⟩
      have ha : a = 1 ∨ a = 2 ∨ a = 3 ∨ a = 4 ∨ a = 5 ∨ a = 6 ∨ a = 7 ∨ a = 8 := by omega
      rcases Bool.eq_false_or_eq_true (bytesEq s ⟨#[]⟩) with hs | hs
      · rcases ha with rfl | rfl | rfl | rfl | rfl | rfl | rfl | rfl
        · by_cases b0 : b = 0
          · subst b0
            by_cases n0 : n = 0
            · have e : (Tm.mk 1 s 0 l).err = 0 := by simp [Tm.err, partE, argsI, hs, ← hn, n0]
              simp -implicitDefEqProofs [hfr, s0, get_base0, hs, globs, ← hn, n0, e]
            · have nb : (n != 0) = true := by simpa using n0
              have e : (Tm.mk 1 s 0 l).err = 12 := by simp [Tm.err, partE, argsI, hs, ← hn, n0]
              by_cases n1 : 0 < n
              · simp -implicitDefEqProofs [hfr, s0, get_base0, hs, globs, ← hn, n0, nb, n1, e]
              · simp -implicitDefEqProofs [hfr, s0, get_base0, hs, globs, ← hn, n0, nb, n1, e]
          · have bb : (b != 0) = true := by simpa using b0
            have e : (Tm.mk 1 s b l).err = 7 := by simp [Tm.err, partE, b0]
            simp -implicitDefEqProofs [hfr, s0, get_base0, hs, b0, bb, e]
        · by_cases bn : b < 0
          · have e : (Tm.mk 2 s b l).err = 7 := by simp [Tm.err, partE, bn]
            have b0 : ¬ b = 0 := by omega
            have bb : (b != 0) = true := by simpa using b0
            simp -implicitDefEqProofs [hfr, s0, get_base0, hs, bn, b0, bb, e]
          · by_cases b0 : b = 0
            · subst b0
              by_cases n0 : n = 0
              · have e : (Tm.mk 2 s 0 l).err = 0 := by simp [Tm.err, partE, argsI, hs, ← hn, n0]
                simp -implicitDefEqProofs [hfr, s0, get_base0, hs, globs, ← hn, n0, e]
              · have nb : (n != 0) = true := by simpa using n0
                have e : (Tm.mk 2 s 0 l).err = 12 := by simp [Tm.err, partE, argsI, hs, ← hn, n0]
                by_cases n1 : 0 < n
                · simp -implicitDefEqProofs [hfr, s0, get_base0, hs, globs, ← hn, n0, nb, n1, e]
                · simp -implicitDefEqProofs [hfr, s0, get_base0, hs, globs, ← hn, n0, nb, n1, e]
            · have bb : (b != 0) = true := by simpa using b0
              by_cases n0 : n = 0
              · have e : (Tm.mk 2 s b l).err = 0 := by simp [Tm.err, partE, argsI, hs, ← hn, n0, bn]
                simp -implicitDefEqProofs [hfr, s0, get_base0, hs, globs, ← hn, bn, b0, bb, n0, e]
              · have nb : (n != 0) = true := by simpa using n0
                have e : (Tm.mk 2 s b l).err = 12 := by simp [Tm.err, partE, argsI, hs, ← hn, n0, bn]
                by_cases n1 : 0 < n
                · simp -implicitDefEqProofs [hfr, s0, get_base0, hs, globs, ← hn, bn, b0, bb, n0, nb, n1, e]
                · simp -implicitDefEqProofs [hfr, s0, get_base0, hs, globs, ← hn, bn, b0, bb, n0, nb, n1, e]
        · by_cases b0 : b = 0
          · subst b0
            by_cases n1 : 8 < n
            · have e : (Tm.mk 3 s 0 l).err = 12 := by simp [Tm.err, partE, argsI, hs, ← hn, n1]
              simp -implicitDefEqProofs [hfr, s0, get_base0, hs, globs, ← hn, n1, e]
            · have e : (Tm.mk 3 s 0 l).err = 0 := by simp [Tm.err, partE, argsI, hs, ← hn, n1]
              simp -implicitDefEqProofs [hfr, s0, get_base0, hs, globs, ← hn, n1, e]
          · have bb : (b != 0) = true := by simpa using b0
            have e : (Tm.mk 3 s b l).err = 7 := by simp [Tm.err, partE, b0]
            simp -implicitDefEqProofs [hfr, s0, get_base0, hs, b0, bb, e]
        · by_cases b0 : b = 0
          · subst b0
            by_cases n0 : n = 0
            · have e : (Tm.mk 4 s 0 l).err = 0 := by simp [Tm.err, partE, argsI, hs, ← hn, n0]
              simp -implicitDefEqProofs [hfr, s0, get_base0, hs, globs, ← hn, n0, e]
            · have nb : (n != 0) = true := by simpa using n0
              have e : (Tm.mk 4 s 0 l).err = 12 := by simp [Tm.err, partE, argsI, hs, ← hn, n0]
              by_cases n1 : 0 < n
              · simp -implicitDefEqProofs [hfr, s0, get_base0, hs, globs, ← hn, n0, nb, n1, e]
              · simp -implicitDefEqProofs [hfr, s0, get_base0, hs, globs, ← hn, n0, nb, n1, e]
          · have bb : (b != 0) = true := by simpa using b0
            by_cases n0 : n = 0
            · have e : (Tm.mk 4 s b l).err = 0 := by simp [Tm.err, partE, argsI, hs, ← hn, n0]
              simp -implicitDefEqProofs [hfr, s0, get_base0, hs, globs, ← hn, b0, bb, n0, e]
            · have nb : (n != 0) = true := by simpa using n0
              have e : (Tm.mk 4 s b l).err = 12 := by simp [Tm.err, partE, argsI, hs, ← hn, n0]
              by_cases n1 : 0 < n
              · simp -implicitDefEqProofs [hfr, s0, get_base0, hs, globs, ← hn, b0, bb, n0, nb, n1, e]
              · simp -implicitDefEqProofs [hfr, s0, get_base0, hs, globs, ← hn, b0, bb, n0, nb, n1, e]
        · by_cases b0 : b = 0
          · subst b0
            by_cases n0 : n = 2
            · have e : (Tm.mk 5 s 0 l).err = 0 := by simp [Tm.err, partE, argsI, hs, ← hn, n0]
              simp -implicitDefEqProofs [hfr, s0, get_base0, hs, globs, ← hn, n0, e]
            · have nb : (n != 2) = true := by simpa using n0
              have e : (Tm.mk 5 s 0 l).err = 12 := by simp [Tm.err, partE, argsI, hs, ← hn, n0]
              by_cases n1 : 2 < n
              · simp -implicitDefEqProofs [hfr, s0, get_base0, hs, globs, ← hn, n0, nb, n1, e]
              · simp -implicitDefEqProofs [hfr, s0, get_base0, hs, globs, ← hn, n0, nb, n1, e]
          · have bb : (b != 0) = true := by simpa using b0
            have e : (Tm.mk 5 s b l).err = 7 := by simp [Tm.err, partE, b0]
            simp -implicitDefEqProofs [hfr, s0, get_base0, hs, b0, bb, e]
        · by_cases b0 : b = 0
          · subst b0
            by_cases n0 : n = 2
            · have e : (Tm.mk 6 s 0 l).err = 0 := by simp [Tm.err, partE, argsI, hs, ← hn, n0]
              simp -implicitDefEqProofs [hfr, s0, get_base0, hs, globs, ← hn, n0, e]
            · have nb : (n != 2) = true := by simpa using n0
              have e : (Tm.mk 6 s 0 l).err = 12 := by simp [Tm.err, partE, argsI, hs, ← hn, n0]
              by_cases n1 : 2 < n
              · simp -implicitDefEqProofs [hfr, s0, get_base0, hs, globs, ← hn, n0, nb, n1, e]
              · simp -implicitDefEqProofs [hfr, s0, get_base0, hs, globs, ← hn, n0, nb, n1, e]
          · have bb : (b != 0) = true := by simpa using b0
            have e : (Tm.mk 6 s b l).err = 7 := by simp [Tm.err, partE, b0]
            simp -implicitDefEqProofs [hfr, s0, get_base0, hs, b0, bb, e]
        · by_cases b0 : b = 0
          · subst b0
            by_cases n0 : n = 1
            · have e : (Tm.mk 7 s 0 l).err = 0 := by simp [Tm.err, partE, argsI, hs, ← hn, n0]
              simp -implicitDefEqProofs [hfr, s0, get_base0, hs, globs, ← hn, n0, e]
            · have nb : (n != 1) = true := by simpa using n0
              have e : (Tm.mk 7 s 0 l).err = 12 := by simp [Tm.err, partE, argsI, hs, ← hn, n0]
              by_cases n1 : 1 < n
              · simp -implicitDefEqProofs [hfr, s0, get_base0, hs, globs, ← hn, n0, nb, n1, e]
              · simp -implicitDefEqProofs [hfr, s0, get_base0, hs, globs, ← hn, n0, nb, n1, e]
          · have bb : (b != 0) = true := by simpa using b0
            have e : (Tm.mk 7 s b l).err = 7 := by simp [Tm.err, partE, b0]
            simp -implicitDefEqProofs [hfr, s0, get_base0, hs, b0, bb, e]
        · by_cases b0 : b = 0
          · subst b0
            by_cases n0 : n = 1
            · have e : (Tm.mk 8 s 0 l).err = 0 := by simp [Tm.err, partE, argsI, hs, ← hn, n0]
              simp -implicitDefEqProofs [hfr, s0, get_base0, hs, globs, ← hn, n0, e]
            · have nb : (n != 1) = true := by simpa using n0
              have e : (Tm.mk 8 s 0 l).err = 12 := by simp [Tm.err, partE, argsI, hs, ← hn, n0]
              by_cases n1 : 1 < n
              · simp -implicitDefEqProofs [hfr, s0, get_base0, hs, globs, ← hn, n0, nb, n1, e]
              · simp -implicitDefEqProofs [hfr, s0, get_base0, hs, globs, ← hn, n0, nb, n1, e]
          · have bb : (b != 0) = true := by simpa using b0
            by_cases n0 : n = 1
            · have e : (Tm.mk 8 s b l).err = 0 := by simp [Tm.err, partE, argsI, hs, ← hn, n0]
              simp -implicitDefEqProofs [hfr, s0, get_base0, hs, globs, ← hn, b0, bb, n0, e]
            · have nb : (n != 1) = true := by simpa using n0
              have e : (Tm.mk 8 s b l).err = 12 := by simp [Tm.err, partE, argsI, hs, ← hn, n0]
              by_cases n1 : 1 < n
              · simp -implicitDefEqProofs [hfr, s0, get_base0, hs, globs, ← hn, b0, bb, n0, nb, n1, e]
              · simp -implicitDefEqProofs [hfr, s0, get_base0, hs, globs, ← hn, b0, bb, n0, nb, n1, e]
      · rcases ha with rfl | rfl | rfl | rfl | rfl | rfl | rfl | rfl
        · by_cases b0 : b = 0
          · subst b0
            by_cases n0 : n = 0
            · have e : (Tm.mk 1 s 0 l).err = 0 := by simp [Tm.err, partE, argsI, hs, ← hn, n0]
              simp -implicitDefEqProofs [hfr, s0, get_base0, hs, globs, ← hn, n0, e]
            · have nb : (n != 0) = true := by simpa using n0
              have e : (Tm.mk 1 s 0 l).err = 12 := by simp [Tm.err, partE, argsI, hs, ← hn, n0]
              by_cases n1 : 0 < n
              · simp -implicitDefEqProofs [hfr, s0, get_base0, hs, globs, ← hn, n0, nb, n1, e]
              · simp -implicitDefEqProofs [hfr, s0, get_base0, hs, globs, ← hn, n0, nb, n1, e]
          · have bb : (b != 0) = true := by simpa using b0
            have e : (Tm.mk 1 s b l).err = 7 := by simp [Tm.err, partE, b0]
            simp -implicitDefEqProofs [hfr, s0, get_base0, hs, b0, bb, e]
        · have e : (Tm.mk 2 s b l).err = 7 := by simp [Tm.err, partE, hs]
          simp -implicitDefEqProofs [hfr, s0, get_base0, hs, e]
        · by_cases b0 : b = 0
          · subst b0
            by_cases n1 : 8 < n
            · have e : (Tm.mk 3 s 0 l).err = 12 := by simp [Tm.err, partE, argsI, hs, ← hn, n1]
              simp -implicitDefEqProofs [hfr, s0, get_base0, hs, globs, ← hn, n1, e]
            · have e : (Tm.mk 3 s 0 l).err = 0 := by simp [Tm.err, partE, argsI, hs, ← hn, n1]
              simp -implicitDefEqProofs [hfr, s0, get_base0, hs, globs, ← hn, n1, e]
          · have bb : (b != 0) = true := by simpa using b0
            have e : (Tm.mk 3 s b l).err = 7 := by simp [Tm.err, partE, b0]
            simp -implicitDefEqProofs [hfr, s0, get_base0, hs, b0, bb, e]
        · have e : (Tm.mk 4 s b l).err = 7 := by simp [Tm.err, partE, hs]
          simp -implicitDefEqProofs [hfr, s0, get_base0, hs, e]
        · have e : (Tm.mk 5 s b l).err = 7 := by simp [Tm.err, partE, hs]
          simp -implicitDefEqProofs [hfr, s0, get_base0, hs, e]
        · have e : (Tm.mk 6 s b l).err = 7 := by simp [Tm.err, partE, hs]
          simp -implicitDefEqProofs [hfr, s0, get_base0, hs, e]
        · have e : (Tm.mk 7 s b l).err = 7 := by simp [Tm.err, partE, hs]
          simp -implicitDefEqProofs [hfr, s0, get_base0, hs, e]
        · have e : (Tm.mk 8 s b l).err = 7 := by simp [Tm.err, partE, hs]
          simp -implicitDefEqProofs [hfr, s0, get_base0, hs, e]

end Go.Proofs.YtpenaaljaahanaaDoor.A
