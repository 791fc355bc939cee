/- The first error of a term: the document's. -/
import Derived.Test.YtjmhkbnhfpgciaaK2
namespace Go.Proofs.Ytjmhkbnhfpgciaa.A
open Go
set_option maxRecDepth 10000
set_option linter.unusedSimpArgs false
attribute [-simp] List.all_eq_true put slot_def ld idxA lenOf elems canA app hand

theorem firstE_app : ∀ (l k : List Tm), firstE (l ++ k) = if firstE l = 0 then firstE k else firstE l
  | [], k => by simp [firstE]
  | x :: l, k => by
    simp only [List.cons_append, firstE]
    by_cases h : x.err = 0
    · simp only [if_pos h]; exact firstE_app l k
    · simp only [if_neg h]

set_option maxHeartbeats 4000000 in
theorem tparts_eq : ∀ (t : Tm), t.ok → ∀ (o : List Obj) (ro : Nat) (df : List Nat), (D T).call 72 [t.av] ⟨o, ro, df⟩ = some (.int .i64 (firstE t.all), ⟨o, ro, df⟩)
  | .mk a s b l, hok, o, ro, df => by
    simp only [Tm.ok] at hok
    have hl := okL_iff.1 hok.2.2.2.2
    have hmx : l.length ≤ 9223372036854775807 := Nat.le_trans hok.2.2.2.1 (by decide)
    have ih := fun x (hx : x ∈ l) o ro df => tparts_eq x (hl x hx) o ro df
    simp only [Tm.av] at ih
    have lp : ∀ (fr : List AV) (Q : AE → List AV → St → Prop), fr.length = 110 → slot fr 1 = .ptr o.length 0 0 → slot fr 6 = .int .i64 0 →
        (firstE (allL l) = 0 → ∀ fr' : List AV, fr'.length = 110 → Q (.exit 1) fr' ⟨o ++ [.arr 27 4 [[.int .i64 a, .str s, .int .i64 b, .sl 4 (l.map Tm.cells)]]], o.length, []⟩) →
        (firstE (allL l) ≠ 0 → ∀ fr' : List AV, fr'.length = 110 → slot fr' 2 = .int .i64 (firstE (allL l)) → Q .ret fr' ⟨o ++ [.arr 27 4 [[.int .i64 a, .str s, .int .i64 b, .sl 4 (l.map Tm.cells)]]], o.length, []⟩) →
        ∃ e fr' st', (D T).loop false L72_0 fr ⟨o ++ [.arr 27 4 [[.int .i64 a, .str s, .int .i64 b, .sl 4 (l.map Tm.cells)]]], o.length, []⟩ = some (e, fr', st') ∧ Q e fr' st' := by
      intro fr Q p p1 p6 k1 k2
      apply loop_inv L72_0.eq_1 List.length (fun (rest : List Tm) fr st => ∃ pre, l = pre ++ rest ∧ fr.length = 110 ∧ slot fr 1 = .ptr o.length 0 0 ∧ slot fr 6 = .int .i64 (pre.length : Int) ∧
        st = ⟨o ++ [.arr 27 4 [[.int .i64 a, .str s, .int .i64 b, .sl 4 (l.map Tm.cells)]]], o.length, []⟩ ∧ firstE (allL l) = firstE (allL rest)) ?_ l ⟨[], rfl, p, p1, p6, rfl, rfl⟩
      rintro rest fr _ ⟨pre, e, hfr, q1, q6, rfl, hin⟩
      cases rest with
      | nil =>
        have hlt := idx_end e
        simp -implicitDefEqProofs [hfr, q1, q6, hlt, get_base0]
        exact k1 (by rw [hin]; rfl) _ (by simp [hfr])
      | cons t rest =>
        obtain ⟨hlt, hg, _⟩ := idx_at e
        have hw := idx_next e hmx
        have hc := fun o ro df => ih t (by simp [e]) o ro df
        simp only [allL, firstE_app] at hin
        by_cases h : firstE t.all = 0
        · rw [if_pos h] at hin
          simp -implicitDefEqProofs [hfr, q1, q6, hlt, hg, hw, hc, h, get_base0]
          exact ⟨rest, by simp, pre ++ [t], by simp [e], by simp, hin⟩
        · rw [if_neg h] at hin
          have hb : (firstE t.all != 0) = true := by simpa using h
          simp -implicitDefEqProofs [hfr, q1, q6, hlt, hg, hw, hc, h, hb, get_base0]
          exact k2 (by rw [hin]; exact h) _ (by simp [hfr]) (by simp [hfr, hin])
    have hE : firstE (Tm.mk a s b l).all = if (Tm.mk a s b l).err = 0 then firstE (allL l) else (Tm.mk a s b l).err := by simp only [Tm.all, firstE]
    apply call_by (by exact rfl : T 72 = some _) (by simp)
    intro fr hfr hsl
    have s0 := hsl 0 _ rfl
    simp only [Tm.av, Tm.cells_mk] at s0
    clear ih
    by_cases a1 : a < 1
    · have e : (Tm.mk a s b l).err = 7 := by simp only [Tm.err, partE]; rw [if_pos (.inl a1)]
      have k : ∀ n : Int, 1 ≤ n → (a == n) = false := fun n h => by simp; omega
      rw [hE, e]
      simp -implicitDefEqProofs [hfr, s0, get_base0, a1, k 1 (by omega), k 2 (by omega), k 3 (by omega), k 4 (by omega), k 8 (by omega), show ¬ a = 1 by omega, show ¬ a = 2 by omega, show ¬ a = 3 by omega, show ¬ a = 4 by omega, show ¬ a = 8 by omega]
    · by_cases a8 : 8 < a
      · have e : (Tm.mk a s b l).err = 7 := by simp only [Tm.err, partE]; rw [if_pos (.inr (.inl a8))]
        have k : ∀ n : Int, n ≤ 8 → (a == n) = false := fun n h => by simp; omega
        rw [hE, e]
        simp -implicitDefEqProofs [hfr, s0, get_base0, a1, a8, k 1 (by omega), k 2 (by omega), k 3 (by omega), k 4 (by omega), k 8 (by omega), show ¬ a = 1 by omega, show ¬ a = 2 by omega, show ¬ a = 3 by omega, show ¬ a = 4 by omega, show ¬ a = 8 by omega]
      · obtain ⟨n, hn⟩ : ∃ n : Int, n = (l.length : Int) := ⟨_, rfl⟩
        have ha : a = 1 ∨ a = 2 ∨ a = 3 ∨ a = 4 ∨ a = 5 ∨ a = 6 ∨ a = 7 ∨ a = 8 := by omega
        rcases Bool.eq_false_or_eq_true (bytesEq s ⟨#[]⟩) with hs | hs
        · rcases ha with rfl | rfl | rfl | rfl | rfl | rfl | rfl | rfl
          · by_cases b0 : b = 0
            · subst b0
              by_cases n0 : n = 0
              · have e : (Tm.mk 1 s 0 l).err = 0 := by simp [Tm.err, partE, argsI, hs, ← hn, n0]
                rw [hE, e]
                simp -implicitDefEqProofs [hfr, s0, get_base0, hs, ← hn, n0]
                apply lp
                · simp [hfr]
                · simp [hfr]
                · simp [hfr]
                · intro z fr' hf
                  simp -implicitDefEqProofs [hf, z]
                · intro z fr' hf p2
                  simp -implicitDefEqProofs [hf, p2]
              · have nb : (n != 0) = true := by simpa using n0
                have e : (Tm.mk 1 s 0 l).err = 12 := by simp [Tm.err, partE, argsI, hs, ← hn, n0]
                rw [hE, e]
                simp -implicitDefEqProofs [hfr, s0, get_base0, hs, ← hn, n0, nb]
            · have bb : (b != 0) = true := by simpa using b0
              have e : (Tm.mk 1 s b l).err = 7 := by simp [Tm.err, partE, b0]
              rw [hE, e]
              simp -implicitDefEqProofs [hfr, s0, get_base0, hs, b0, bb]
          · by_cases bn : b < 0
            · have e : (Tm.mk 2 s b l).err = 7 := by simp [Tm.err, partE, bn]
              rw [hE, e]
              simp -implicitDefEqProofs [hfr, s0, get_base0, hs, bn]
            · skip
              by_cases n0 : n = 0
              · have e : (Tm.mk 2 s b l).err = 0 := by simp [Tm.err, partE, argsI, hs, ← hn, n0, bn]
                rw [hE, e]
                simp -implicitDefEqProofs [hfr, s0, get_base0, hs, ← hn, bn, n0]
                apply lp
                · simp [hfr]
                · simp [hfr]
                · simp [hfr]
                · intro z fr' hf
                  simp -implicitDefEqProofs [hf, z]
                · intro z fr' hf p2
                  simp -implicitDefEqProofs [hf, p2]
              · have nb : (n != 0) = true := by simpa using n0
                have e : (Tm.mk 2 s b l).err = 12 := by simp [Tm.err, partE, argsI, hs, ← hn, n0, bn]
                rw [hE, e]
                simp -implicitDefEqProofs [hfr, s0, get_base0, hs, ← hn, bn, n0, nb]
          · by_cases b0 : b = 0
            · subst b0
              by_cases n1 : 8 < n
              · have e : (Tm.mk 3 s 0 l).err = 12 := by simp [Tm.err, partE, argsI, hs, ← hn, n1]
                rw [hE, e]
                simp -implicitDefEqProofs [hfr, s0, get_base0, hs, ← hn, n1]
              · have e : (Tm.mk 3 s 0 l).err = 0 := by simp [Tm.err, partE, argsI, hs, ← hn, n1]
                rw [hE, e]
                simp -implicitDefEqProofs [hfr, s0, get_base0, hs, ← hn, n1]
                apply lp
                · simp [hfr]
                · simp [hfr]
                · simp [hfr]
                · intro z fr' hf
                  simp -implicitDefEqProofs [hf, z]
                · intro z fr' hf p2
                  simp -implicitDefEqProofs [hf, p2]
            · have bb : (b != 0) = true := by simpa using b0
              have e : (Tm.mk 3 s b l).err = 7 := by simp [Tm.err, partE, b0]
              rw [hE, e]
              simp -implicitDefEqProofs [hfr, s0, get_base0, hs, b0, bb]
          · by_cases n0 : n = 0
            · have e : (Tm.mk 4 s b l).err = 0 := by simp [Tm.err, partE, argsI, hs, ← hn, n0]
              rw [hE, e]
              simp -implicitDefEqProofs [hfr, s0, get_base0, hs, ← hn, n0]
              apply lp
              · simp [hfr]
              · simp [hfr]
              · simp [hfr]
              · intro z fr' hf
                simp -implicitDefEqProofs [hf, z]
              · intro z fr' hf p2
                simp -implicitDefEqProofs [hf, p2]
            · have nb : (n != 0) = true := by simpa using n0
              have e : (Tm.mk 4 s b l).err = 12 := by simp [Tm.err, partE, argsI, hs, ← hn, n0]
              rw [hE, e]
              simp -implicitDefEqProofs [hfr, s0, get_base0, hs, ← hn, n0, nb]
          · by_cases b0 : b = 0
            · subst b0
              by_cases n0 : n = 2
              · have e : (Tm.mk 5 s 0 l).err = 0 := by simp [Tm.err, partE, argsI, hs, ← hn, n0]
                rw [hE, e]
                simp -implicitDefEqProofs [hfr, s0, get_base0, hs, ← hn, n0]
                apply lp
                · simp [hfr]
                · simp [hfr]
                · simp [hfr]
                · intro z fr' hf
                  simp -implicitDefEqProofs [hf, z]
                · intro z fr' hf p2
                  simp -implicitDefEqProofs [hf, p2]
              · have nb : (n != 2) = true := by simpa using n0
                have e : (Tm.mk 5 s 0 l).err = 12 := by simp [Tm.err, partE, argsI, hs, ← hn, n0]
                rw [hE, e]
                simp -implicitDefEqProofs [hfr, s0, get_base0, hs, ← hn, n0, nb]
            · have bb : (b != 0) = true := by simpa using b0
              have e : (Tm.mk 5 s b l).err = 7 := by simp [Tm.err, partE, b0]
              rw [hE, e]
              simp -implicitDefEqProofs [hfr, s0, get_base0, hs, b0, bb]
          · by_cases b0 : b = 0
            · subst b0
              by_cases n0 : n = 2
              · have e : (Tm.mk 6 s 0 l).err = 0 := by simp [Tm.err, partE, argsI, hs, ← hn, n0]
                rw [hE, e]
                simp -implicitDefEqProofs [hfr, s0, get_base0, hs, ← hn, n0]
                apply lp
                · simp [hfr]
                · simp [hfr]
                · simp [hfr]
                · intro z fr' hf
                  simp -implicitDefEqProofs [hf, z]
                · intro z fr' hf p2
                  simp -implicitDefEqProofs [hf, p2]
              · have nb : (n != 2) = true := by simpa using n0
                have e : (Tm.mk 6 s 0 l).err = 12 := by simp [Tm.err, partE, argsI, hs, ← hn, n0]
                rw [hE, e]
                simp -implicitDefEqProofs [hfr, s0, get_base0, hs, ← hn, n0, nb]
            · have bb : (b != 0) = true := by simpa using b0
              have e : (Tm.mk 6 s b l).err = 7 := by simp [Tm.err, partE, b0]
              rw [hE, e]
              simp -implicitDefEqProofs [hfr, s0, get_base0, hs, b0, bb]
          · by_cases b0 : b = 0
            · subst b0
              by_cases n0 : n = 1
              · have e : (Tm.mk 7 s 0 l).err = 0 := by simp [Tm.err, partE, argsI, hs, ← hn, n0]
                rw [hE, e]
                simp -implicitDefEqProofs [hfr, s0, get_base0, hs, ← hn, n0]
                apply lp
                · simp [hfr]
                · simp [hfr]
                · simp [hfr]
                · intro z fr' hf
                  simp -implicitDefEqProofs [hf, z]
                · intro z fr' hf p2
                  simp -implicitDefEqProofs [hf, p2]
              · have nb : (n != 1) = true := by simpa using n0
                have e : (Tm.mk 7 s 0 l).err = 12 := by simp [Tm.err, partE, argsI, hs, ← hn, n0]
                rw [hE, e]
                simp -implicitDefEqProofs [hfr, s0, get_base0, hs, ← hn, n0, nb]
            · have bb : (b != 0) = true := by simpa using b0
              have e : (Tm.mk 7 s b l).err = 7 := by simp [Tm.err, partE, b0]
              rw [hE, e]
              simp -implicitDefEqProofs [hfr, s0, get_base0, hs, b0, bb]
          · by_cases n0 : n = 1
            · have e : (Tm.mk 8 s b l).err = 0 := by simp [Tm.err, partE, argsI, hs, ← hn, n0]
              rw [hE, e]
              simp -implicitDefEqProofs [hfr, s0, get_base0, hs, ← hn, n0]
              apply lp
              · simp [hfr]
              · simp [hfr]
              · simp [hfr]
              · intro z fr' hf
                simp -implicitDefEqProofs [hf, z]
              · intro z fr' hf p2
                simp -implicitDefEqProofs [hf, p2]
            · have nb : (n != 1) = true := by simpa using n0
              have e : (Tm.mk 8 s b l).err = 12 := by simp [Tm.err, partE, argsI, hs, ← hn, n0]
              rw [hE, e]
              simp -implicitDefEqProofs [hfr, s0, get_base0, hs, ← hn, n0, nb]
        · rcases ha with rfl | rfl | rfl | rfl | rfl | rfl | rfl | rfl
          · by_cases b0 : b = 0
            · subst b0
              by_cases n0 : n = 0
              · have e : (Tm.mk 1 s 0 l).err = 0 := by simp [Tm.err, partE, argsI, hs, ← hn, n0]
                rw [hE, e]
                simp -implicitDefEqProofs [hfr, s0, get_base0, hs, ← hn, n0]
                apply lp
                · simp [hfr]
                · simp [hfr]
                · simp [hfr]
                · intro z fr' hf
                  simp -implicitDefEqProofs [hf, z]
                · intro z fr' hf p2
                  simp -implicitDefEqProofs [hf, p2]
              · have nb : (n != 0) = true := by simpa using n0
                have e : (Tm.mk 1 s 0 l).err = 12 := by simp [Tm.err, partE, argsI, hs, ← hn, n0]
                rw [hE, e]
                simp -implicitDefEqProofs [hfr, s0, get_base0, hs, ← hn, n0, nb]
            · have bb : (b != 0) = true := by simpa using b0
              have e : (Tm.mk 1 s b l).err = 7 := by simp [Tm.err, partE, b0]
              rw [hE, e]
              simp -implicitDefEqProofs [hfr, s0, get_base0, hs, b0, bb]
          · have e : (Tm.mk 2 s b l).err = 7 := by simp [Tm.err, partE, hs]
            rw [hE, e]
            simp -implicitDefEqProofs [hfr, s0, get_base0, hs]
          · by_cases b0 : b = 0
            · subst b0
              by_cases n1 : 8 < n
              · have e : (Tm.mk 3 s 0 l).err = 12 := by simp [Tm.err, partE, argsI, hs, ← hn, n1]
                rw [hE, e]
                simp -implicitDefEqProofs [hfr, s0, get_base0, hs, ← hn, n1]
              · have e : (Tm.mk 3 s 0 l).err = 0 := by simp [Tm.err, partE, argsI, hs, ← hn, n1]
                rw [hE, e]
                simp -implicitDefEqProofs [hfr, s0, get_base0, hs, ← hn, n1]
                apply lp
                · simp [hfr]
                · simp [hfr]
                · simp [hfr]
                · intro z fr' hf
                  simp -implicitDefEqProofs [hf, z]
                · intro z fr' hf p2
                  simp -implicitDefEqProofs [hf, p2]
            · have bb : (b != 0) = true := by simpa using b0
              have e : (Tm.mk 3 s b l).err = 7 := by simp [Tm.err, partE, b0]
              rw [hE, e]
              simp -implicitDefEqProofs [hfr, s0, get_base0, hs, b0, bb]
          · have e : (Tm.mk 4 s b l).err = 7 := by simp [Tm.err, partE, hs]
            rw [hE, e]
            simp -implicitDefEqProofs [hfr, s0, get_base0, hs]
          · have e : (Tm.mk 5 s b l).err = 7 := by simp [Tm.err, partE, hs]
            rw [hE, e]
            simp -implicitDefEqProofs [hfr, s0, get_base0, hs]
          · have e : (Tm.mk 6 s b l).err = 7 := by simp [Tm.err, partE, hs]
            rw [hE, e]
            simp -implicitDefEqProofs [hfr, s0, get_base0, hs]
          · have e : (Tm.mk 7 s b l).err = 7 := by simp [Tm.err, partE, hs]
            rw [hE, e]
            simp -implicitDefEqProofs [hfr, s0, get_base0, hs]
          · have e : (Tm.mk 8 s b l).err = 7 := by simp [Tm.err, partE, hs]
            rw [hE, e]
            simp -implicitDefEqProofs [hfr, s0, get_base0, hs]
termination_by t => SizeOf.sizeOf t
decreasing_by
  have := List.sizeOf_lt_of_mem hx
  simp
  omega

theorem tRight8_eq (t : Tm) (ht : t.ok) (o : List Obj) (ro : Nat) (df : List Nat) : (D T).call 61 [t.av] ⟨o, ro, df⟩ = some (.int .i64 (rightP t), ⟨o, ro, df⟩) := by
  have hd := fun o ro df => tall_eq t ht 65 (by omega) (by omega) o ro df
  rw [dp_min t 65 (by omega)] at hd
  have hs := fun st => rsize8_eq t ht 4096 st (by omega) (by omega)
  have hm := sz_min t 4096 (by omega)
  have hle := sz_le t 4096 (by omega)
  have e : sz t 4096 = min (t.all.length : Int) 4097 := by omega
  rw [e] at hs
  have hp := fun o ro df => tparts_eq t ht o ro df
  simp only [Tm.av] at hd hs hp
  apply call_by (by exact rfl : T 61 = some _) (by simp)
  intro fr hfr hsl
  have s0 := hsl 0 _ rfl
  simp only [Tm.av] at s0
  unfold rightP
  generalize min (dT t) 65 = md at *
  generalize min (t.all.length : Int) 4097 = ms at *
  by_cases c1 : 64 < md
  · simp -implicitDefEqProofs [hfr, s0, get_base0, hd, c1]
  · by_cases c2 : 4096 < ms
    · simp -implicitDefEqProofs [hfr, s0, get_base0, hd, hs, c1, c2]
    · simp -implicitDefEqProofs [hfr, s0, get_base0, hd, hs, hp, c1, c2]

end Go.Proofs.Ytjmhkbnhfpgciaa.A
