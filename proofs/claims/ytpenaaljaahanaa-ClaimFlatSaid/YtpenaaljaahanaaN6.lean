/- Names: gathered, sorted and kept once is a strictly rising list of them. -/
import Derived.Test.YtpenaaljaahanaaN4
import Derived.Test.YtpenaaljaahanaaP3
namespace Go.Proofs.Ytpenaaljaahanaa.A
open Go

theorem ba_eq {a b : ByteArray} (h : a.toList = b.toList) : a = b := by
  rw [Lib.toList_data, Lib.toList_data] at h
  obtain ⟨a⟩ := a
  obtain ⟨b⟩ := b
  simp at h
  rw [h]

theorem beq_eq {a b : ByteArray} : bytesEq a b = true ↔ a = b := by
  constructor
  · intro h; exact ba_eq ((bytesEq_iff a b).1 h)
  · rintro rfl; exact (bytesEq_iff a a).2 rfl

theorem bt_irr (a : ByteArray) : bytesLt a a = false := bytesLess_self _
theorem bt_tr {a b c : ByteArray} (h : bytesLt a b = true) (k : bytesLt b c = true) : bytesLt a c = true := bl_trans _ _ _ h k
theorem bt_tot {a b : ByteArray} (h : bytesLt a b = false) (hne : a ≠ b) : bytesLt b a = true := bl_total _ _ h fun e => hne (ba_eq e)
theorem bt_as {a b : ByteArray} (h : bytesLt a b = true) : bytesLt b a = false := by
  cases k : bytesLt b a with
  | false => rfl
  | true => have := bt_tr h k; rw [bt_irr] at this; cases this

/-- strictly rising -/
def Rise (l : List ByteArray) : Prop := l.Pairwise fun a b => bytesLt a b = true

theorem rise_eq {l k : List ByteArray} (hl : Rise l) (hk : Rise k) (h : ∀ x, x ∈ l ↔ x ∈ k) : l = k := by
  have nd : ∀ {l : List ByteArray}, Rise l → l.Nodup := fun {l} hl => hl.imp fun {a b} hab e => by subst e; rw [bt_irr] at hab; cases hab
  refine List.Perm.eq_of_pairwise (le := fun a b => bytesLt a b = true) (fun a b _ _ h1 h2 => ?_) hl hk ?_
  · have := bt_tr h1 h2; rw [bt_irr] at this; cases this
  · exact (List.perm_ext_iff_of_nodup (nd hl) (nd hk)).2 h

/-! sorting -/

theorem dedup_mem : ∀ (l : List ByteArray) (x : ByteArray), x ∈ dedup bytesEq l ↔ x ∈ l
  | [], x => by simp [dedup]
  | y :: l, x => by
    have ih := dedup_mem l x
    simp only [dedup]
    cases h : dedup bytesEq l with
    | nil =>
      have : ∀ z, z ∉ l := fun z hz => by have := (dedup_mem l z).2 hz; rw [h] at this; cases this
      simp [this]
    | cons z r =>
      rw [h] at ih
      simp only []
      cases e : bytesEq y z with
      | true =>
        obtain rfl := beq_eq.1 e
        rw [cond_true, List.mem_cons (a := x) (b := y) (l := l), ← ih]
        simp only [List.mem_cons]
        constructor
        · exact .inr
        · rintro (h | h)
          · exact .inl h
          · exact h
      | false => rw [cond_false, List.mem_cons, ih, List.mem_cons]

theorem dedup_rise : ∀ l : List ByteArray, l.Pairwise (fun a b => bytesLt b a = false) → Rise (dedup bytesEq l)
  | [], _ => .nil
  | y :: l, h => by
    have h' := List.pairwise_cons.1 h
    have ih := dedup_rise l h'.2
    have hm := dedup_mem l
    simp only [dedup]
    cases e : dedup bytesEq l with
    | nil => simp [Rise]
    | cons z r =>
      rw [e] at ih hm
      simp only []
      cases e2 : bytesEq y z with
      | true => exact ih
      | false =>
        have hyz : bytesLt y z = true := by
          have hz := h'.1 z ((hm z).1 (List.mem_cons_self ..))
          exact bt_tot hz fun e => by rw [beq_eq.2 e.symm] at e2; cases e2
        refine List.pairwise_cons.2 ⟨fun x hx => ?_, ih⟩
        rcases List.mem_cons.1 hx with rfl | hx
        · exact hyz
        · exact bt_tr hyz ((List.pairwise_cons.1 ih).1 x hx)

theorem rising_spec (V : List ByteArray) : Rise (rising V) ∧ ∀ x, x ∈ rising V ↔ x ∈ V := by
  constructor
  · refine dedup_rise _ (isort_sorted (fun a b h => bt_as h) (fun a b c h1 h2 => ?_) V)
    cases h : bytesLt c a with
    | false => rfl
    | true =>
      by_cases e : b = c
      · subst e; rw [h1] at h; cases h
      · have := bt_tr (bt_tot h2 (Ne.symm e)) h
        rw [h1] at this; cases this
  · intro x
    rw [rising, dedup_mem, (isort_perm bytesLt V).mem_iff]

end Go.Proofs.Ytpenaaljaahanaa.A
