/- Strings put among rising ones. -/
import Derived.Test.YtkecobdhgabknaaGreatDoorGx0
import Derived.Test.YtkecobdhgabknaaGreatDoorXH
import Derived.Test.YtkecobdhgabknaaGreatDoorP3
namespace Go.Proofs.YtkecobdhgabknaaGreatDoor.A
open Go
set_option maxRecDepth 10000
set_option linter.unusedSimpArgs false
attribute [-simp] List.all_eq_true put slot_def ld idxA lenOf elems canA app hand

/-- a string put among rising ones -/
def putX (s : ByteArray) : List ByteArray → List ByteArray
  | [] => [s]
  | x :: l => bif bytesLt x s then x :: putX s l else bif bytesEq x s then x :: l else s :: x :: l

theorem putX_len (s : ByteArray) : ∀ l : List ByteArray, (putX s l).length ≤ l.length + 1
  | [] => by simp [putX]
  | x :: l => by
    have := putX_len s l
    simp only [putX]
    cases bytesLt x s
    · cases bytesEq x s <;> simp
    · simp; omega

theorem strA_take (l : List ByteArray) (n : Nat) : (strA l).take n = strA (l.take n) := by simp [strA]
theorem strA_drop (l : List ByteArray) (n : Nat) : (strA l).drop n = strA (l.drop n) := by simp [strA]

theorem slc_hi (st : St) (sz : Nat) (es : List (List AV)) (n : Nat) (h : n ≤ es.length) : slc st sz (.sl sz es) none (some (.int .i64 (n : Int))) none = some (.sl sz (es.take n)) := by
  simp [slc, slcL, natB, h]
theorem slc_lo (st : St) (sz : Nat) (es : List (List AV)) (n : Nat) (h : n ≤ es.length) : slc st sz (.sl sz es) (some (.int .i64 (n : Int))) none none = some (.sl sz (es.drop n)) := by
  have h2 : es.take es.length = es := by simp
  simp [slc, slcL, natB, h]

def putF (l : List ByteArray) (s : ByteArray) : List ByteArray := putX s l

theorem putF_len : ∀ (V l : List ByteArray), (V.foldl putF l).length ≤ l.length + V.length
  | [], l => Nat.le_refl _
  | s :: V, l => by
    have h1 := putF_len V (putX s l)
    have h2 := putX_len s l
    simp only [List.foldl_cons, putF, List.length_cons] at *
    omega

/-- a list of strings by value, or the literal while it is empty -/
def Sv (v : AV) (l : List ByteArray) : Prop := v = .sl 1 (strA l) ∨ (v = .fsl 1 [] ∧ l = [])

theorem Sv.hand {v : AV} {l : List ByteArray} (h : Sv v l) (n : Nat) (o : List Obj) : hand n o v = some (.sl 1 (strA l)) := by
  rcases h with rfl | ⟨rfl, rfl⟩
  · simp
  · simp [strA]

theorem Sv.can {v : AV} {l : List ByteArray} (h : Sv v l) : canA v = v := by
  rcases h with rfl | ⟨rfl, rfl⟩ <;> rfl

theorem sv_sl (l : List ByteArray) : Sv (.sl 1 (strA l)) l := .inl rfl

end Go.Proofs.YtkecobdhgabknaaGreatDoor.A
/- Strings gathered, sorted and kept once are a strictly rising list of them. -/
namespace Go.Proofs.YtkecobdhgabknaaGreatDoor.A
open Go

theorem bt_irr (a : ByteArray) : bytesLt a a = false := bytesLess_self _
theorem bt_tr {a b c : ByteArray} (h : bytesLt a b = true) (k : bytesLt b c = true) : bytesLt a c = true := bl_trans _ _ _ h k
theorem bt_tot {a b : ByteArray} (h : bytesLt a b = false) (hne : a ≠ b) : bytesLt b a = true := bl_total _ _ h fun e => hne (ba_eq e)
theorem bt_as {a b : ByteArray} (h : bytesLt a b = true) : bytesLt b a = false := by
  cases k : bytesLt b a with
  | false => rfl
  | true => have := bt_tr h k; rw [bt_irr] at this; cases this

/-- strictly rising -/
def Rise (l : List ByteArray) : Prop := l.Pairwise fun a b => bytesLt a b = true

theorem rise_eq {l k : List ByteArray} (hl : Rise l) (hk : Rise k) (h : ∀ x, x ∈ l ↔ x ∈ k) : l = k := by
  have nd : ∀ {l : List ByteArray}, Rise l → l.Nodup := fun {l} hl => hl.imp fun {a b} hab e => by subst e; rw [bt_irr] at hab; cases hab
  refine List.Perm.eq_of_pairwise (le := fun a b => bytesLt a b = true) (fun a b _ _ h1 h2 => ?_) hl hk ?_
  · have := bt_tr h1 h2; rw [bt_irr] at this; cases this
  · exact (List.perm_ext_iff_of_nodup (nd hl) (nd hk)).2 h

/-! sorting -/

theorem dedup_mem : ∀ (l : List ByteArray) (x : ByteArray), x ∈ dedup bytesEq l ↔ x ∈ l
  | [], x => by simp [dedup]
  | y :: l, x => by
    have ih := dedup_mem l x
    simp only [dedup]
    cases h : dedup bytesEq l with
    | nil =>
      have : ∀ z, z ∉ l := fun z hz => by have := (dedup_mem l z).2 hz; rw [h] at this; cases this
      simp [this]
    | cons z r =>
      rw [h] at ih
      simp only []
      cases e : bytesEq y z with
      | true =>
        obtain rfl := beq_eq.1 e
        rw [cond_true, List.mem_cons (a := x) (b := y) (l := l), ← ih]
        simp only [List.mem_cons]
        constructor
        · exact .inr
        · rintro (h | h)
          · exact .inl h
          · exact h
      | false => rw [cond_false, List.mem_cons, ih, List.mem_cons]

theorem dedup_rise : ∀ l : List ByteArray, l.Pairwise (fun a b => bytesLt b a = false) → Rise (dedup bytesEq l)
  | [], _ => .nil
  | y :: l, h => by
    have h' := List.pairwise_cons.1 h
    have ih := dedup_rise l h'.2
    have hm := dedup_mem l
    simp only [dedup]
    cases e : dedup bytesEq l with
    | nil => simp [Rise]
    | cons z r =>
      rw [e] at ih hm
      simp only []
      cases e2 : bytesEq y z with
      | true => exact ih
      | false =>
        have hyz : bytesLt y z = true := by
          have hz := h'.1 z ((hm z).1 (List.mem_cons_self ..))
          exact bt_tot hz fun e => by rw [beq_eq.2 e.symm] at e2; cases e2
        refine List.pairwise_cons.2 ⟨fun x hx => ?_, ih⟩
        rcases List.mem_cons.1 hx with rfl | hx
        · exact hyz
        · exact bt_tr hyz ((List.pairwise_cons.1 ih).1 x hx)

theorem rising_spec (V : List ByteArray) : Rise (rising V) ∧ ∀ x, x ∈ rising V ↔ x ∈ V := by
  constructor
  · refine dedup_rise _ (isort_sorted (fun a b h => bt_as h) (fun a b c h1 h2 => ?_) V)
    cases h : bytesLt c a with
    | false => rfl
    | true =>
      by_cases e : b = c
      · subst e; rw [h1] at h; cases h
      · have := bt_tr (bt_tot h2 (Ne.symm e)) h
        rw [h1] at this; cases this
  · intro x
    rw [rising, dedup_mem, (isort_perm bytesLt V).mem_iff]

end Go.Proofs.YtkecobdhgabknaaGreatDoor.A
/- Strings put one after another among rising ones are the same, sorted and kept once. -/
namespace Go.Proofs.YtkecobdhgabknaaGreatDoor.A
open Go

theorem putX_mem (s : ByteArray) : ∀ (l : List ByteArray) (x : ByteArray), x ∈ putX s l ↔ x = s ∨ x ∈ l
  | [], x => by simp [putX]
  | y :: l, x => by
    have ih := putX_mem s l x
    simp only [putX]
    cases bytesLt y s with
    | true =>
      simp only [cond_true, List.mem_cons, ih]
      constructor
      · rintro (h | h | h)
        · exact .inr (.inl h)
        · exact .inl h
        · exact .inr (.inr h)
      · rintro (h | h | h)
        · exact .inr (.inl h)
        · exact .inl h
        · exact .inr (.inr h)
    | false =>
      cases h : bytesEq y s with
      | true =>
        obtain rfl := beq_eq.1 h
        simp
      | false => simp

theorem putX_rise (s : ByteArray) : ∀ l : List ByteArray, Rise l → Rise (putX s l)
  | [], _ => by simp [putX, Rise]
  | y :: l, h => by
    have h' := List.pairwise_cons.1 h
    have ih := putX_rise s l h'.2
    simp only [putX]
    cases h1 : bytesLt y s with
    | true =>
      refine List.pairwise_cons.2 ⟨fun x hx => ?_, ih⟩
      rcases (putX_mem s l x).1 hx with rfl | hx
      · exact h1
      · exact h'.1 x hx
    | false =>
      cases h2 : bytesEq y s with
      | true => exact h
      | false =>
        have hys : bytesLt s y = true := bt_tot h1 fun e => by rw [beq_eq.2 e] at h2; cases h2
        refine List.pairwise_cons.2 ⟨fun x hx => ?_, h⟩
        rcases List.mem_cons.1 hx with rfl | hx
        · exact hys
        · exact bt_tr hys (h'.1 x hx)

theorem putF_spec : ∀ (V l : List ByteArray), Rise l → Rise (V.foldl putF l) ∧ ∀ x, x ∈ V.foldl putF l ↔ x ∈ V ∨ x ∈ l
  | [], l, h => ⟨h, fun x => by simp⟩
  | s :: V, l, h => by
    obtain ⟨h1, h2⟩ := putF_spec V (putX s l) (putX_rise s l h)
    refine ⟨h1, fun x => ?_⟩
    rw [List.foldl_cons, putF, h2 x, putX_mem, List.mem_cons]
    constructor
    · rintro (h | h | h)
      · exact .inl (.inr h)
      · exact .inl (.inl h)
      · exact .inr h
    · rintro ((h | h) | h)
      · exact .inr (.inl h)
      · exact .inl h
      · exact .inr (.inr h)

theorem rising_putF (V : List ByteArray) : rising V = V.foldl putF [] := by
  obtain ⟨h1, h2⟩ := rising_spec V
  obtain ⟨h3, h4⟩ := putF_spec V [] .nil
  exact rise_eq h1 h3 fun x => by rw [h2, h4]; simp

end Go.Proofs.YtkecobdhgabknaaGreatDoor.A
