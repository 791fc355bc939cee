/- Lists of strings; the variables' names in terms. -/
import Derived.Test.YtjmhkbnhfpgciaaS1A
import Derived.Test.YtjmhkbnhfpgciaaWp
import Derived.Test.YtjmhkbnhfpgciaaFlat
namespace Go.Proofs.Ytjmhkbnhfpgciaa.A
open Go
set_option maxRecDepth 10000
set_option linter.unusedSimpArgs false
attribute [-simp] List.all_eq_true put slot_def ld idxA lenOf elems canA app hand

def strA (l : List ByteArray) : List (List AV) := l.map fun x => [.str x]
theorem strA_len (l : List ByteArray) : (strA l).length = l.length := by simp [strA]
theorem strA_flat : ∀ l : List ByteArray, AV.flatLL (strA l) = true
  | [] => rfl
  | x :: l => by have := strA_flat l; simp only [strA] at this; simp [strA, this]
theorem strA_app (l k : List ByteArray) : strA (l ++ k) = strA l ++ strA k := by simp [strA]
theorem strA_get {l : List ByteArray} {i : Nat} {x : ByteArray} (h : l[i]? = some x) : (strA l)[i]? = some [.str x] := by simp [strA, h]
attribute [simp] strA_flat strA_len

def vn : Tm → List ByteArray
  | .mk a s _ _ => bif a == 1 then [s] else []
def varsOf (l : List Tm) : List ByteArray := l.flatMap vn

theorem vn_len (t : Tm) : (vn t).length ≤ 1 := by
  obtain ⟨a, s, b, l⟩ := t
  simp only [vn]
  cases a == 1 <;> simp
theorem varsOf_len : ∀ l : List Tm, (varsOf l).length ≤ l.length
  | [] => Nat.le_refl _
  | t :: l => by
    have h1 := varsOf_len l
    have h2 := vn_len t
    simp only [varsOf, List.flatMap_cons, List.length_append, List.length_cons] at *
    omega

theorem bytesEq_iffN (a b : ByteArray) : bytesEq a b = true ↔ a.toList = b.toList := by simp [bytesEq]

theorem ba_list (b : ByteArray) : b.toList = b.data.toList := ByteArray.toList_eq b

theorem ba_eq {a b : ByteArray} (h : a.toList = b.toList) : a = b := by
  rw [ba_list, ba_list] at h
  obtain ⟨a⟩ := a
  obtain ⟨b⟩ := b
  simp at h
  rw [h]

theorem beq_eq {a b : ByteArray} : bytesEq a b = true ↔ a = b := by
  constructor
  · intro h; exact ba_eq ((bytesEq_iffN a b).1 h)
  · rintro rfl; exact (bytesEq_iffN a a).2 rfl

theorem room_ofN {n b : Nat} (h : n * b ≤ 140737488355328) (h2 : n ≤ 4611686018427387904) : room n b = true := by simp [room, h, h2]

end Go.Proofs.Ytjmhkbnhfpgciaa.A
