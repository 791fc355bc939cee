/- Lists of strings; the variables' names in terms. -/
import Derived.Test.YtpenaaljaahanaaS6
namespace Go.Proofs.Ytpenaaljaahanaa.A
open Go
set_option maxRecDepth 10000
set_option linter.unusedSimpArgs false
attribute [-simp] List.all_eq_true put slot_def ld idxA lenOf elems canA app hand

def strA (l : List ByteArray) : List (List AV) := l.map fun x => [.str x]
theorem strA_len (l : List ByteArray) : (strA l).length = l.length := by simp [strA]
theorem strA_flat : ∀ l : List ByteArray, AV.flatLL (strA l) = true
  | [] => rfl
  | x :: l => by have := strA_flat l; simp only [strA] at this; simp [strA, this]
theorem strA_app (l k : List ByteArray) : strA (l ++ k) = strA l ++ strA k := by simp [strA]
theorem strA_get {l : List ByteArray} {i : Nat} {x : ByteArray} (h : l[i]? = some x) : (strA l)[i]? = some [.str x] := by simp [strA, h]
attribute [simp] strA_flat strA_len

def vn : Tm → List ByteArray
  | .mk a s _ _ => bif a == 1 then [s] else []
def varsOf (l : List Tm) : List ByteArray := l.flatMap vn

theorem vn_len (t : Tm) : (vn t).length ≤ 1 := by
  obtain ⟨a, s, b, l⟩ := t
  simp only [vn]
  cases a == 1 <;> simp
theorem varsOf_len : ∀ l : List Tm, (varsOf l).length ≤ l.length
  | [] => Nat.le_refl _
  | t :: l => by
    have h1 := varsOf_len l
    have h2 := vn_len t
    simp only [varsOf, List.flatMap_cons, List.length_append, List.length_cons] at *
    omega

theorem room_ofN {n b : Nat} (h : n * b ≤ 140737488355328) (h2 : n ≤ 4611686018427387904) : room n b = true := by simp [room, h, h2]

end Go.Proofs.Ytpenaaljaahanaa.A
