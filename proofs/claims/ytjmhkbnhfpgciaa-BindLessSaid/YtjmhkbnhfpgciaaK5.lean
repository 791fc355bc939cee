/- The first error of a claim, as said. -/
import Derived.Test.YtjmhkbnhfpgciaaK4
namespace Go.Proofs.Ytjmhkbnhfpgciaa.A
open Go
set_option maxRecDepth 10000
set_option linter.unusedSimpArgs false
attribute [-simp] List.all_eq_true put slot_def ld idxA lenOf elems canA app hand

def arT (a : Int) : Int := if a = 3 then -1 else if a = 4 ∨ a = 5 then 2 else 0

def arS (a : Int) : Int := if a = 6 ∨ a = 11 ∨ a = 12 then 1 else if a = 7 ∨ a = 8 ∨ a = 9 ∨ a = 10 then 2 else 0

/-- a claim's own error -/
def errC (a : Int) (s u : ByteArray) (nT nS : Int) : Int :=
  if a < 1 ∨ 12 < a ∨ (a ≠ 3 ∧ binder a = false ∧ bytesEq s ⟨#[]⟩ = false) ∨ (binder a = false ∧ bytesEq u ⟨#[]⟩ = false) then 7
  else if (0 ≤ arT a ∧ nT ≠ arT a) ∨ 8 < nT ∨ nS ≠ arS a then 12 else 0

def fstR : List Tm → Int
  | [] => 0
  | t :: l => if rightP t = 0 then fstR l else rightP t

mutual
/-- the first error of a claim's parts -/
def prt : Cl → Int
  | .mk a s u ts cs => if errC a s u ts.length cs.length = 0 then (if fstR ts = 0 then prtL cs else fstR ts) else errC a s u ts.length cs.length
def prtL : List Cl → Int
  | [] => 0
  | c :: l => if prt c = 0 then prtL l else prt c
end

theorem lit_range {a : Int} (h1 : ¬ a < 1) (h2 : ¬ 12 < a) : a = 1 ∨ a = 2 ∨ a = 3 ∨ a = 4 ∨ a = 5 ∨ a = 6 ∨ a = 7 ∨ a = 8 ∨ a = 9 ∨ a = 10 ∨ a = 11 ∨ a = 12 := by omega

theorem wants_eq (a : Int) (st : St) : (D T).call 60 [.int .i64 a] st = some (.tup [.int .i64 (if a = 3 then 0 else arT a), .int .i64 (arS a)], st) := by
  apply call_by (by exact rfl : T 60 = some _) (by simp)
  intro fr hfr hsl
  have s0 := hsl 0 _ rfl
  by_cases h : ¬ a < 1 ∧ ¬ 12 < a
  · rcases lit_range h.1 h.2 with rfl | rfl | rfl | rfl | rfl | rfl | rfl | rfl | rfl | rfl | rfl | rfl
    all_goals simp -implicitDefEqProofs [hfr, s0, arT, arS]
  · have k : ∀ n : Int, 1 ≤ n → n ≤ 12 → ¬ a = n := fun n h1 h2 => by omega
    simp -implicitDefEqProofs [hfr, s0, arT, arS, k 3 (by omega) (by omega), k 4 (by omega) (by omega), k 5 (by omega) (by omega), k 6 (by omega) (by omega), k 7 (by omega) (by omega), k 8 (by omega) (by omega), k 9 (by omega) (by omega), k 10 (by omega) (by omega), k 11 (by omega) (by omega), k 12 (by omega) (by omega)]

end Go.Proofs.Ytjmhkbnhfpgciaa.A
