/- Which fields a rule may fill: the program's bits and the document's lists. -/
import Derived.Test.YtcfhomdkchhigaaDoorX8
namespace Go.Proofs.YtcfhomdkchhigaaDoor.A
open Go
set_option linter.unusedSimpArgs false
set_option linter.unusedVariables false

def shps : List Int := [0, 0, 1, 0, 0, 0, 1, 0, 0, 2, 7, 1, 0, 1, 0, 1, 3, 2, 2, 1, 3, 2, 2, 1, 1, 1, 0, 2, 7, 1, 4, 1, 19, 1, 16, 1, 7, 1, 2, 1, 34, 2, 1, 1, 0, 0, 41, 1, 3, 1, 64, 0, 256, 0, 192, 0]
def spF (r : Nat) : Int := shps.getD (2 * r) 0
def spS (r : Nat) : Int := shps.getD (2 * r + 1) 0

theorem spS_sbs : ∀ r : Fin 28, spS r = sbs (r : Nat) := by decide +kernel

def okN (r : Nat) (l : List (Bool × Int)) : Bool := bitI .andNot .i64 (orF l 0) (spF r) == 0
def okL9 (r : Int) (b1 b2 b3 b4 b5 b6 b7 b8 b9 : Bool) : Bool := (!b1 || isIn fmH r) && (!b2 || isIn fmN r) && (!b3 || isIn fmV r) && (!b5 || isIn fmT r) && (!b6 || isIn fmC r) && (!b4 || isIn fmB r) && (!b7 || isIn fmCh r) && (!b8 || isIn fmL r) && (!b9 || isIn fmU r)

theorem nine_law : ∀ (r : Fin 28) (b1 b2 b3 b4 b5 b6 b7 b8 b9 : Bool), okN r [(b1, 1), (b2, 2), (b3, 4), (b4, 8), (b5, 16), (b6, 32), (b7, 64), (b8, 128), (b9, 256)] = okL9 (r : Nat) b1 b2 b3 b4 b5 b6 b7 b8 b9 := by decide +kernel

end Go.Proofs.YtcfhomdkchhigaaDoor.A
