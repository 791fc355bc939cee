/- A term holds no reference into the store. -/
import Derived.Test.YtcfhomdkchhigaaDoorS1A
namespace Go.Proofs.YtcfhomdkchhigaaDoor.A
open Go

mutual
theorem flat_cells : ∀ t : Tm, AV.flatL t.cells = true
  | .mk a s b l => by
    have := flat_list l
    simp [Tm.cells_mk, AV.flatL, AV.flat, this]
theorem flat_list : ∀ l : List Tm, AV.flatLL (l.map Tm.cells) = true
  | [] => rfl
  | t :: l => by simp [AV.flatLL, flat_cells t, flat_list l]
end
attribute [simp] flat_cells flat_list

end Go.Proofs.YtcfhomdkchhigaaDoor.A
