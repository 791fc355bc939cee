/- When two claims are the same: what the functions give that ask so. -/
import Derived.Test.YtpenaaljaahanaaDoorS4T
import Derived.Test.YtpenaaljaahanaaDoorRead
namespace Go.Proofs.YtpenaaljaahanaaDoor.A
open Go
set_option maxRecDepth 10000
set_option linter.unusedSimpArgs false
attribute [-simp] List.all_eq_true put slot_def ld idxA lenOf elems canA app hand
attribute [simp] ctake_cells ccanL_cells ccells_length call_one cset_cells cflat_cells cflat_list

def binder (op : Int) : Bool := op == 11 || op == 12

end Go.Proofs.YtpenaaljaahanaaDoor.A
