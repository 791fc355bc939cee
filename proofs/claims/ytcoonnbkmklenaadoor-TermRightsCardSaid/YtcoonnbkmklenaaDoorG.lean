/- The page's example, run: whatever lies in the store. -/
import Derived.Test.YtcoonnbkmklenaaDoorLim
import Derived.Test.YtcoonnbkmklenaaDoorCode
import Derived.KernelRfl
namespace Go.Proofs.YtcoonnbkmklenaaDoor.A
open Go

theorem goes1_k (x : List AV) : (orc T 40).call 5 [] { objs := [Obj.arr 24 4 [x]], ro := 0, df := [] } = some (.bool true, { objs := [Obj.arr 24 4 [x]], ro := 0, df := [] }) := by kernel_rfl
theorem goes1 (x : List AV) : (D T).call 5 [] { objs := [Obj.arr 24 4 [x]], ro := 0, df := [] } = some (.bool true, { objs := [Obj.arr 24 4 [x]], ro := 0, df := [] }) := (D_le T 40).call _ _ _ _ (goes1_k x)

end Go.Proofs.YtcoonnbkmklenaaDoor.A
