/- The page's example, run: whatever lies in the store. -/
import Derived.Test.YtcoonnbkmklenaaKeep
import Derived.Test.YtcoonnbkmklenaaCode
import Derived.KernelRfl
namespace Go.Proofs.Ytcoonnbkmklenaa.A
open Go

theorem goes1_k (x : List AV) : (orc T 40).call 11 [] { objs := [Obj.arr 24 4 [x]], ro := 0, df := [] } = some (.bool true, { objs := [Obj.arr 24 4 [x]], ro := 0, df := [] }) := by kernel_rfl
theorem goes2_k (x y : List AV) : (orc T 40).call 11 [] { objs := [Obj.arr 24 4 [x], Obj.arr 24 4 [y]], ro := 0, df := [] } = some (.bool true, { objs := [Obj.arr 24 4 [x], Obj.arr 24 4 [y]], ro := 0, df := [] }) := by kernel_rfl
theorem goes3_k (x y z : List AV) : (orc T 40).call 11 [] { objs := [Obj.arr 24 4 [x], Obj.arr 24 4 [y], Obj.arr 24 4 [z]], ro := 0, df := [] } =
    some (.bool true, { objs := [Obj.arr 24 4 [x], Obj.arr 24 4 [y], Obj.arr 24 4 [z]], ro := 0, df := [] }) := by kernel_rfl

theorem goes1 (x : List AV) : (D T).call 11 [] { objs := [Obj.arr 24 4 [x]], ro := 0, df := [] } = some (.bool true, { objs := [Obj.arr 24 4 [x]], ro := 0, df := [] }) := (D_le T 40).call _ _ _ _ (goes1_k x)
theorem goes2 (x y : List AV) : (D T).call 11 [] { objs := [Obj.arr 24 4 [x], Obj.arr 24 4 [y]], ro := 0, df := [] } = some (.bool true, { objs := [Obj.arr 24 4 [x], Obj.arr 24 4 [y]], ro := 0, df := [] }) := (D_le T 40).call _ _ _ _ (goes2_k x y)
theorem goes3 (x y z : List AV) : (D T).call 11 [] { objs := [Obj.arr 24 4 [x], Obj.arr 24 4 [y], Obj.arr 24 4 [z]], ro := 0, df := [] } =
    some (.bool true, { objs := [Obj.arr 24 4 [x], Obj.arr 24 4 [y], Obj.arr 24 4 [z]], ro := 0, df := [] }) := (D_le T 40).call _ _ _ _ (goes3_k x y z)

end Go.Proofs.Ytcoonnbkmklenaa.A
