/- The chapter's examples, run: whatever claims lie in the store. -/
import Derived.Test.YtpenaaljaahanaaDoorKeep
import Derived.Test.YtpenaaljaahanaaDoorCode
import Derived.KernelRfl
namespace Go.Proofs.YtpenaaljaahanaaDoor.A
open Go

theorem alive1_k (x : List AV) : (orc T 60).call 6 [] { objs := [Obj.arr 25 5 [x]], ro := 0, df := [] } = some (.bool true, { objs := [Obj.arr 25 5 [x]], ro := 0, df := [] }) := by kernel_rfl
theorem alive1 (x : List AV) : (D T).call 6 [] { objs := [Obj.arr 25 5 [x]], ro := 0, df := [] } = some (.bool true, { objs := [Obj.arr 25 5 [x]], ro := 0, df := [] }) := (D_le T 60).call _ _ _ _ (alive1_k x)
theorem alive2_k (x y : List AV) : (orc T 60).call 6 [] { objs := [Obj.arr 25 5 [x], Obj.arr 25 5 [y]], ro := 0, df := [] } = some (.bool true, { objs := [Obj.arr 25 5 [x], Obj.arr 25 5 [y]], ro := 0, df := [] }) := by kernel_rfl
theorem alive2 (x y : List AV) : (D T).call 6 [] { objs := [Obj.arr 25 5 [x], Obj.arr 25 5 [y]], ro := 0, df := [] } = some (.bool true, { objs := [Obj.arr 25 5 [x], Obj.arr 25 5 [y]], ro := 0, df := [] }) := (D_le T 60).call _ _ _ _ (alive2_k x y)
theorem alive3_k (x y z : List AV) : (orc T 60).call 6 [] { objs := [Obj.arr 25 5 [x], Obj.arr 25 5 [y], Obj.arr 25 5 [z]], ro := 0, df := [] } = some (.bool true, { objs := [Obj.arr 25 5 [x], Obj.arr 25 5 [y], Obj.arr 25 5 [z]], ro := 0, df := [] }) := by kernel_rfl
theorem alive3 (x y z : List AV) : (D T).call 6 [] { objs := [Obj.arr 25 5 [x], Obj.arr 25 5 [y], Obj.arr 25 5 [z]], ro := 0, df := [] } = some (.bool true, { objs := [Obj.arr 25 5 [x], Obj.arr 25 5 [y], Obj.arr 25 5 [z]], ro := 0, df := [] }) := (D_le T 60).call _ _ _ _ (alive3_k x y z)

end Go.Proofs.YtpenaaljaahanaaDoor.A
