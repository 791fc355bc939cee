/- The chapter's examples, run: whatever claims lie in the store. -/
import Derived.Test.YtpenaaljaahanaaKeep
import Derived.Test.YtpenaaljaahanaaCode
import Derived.KernelRfl
namespace Go.Proofs.Ytpenaaljaahanaa.A
open Go

theorem alive_k (x : List Obj) (h : x = []) : (orc T 60).call 10 [] { objs := [], ro := 0, df := [] } = some (.bool true, { objs := [], ro := 0, df := [] }) := by kernel_rfl
theorem alive2_k (x y : List AV) : (orc T 60).call 10 [] { objs := [Obj.arr 25 5 [x], Obj.arr 25 5 [y]], ro := 0, df := [] } = some (.bool true, { objs := [Obj.arr 25 5 [x], Obj.arr 25 5 [y]], ro := 0, df := [] }) := by kernel_rfl
theorem alive2 (x y : List AV) : (D T).call 10 [] { objs := [Obj.arr 25 5 [x], Obj.arr 25 5 [y]], ro := 0, df := [] } = some (.bool true, { objs := [Obj.arr 25 5 [x], Obj.arr 25 5 [y]], ro := 0, df := [] }) := (D_le T 60).call _ _ _ _ (alive2_k x y)

end Go.Proofs.Ytpenaaljaahanaa.A
