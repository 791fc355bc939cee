/- The chapter's examples, in whatever store. -/
import Derived.Test.YtcfhomdkchhigaaDoorGa
namespace Go.Proofs.YtcfhomdkchhigaaDoor.A
open Go

theorem alive_k : (orc T 60).call 9 [] ⟨[], 0, []⟩ = some (.bool true, ⟨[], 0, []⟩) := by kernel_rfl
theorem alive_any (o : List Obj) (ro : Nat) (df : List Nat) : (D T).call 9 [] ⟨o, ro, df⟩ = some (.bool true, ⟨o, ro, df⟩) :=
  call_any shTab shGlobs (by exact rfl) rfl (fun _ => rfl) alive_k o ro df

end Go.Proofs.YtcfhomdkchhigaaDoor.A
