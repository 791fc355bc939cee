/- The table's functions are the program's. -/
import Derived.Test.YtcoonnbkmklenaaDoorYieldS
import Derived.Test.YtcoonnbkmklenaaDoorCode
import Derived.Test.YtcoonnbkmklenaaDoorProg
import Derived.KernelRfl
namespace Go.Proofs.YtcoonnbkmklenaaDoor.A
open Go

theorem chk3 : chkAt Tryd.prog T 3 = true := by kernel_rfl
theorem chk4 : chkAt Tryd.prog T 4 = true := by kernel_rfl
theorem chk5 : chkAt Tryd.prog T 5 = true := by kernel_rfl
theorem chk6 : chkAt Tryd.prog T 6 = true := by kernel_rfl
theorem chk7 : chkAt Tryd.prog T 7 = true := by kernel_rfl
theorem chk8 : chkAt Tryd.prog T 8 = true := by kernel_rfl
theorem chk9 : chkAt Tryd.prog T 9 = true := by kernel_rfl
theorem chk10 : chkAt Tryd.prog T 10 = true := by kernel_rfl
theorem chk11 : chkAt Tryd.prog T 11 = true := by kernel_rfl
theorem chk12 : chkAt Tryd.prog T 12 = true := by kernel_rfl
theorem chk13 : chkAt Tryd.prog T 13 = true := by kernel_rfl
theorem chk14 : chkAt Tryd.prog T 14 = true := by kernel_rfl
theorem chk15 : chkAt Tryd.prog T 15 = true := by kernel_rfl
theorem chk16 : chkAt Tryd.prog T 16 = true := by kernel_rfl
theorem chk17 : chkAt Tryd.prog T 17 = true := by kernel_rfl
theorem chk18 : chkAt Tryd.prog T 18 = true := by kernel_rfl
theorem chk19 : chkAt Tryd.prog T 19 = true := by kernel_rfl
theorem chk20 : chkAt Tryd.prog T 20 = true := by kernel_rfl
theorem chk21 : chkAt Tryd.prog T 21 = true := by kernel_rfl
theorem chk22 : chkAt Tryd.prog T 22 = true := by kernel_rfl
theorem chk23 : chkAt Tryd.prog T 23 = true := by kernel_rfl
theorem chk24 : chkAt Tryd.prog T 24 = true := by kernel_rfl
theorem chk25 : chkAt Tryd.prog T 25 = true := by kernel_rfl
theorem chk26 : chkAt Tryd.prog T 26 = true := by kernel_rfl
theorem chk27 : chkAt Tryd.prog T 27 = true := by kernel_rfl
theorem chk28 : chkAt Tryd.prog T 28 = true := by kernel_rfl
theorem chk29 : chkAt Tryd.prog T 29 = true := by kernel_rfl
theorem chk30 : chkAt Tryd.prog T 30 = true := by kernel_rfl
theorem chk31 : chkAt Tryd.prog T 31 = true := by kernel_rfl
theorem chk32 : chkAt Tryd.prog T 32 = true := by kernel_rfl
theorem chk33 : chkAt Tryd.prog T 33 = true := by kernel_rfl
theorem chk34 : chkAt Tryd.prog T 34 = true := by kernel_rfl

theorem tabOk : TabOk Tryd.prog T := by
  intro f F h
  have key : chkAt Tryd.prog T f = true := by
    unfold T at h
    split at h
    · exact chk3
    · exact chk4
    · exact chk5
    · exact chk6
    · exact chk7
    · exact chk8
    · exact chk9
    · exact chk10
    · exact chk11
    · exact chk12
    · exact chk13
    · exact chk14
    · exact chk15
    · exact chk16
    · exact chk17
    · exact chk18
    · exact chk19
    · exact chk20
    · exact chk21
    · exact chk22
    · exact chk23
    · exact chk24
    · exact chk25
    · exact chk26
    · exact chk27
    · exact chk28
    · exact chk29
    · exact chk30
    · exact chk31
    · exact chk32
    · exact chk33
    · exact chk34
    all_goals cases h
  unfold chkAt at key
  rw [h] at key
  split at key
  · rename_i fn F' h1 h2
    obtain rfl := Option.some.inj h2
    exact ⟨fn, h1, key⟩
  · rename_i h2; cases h2
  · cases key

end Go.Proofs.YtcoonnbkmklenaaDoor.A
