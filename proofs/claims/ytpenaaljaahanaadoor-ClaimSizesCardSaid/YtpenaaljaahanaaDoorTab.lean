/- The table's functions are the program's. -/
import Derived.Test.YtpenaaljaahanaaDoorYieldS
import Derived.Test.YtpenaaljaahanaaDoorCode
import Derived.Test.YtpenaaljaahanaaDoorProg
import Derived.KernelRfl
namespace Go.Proofs.YtpenaaljaahanaaDoor.A
open Go

theorem chk3 : chkAt Tryd.prog T 3 = true := by kernel_rfl
theorem chk4 : chkAt Tryd.prog T 4 = true := by kernel_rfl
theorem chk5 : chkAt Tryd.prog T 5 = true := by kernel_rfl
theorem chk6 : chkAt Tryd.prog T 6 = true := by kernel_rfl
theorem chk7 : chkAt Tryd.prog T 7 = true := by kernel_rfl
theorem chk8 : chkAt Tryd.prog T 8 = true := by kernel_rfl
theorem chk9 : chkAt Tryd.prog T 9 = true := by kernel_rfl
theorem chk10 : chkAt Tryd.prog T 10 = true := by kernel_rfl
theorem chk11 : chkAt Tryd.prog T 11 = true := by kernel_rfl
theorem chk12 : chkAt Tryd.prog T 12 = true := by kernel_rfl
theorem chk13 : chkAt Tryd.prog T 13 = true := by kernel_rfl
theorem chk14 : chkAt Tryd.prog T 14 = true := by kernel_rfl
theorem chk15 : chkAt Tryd.prog T 15 = true := by kernel_rfl
theorem chk16 : chkAt Tryd.prog T 16 = true := by kernel_rfl
theorem chk17 : chkAt Tryd.prog T 17 = true := by kernel_rfl
theorem chk18 : chkAt Tryd.prog T 18 = true := by kernel_rfl
theorem chk19 : chkAt Tryd.prog T 19 = true := by kernel_rfl
theorem chk20 : chkAt Tryd.prog T 20 = true := by kernel_rfl
theorem chk21 : chkAt Tryd.prog T 21 = true := by kernel_rfl
theorem chk22 : chkAt Tryd.prog T 22 = true := by kernel_rfl
theorem chk23 : chkAt Tryd.prog T 23 = true := by kernel_rfl
theorem chk24 : chkAt Tryd.prog T 24 = true := by kernel_rfl
theorem chk25 : chkAt Tryd.prog T 25 = true := by kernel_rfl
theorem chk26 : chkAt Tryd.prog T 26 = true := by kernel_rfl
theorem chk27 : chkAt Tryd.prog T 27 = true := by kernel_rfl
theorem chk28 : chkAt Tryd.prog T 28 = true := by kernel_rfl
theorem chk29 : chkAt Tryd.prog T 29 = true := by kernel_rfl
theorem chk30 : chkAt Tryd.prog T 30 = true := by kernel_rfl
theorem chk31 : chkAt Tryd.prog T 31 = true := by kernel_rfl
theorem chk32 : chkAt Tryd.prog T 32 = true := by kernel_rfl
theorem chk33 : chkAt Tryd.prog T 33 = true := by kernel_rfl
theorem chk34 : chkAt Tryd.prog T 34 = true := by kernel_rfl
theorem chk35 : chkAt Tryd.prog T 35 = true := by kernel_rfl
theorem chk36 : chkAt Tryd.prog T 36 = true := by kernel_rfl
theorem chk37 : chkAt Tryd.prog T 37 = true := by kernel_rfl
theorem chk38 : chkAt Tryd.prog T 38 = true := by kernel_rfl
theorem chk39 : chkAt Tryd.prog T 39 = true := by kernel_rfl
theorem chk40 : chkAt Tryd.prog T 40 = true := by kernel_rfl
theorem chk41 : chkAt Tryd.prog T 41 = true := by kernel_rfl
theorem chk42 : chkAt Tryd.prog T 42 = true := by kernel_rfl
theorem chk43 : chkAt Tryd.prog T 43 = true := by kernel_rfl
theorem chk44 : chkAt Tryd.prog T 44 = true := by kernel_rfl
theorem chk45 : chkAt Tryd.prog T 45 = true := by kernel_rfl
theorem chk46 : chkAt Tryd.prog T 46 = true := by kernel_rfl
theorem chk47 : chkAt Tryd.prog T 47 = true := by kernel_rfl
theorem chk48 : chkAt Tryd.prog T 48 = true := by kernel_rfl
theorem chk49 : chkAt Tryd.prog T 49 = true := by kernel_rfl
theorem chk50 : chkAt Tryd.prog T 50 = true := by kernel_rfl
theorem chk51 : chkAt Tryd.prog T 51 = true := by kernel_rfl
theorem chk52 : chkAt Tryd.prog T 52 = true := by kernel_rfl
theorem chk53 : chkAt Tryd.prog T 53 = true := by kernel_rfl
theorem chk54 : chkAt Tryd.prog T 54 = true := by kernel_rfl
theorem chk55 : chkAt Tryd.prog T 55 = true := by kernel_rfl
theorem chk56 : chkAt Tryd.prog T 56 = true := by kernel_rfl
theorem chk57 : chkAt Tryd.prog T 57 = true := by kernel_rfl
theorem chk58 : chkAt Tryd.prog T 58 = true := by kernel_rfl
theorem chk59 : chkAt Tryd.prog T 59 = true := by kernel_rfl
theorem chk60 : chkAt Tryd.prog T 60 = true := by kernel_rfl
theorem chk61 : chkAt Tryd.prog T 61 = true := by kernel_rfl

theorem extOk : ExtOk Tryd.prog T := fun _ _ _ _ _ _ h => by cases h

theorem tabOk : TabOk Tryd.prog T := by
  refine ⟨?_, extOk⟩
  intro f F h
  have key : chkAt Tryd.prog T f = true := by
    unfold T at h
    split at h
    · exact chk3
    · exact chk4
    · exact chk5
    · exact chk6
    · exact chk7
    · exact chk8
    · exact chk9
    · exact chk10
    · exact chk11
    · exact chk12
    · exact chk13
    · exact chk14
    · exact chk15
    · exact chk16
    · exact chk17
    · exact chk18
    · exact chk19
    · exact chk20
    · exact chk21
    · exact chk22
    · exact chk23
    · exact chk24
    · exact chk25
    · exact chk26
    · exact chk27
    · exact chk28
    · exact chk29
    · exact chk30
    · exact chk31
    · exact chk32
    · exact chk33
    · exact chk34
    · exact chk35
    · exact chk36
    · exact chk37
    · exact chk38
    · exact chk39
    · exact chk40
    · exact chk41
    · exact chk42
    · exact chk43
    · exact chk44
    · exact chk45
    · exact chk46
    · exact chk47
    · exact chk48
    · exact chk49
    · exact chk50
    · exact chk51
    · exact chk52
    · exact chk53
    · exact chk54
    · exact chk55
    · exact chk56
    · exact chk57
    · exact chk58
    · exact chk59
    · exact chk60
    · exact chk61
    all_goals cases h
  unfold chkAt at key
  rw [h] at key
  split at key
  · rename_i fn F' h1 h2
    obtain rfl := Option.some.inj h2
    exact ⟨fn, h1, key⟩
  · rename_i h2; cases h2
  · cases key

end Go.Proofs.YtpenaaljaahanaaDoor.A
