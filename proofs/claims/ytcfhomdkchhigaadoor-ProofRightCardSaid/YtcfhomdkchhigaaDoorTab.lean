/- The table's functions are the program's. -/
import Derived.Test.YtcfhomdkchhigaaDoorYieldS
import Derived.Test.YtcfhomdkchhigaaDoorExtC
import Derived.Test.YtcfhomdkchhigaaDoorCode
import Derived.Test.YtcfhomdkchhigaaDoorProg
import Derived.KernelRfl
namespace Go.Proofs.YtcfhomdkchhigaaDoor.A
open Go

theorem chk3 : chkAt Tryd.prog T 3 = true := by kernel_rfl
theorem chk5 : chkAt Tryd.prog T 5 = true := by kernel_rfl
theorem chk6 : chkAt Tryd.prog T 6 = true := by kernel_rfl
theorem chk7 : chkAt Tryd.prog T 7 = true := by kernel_rfl
theorem chk8 : chkAt Tryd.prog T 8 = true := by kernel_rfl
theorem chk9 : chkAt Tryd.prog T 9 = true := by kernel_rfl
theorem chk10 : chkAt Tryd.prog T 10 = true := by kernel_rfl
theorem chk11 : chkAt Tryd.prog T 11 = true := by kernel_rfl
theorem chk12 : chkAt Tryd.prog T 12 = true := by kernel_rfl
theorem chk13 : chkAt Tryd.prog T 13 = true := by kernel_rfl
theorem chk14 : chkAt Tryd.prog T 14 = true := by kernel_rfl
theorem chk15 : chkAt Tryd.prog T 15 = true := by kernel_rfl
theorem chk16 : chkAt Tryd.prog T 16 = true := by kernel_rfl
theorem chk18 : chkAt Tryd.prog T 18 = true := by kernel_rfl
theorem chk19 : chkAt Tryd.prog T 19 = true := by kernel_rfl
theorem chk20 : chkAt Tryd.prog T 20 = true := by kernel_rfl
theorem chk22 : chkAt Tryd.prog T 22 = true := by kernel_rfl
theorem chk23 : chkAt Tryd.prog T 23 = true := by kernel_rfl
theorem chk24 : chkAt Tryd.prog T 24 = true := by kernel_rfl
theorem chk25 : chkAt Tryd.prog T 25 = true := by kernel_rfl
theorem chk26 : chkAt Tryd.prog T 26 = true := by kernel_rfl
theorem chk27 : chkAt Tryd.prog T 27 = true := by kernel_rfl
theorem chk28 : chkAt Tryd.prog T 28 = true := by kernel_rfl
theorem chk29 : chkAt Tryd.prog T 29 = true := by kernel_rfl
theorem chk31 : chkAt Tryd.prog T 31 = true := by kernel_rfl
theorem chk32 : chkAt Tryd.prog T 32 = true := by kernel_rfl
theorem chk34 : chkAt Tryd.prog T 34 = true := by kernel_rfl
theorem chk35 : chkAt Tryd.prog T 35 = true := by kernel_rfl
theorem chk36 : chkAt Tryd.prog T 36 = true := by kernel_rfl
theorem chk37 : chkAt Tryd.prog T 37 = true := by kernel_rfl
theorem chk38 : chkAt Tryd.prog T 38 = true := by kernel_rfl
theorem chk42 : chkAt Tryd.prog T 42 = true := by kernel_rfl
theorem chk43 : chkAt Tryd.prog T 43 = true := by kernel_rfl
theorem chk44 : chkAt Tryd.prog T 44 = true := by kernel_rfl
theorem chk45 : chkAt Tryd.prog T 45 = true := by kernel_rfl
theorem chk46 : chkAt Tryd.prog T 46 = true := by kernel_rfl
theorem chk47 : chkAt Tryd.prog T 47 = true := by kernel_rfl
theorem chk48 : chkAt Tryd.prog T 48 = true := by kernel_rfl
theorem chk49 : chkAt Tryd.prog T 49 = true := by kernel_rfl
theorem chk50 : chkAt Tryd.prog T 50 = true := by kernel_rfl
theorem chk51 : chkAt Tryd.prog T 51 = true := by kernel_rfl
theorem chk52 : chkAt Tryd.prog T 52 = true := by kernel_rfl
theorem chk53 : chkAt Tryd.prog T 53 = true := by kernel_rfl
theorem chk54 : chkAt Tryd.prog T 54 = true := by kernel_rfl
theorem chk55 : chkAt Tryd.prog T 55 = true := by kernel_rfl
theorem chk56 : chkAt Tryd.prog T 56 = true := by kernel_rfl
theorem chk57 : chkAt Tryd.prog T 57 = true := by kernel_rfl
theorem chk58 : chkAt Tryd.prog T 58 = true := by kernel_rfl
theorem chk60 : chkAt Tryd.prog T 60 = true := by kernel_rfl
theorem chk61 : chkAt Tryd.prog T 61 = true := by kernel_rfl
theorem chk62 : chkAt Tryd.prog T 62 = true := by kernel_rfl
theorem chk63 : chkAt Tryd.prog T 63 = true := by kernel_rfl
theorem chk64 : chkAt Tryd.prog T 64 = true := by kernel_rfl
theorem chk65 : chkAt Tryd.prog T 65 = true := by kernel_rfl
theorem chk66 : chkAt Tryd.prog T 66 = true := by kernel_rfl
theorem chk67 : chkAt Tryd.prog T 67 = true := by kernel_rfl
theorem chk68 : chkAt Tryd.prog T 68 = true := by kernel_rfl
theorem chk69 : chkAt Tryd.prog T 69 = true := by kernel_rfl
theorem chk70 : chkAt Tryd.prog T 70 = true := by kernel_rfl
theorem chk71 : chkAt Tryd.prog T 71 = true := by kernel_rfl
theorem chk72 : chkAt Tryd.prog T 72 = true := by kernel_rfl
theorem chk74 : chkAt Tryd.prog T 74 = true := by kernel_rfl
theorem chk77 : chkAt Tryd.prog T 77 = true := by kernel_rfl
theorem chk78 : chkAt Tryd.prog T 78 = true := by kernel_rfl
theorem chk79 : chkAt Tryd.prog T 79 = true := by kernel_rfl
theorem chk80 : chkAt Tryd.prog T 80 = true := by kernel_rfl
theorem chk81 : chkAt Tryd.prog T 81 = true := by kernel_rfl
theorem chk82 : chkAt Tryd.prog T 82 = true := by kernel_rfl
theorem chk83 : chkAt Tryd.prog T 83 = true := by kernel_rfl
theorem chk84 : chkAt Tryd.prog T 84 = true := by kernel_rfl
theorem chk85 : chkAt Tryd.prog T 85 = true := by kernel_rfl
theorem chk86 : chkAt Tryd.prog T 86 = true := by kernel_rfl
theorem chk87 : chkAt Tryd.prog T 87 = true := by kernel_rfl
theorem chk88 : chkAt Tryd.prog T 88 = true := by kernel_rfl
theorem chk89 : chkAt Tryd.prog T 89 = true := by kernel_rfl
theorem chk90 : chkAt Tryd.prog T 90 = true := by kernel_rfl
theorem chk91 : chkAt Tryd.prog T 91 = true := by kernel_rfl
theorem chk92 : chkAt Tryd.prog T 92 = true := by kernel_rfl
theorem chk93 : chkAt Tryd.prog T 93 = true := by kernel_rfl
theorem chk94 : chkAt Tryd.prog T 94 = true := by kernel_rfl
theorem chk95 : chkAt Tryd.prog T 95 = true := by kernel_rfl
theorem chk96 : chkAt Tryd.prog T 96 = true := by kernel_rfl
theorem chk97 : chkAt Tryd.prog T 97 = true := by kernel_rfl
theorem chk98 : chkAt Tryd.prog T 98 = true := by kernel_rfl
theorem chk99 : chkAt Tryd.prog T 99 = true := by kernel_rfl
theorem chk100 : chkAt Tryd.prog T 100 = true := by kernel_rfl
theorem chk101 : chkAt Tryd.prog T 101 = true := by kernel_rfl
theorem chk102 : chkAt Tryd.prog T 102 = true := by kernel_rfl
theorem chk103 : chkAt Tryd.prog T 103 = true := by kernel_rfl
theorem chk104 : chkAt Tryd.prog T 104 = true := by kernel_rfl
theorem chk105 : chkAt Tryd.prog T 105 = true := by kernel_rfl
theorem chk106 : chkAt Tryd.prog T 106 = true := by kernel_rfl
theorem chk1000030 : chkAt Tryd.prog T 1000030 = true := by kernel_rfl

theorem exP : ∀ f, extP f = true → T f = none := by
  intro f h
  unfold extP at h
  first
    | (cases h; done)
    | (split at h
       all_goals first | rfl | (cases h; done))

theorem extOk : ExtOk Tryd.prog T := by
  intro f args st v st' _ h hr E w cargs S A cs
  unfold ext at h
  split at h
  · exact clone_ok (f := 33) (z := [.int .i64 0]) exP (by kernel_rfl) (by kernel_rfl) (by kernel_rfl) h hr cargs S A cs
  · exact clone_ok (f := 75) (z := [.int .i64 0]) exP (by kernel_rfl) (by kernel_rfl) (by kernel_rfl) h hr cargs S A cs
  · exact clone_ok (f := 76) (z := [.int .i64 0, .int .i64 0]) exP (by kernel_rfl) (by kernel_rfl) (by kernel_rfl) h hr cargs S A cs
  · cases h

theorem tabOk : TabOk Tryd.prog T := by
  refine ⟨?_, extOk, exP⟩
  intro f F h
  have key : chkAt Tryd.prog T f = true := by
    unfold T at h
    split at h
    · exact chk3
    · exact chk5
    · exact chk6
    · exact chk7
    · exact chk8
    · exact chk9
    · exact chk10
    · exact chk11
    · exact chk12
    · exact chk13
    · exact chk14
    · exact chk15
    · exact chk16
    · exact chk18
    · exact chk19
    · exact chk20
    · exact chk22
    · exact chk23
    · exact chk24
    · exact chk25
    · exact chk26
    · exact chk27
    · exact chk28
    · exact chk29
    · exact chk31
    · exact chk32
    · exact chk34
    · exact chk35
    · exact chk36
    · exact chk37
    · exact chk38
    · exact chk42
    · exact chk43
    · exact chk44
    · exact chk45
    · exact chk46
    · exact chk47
    · exact chk48
    · exact chk49
    · exact chk50
    · exact chk51
    · exact chk52
    · exact chk53
    · exact chk54
    · exact chk55
    · exact chk56
    · exact chk57
    · exact chk58
    · exact chk60
    · exact chk61
    · exact chk62
    · exact chk63
    · exact chk64
    · exact chk65
    · exact chk66
    · exact chk67
    · exact chk68
    · exact chk69
    · exact chk70
    · exact chk71
    · exact chk72
    · exact chk74
    · exact chk77
    · exact chk78
    · exact chk79
    · exact chk80
    · exact chk81
    · exact chk82
    · exact chk83
    · exact chk84
    · exact chk85
    · exact chk86
    · exact chk87
    · exact chk88
    · exact chk89
    · exact chk90
    · exact chk91
    · exact chk92
    · exact chk93
    · exact chk94
    · exact chk95
    · exact chk96
    · exact chk97
    · exact chk98
    · exact chk99
    · exact chk100
    · exact chk101
    · exact chk102
    · exact chk103
    · exact chk104
    · exact chk105
    · exact chk106
    · exact chk1000030
    all_goals cases h
  unfold chkAt at key
  rw [h] at key
  split at key
  · rename_i fn F' h1 h2
    obtain rfl := Option.some.inj h2
    exact ⟨fn, h1, key⟩
  · rename_i h2; cases h2
  · cases key

end Go.Proofs.YtcfhomdkchhigaaDoor.A
