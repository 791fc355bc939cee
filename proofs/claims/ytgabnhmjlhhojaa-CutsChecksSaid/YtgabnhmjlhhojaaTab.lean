/- The table's functions are the program's. -/
import Derived.Test.YtgabnhmjlhhojaaYieldS
import Derived.Test.YtgabnhmjlhhojaaExtS
import Derived.Test.YtgabnhmjlhhojaaExtC
import Derived.Test.YtgabnhmjlhhojaaCode
import Derived.Test.YtgabnhmjlhhojaaProg
import Derived.KernelRfl
namespace Go.Proofs.Ytgabnhmjlhhojaa.A
open Go

theorem chk3 : chkAt Try.prog T 3 = true := by kernel_rfl
theorem chk4 : chkAt Try.prog T 4 = true := by kernel_rfl
theorem chk5 : chkAt Try.prog T 5 = true := by kernel_rfl
theorem chk6 : chkAt Try.prog T 6 = true := by kernel_rfl
theorem chk7 : chkAt Try.prog T 7 = true := by kernel_rfl
theorem chk8 : chkAt Try.prog T 8 = true := by kernel_rfl
theorem chk9 : chkAt Try.prog T 9 = true := by kernel_rfl
theorem chk10 : chkAt Try.prog T 10 = true := by kernel_rfl
theorem chk11 : chkAt Try.prog T 11 = true := by kernel_rfl
theorem chk12 : chkAt Try.prog T 12 = true := by kernel_rfl
theorem chk13 : chkAt Try.prog T 13 = true := by kernel_rfl
theorem chk14 : chkAt Try.prog T 14 = true := by kernel_rfl
theorem chk15 : chkAt Try.prog T 15 = true := by kernel_rfl
theorem chk16 : chkAt Try.prog T 16 = true := by kernel_rfl
theorem chk17 : chkAt Try.prog T 17 = true := by kernel_rfl
theorem chk18 : chkAt Try.prog T 18 = true := by kernel_rfl
theorem chk19 : chkAt Try.prog T 19 = true := by kernel_rfl
theorem chk20 : chkAt Try.prog T 20 = true := by kernel_rfl
theorem chk21 : chkAt Try.prog T 21 = true := by kernel_rfl
theorem chk22 : chkAt Try.prog T 22 = true := by kernel_rfl
theorem chk23 : chkAt Try.prog T 23 = true := by kernel_rfl
theorem chk24 : chkAt Try.prog T 24 = true := by kernel_rfl
theorem chk25 : chkAt Try.prog T 25 = true := by kernel_rfl
theorem chk26 : chkAt Try.prog T 26 = true := by kernel_rfl
theorem chk27 : chkAt Try.prog T 27 = true := by kernel_rfl
theorem chk28 : chkAt Try.prog T 28 = true := by kernel_rfl
theorem chk29 : chkAt Try.prog T 29 = true := by kernel_rfl
theorem chk30 : chkAt Try.prog T 30 = true := by kernel_rfl
theorem chk31 : chkAt Try.prog T 31 = true := by kernel_rfl
theorem chk32 : chkAt Try.prog T 32 = true := by kernel_rfl
theorem chk33 : chkAt Try.prog T 33 = true := by kernel_rfl
theorem chk34 : chkAt Try.prog T 34 = true := by kernel_rfl
theorem chk35 : chkAt Try.prog T 35 = true := by kernel_rfl
theorem chk36 : chkAt Try.prog T 36 = true := by kernel_rfl
theorem chk37 : chkAt Try.prog T 37 = true := by kernel_rfl
theorem chk38 : chkAt Try.prog T 38 = true := by kernel_rfl
theorem chk39 : chkAt Try.prog T 39 = true := by kernel_rfl
theorem chk40 : chkAt Try.prog T 40 = true := by kernel_rfl
theorem chk43 : chkAt Try.prog T 43 = true := by kernel_rfl
theorem chk46 : chkAt Try.prog T 46 = true := by kernel_rfl
theorem chk47 : chkAt Try.prog T 47 = true := by kernel_rfl
theorem chk48 : chkAt Try.prog T 48 = true := by kernel_rfl
theorem chk49 : chkAt Try.prog T 49 = true := by kernel_rfl
theorem chk50 : chkAt Try.prog T 50 = true := by kernel_rfl
theorem chk53 : chkAt Try.prog T 53 = true := by kernel_rfl
theorem chk54 : chkAt Try.prog T 54 = true := by kernel_rfl
theorem chk55 : chkAt Try.prog T 55 = true := by kernel_rfl
theorem chk56 : chkAt Try.prog T 56 = true := by kernel_rfl
theorem chk57 : chkAt Try.prog T 57 = true := by kernel_rfl
theorem chk58 : chkAt Try.prog T 58 = true := by kernel_rfl
theorem chk59 : chkAt Try.prog T 59 = true := by kernel_rfl
theorem chk60 : chkAt Try.prog T 60 = true := by kernel_rfl
theorem chk61 : chkAt Try.prog T 61 = true := by kernel_rfl
theorem chk62 : chkAt Try.prog T 62 = true := by kernel_rfl
theorem chk63 : chkAt Try.prog T 63 = true := by kernel_rfl
theorem chk64 : chkAt Try.prog T 64 = true := by kernel_rfl
theorem chk67 : chkAt Try.prog T 67 = true := by kernel_rfl
theorem chk68 : chkAt Try.prog T 68 = true := by kernel_rfl
theorem chk69 : chkAt Try.prog T 69 = true := by kernel_rfl
theorem chk70 : chkAt Try.prog T 70 = true := by kernel_rfl
theorem chk71 : chkAt Try.prog T 71 = true := by kernel_rfl
theorem chk72 : chkAt Try.prog T 72 = true := by kernel_rfl
theorem chk73 : chkAt Try.prog T 73 = true := by kernel_rfl
theorem chk74 : chkAt Try.prog T 74 = true := by kernel_rfl
theorem chk75 : chkAt Try.prog T 75 = true := by kernel_rfl
theorem chk76 : chkAt Try.prog T 76 = true := by kernel_rfl
theorem chk88 : chkAt Try.prog T 88 = true := by kernel_rfl
theorem chk89 : chkAt Try.prog T 89 = true := by kernel_rfl
theorem chk90 : chkAt Try.prog T 90 = true := by kernel_rfl
theorem chk91 : chkAt Try.prog T 91 = true := by kernel_rfl
theorem chk92 : chkAt Try.prog T 92 = true := by kernel_rfl
theorem chk93 : chkAt Try.prog T 93 = true := by kernel_rfl
theorem chk94 : chkAt Try.prog T 94 = true := by kernel_rfl
theorem chk95 : chkAt Try.prog T 95 = true := by kernel_rfl
theorem chk96 : chkAt Try.prog T 96 = true := by kernel_rfl
theorem chk97 : chkAt Try.prog T 97 = true := by kernel_rfl
theorem chk98 : chkAt Try.prog T 98 = true := by kernel_rfl
theorem chk99 : chkAt Try.prog T 99 = true := by kernel_rfl
theorem chk100 : chkAt Try.prog T 100 = true := by kernel_rfl
theorem chk101 : chkAt Try.prog T 101 = true := by kernel_rfl
theorem chk103 : chkAt Try.prog T 103 = true := by kernel_rfl
theorem chk110 : chkAt Try.prog T 110 = true := by kernel_rfl
theorem chk111 : chkAt Try.prog T 111 = true := by kernel_rfl
theorem chk112 : chkAt Try.prog T 112 = true := by kernel_rfl
theorem chk113 : chkAt Try.prog T 113 = true := by kernel_rfl
theorem chk114 : chkAt Try.prog T 114 = true := by kernel_rfl
theorem chk115 : chkAt Try.prog T 115 = true := by kernel_rfl
theorem chk116 : chkAt Try.prog T 116 = true := by kernel_rfl
theorem chk117 : chkAt Try.prog T 117 = true := by kernel_rfl
theorem chk118 : chkAt Try.prog T 118 = true := by kernel_rfl
theorem chk119 : chkAt Try.prog T 119 = true := by kernel_rfl
theorem chk120 : chkAt Try.prog T 120 = true := by kernel_rfl
theorem chk121 : chkAt Try.prog T 121 = true := by kernel_rfl
theorem chk123 : chkAt Try.prog T 123 = true := by kernel_rfl
theorem chk124 : chkAt Try.prog T 124 = true := by kernel_rfl
theorem chk125 : chkAt Try.prog T 125 = true := by kernel_rfl
theorem chk126 : chkAt Try.prog T 126 = true := by kernel_rfl
theorem chk127 : chkAt Try.prog T 127 = true := by kernel_rfl
theorem chk1000032 : chkAt Try.prog T 1000032 = true := by kernel_rfl

theorem exP : ∀ f, extP f = true → T f = none := by
  intro f h
  unfold extP at h
  first
    | (cases h; done)
    | (split at h
       all_goals first | rfl | (cases h; done))

theorem extOk : ExtOk Try.prog T := by
  intro f args st v st' _ h hr E w cargs S A cs
  unfold ext at h
  split at h
  · exact clone_ok (f := 41) (z := [.int .i64 0]) exP (by kernel_rfl) (by kernel_rfl) (by kernel_rfl) h hr cargs S A cs
  · exact clone_ok (f := 42) (z := [.int .i64 0]) exP (by kernel_rfl) (by kernel_rfl) (by kernel_rfl) h hr cargs S A cs
  · exact clone_ok (f := 44) (z := [.int .i64 0, .int .i64 0]) exP (by kernel_rfl) (by kernel_rfl) (by kernel_rfl) h hr cargs S A cs
  · exact clone_ok (f := 1000041) (z := [.int .i64 0]) exP (by kernel_rfl) (by kernel_rfl) (by kernel_rfl) h hr cargs S A cs
  · exact clone_ok (f := 1000044) (z := [.int .i64 0, .int .i64 0]) exP (by kernel_rfl) (by kernel_rfl) (by kernel_rfl) h hr cargs S A cs
  · exact clone_ok (f := 1000045) (z := [.int .i64 0, .fsl 1 [], .fsl 1 [], .int .i64 0, .int .i64 0, .fsl 2 [], .fsl 7 []]) exP (by kernel_rfl) (by kernel_rfl) (by kernel_rfl) h hr cargs S A cs
  · exact sort_ok int_elt int_ordr (enters_of (f := 51) Try.lays189.f189 (by kernel_rfl) rfl) Try.slices_Sort_int Try.slices_Sort_int_none h cargs S A cs
  · exact comp_ok int_elt int_eq (z := 0) (zb := 0) rfl (enters_of (f := 52) Try.laysNm220.f20 (by kernel_rfl) rfl) Try.slices_Compact_int Try.slices_Compact_int_empty h cargs S A cs
  · cases h

theorem tabOk : TabOk Try.prog T := by
  refine ⟨?_, extOk, exP⟩
  intro f F h
  have key : chkAt Try.prog T f = true := by
    unfold T at h
    split at h
    · exact chk3
    · exact chk4
    · exact chk5
    · exact chk6
    · exact chk7
    · exact chk8
    · exact chk9
    · exact chk10
    · exact chk11
    · exact chk12
    · exact chk13
    · exact chk14
    · exact chk15
    · exact chk16
    · exact chk17
    · exact chk18
    · exact chk19
    · exact chk20
    · exact chk21
    · exact chk22
    · exact chk23
    · exact chk24
    · exact chk25
    · exact chk26
    · exact chk27
    · exact chk28
    · exact chk29
    · exact chk30
    · exact chk31
    · exact chk32
    · exact chk33
    · exact chk34
    · exact chk35
    · exact chk36
    · exact chk37
    · exact chk38
    · exact chk39
    · exact chk40
    · exact chk43
    · exact chk46
    · exact chk47
    · exact chk48
    · exact chk49
    · exact chk50
    · exact chk53
    · exact chk54
    · exact chk55
    · exact chk56
    · exact chk57
    · exact chk58
    · exact chk59
    · exact chk60
    · exact chk61
    · exact chk62
    · exact chk63
    · exact chk64
    · exact chk67
    · exact chk68
    · exact chk69
    · exact chk70
    · exact chk71
    · exact chk72
    · exact chk73
    · exact chk74
    · exact chk75
    · exact chk76
    · exact chk88
    · exact chk89
    · exact chk90
    · exact chk91
    · exact chk92
    · exact chk93
    · exact chk94
    · exact chk95
    · exact chk96
    · exact chk97
    · exact chk98
    · exact chk99
    · exact chk100
    · exact chk101
    · exact chk103
    · exact chk110
    · exact chk111
    · exact chk112
    · exact chk113
    · exact chk114
    · exact chk115
    · exact chk116
    · exact chk117
    · exact chk118
    · exact chk119
    · exact chk120
    · exact chk121
    · exact chk123
    · exact chk124
    · exact chk125
    · exact chk126
    · exact chk127
    · exact chk1000032
    all_goals cases h
  unfold chkAt at key
  rw [h] at key
  split at key
  · rename_i fn F' h1 h2
    obtain rfl := Option.some.inj h2
    exact ⟨fn, h1, key⟩
  · rename_i h2; cases h2
  · cases key

end Go.Proofs.Ytgabnhmjlhhojaa.A
