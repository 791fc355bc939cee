/- The table's functions are the program's. -/
import Derived.Test.YtkecobdhgabknaaGreatDoorYieldS
import Derived.Test.YtkecobdhgabknaaGreatDoorExtS
import Derived.Test.YtkecobdhgabknaaGreatDoorShelf
import Derived.Test.YtkecobdhgabknaaGreatDoorExtC
import Derived.Test.YtkecobdhgabknaaGreatDoorCode
import Derived.Test.YtkecobdhgabknaaGreatDoorProg
import Derived.KernelRfl
namespace Go.Proofs.YtkecobdhgabknaaGreatDoor.A
open Go

theorem chk3 : chkAt Tryz.prog T 3 = true := by kernel_rfl
theorem chk4 : chkAt Tryz.prog T 4 = true := by kernel_rfl
theorem chk5 : chkAt Tryz.prog T 5 = true := by kernel_rfl
theorem chk6 : chkAt Tryz.prog T 6 = true := by kernel_rfl
theorem chk7 : chkAt Tryz.prog T 7 = true := by kernel_rfl
theorem chk8 : chkAt Tryz.prog T 8 = true := by kernel_rfl
theorem chk9 : chkAt Tryz.prog T 9 = true := by kernel_rfl
theorem chk10 : chkAt Tryz.prog T 10 = true := by kernel_rfl
theorem chk11 : chkAt Tryz.prog T 11 = true := by kernel_rfl
theorem chk12 : chkAt Tryz.prog T 12 = true := by kernel_rfl
theorem chk13 : chkAt Tryz.prog T 13 = true := by kernel_rfl
theorem chk14 : chkAt Tryz.prog T 14 = true := by kernel_rfl
theorem chk15 : chkAt Tryz.prog T 15 = true := by kernel_rfl
theorem chk16 : chkAt Tryz.prog T 16 = true := by kernel_rfl
theorem chk17 : chkAt Tryz.prog T 17 = true := by kernel_rfl
theorem chk18 : chkAt Tryz.prog T 18 = true := by kernel_rfl
theorem chk19 : chkAt Tryz.prog T 19 = true := by kernel_rfl
theorem chk20 : chkAt Tryz.prog T 20 = true := by kernel_rfl
theorem chk21 : chkAt Tryz.prog T 21 = true := by kernel_rfl
theorem chk22 : chkAt Tryz.prog T 22 = true := by kernel_rfl
theorem chk24 : chkAt Tryz.prog T 24 = true := by kernel_rfl
theorem chk26 : chkAt Tryz.prog T 26 = true := by kernel_rfl
theorem chk27 : chkAt Tryz.prog T 27 = true := by kernel_rfl
theorem chk28 : chkAt Tryz.prog T 28 = true := by kernel_rfl
theorem chk29 : chkAt Tryz.prog T 29 = true := by kernel_rfl
theorem chk30 : chkAt Tryz.prog T 30 = true := by kernel_rfl
theorem chk33 : chkAt Tryz.prog T 33 = true := by kernel_rfl
theorem chk34 : chkAt Tryz.prog T 34 = true := by kernel_rfl
theorem chk35 : chkAt Tryz.prog T 35 = true := by kernel_rfl
theorem chk36 : chkAt Tryz.prog T 36 = true := by kernel_rfl
theorem chk37 : chkAt Tryz.prog T 37 = true := by kernel_rfl
theorem chk38 : chkAt Tryz.prog T 38 = true := by kernel_rfl
theorem chk39 : chkAt Tryz.prog T 39 = true := by kernel_rfl
theorem chk40 : chkAt Tryz.prog T 40 = true := by kernel_rfl
theorem chk41 : chkAt Tryz.prog T 41 = true := by kernel_rfl
theorem chk42 : chkAt Tryz.prog T 42 = true := by kernel_rfl
theorem chk43 : chkAt Tryz.prog T 43 = true := by kernel_rfl
theorem chk44 : chkAt Tryz.prog T 44 = true := by kernel_rfl
theorem chk45 : chkAt Tryz.prog T 45 = true := by kernel_rfl
theorem chk46 : chkAt Tryz.prog T 46 = true := by kernel_rfl
theorem chk47 : chkAt Tryz.prog T 47 = true := by kernel_rfl
theorem chk48 : chkAt Tryz.prog T 48 = true := by kernel_rfl
theorem chk49 : chkAt Tryz.prog T 49 = true := by kernel_rfl
theorem chk50 : chkAt Tryz.prog T 50 = true := by kernel_rfl
theorem chk51 : chkAt Tryz.prog T 51 = true := by kernel_rfl
theorem chk52 : chkAt Tryz.prog T 52 = true := by kernel_rfl
theorem chk53 : chkAt Tryz.prog T 53 = true := by kernel_rfl
theorem chk54 : chkAt Tryz.prog T 54 = true := by kernel_rfl
theorem chk55 : chkAt Tryz.prog T 55 = true := by kernel_rfl
theorem chk58 : chkAt Tryz.prog T 58 = true := by kernel_rfl
theorem chk59 : chkAt Tryz.prog T 59 = true := by kernel_rfl
theorem chk60 : chkAt Tryz.prog T 60 = true := by kernel_rfl
theorem chk61 : chkAt Tryz.prog T 61 = true := by kernel_rfl
theorem chk62 : chkAt Tryz.prog T 62 = true := by kernel_rfl
theorem chk63 : chkAt Tryz.prog T 63 = true := by kernel_rfl
theorem chk66 : chkAt Tryz.prog T 66 = true := by kernel_rfl
theorem chk67 : chkAt Tryz.prog T 67 = true := by kernel_rfl
theorem chk68 : chkAt Tryz.prog T 68 = true := by kernel_rfl
theorem chk69 : chkAt Tryz.prog T 69 = true := by kernel_rfl
theorem chk70 : chkAt Tryz.prog T 70 = true := by kernel_rfl
theorem chk82 : chkAt Tryz.prog T 82 = true := by kernel_rfl
theorem chk83 : chkAt Tryz.prog T 83 = true := by kernel_rfl
theorem chk84 : chkAt Tryz.prog T 84 = true := by kernel_rfl
theorem chk85 : chkAt Tryz.prog T 85 = true := by kernel_rfl
theorem chk86 : chkAt Tryz.prog T 86 = true := by kernel_rfl
theorem chk87 : chkAt Tryz.prog T 87 = true := by kernel_rfl
theorem chk88 : chkAt Tryz.prog T 88 = true := by kernel_rfl
theorem chk89 : chkAt Tryz.prog T 89 = true := by kernel_rfl
theorem chk90 : chkAt Tryz.prog T 90 = true := by kernel_rfl
theorem chk91 : chkAt Tryz.prog T 91 = true := by kernel_rfl
theorem chk92 : chkAt Tryz.prog T 92 = true := by kernel_rfl
theorem chk98 : chkAt Tryz.prog T 98 = true := by kernel_rfl
theorem chk99 : chkAt Tryz.prog T 99 = true := by kernel_rfl
theorem chk100 : chkAt Tryz.prog T 100 = true := by kernel_rfl
theorem chk101 : chkAt Tryz.prog T 101 = true := by kernel_rfl
theorem chk102 : chkAt Tryz.prog T 102 = true := by kernel_rfl
theorem chk103 : chkAt Tryz.prog T 103 = true := by kernel_rfl
theorem chk104 : chkAt Tryz.prog T 104 = true := by kernel_rfl
theorem chk105 : chkAt Tryz.prog T 105 = true := by kernel_rfl
theorem chk107 : chkAt Tryz.prog T 107 = true := by kernel_rfl
theorem chk108 : chkAt Tryz.prog T 108 = true := by kernel_rfl
theorem chk1000023 : chkAt Tryz.prog T 1000023 = true := by kernel_rfl

theorem exP : ∀ f, extP f = true → T f = none := by
  intro f h
  unfold extP at h
  first
    | (cases h; done)
    | (split at h
       all_goals first | rfl | (cases h; done))

theorem extOk : ExtOk Tryz.prog T := by
  intro f args st v st' _ h hr E w cargs S A cs
  unfold ext at h
  split at h
  · exact clone_ok (f := 25) (z := [.int .i64 0]) exP (by kernel_rfl) (by kernel_rfl) (by kernel_rfl) h hr cargs S A cs
  · exact clone_ok (f := 64) (z := [.int .i64 0]) exP (by kernel_rfl) (by kernel_rfl) (by kernel_rfl) h hr cargs S A cs
  · exact clone_ok (f := 65) (z := [.int .i64 0, .int .i64 0]) exP (by kernel_rfl) (by kernel_rfl) (by kernel_rfl) h hr cargs S A cs
  · exact sort_ok str_elt str_ordr (enters_of (f := 31) Tryz.lays190.f190 (by kernel_rfl) rfl) Tryz.slices_Sort_string Tryz.slices_Sort_string_none h cargs S A cs
  · exact comp_ok str_elt str_eq (z := ⟨#[]⟩) (zb := []) rfl (enters_of (f := 32) Tryz.lays194.f194 (by kernel_rfl) rfl) Tryz.slices_Compact_string Tryz.slices_Compact_string_empty h cargs S A cs
  · cases h

theorem tabOk : TabOk Tryz.prog T := by
  refine ⟨?_, extOk, exP⟩
  intro f F h
  have key : chkAt Tryz.prog T f = true := by
    unfold T at h
    split at h
    · exact chk3
    · exact chk4
    · exact chk5
    · exact chk6
    · exact chk7
    · exact chk8
    · exact chk9
    · exact chk10
    · exact chk11
    · exact chk12
    · exact chk13
    · exact chk14
    · exact chk15
    · exact chk16
    · exact chk17
    · exact chk18
    · exact chk19
    · exact chk20
    · exact chk21
    · exact chk22
    · exact chk24
    · exact chk26
    · exact chk27
    · exact chk28
    · exact chk29
    · exact chk30
    · exact chk33
    · exact chk34
    · exact chk35
    · exact chk36
    · exact chk37
    · exact chk38
    · exact chk39
    · exact chk40
    · exact chk41
    · exact chk42
    · exact chk43
    · exact chk44
    · exact chk45
    · exact chk46
    · exact chk47
    · exact chk48
    · exact chk49
    · exact chk50
    · exact chk51
    · exact chk52
    · exact chk53
    · exact chk54
    · exact chk55
    · exact chk58
    · exact chk59
    · exact chk60
    · exact chk61
    · exact chk62
    · exact chk63
    · exact chk66
    · exact chk67
    · exact chk68
    · exact chk69
    · exact chk70
    · exact chk82
    · exact chk83
    · exact chk84
    · exact chk85
    · exact chk86
    · exact chk87
    · exact chk88
    · exact chk89
    · exact chk90
    · exact chk91
    · exact chk92
    · exact chk98
    · exact chk99
    · exact chk100
    · exact chk101
    · exact chk102
    · exact chk103
    · exact chk104
    · exact chk105
    · exact chk107
    · exact chk108
    · exact chk1000023
    all_goals cases h
  unfold chkAt at key
  rw [h] at key
  split at key
  · rename_i fn F' h1 h2
    obtain rfl := Option.some.inj h2
    exact ⟨fn, h1, key⟩
  · rename_i h2; cases h2
  · cases key

end Go.Proofs.YtkecobdhgabknaaGreatDoor.A
