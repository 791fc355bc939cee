/- The table's functions are the program's. -/
import Derived.Test.YtcoonnbkmklenaaVYieldS
import Derived.Test.YtcoonnbkmklenaaVExtS
import Derived.Test.YtcoonnbkmklenaaVShelf
import Derived.Test.YtcoonnbkmklenaaVCode
import Derived.Test.YtcoonnbkmklenaaProg
import Derived.KernelRfl
namespace Go.Proofs.Ytcoonnbkmklenaa.A
open Go

theorem chk6 : chkAt Try.prog T 6 = true := by kernel_rfl
theorem chk10 : chkAt Try.prog T 10 = true := by kernel_rfl
theorem chk11 : chkAt Try.prog T 11 = true := by kernel_rfl
theorem chk12 : chkAt Try.prog T 12 = true := by kernel_rfl
theorem chk14 : chkAt Try.prog T 14 = true := by kernel_rfl
theorem chk15 : chkAt Try.prog T 15 = true := by kernel_rfl
theorem chk16 : chkAt Try.prog T 16 = true := by kernel_rfl
theorem chk18 : chkAt Try.prog T 18 = true := by kernel_rfl
theorem chk19 : chkAt Try.prog T 19 = true := by kernel_rfl
theorem chk22 : chkAt Try.prog T 22 = true := by kernel_rfl
theorem chk23 : chkAt Try.prog T 23 = true := by kernel_rfl
theorem chk24 : chkAt Try.prog T 24 = true := by kernel_rfl
theorem chk30 : chkAt Try.prog T 30 = true := by kernel_rfl
theorem chk31 : chkAt Try.prog T 31 = true := by kernel_rfl
theorem chk32 : chkAt Try.prog T 32 = true := by kernel_rfl
theorem chk33 : chkAt Try.prog T 33 = true := by kernel_rfl
theorem chk34 : chkAt Try.prog T 34 = true := by kernel_rfl
theorem chk35 : chkAt Try.prog T 35 = true := by kernel_rfl
theorem chk36 : chkAt Try.prog T 36 = true := by kernel_rfl
theorem chk39 : chkAt Try.prog T 39 = true := by kernel_rfl
theorem chk40 : chkAt Try.prog T 40 = true := by kernel_rfl
theorem chk41 : chkAt Try.prog T 41 = true := by kernel_rfl
theorem chk42 : chkAt Try.prog T 42 = true := by kernel_rfl
theorem chk48 : chkAt Try.prog T 48 = true := by kernel_rfl
theorem chk49 : chkAt Try.prog T 49 = true := by kernel_rfl
theorem chk50 : chkAt Try.prog T 50 = true := by kernel_rfl
theorem chk51 : chkAt Try.prog T 51 = true := by kernel_rfl
theorem chk52 : chkAt Try.prog T 52 = true := by kernel_rfl
theorem chk53 : chkAt Try.prog T 53 = true := by kernel_rfl
theorem chk54 : chkAt Try.prog T 54 = true := by kernel_rfl
theorem chk55 : chkAt Try.prog T 55 = true := by kernel_rfl

theorem extOk : ExtOk Try.prog T := by
  intro f args st v st' _ h _ E w cargs S A cs
  unfold ext at h
  split at h
  · exact sort_ok str_elt str_ordr (enters_of (f := 45) Try.lays190.f190 (by kernel_rfl) rfl) Try.slices_Sort_string Try.slices_Sort_string_none h cargs S A cs
  · exact comp_ok str_elt str_eq (z := ⟨#[]⟩) (zb := []) rfl (enters_of (f := 46) Try.lays194.f194 (by kernel_rfl) rfl) Try.slices_Compact_string Try.slices_Compact_string_empty h cargs S A cs
  · cases h

theorem tabOk : TabOk Try.prog T := by
  refine ⟨?_, extOk⟩
  intro f F h
  have key : chkAt Try.prog T f = true := by
    unfold T at h
    split at h
    · exact chk6
    · exact chk10
    · exact chk11
    · exact chk12
    · exact chk14
    · exact chk15
    · exact chk16
    · exact chk18
    · exact chk19
    · exact chk22
    · exact chk23
    · exact chk24
    · exact chk30
    · exact chk31
    · exact chk32
    · exact chk33
    · exact chk34
    · exact chk35
    · exact chk36
    · exact chk39
    · exact chk40
    · exact chk41
    · exact chk42
    · exact chk48
    · exact chk49
    · exact chk50
    · exact chk51
    · exact chk52
    · exact chk53
    · exact chk54
    · exact chk55
    all_goals cases h
  unfold chkAt at key
  rw [h] at key
  split at key
  · rename_i fn F' h1 h2
    obtain rfl := Option.some.inj h2
    exact ⟨fn, h1, key⟩
  · rename_i h2; cases h2
  · cases key

end Go.Proofs.Ytcoonnbkmklenaa.A
