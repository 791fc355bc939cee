/- The page's example, in whatever store. -/
import Derived.Test.YtkecobdhgabknaaGreatDoorShift3
import Derived.Test.YtkecobdhgabknaaGreatDoorCode
import Derived.KernelRfl
import Derived.Test.YtkecobdhgabknaaGreatDoorXU
import Derived.Test.YtkecobdhgabknaaGreatDoorXJ
import Derived.Test.YtkecobdhgabknaaGreatDoorXF
import Derived.Shelf.Sort.Plain
import Derived.Shelf.Slices.CompactS
import Derived.Shelf.Slices.In.SortNone
import Derived.Test.YtkecobdhgabknaaGreatDoorProg
namespace Go.Proofs.YtkecobdhgabknaaGreatDoor.A
open Go

theorem shTab : ∀ n f F, T f = some F → shF n F = F := by
  intro n f F h
  unfold T at h
  split at h
  all_goals first | (cases h; done) | (obtain rfl := Option.some.inj h; rfl)

theorem shGlobs : ∀ g cs n, globs g = some cs → shL n cs = cs := by
  intro g cs n h
  unfold globs at h
  split at h
  · obtain rfl := Option.some.inj h; rfl
  · cases h

end Go.Proofs.YtkecobdhgabknaaGreatDoor.A
/- The chapter's examples, in whatever store. -/
namespace Go.Proofs.YtkecobdhgabknaaGreatDoor.A
open Go

theorem alive_k : (orc T 60).call 5 [] ⟨[], 0, []⟩ = some (.bool true, ⟨[], 0, []⟩) := by kernel_rfl
theorem alive_any (o : List Obj) (ro : Nat) (df : List Nat) : (D T).call 5 [] ⟨o, ro, df⟩ = some (.bool true, ⟨o, ro, df⟩) :=
  call_any shTab shGlobs (by exact rfl) rfl (fun _ => rfl) alive_k o ro df

end Go.Proofs.YtkecobdhgabknaaGreatDoor.A
/- ProofParts: for any proof, way and rule the law's function answers true. No condition beyond the given statement's. -/
namespace Go.Proofs.YtkecobdhgabknaaGreatDoor.A
open Go
set_option maxRecDepth 10000
set_option linter.unusedSimpArgs false
set_option linter.unusedVariables false
attribute [-simp] List.all_eq_true put slot_def ld idxA lenOf elems canA app hand slc

theorem zPf_ok : zPf.ok := by
  simp [zPf, zT, zC, zU, Pf.ok, Tm.ok, Cl.ok, Cu.ok, okL, okC, okPf, okCu, mxB]
  have i0 : inI 0 := by unfold inI; omega
  exact ⟨i0, by decide, by decide, i0, ⟨by simp, by simp⟩, i0, ⟨by simp, by simp⟩⟩
theorem atP_ok : ∀ (w : List Int) (p : Pf), p.ok → ((atP p w).getD zPf).ok
  | [], p, h => h
  | i :: w, p, h => by
    simp only [atP]
    split
    · exact zPf_ok
    · split
      · rename_i q e
        exact atP_ok w q (sub_ok h e)
      · exact zPf_ok

theorem law_parts38 (p : Pf) (way : List Int) (rule : Int) (hp : p.ok) (hw0 : way.length ≤ mxB) : (D T).call 3 [p.av, .sl 1 (intA way), .int .i64 rule] st0 = some (.bool true, st0) := by
  have wlen := intA_len way
  unfold mxB at hw0
  have f1 := fun st => few_eq p hp 2000 (by omega) (by omega) st
  have al := fun o ro df => alive_any o ro df
  have x1 := p_take p
  have x2 := p_can p
  have x3 := plen p
  have x4 := p_one p
  by_cases k : pw p 2000 ≤ 2000
  rotate_left
  · simp only [Pf.av] at f1
    apply call_by (by exact rfl : T 3 = some _) (by simp)
    intro fr hfr hsl
    have s0 := hsl 0 _ rfl
    have s1 := hsl 1 _ rfl
    have s2 := hsl 2 _ rfl
    simp only [Pf.av] at s0
    simp -implicitDefEqProofs [hfr, s0, s1, s2, st0, f1, al, k, x1, x2, x3, x4, get_base0, -getElem?_pos, List.getElem?_cons_zero]
  by_cases m : 100 < (way.length : Int)
  · simp only [Pf.av] at f1
    apply call_by (by exact rfl : T 3 = some _) (by simp)
    intro fr hfr hsl
    have s0 := hsl 0 _ rfl
    have s1 := hsl 1 _ rfl
    have s2 := hsl 2 _ rfl
    simp only [Pf.av] at s0
    simp -implicitDefEqProofs [hfr, s0, s1, s2, st0, f1, al, k, m, wlen, x1, x2, x3, x4, get_base0, -getElem?_pos, List.getElem?_cons_zero]
  obtain ⟨hsm, hsz⟩ := pw_sm p 2000 (by omega) (by omega) k
  have hs1 : psz p ≤ 100000 := by omega
  have h1 := fun o ro df => pAt_eq p hp hsm way (by omega) o ro df
  have h2 := fun o ro df => rAt_eq p hp way (by omega) o ro df
  have h3 := fun o ro df => pOpen_eq p hp (by omega) o ro df
  have h4 := fun o ro df => rOpen_eq p hp hs1 o ro df
  have hol := opW_len p []
  have h5 := fun st => blits_same (opW p []) (by omega) (fun w hw => by
    have := opW_ways p [] w hw
    unfold mxB
    simp at this
    omega) st
  have aok := atP_ok way p hp
  have h6 := fun st => rexact_eq _ aok _ aok st
  rw [xc_self] at h6
  have h7 := fun o ro df => pCount_eq p hp (by omega) rule o ro df
  have h8 := fun o ro df => rCount_eq rule p hp (by omega) o ro df
  have h9 := fun o ro df => pFacts_eq p hp hs1 o ro df
  have h10 := fun o ro df => rFacts_eq p hp hs1 o ro df
  have hfl := fN_len p
  have hrl : (rising (fN p)).length ≤ 4294967296 := by
    rw [rising_putF]
    have := putF_len (fN p) []
    simp at this
    omega
  have h11 := fun st => bstrs_same _ hrl st
  generalize rising (fN p) = RF at *
  generalize opW p [] = OW at *
  generalize ctR rule p = CR at *
  generalize (atP p way).isSome = IS at *
  generalize (atP p way).getD zPf = q at *
  have y1 := p_take q
  have y2 := p_can q
  have y3 := plen q
  have y4 := p_one q
  simp only [Pf.av] at f1 h1 h2 h3 h4 h7 h8 h9 h10
  apply call_by (by exact rfl : T 3 = some _) (by simp)
  intro fr hfr hsl
  have s0 := hsl 0 _ rfl
  have s1 := hsl 1 _ rfl
  have s2 := hsl 2 _ rfl
  simp only [Pf.av] at s0
  simp -implicitDefEqProofs [hfr, s0, s1, s2, st0, f1, al, k, m, wlen, h1, h2, h3, h4, h5, h6, h7, h8, h9, h10, h11, pset, x1, x2, x3, x4, y1, y2, y3, y4, get_base0, get_base, set_base0, set_base, -getElem?_pos, List.getElem?_cons_zero, List.getElem?_cons_succ]

end Go.Proofs.YtkecobdhgabknaaGreatDoor.A
/- The contracts of slices.Sort and slices.Compact at this program (written by the kit's lay-shelf.mjs and lay-plain.mjs). -/
namespace Go.Proofs
open Go.Shelf
def Tryz.lays190_ren : Go.Shelf.Ren := ⟨fun | 190 => 31 | 125 => 57 | 258 => 56 | 128 => 80 | 129 => 81 | 302 => 71 | 303 => 72 | 304 => 73 | 305 => 74 | 306 => 75 | 307 => 76 | 308 => 77 | 309 => 78 | 310 => 79 | 333 => 93 | 329 => 94 | 330 => 95 | 334 => 96 | 335 => 97 | 336 => 98 | 344 => 106 | n => n, fun | 31 => 53 | 9 => 9 | 3 => 3 | 46 => 97 | 0 => 0 | 51 => 121 | 53 => 123 | 4 => 4 | 183 => 113 | 182 => 112 | 131 => 118 | 5 => 5 | 218 => 133 | 222 => 137 | 228 => 146 | 229 => 147 | n => n, fun | n => n⟩
theorem Tryz.lays190 : Go.Proofs.Lays.n190 Tryz.prog Tryz.lays190_ren := {
  mixed := by kernel_rfl
  f125 := Tryz.func57.trans (congrArg some (by kernel_rfl))
  f128 := Tryz.func80.trans (congrArg some (by kernel_rfl))
  f129 := Tryz.func81.trans (congrArg some (by kernel_rfl))
  f190 := Tryz.func31.trans (congrArg some (by kernel_rfl))
  f258 := Tryz.func56.trans (congrArg some (by kernel_rfl))
  f302 := Tryz.func71.trans (congrArg some (by kernel_rfl))
  f303 := Tryz.func72.trans (congrArg some (by kernel_rfl))
  f304 := Tryz.func73.trans (congrArg some (by kernel_rfl))
  f305 := Tryz.func74.trans (congrArg some (by kernel_rfl))
  f306 := Tryz.func75.trans (congrArg some (by kernel_rfl))
  f307 := Tryz.func76.trans (congrArg some (by kernel_rfl))
  f308 := Tryz.func77.trans (congrArg some (by kernel_rfl))
  f309 := Tryz.func78.trans (congrArg some (by kernel_rfl))
  f310 := Tryz.func79.trans (congrArg some (by kernel_rfl))
  f329 := Tryz.func94.trans (congrArg some (by kernel_rfl))
  f330 := Tryz.func95.trans (congrArg some (by kernel_rfl))
  f333 := Tryz.func93.trans (congrArg some (by kernel_rfl))
  f334 := Tryz.func96.trans (congrArg some (by kernel_rfl))
  f335 := Tryz.func97.trans (congrArg some (by kernel_rfl))
  f336 := Tryz.func98.trans (congrArg some (by kernel_rfl))
  f344 := Tryz.func106.trans (congrArg some (by kernel_rfl))
  t0 := Tryz.underlying0
  a0 := Tryz.isAgg0
  z0 := Tryz.sizeOf0
  v0 := Tryz.zeroValue0
  t3 := Tryz.underlying3
  a3 := Tryz.isAgg3
  z3 := Tryz.sizeOf3
  v3 := Tryz.zeroValue3
  t4 := Tryz.underlying4
  a4 := Tryz.isAgg4
  z4 := Tryz.sizeOf4
  v4 := Tryz.zeroValue4
  t5 := Tryz.underlying5
  a5 := Tryz.isAgg5
  z5 := Tryz.sizeOf5
  v5 := Tryz.zeroValue5
  t9 := Tryz.underlying9
  a9 := Tryz.isAgg9
  z9 := Tryz.sizeOf9
  v9 := Tryz.zeroValue9
  t31 := Tryz.underlying53
  a31 := Tryz.isAgg53
  z31 := Tryz.sizeOf53
  v31 := Tryz.zeroValue53
  t46 := Tryz.underlying97
  a46 := Tryz.isAgg97
  z46 := Tryz.sizeOf97
  v46 := Tryz.zeroValue97
  t51 := Tryz.underlying121
  a51 := Tryz.isAgg121
  z51 := Tryz.sizeOf121
  v51 := Tryz.zeroValue121
  t53 := Tryz.underlying123
  a53 := Tryz.isAgg123
  z53 := Tryz.sizeOf123
  v53 := Tryz.zeroValue123
  t131 := Tryz.underlying118
  a131 := Tryz.isAgg118
  z131 := Tryz.sizeOf118
  v131 := Tryz.zeroValue118
  t182 := Tryz.underlying112
  a182 := Tryz.isAgg112
  z182 := Tryz.sizeOf112
  v182 := Tryz.zeroValue112
  t183 := Tryz.underlying113
  a183 := Tryz.isAgg113
  z183 := Tryz.sizeOf113
  v183 := Tryz.zeroValue113
  t218 := Tryz.underlying133
  a218 := Tryz.isAgg133
  z218 := Tryz.sizeOf133
  v218 := Tryz.zeroValue133
  t222 := Tryz.underlying137
  a222 := Tryz.isAgg137
  z222 := Tryz.sizeOf137
  v222 := Tryz.zeroValue137
  t228 := Tryz.underlying146
  a228 := Tryz.isAgg146
  z228 := Tryz.sizeOf146
  v228 := Tryz.zeroValue146
  t229 := Tryz.underlying147
  a229 := Tryz.isAgg147
  z229 := Tryz.sizeOf147
  v229 := Tryz.zeroValue147 }
open Go.Sort Go.RowKit in
theorem Tryz.slices_Sort_string (blk off cap : Nat) (ss : List (List UInt8)) (w : World) (hH : Holds encStr w blk off ss.toArray) (hblk : blk < w.heap.size) (hsz : ss.length < 4611686018427387904) :
    Calls Tryz.prog 31 #[.slice (some ⟨blk, off, none⟩) ss.length cap] w fun e w' =>
      e = .returned (.tuple #[]) ∧ ∃ n os, w' = grow (putRow encStr (Sort.ahead w n) blk off (ss.mergeSort fun x y => decide (x ≤ y)).toArray) os := Any.slices_Sort_string Tryz.lays190 blk off cap ss w hH hblk hsz
def Tryz.lays194_ren : Go.Shelf.Ren := ⟨fun | 194 => 32 | n => n, fun | 31 => 53 | 9 => 9 | 3 => 3 | 4 => 4 | 0 => 0 | n => n, fun | n => n⟩
theorem Tryz.lays194 : Go.Proofs.Lays.n194 Tryz.prog Tryz.lays194_ren := {
  mixed := by kernel_rfl
  f194 := Tryz.func32.trans (congrArg some (by kernel_rfl))
  t0 := Tryz.underlying0
  a0 := Tryz.isAgg0
  z0 := Tryz.sizeOf0
  v0 := Tryz.zeroValue0
  t3 := Tryz.underlying3
  a3 := Tryz.isAgg3
  z3 := Tryz.sizeOf3
  v3 := Tryz.zeroValue3
  t4 := Tryz.underlying4
  a4 := Tryz.isAgg4
  z4 := Tryz.sizeOf4
  v4 := Tryz.zeroValue4
  t9 := Tryz.underlying9
  a9 := Tryz.isAgg9
  z9 := Tryz.sizeOf9
  v9 := Tryz.zeroValue9
  t31 := Tryz.underlying53
  a31 := Tryz.isAgg53
  z31 := Tryz.sizeOf53
  v31 := Tryz.zeroValue53 }
open Go.RowKit Go.Lib Go.Sort in
theorem Tryz.slices_Compact_string (blk off cap : Nat) (zs : List (List UInt8)) (w : World) (hH : Holds encStr w blk off zs.toArray) (hsz : zs.length ≤ 9223372036854775807) (hcap : zs.length ≤ cap) :
    Calls Tryz.prog 32 #[.slice (some ⟨blk, off, none⟩) zs.length cap] w fun e w' => e = .returned (.slice (some ⟨blk, off, none⟩) (Lib.compact zs).length cap) ∧ ∃ q, w' = putRow encStr (Sort.ahead w q) blk off (Lib.compact zs ++ List.replicate (zs.length - (Lib.compact zs).length) []).toArray := Any.slices_Compact_string Tryz.lays194 blk off cap zs w hH hsz hcap
open Go.RowKit Go.Lib Go.Sort in
theorem Tryz.slices_Compact_string_empty (a : Option Addr) (cap : Nat) (w : World) :
    Calls Tryz.prog 32 #[.slice a 0 cap] w fun e w' => e = .returned (.slice a 0 cap) ∧ w' = w := Any.slices_Compact_string_empty Tryz.lays194 a cap w
open Go.RowKit Go.Sort in
theorem Tryz.slices_Sort_string_none (p : Option Addr) (cap : Nat) (w : World) :
    Calls Tryz.prog 31 #[.slice p 0 cap] w fun e w' => e = .returned (.tuple #[]) ∧ w' = w := Any.slices_Sort_string_none Tryz.lays190 p cap w
end Go.Proofs
