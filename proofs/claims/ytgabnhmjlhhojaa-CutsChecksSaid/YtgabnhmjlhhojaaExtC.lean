/- The contracts of slices.Sort and slices.Compact at this program (written by the kit's lay-shelf.mjs and lay-plain.mjs). -/
import Derived.Shelf.Sort.Plain
import Derived.Ground.Names2Prog
import Derived.Shelf.Slices.CompactI
import Derived.Shelf.Slices.In.SortNone
import Derived.Test.YtgabnhmjlhhojaaProg
import Derived.Test.YtgabnhmjlhhojaaYieldS
namespace Go.Proofs
open Go.Shelf
def Try.lays189_ren : Go.Shelf.Ren := ⟨fun | 189 => 51 | 125 => 66 | 257 => 65 | 128 => 86 | 129 => 87 | 294 => 77 | 295 => 78 | 296 => 79 | 297 => 80 | 298 => 81 | 299 => 82 | 216 => 83 | 300 => 84 | 301 => 85 | 328 => 104 | 329 => 105 | 330 => 106 | 331 => 107 | 332 => 108 | 215 => 109 | 343 => 122 | n => n, fun | 28 => 22 | 3 => 3 | 46 => 98 | 0 => 0 | 51 => 121 | 53 => 106 | 4 => 4 | 183 => 114 | 182 => 113 | 131 => 84 | 5 => 5 | 9 => 9 | 218 => 141 | 222 => 145 | 228 => 159 | 229 => 160 | n => n, fun | n => n⟩
theorem Try.lays189 : Go.Proofs.Lays.n189 Try.prog Try.lays189_ren := {
  mixed := by kernel_rfl
  f125 := Try.func66.trans (congrArg some (by kernel_rfl))
  f128 := Try.func86.trans (congrArg some (by kernel_rfl))
  f129 := Try.func87.trans (congrArg some (by kernel_rfl))
  f189 := Try.func51.trans (congrArg some (by kernel_rfl))
  f215 := Try.func109.trans (congrArg some (by kernel_rfl))
  f216 := Try.func83.trans (congrArg some (by kernel_rfl))
  f257 := Try.func65.trans (congrArg some (by kernel_rfl))
  f294 := Try.func77.trans (congrArg some (by kernel_rfl))
  f295 := Try.func78.trans (congrArg some (by kernel_rfl))
  f296 := Try.func79.trans (congrArg some (by kernel_rfl))
  f297 := Try.func80.trans (congrArg some (by kernel_rfl))
  f298 := Try.func81.trans (congrArg some (by kernel_rfl))
  f299 := Try.func82.trans (congrArg some (by kernel_rfl))
  f300 := Try.func84.trans (congrArg some (by kernel_rfl))
  f301 := Try.func85.trans (congrArg some (by kernel_rfl))
  f328 := Try.func104.trans (congrArg some (by kernel_rfl))
  f329 := Try.func105.trans (congrArg some (by kernel_rfl))
  f330 := Try.func106.trans (congrArg some (by kernel_rfl))
  f331 := Try.func107.trans (congrArg some (by kernel_rfl))
  f332 := Try.func108.trans (congrArg some (by kernel_rfl))
  f343 := Try.func122.trans (congrArg some (by kernel_rfl))
  t0 := Try.underlying0
  a0 := Try.isAgg0
  z0 := Try.sizeOf0
  v0 := Try.zeroValue0
  t3 := Try.underlying3
  a3 := Try.isAgg3
  z3 := Try.sizeOf3
  v3 := Try.zeroValue3
  t4 := Try.underlying4
  a4 := Try.isAgg4
  z4 := Try.sizeOf4
  v4 := Try.zeroValue4
  t5 := Try.underlying5
  a5 := Try.isAgg5
  z5 := Try.sizeOf5
  v5 := Try.zeroValue5
  t9 := Try.underlying9
  a9 := Try.isAgg9
  z9 := Try.sizeOf9
  v9 := Try.zeroValue9
  t28 := Try.underlying22
  a28 := Try.isAgg22
  z28 := Try.sizeOf22
  v28 := Try.zeroValue22
  t46 := Try.underlying98
  a46 := Try.isAgg98
  z46 := Try.sizeOf98
  v46 := Try.zeroValue98
  t51 := Try.underlying121
  a51 := Try.isAgg121
  z51 := Try.sizeOf121
  v51 := Try.zeroValue121
  t53 := Try.underlying106
  a53 := Try.isAgg106
  z53 := Try.sizeOf106
  v53 := Try.zeroValue106
  t131 := Try.underlying84
  a131 := Try.isAgg84
  z131 := Try.sizeOf84
  v131 := Try.zeroValue84
  t182 := Try.underlying113
  a182 := Try.isAgg113
  z182 := Try.sizeOf113
  v182 := Try.zeroValue113
  t183 := Try.underlying114
  a183 := Try.isAgg114
  z183 := Try.sizeOf114
  v183 := Try.zeroValue114
  t218 := Try.underlying141
  a218 := Try.isAgg141
  z218 := Try.sizeOf141
  v218 := Try.zeroValue141
  t222 := Try.underlying145
  a222 := Try.isAgg145
  z222 := Try.sizeOf145
  v222 := Try.zeroValue145
  t228 := Try.underlying159
  a228 := Try.isAgg159
  z228 := Try.sizeOf159
  v228 := Try.zeroValue159
  t229 := Try.underlying160
  a229 := Try.isAgg160
  z229 := Try.sizeOf160
  v229 := Try.zeroValue160 }
open Go.Sort Go.RowKit in
theorem Try.slices_Sort_int (blk off cap : Nat) (zs : List Int) (w : World) (hH : Holds (Value.int .i64) w blk off zs.toArray) (hblk : blk < w.heap.size) (hsz : zs.length < 4611686018427387904) :
    Calls Try.prog 51 #[.slice (some ⟨blk, off, none⟩) zs.length cap] w fun e w' =>
      e = .returned (.tuple #[]) ∧ ∃ n os, w' = grow (putRow (Value.int .i64) (Sort.ahead w n) blk off (zs.mergeSort fun x y => decide (x ≤ y)).toArray) os := Any.slices_Sort_int Try.lays189 blk off cap zs w hH hblk hsz
def Try.laysNm220_ren : Go.Shelf.Ren := ⟨fun | 20 => 52 | n => n, fun | 22 => 22 | 3 => 3 | 4 => 4 | 0 => 0 | n => n, fun | n => n⟩
theorem Try.laysNm220 : Go.Proofs.Lays2.n20 Try.prog Try.laysNm220_ren := {
  mixed := by kernel_rfl
  f20 := Try.func52.trans (congrArg some (by kernel_rfl))
  t0 := Try.underlying0
  a0 := Try.isAgg0
  z0 := Try.sizeOf0
  v0 := Try.zeroValue0
  t3 := Try.underlying3
  a3 := Try.isAgg3
  z3 := Try.sizeOf3
  v3 := Try.zeroValue3
  t4 := Try.underlying4
  a4 := Try.isAgg4
  z4 := Try.sizeOf4
  v4 := Try.zeroValue4
  t22 := Try.underlying22
  a22 := Try.isAgg22
  z22 := Try.sizeOf22
  v22 := Try.zeroValue22
  i3 := by kernel_rfl }
open Go.RowKit Go.Lib Go.Sort in
theorem Try.slices_Compact_int (blk off cap : Nat) (zs : List Int) (w : World) (hH : Holds (Value.int .i64) w blk off zs.toArray) (hsz : zs.length ≤ 9223372036854775807) (hcap : zs.length ≤ cap) :
    Calls Try.prog 52 #[.slice (some ⟨blk, off, none⟩) zs.length cap] w fun e w' => e = .returned (.slice (some ⟨blk, off, none⟩) (Lib.compact zs).length cap) ∧ ∃ q, w' = putRow (Value.int .i64) (Sort.ahead w q) blk off (Lib.compact zs ++ List.replicate (zs.length - (Lib.compact zs).length) 0).toArray := Any.slices_Compact_int Try.laysNm220 blk off cap zs w hH hsz hcap
open Go.RowKit Go.Lib Go.Sort in
theorem Try.slices_Compact_int_empty (a : Option Addr) (cap : Nat) (w : World) :
    Calls Try.prog 52 #[.slice a 0 cap] w fun e w' => e = .returned (.slice a 0 cap) ∧ w' = w := Any.slices_Compact_int_empty Try.laysNm220 a cap w
open Go.RowKit Go.Sort in
theorem Try.slices_Sort_int_none (p : Option Addr) (cap : Nat) (w : World) :
    Calls Try.prog 51 #[.slice p 0 cap] w fun e w' => e = .returned (.tuple #[]) ∧ w' = w := Any.slices_Sort_int_none Try.lays189 p cap w
end Go.Proofs
/- The library's slices.Clone gives what the interpreter takes it to give. -/
namespace Go.Proofs.Ytgabnhmjlhhojaa.A
open Go
set_option linter.unusedSimpArgs false
set_option linter.unusedVariables false

/-- slices.Clone in the interpreter's own code -/
def Fclone (ty sz bytes : Nat) (z : List AV) (own : Bool) : AF :=
  { ntmps := 8, results := [.tmp 2], pure := !own, body :=
    .seq (.ops [⟨some 2, .move (.c (.fsl sz [])), none⟩] false)
      (.seq (.seq (.ops [⟨some 3, .move (.t 0), none⟩, ⟨some 4, .isnil 0 false (.t 3), none⟩] false) (.cond (.t 4) (.seq (.ops [⟨some 2, .move (.c (.fsl sz [])), none⟩] false) .ret) .skip))
        (.seq (.ops [⟨some 5, .buildSl sz z 0 [], none⟩, ⟨some 6, .move (.t 0), none⟩, ⟨some 7, .append ty sz bytes (.t 5) (.t 6), none⟩, ⟨some 2, .move (.t 7), none⟩] false) .ret)) }

def chkCl (P : Program) (T : Tab) (f ty sz bytes : Nat) (z : List AV) (own : Bool) : Bool :=
  match P.funcs[rl f]? with
  | some fn => chkF P T fn (Fclone ty sz bytes z own)
  | none => false

section
variable {P : Program} {T : Tab} {E : Env} {st st' : St} {w : World}

def O0 : Orc := { call := fun _ _ _ => none, yield := fun _ _ _ => none, loop := fun _ _ _ _ => none }
theorem O0_snd : SndO P T O0 := ⟨⟨fun _ _ _ _ _ h => by simp [O0] at h, fun _ _ _ _ _ h => by simp [O0] at h, fun _ _ _ _ _ _ _ h => by simp [O0] at h⟩, fun _ _ _ _ _ h => by simp [O0] at h, fun _ _ _ _ _ h => by simp [O0] at h, fun _ _ _ _ _ _ _ h => by simp [O0] at h⟩
theorem O0_pure (hx : ∀ f, extP f = true → T f = none) : OPure T O0 := ⟨fun _ _ _ _ _ _ _ _ h => by simp [O0] at h, fun _ _ _ _ _ _ _ _ h => by simp [O0] at h, hx⟩

theorem clone_nil (ty sz bytes : Nat) (z : List AV) (st : St) : exFn O0 (Fclone ty sz bytes z false) [.nils] st = some (.sl sz [], st) := by
  simp [exFn, Fclone, exC, exOps, exStep, exOp, ev, put, slot, nilOf, resOf, killAll, tupOf, hand, hand1, hand0, AV.flatLL]

theorem clone_emp (ty sz bytes : Nat) (z : List AV) (st : St) : exFn O0 (Fclone ty sz bytes z false) [.emps] st = some (.sl sz [], st) := by
  simp [exFn, Fclone, exC, exOps, exStep, exOp, ev, put, slot, nilOf, resOf, killAll, tupOf, hand, hand1, hand0, AV.flatLL, fillSl, app, elems, room, St.push]

theorem nil_of_elems {s : Nat} {v : AV} {e : List AV} {es : List (List AV)} (he : elems st v = some (s, e :: es)) : nilOf 0 v = some false := by
  cases v <;> simp only [elems, reduceCtorEq, Option.some.injEq, Prod.mk.injEq] at he
  · simp at he
  · simp at he
  · rename_i r lo n full
    cases n with
    | zero =>
      split at he
      · split at he <;> simp at he
      · cases he
    | succ n => rfl
  · obtain ⟨_, rfl⟩ := he; rfl
  · obtain ⟨_, rfl⟩ := he; rfl

theorem clone_pure {ty sz bytes s : Nat} {z : List AV} {v : AV} {e : List AV} {es : List (List AV)} (he : elems st v = some (s, e :: es)) (hs : s = sz) (hr : room (es.length + 1) bytes = true) (hf : AV.flatLL (e :: es) = true) :
    exFn O0 (Fclone ty sz bytes z false) [v] st = some (.sl sz (e :: es), st) := by
  have hn := nil_of_elems he
  have he' : ∀ df, elems { objs := st.objs, ro := st.objs.length, df := df } v = some (s, e :: es) := fun df => by
    rw [← he]
    cases v <;> rfl
  subst hs
  have hl : ((e :: es).length) = es.length + 1 := rfl
  simp [exFn, Fclone, exC, exOps, exStep, exOp, ev, put, slot, hn, he', hr, hf, resOf, killAll, tupOf, hand, hand1, hand0, fillSl, app, St.push]

theorem clone_own {ty sz bytes s : Nat} {z : List AV} {v : AV} {e : List AV} {es : List (List AV)} (he : elems st v = some (s, e :: es)) (hs : s = sz) (hr : room (es.length + 1) bytes = true) :
    exFn O0 (Fclone ty sz bytes z true) [v] st = some (.own st.objs.length 0 (es.length + 1) false, st.push (.arr ty sz (e :: es))) := by
  have hn := nil_of_elems he
  have he' : ∀ df, elems { objs := st.objs, ro := st.ro, df := df } v = some (s, e :: es) := fun df => by
    rw [← he]
    cases v <;> rfl
  subst hs
  simp [exFn, Fclone, exC, exOps, exStep, exOp, ev, put, slot, hn, he', hr, resOf, killAll, tupOf, fillSl, app, St.push]

/-- a slice of no elements is nil, or it is not -/
theorem empty_rep {n s : Nat} {v : AV} {cv : Value} (he : elems st v = some (s, [])) (S : Sim P T E st w) (R : Rep E st.objs.length w v cv) : Rep E n w .nils cv ∨ Rep E n w .emps cv := by
  have key : ∀ (a : Option Addr) len cp, cv = .slice a len cp → len = 0 → Rep E n w .nils cv ∨ Rep E n w .emps cv := by
    rintro a len cp rfl rfl
    cases a with
    | none => exact .inl (.nils cp)
    | some a => exact .inr (.emps a cp)
  cases R <;> simp only [elems, reduceCtorEq, Option.some.injEq, Prod.mk.injEq] at he
  case nils => exact key _ _ _ rfl rfl
  case emps => exact key _ _ _ rfl rfl
  case own r lo m cp full a h hm h1 h2 ha =>
    refine key _ _ _ rfl ?_
    split at he
    · split at he
      · rename_i hle
        simp only [Option.some.injEq, Prod.mk.injEq] at he
        have := congrArg List.length he.2
        simp at this
        omega
      · cases he
    · cases he
  case sl sz es a len cp b o c hl hcp hs ha hc hh =>
    obtain ⟨_, rfl⟩ := he
    exact key _ _ _ rfl (by simpa using hl)
  case fsl sz es a len cp b o c hl hcp hs ha hc hh =>
    obtain ⟨_, rfl⟩ := he
    exact key _ _ _ rfl (by simpa using hl)

theorem clone_ok {f ty sz bytes : Nat} {own : Bool} {z : List AV} (hxp : ∀ f, extP f = true → T f = none) (hm : P.follows .mixedOrders = true) (hp : chkCl P T f ty sz bytes z false = true) (ho : chkCl P T f ty sz bytes z true = true) {args : List AV} {v : AV}
    (h : exClone ty sz bytes own args st = some (v, st')) (hr : st.ro ≤ st.objs.length) (cargs : Array Value) (S : Sim P T E st w) (A : RepL E st.objs.length w args cargs.toList) (cs : List Frame) :
    ∃ E' w' cv, Sim P T E' st' w' ∧ Rep E' st'.objs.length w' v cv ∧ Ext E st.objs.length w E' st'.objs.length w' ∧ (callFunc (rl f) cargs).run P w = .ok (.enter (rl f) cargs) w ∧
      ∃ fr, Steps P (lone (Frame.enter P (rl f) cargs .normal) cs w) (lone fr cs w') ∧ fr.fn = rl f ∧ fr.leaving P w' (.returned cv) := by
  have go : ∀ (ow : Bool) (args' : List AV) (v' : AV) (s' : St), exFn O0 (Fclone ty sz bytes z ow) args' st = some (v', s') → RepL E st.objs.length w args' cargs.toList →
      ∃ E' w' cv, Sim P T E' s' w' ∧ Rep E' s'.objs.length w' v' cv ∧ Ext E st.objs.length w E' s'.objs.length w' ∧ (callFunc (rl f) cargs).run P w = .ok (.enter (rl f) cargs) w ∧
        ∃ fr, Steps P (lone (Frame.enter P (rl f) cargs .normal) cs w) (lone fr cs w') ∧ fr.fn = rl f ∧ fr.leaving P w' (.returned cv) := by
    intro ow args' v' s' hx A'
    have hc : chkCl P T f ty sz bytes z ow = true := by cases ow <;> assumption
    unfold chkCl at hc
    split at hc
    · rename_i fn hfn
      obtain ⟨E', w', cv, h1, h2, h3, h4⟩ := fn_sound O0_snd (O0_pure hxp) hm hfn hc hx hr S A' cs
      exact ⟨E', w', cv, h1, h2, h3, run_callFunc hfn hc cargs, h4⟩
    · cases hc
  unfold exClone at h
  split at h
  · rename_i a
    have hl := A.len
    obtain ⟨cl⟩ := cargs
    match cl, hl with
    | [cv], _ =>
      have hr0 := A.at_ 0 _ _ rfl rfl
      have one : ∀ x, Rep E st.objs.length w x cv → RepL E st.objs.length w [x] (Array.mk [cv]).toList := fun x hx => ⟨rfl, fun j y u hy hu => by
        cases j with
        | zero => simp at hy hu; subst hy; subst hu; exact hx
        | succ j => simp at hy⟩
      split at h
      · rename_i s he
        obtain ⟨rfl, rfl⟩ := Prod.mk.inj (Option.some.inj h)
        rcases empty_rep (n := st.objs.length) he S hr0 with hh | hh
        · exact go false [.nils] _ _ (clone_nil ty sz bytes z st) (one _ hh)
        · exact go false [.emps] _ _ (clone_emp ty sz bytes z st) (one _ hh)
      · rename_i s e es he
        split at h
        · rename_i hc
          cases own with
          | true =>
            simp only [cond_true, Option.some.injEq, Prod.mk.injEq] at h
            obtain ⟨rfl, rfl⟩ := h
            exact go true [a] _ _ (clone_own he hc.1 hc.2) (one _ hr0)
          | false =>
            simp only [cond_false] at h
            split at h
            · rename_i hf
              obtain ⟨rfl, rfl⟩ := Prod.mk.inj (Option.some.inj h)
              exact go false [a] _ _ (clone_pure he hc.1 hc.2 hf) (one _ hr0)
            · cases h
        · cases h
      · cases h
  · cases h

end
end Go.Proofs.Ytgabnhmjlhhojaa.A
