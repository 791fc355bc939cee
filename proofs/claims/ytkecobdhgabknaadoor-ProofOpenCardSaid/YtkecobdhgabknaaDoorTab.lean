/- The library's slices.Clone gives what the interpreter takes it to give. -/
import Derived.Test.YtkecobdhgabknaaDoorYieldS
import Derived.Test.YtkecobdhgabknaaDoorCode
import Derived.Test.YtkecobdhgabknaaDoorProg
import Derived.KernelRfl
namespace Go.Proofs.YtkecobdhgabknaaDoor.A
open Go
set_option linter.unusedSimpArgs false
set_option linter.unusedVariables false

/-- slices.Clone in the interpreter's own code -/
def Fclone (ty sz bytes : Nat) (z : List AV) (own : Bool) : AF :=
  { ntmps := 8, results := [.tmp 2], pure := !own, body :=
    .seq (.ops [⟨some 2, .move (.c (.fsl sz [])), none⟩] false)
      (.seq (.seq (.ops [⟨some 3, .move (.t 0), none⟩, ⟨some 4, .isnil 0 false (.t 3), none⟩] false) (.cond (.t 4) (.seq (.ops [⟨some 2, .move (.c (.fsl sz [])), none⟩] false) .ret) .skip))
        (.seq (.ops [⟨some 5, .buildSl sz z 0 [], none⟩, ⟨some 6, .move (.t 0), none⟩, ⟨some 7, .append ty sz bytes (.t 5) (.t 6), none⟩, ⟨some 2, .move (.t 7), none⟩] false) .ret)) }

def chkCl (P : Program) (T : Tab) (f ty sz bytes : Nat) (z : List AV) (own : Bool) : Bool :=
  match P.funcs[rl f]? with
  | some fn => chkF P T fn (Fclone ty sz bytes z own)
  | none => false

section
variable {P : Program} {T : Tab} {E : Env} {st st' : St} {w : World}

def O0 : Orc := { call := fun _ _ _ => none, yield := fun _ _ _ => none, loop := fun _ _ _ _ => none }
theorem O0_snd : SndO P T O0 := ⟨⟨fun _ _ _ _ _ h => by simp [O0] at h, fun _ _ _ _ _ h => by simp [O0] at h, fun _ _ _ _ _ _ _ h => by simp [O0] at h⟩, fun _ _ _ _ _ h => by simp [O0] at h, fun _ _ _ _ _ h => by simp [O0] at h, fun _ _ _ _ _ _ _ h => by simp [O0] at h⟩
theorem O0_pure (hx : ∀ f, extP f = true → T f = none) : OPure T O0 := ⟨fun _ _ _ _ _ _ _ _ h => by simp [O0] at h, fun _ _ _ _ _ _ _ _ h => by simp [O0] at h, hx⟩

theorem clone_nil (ty sz bytes : Nat) (z : List AV) (st : St) : exFn O0 (Fclone ty sz bytes z false) [.nils] st = some (.sl sz [], st) := by
  simp [exFn, Fclone, exC, exOps, exStep, exOp, ev, put, slot, nilOf, resOf, killAll, tupOf, hand, hand1, hand0, AV.flatLL]

theorem clone_emp (ty sz bytes : Nat) (z : List AV) (st : St) : exFn O0 (Fclone ty sz bytes z false) [.emps] st = some (.sl sz [], st) := by
  simp [exFn, Fclone, exC, exOps, exStep, exOp, ev, put, slot, nilOf, resOf, killAll, tupOf, hand, hand1, hand0, AV.flatLL, fillSl, app, elems, room, St.push]

theorem nil_of_elems {s : Nat} {v : AV} {e : List AV} {es : List (List AV)} (he : elems st v = some (s, e :: es)) : nilOf 0 v = some false := by
  cases v <;> simp only [elems, reduceCtorEq, Option.some.injEq, Prod.mk.injEq] at he
  · simp at he
  · simp at he
  · rename_i r lo n full
    cases n with
    | zero =>
      split at he
      · split at he <;> simp at he
      · cases he
    | succ n => rfl
  · obtain ⟨_, rfl⟩ := he; rfl
  · obtain ⟨_, rfl⟩ := he; rfl

theorem clone_pure {ty sz bytes s : Nat} {z : List AV} {v : AV} {e : List AV} {es : List (List AV)} (he : elems st v = some (s, e :: es)) (hs : s = sz) (hr : room (es.length + 1) bytes = true) (hf : AV.flatLL (e :: es) = true) :
    exFn O0 (Fclone ty sz bytes z false) [v] st = some (.sl sz (e :: es), st) := by
  have hn := nil_of_elems he
  have he' : ∀ df, elems { objs := st.objs, ro := st.objs.length, df := df } v = some (s, e :: es) := fun df => by
    rw [← he]
    cases v <;> rfl
  subst hs
  have hl : ((e :: es).length) = es.length + 1 := rfl
  simp [exFn, Fclone, exC, exOps, exStep, exOp, ev, put, slot, hn, he', hr, hf, resOf, killAll, tupOf, hand, hand1, hand0, fillSl, app, St.push]

theorem clone_own {ty sz bytes s : Nat} {z : List AV} {v : AV} {e : List AV} {es : List (List AV)} (he : elems st v = some (s, e :: es)) (hs : s = sz) (hr : room (es.length + 1) bytes = true) :
    exFn O0 (Fclone ty sz bytes z true) [v] st = some (.own st.objs.length 0 (es.length + 1) false, st.push (.arr ty sz (e :: es))) := by
  have hn := nil_of_elems he
  have he' : ∀ df, elems { objs := st.objs, ro := st.ro, df := df } v = some (s, e :: es) := fun df => by
    rw [← he]
    cases v <;> rfl
  subst hs
  simp [exFn, Fclone, exC, exOps, exStep, exOp, ev, put, slot, hn, he', hr, resOf, killAll, tupOf, fillSl, app, St.push]

/-- a slice of no elements is nil, or it is not -/
theorem empty_rep {n s : Nat} {v : AV} {cv : Value} (he : elems st v = some (s, [])) (S : Sim P T E st w) (R : Rep E st.objs.length w v cv) : Rep E n w .nils cv ∨ Rep E n w .emps cv := by
  have key : ∀ (a : Option Addr) len cp, cv = .slice a len cp → len = 0 → Rep E n w .nils cv ∨ Rep E n w .emps cv := by
    rintro a len cp rfl rfl
    cases a with
    | none => exact .inl (.nils cp)
    | some a => exact .inr (.emps a cp)
  cases R <;> simp only [elems, reduceCtorEq, Option.some.injEq, Prod.mk.injEq] at he
  case nils => exact key _ _ _ rfl rfl
  case emps => exact key _ _ _ rfl rfl
  case own r lo m cp full a h hm h1 h2 ha =>
    refine key _ _ _ rfl ?_
    split at he
    · split at he
      · rename_i hle
        simp only [Option.some.injEq, Prod.mk.injEq] at he
        have := congrArg List.length he.2
        simp at this
        omega
      · cases he
    · cases he
  case sl sz es a len cp b o c hl hcp hs ha hc hh =>
    obtain ⟨_, rfl⟩ := he
    exact key _ _ _ rfl (by simpa using hl)
  case fsl sz es a len cp b o c hl hcp hs ha hc hh =>
    obtain ⟨_, rfl⟩ := he
    exact key _ _ _ rfl (by simpa using hl)

theorem clone_ok {f ty sz bytes : Nat} {own : Bool} {z : List AV} (hxp : ∀ f, extP f = true → T f = none) (hm : P.follows .mixedOrders = true) (hp : chkCl P T f ty sz bytes z false = true) (ho : chkCl P T f ty sz bytes z true = true) {args : List AV} {v : AV}
    (h : exClone ty sz bytes own args st = some (v, st')) (hr : st.ro ≤ st.objs.length) (cargs : Array Value) (S : Sim P T E st w) (A : RepL E st.objs.length w args cargs.toList) (cs : List Frame) :
    ∃ E' w' cv, Sim P T E' st' w' ∧ Rep E' st'.objs.length w' v cv ∧ Ext E st.objs.length w E' st'.objs.length w' ∧ (callFunc (rl f) cargs).run P w = .ok (.enter (rl f) cargs) w ∧
      ∃ fr, Steps P (lone (Frame.enter P (rl f) cargs .normal) cs w) (lone fr cs w') ∧ fr.fn = rl f ∧ fr.leaving P w' (.returned cv) := by
  have go : ∀ (ow : Bool) (args' : List AV) (v' : AV) (s' : St), exFn O0 (Fclone ty sz bytes z ow) args' st = some (v', s') → RepL E st.objs.length w args' cargs.toList →
      ∃ E' w' cv, Sim P T E' s' w' ∧ Rep E' s'.objs.length w' v' cv ∧ Ext E st.objs.length w E' s'.objs.length w' ∧ (callFunc (rl f) cargs).run P w = .ok (.enter (rl f) cargs) w ∧
        ∃ fr, Steps P (lone (Frame.enter P (rl f) cargs .normal) cs w) (lone fr cs w') ∧ fr.fn = rl f ∧ fr.leaving P w' (.returned cv) := by
    intro ow args' v' s' hx A'
    have hc : chkCl P T f ty sz bytes z ow = true := by cases ow <;> assumption
    unfold chkCl at hc
    split at hc
    · rename_i fn hfn
      obtain ⟨E', w', cv, h1, h2, h3, h4⟩ := fn_sound O0_snd (O0_pure hxp) hm hfn hc hx hr S A' cs
      exact ⟨E', w', cv, h1, h2, h3, run_callFunc hfn hc cargs, h4⟩
    · cases hc
  unfold exClone at h
  split at h
  · rename_i a
    have hl := A.len
    obtain ⟨cl⟩ := cargs
    match cl, hl with
    | [cv], _ =>
      have hr0 := A.at_ 0 _ _ rfl rfl
      have one : ∀ x, Rep E st.objs.length w x cv → RepL E st.objs.length w [x] (Array.mk [cv]).toList := fun x hx => ⟨rfl, fun j y u hy hu => by
        cases j with
        | zero => simp at hy hu; subst hy; subst hu; exact hx
        | succ j => simp at hy⟩
      split at h
      · rename_i s he
        obtain ⟨rfl, rfl⟩ := Prod.mk.inj (Option.some.inj h)
        rcases empty_rep (n := st.objs.length) he S hr0 with hh | hh
        · exact go false [.nils] _ _ (clone_nil ty sz bytes z st) (one _ hh)
        · exact go false [.emps] _ _ (clone_emp ty sz bytes z st) (one _ hh)
      · rename_i s e es he
        split at h
        · rename_i hc
          cases own with
          | true =>
            simp only [cond_true, Option.some.injEq, Prod.mk.injEq] at h
            obtain ⟨rfl, rfl⟩ := h
            exact go true [a] _ _ (clone_own he hc.1 hc.2) (one _ hr0)
          | false =>
            simp only [cond_false] at h
            split at h
            · rename_i hf
              obtain ⟨rfl, rfl⟩ := Prod.mk.inj (Option.some.inj h)
              exact go false [a] _ _ (clone_pure he hc.1 hc.2 hf) (one _ hr0)
            · cases h
        · cases h
      · cases h
  · cases h

end
end Go.Proofs.YtkecobdhgabknaaDoor.A
/- The table's functions are the program's. -/
namespace Go.Proofs.YtkecobdhgabknaaDoor.A
open Go

theorem chk5 : chkAt Tryd.prog T 5 = true := by kernel_rfl
theorem chk6 : chkAt Tryd.prog T 6 = true := by kernel_rfl
theorem chk7 : chkAt Tryd.prog T 7 = true := by kernel_rfl
theorem chk8 : chkAt Tryd.prog T 8 = true := by kernel_rfl
theorem chk9 : chkAt Tryd.prog T 9 = true := by kernel_rfl
theorem chk10 : chkAt Tryd.prog T 10 = true := by kernel_rfl
theorem chk12 : chkAt Tryd.prog T 12 = true := by kernel_rfl
theorem chk13 : chkAt Tryd.prog T 13 = true := by kernel_rfl
theorem chk15 : chkAt Tryd.prog T 15 = true := by kernel_rfl
theorem chk18 : chkAt Tryd.prog T 18 = true := by kernel_rfl
theorem chk19 : chkAt Tryd.prog T 19 = true := by kernel_rfl
theorem chk20 : chkAt Tryd.prog T 20 = true := by kernel_rfl
theorem chk22 : chkAt Tryd.prog T 22 = true := by kernel_rfl
theorem chk23 : chkAt Tryd.prog T 23 = true := by kernel_rfl
theorem chk24 : chkAt Tryd.prog T 24 = true := by kernel_rfl
theorem chk25 : chkAt Tryd.prog T 25 = true := by kernel_rfl
theorem chk26 : chkAt Tryd.prog T 26 = true := by kernel_rfl
theorem chk27 : chkAt Tryd.prog T 27 = true := by kernel_rfl
theorem chk28 : chkAt Tryd.prog T 28 = true := by kernel_rfl
theorem chk29 : chkAt Tryd.prog T 29 = true := by kernel_rfl
theorem chk31 : chkAt Tryd.prog T 31 = true := by kernel_rfl
theorem chk32 : chkAt Tryd.prog T 32 = true := by kernel_rfl
theorem chk35 : chkAt Tryd.prog T 35 = true := by kernel_rfl
theorem chk37 : chkAt Tryd.prog T 37 = true := by kernel_rfl
theorem chk42 : chkAt Tryd.prog T 42 = true := by kernel_rfl
theorem chk43 : chkAt Tryd.prog T 43 = true := by kernel_rfl
theorem chk44 : chkAt Tryd.prog T 44 = true := by kernel_rfl
theorem chk45 : chkAt Tryd.prog T 45 = true := by kernel_rfl
theorem chk46 : chkAt Tryd.prog T 46 = true := by kernel_rfl
theorem chk47 : chkAt Tryd.prog T 47 = true := by kernel_rfl
theorem chk48 : chkAt Tryd.prog T 48 = true := by kernel_rfl
theorem chk49 : chkAt Tryd.prog T 49 = true := by kernel_rfl
theorem chk50 : chkAt Tryd.prog T 50 = true := by kernel_rfl
theorem chk51 : chkAt Tryd.prog T 51 = true := by kernel_rfl
theorem chk52 : chkAt Tryd.prog T 52 = true := by kernel_rfl
theorem chk53 : chkAt Tryd.prog T 53 = true := by kernel_rfl
theorem chk54 : chkAt Tryd.prog T 54 = true := by kernel_rfl
theorem chk55 : chkAt Tryd.prog T 55 = true := by kernel_rfl
theorem chk56 : chkAt Tryd.prog T 56 = true := by kernel_rfl
theorem chk57 : chkAt Tryd.prog T 57 = true := by kernel_rfl
theorem chk58 : chkAt Tryd.prog T 58 = true := by kernel_rfl
theorem chk60 : chkAt Tryd.prog T 60 = true := by kernel_rfl
theorem chk61 : chkAt Tryd.prog T 61 = true := by kernel_rfl
theorem chk62 : chkAt Tryd.prog T 62 = true := by kernel_rfl
theorem chk63 : chkAt Tryd.prog T 63 = true := by kernel_rfl
theorem chk64 : chkAt Tryd.prog T 64 = true := by kernel_rfl
theorem chk65 : chkAt Tryd.prog T 65 = true := by kernel_rfl
theorem chk66 : chkAt Tryd.prog T 66 = true := by kernel_rfl
theorem chk67 : chkAt Tryd.prog T 67 = true := by kernel_rfl
theorem chk68 : chkAt Tryd.prog T 68 = true := by kernel_rfl
theorem chk74 : chkAt Tryd.prog T 74 = true := by kernel_rfl
theorem chk77 : chkAt Tryd.prog T 77 = true := by kernel_rfl
theorem chk78 : chkAt Tryd.prog T 78 = true := by kernel_rfl
theorem chk79 : chkAt Tryd.prog T 79 = true := by kernel_rfl
theorem chk80 : chkAt Tryd.prog T 80 = true := by kernel_rfl
theorem chk81 : chkAt Tryd.prog T 81 = true := by kernel_rfl
theorem chk82 : chkAt Tryd.prog T 82 = true := by kernel_rfl
theorem chk83 : chkAt Tryd.prog T 83 = true := by kernel_rfl
theorem chk84 : chkAt Tryd.prog T 84 = true := by kernel_rfl
theorem chk85 : chkAt Tryd.prog T 85 = true := by kernel_rfl
theorem chk86 : chkAt Tryd.prog T 86 = true := by kernel_rfl
theorem chk87 : chkAt Tryd.prog T 87 = true := by kernel_rfl
theorem chk88 : chkAt Tryd.prog T 88 = true := by kernel_rfl
theorem chk89 : chkAt Tryd.prog T 89 = true := by kernel_rfl
theorem chk90 : chkAt Tryd.prog T 90 = true := by kernel_rfl
theorem chk92 : chkAt Tryd.prog T 92 = true := by kernel_rfl
theorem chk93 : chkAt Tryd.prog T 93 = true := by kernel_rfl
theorem chk94 : chkAt Tryd.prog T 94 = true := by kernel_rfl
theorem chk95 : chkAt Tryd.prog T 95 = true := by kernel_rfl
theorem chk96 : chkAt Tryd.prog T 96 = true := by kernel_rfl
theorem chk97 : chkAt Tryd.prog T 97 = true := by kernel_rfl
theorem chk98 : chkAt Tryd.prog T 98 = true := by kernel_rfl
theorem chk99 : chkAt Tryd.prog T 99 = true := by kernel_rfl
theorem chk100 : chkAt Tryd.prog T 100 = true := by kernel_rfl
theorem chk101 : chkAt Tryd.prog T 101 = true := by kernel_rfl
theorem chk102 : chkAt Tryd.prog T 102 = true := by kernel_rfl
theorem chk103 : chkAt Tryd.prog T 103 = true := by kernel_rfl
theorem chk104 : chkAt Tryd.prog T 104 = true := by kernel_rfl
theorem chk105 : chkAt Tryd.prog T 105 = true := by kernel_rfl
theorem chk106 : chkAt Tryd.prog T 106 = true := by kernel_rfl
theorem chk1000018 : chkAt Tryd.prog T 1000018 = true := by kernel_rfl
theorem chk1000030 : chkAt Tryd.prog T 1000030 = true := by kernel_rfl
theorem chk1000049 : chkAt Tryd.prog T 1000049 = true := by kernel_rfl

theorem exP : ∀ f, extP f = true → T f = none := by
  intro f h
  unfold extP at h
  first
    | (cases h; done)
    | (split at h
       all_goals first | rfl | (cases h; done))

theorem extOk : ExtOk Tryd.prog T := by
  intro f args st v st' _ h hr E w cargs S A cs
  unfold ext at h
  split at h
  · exact clone_ok (f := 33) (z := [.int .i64 0]) exP (by kernel_rfl) (by kernel_rfl) (by kernel_rfl) h hr cargs S A cs
  · exact clone_ok (f := 75) (z := [.int .i64 0]) exP (by kernel_rfl) (by kernel_rfl) (by kernel_rfl) h hr cargs S A cs
  · exact clone_ok (f := 76) (z := [.int .i64 0, .int .i64 0]) exP (by kernel_rfl) (by kernel_rfl) (by kernel_rfl) h hr cargs S A cs
  · cases h

theorem tabOk : TabOk Tryd.prog T := by
  refine ⟨?_, extOk, exP⟩
  intro f F h
  have key : chkAt Tryd.prog T f = true := by
    unfold T at h
    split at h
    · exact chk5
    · exact chk6
    · exact chk7
    · exact chk8
    · exact chk9
    · exact chk10
    · exact chk12
    · exact chk13
    · exact chk15
    · exact chk18
    · exact chk19
    · exact chk20
    · exact chk22
    · exact chk23
    · exact chk24
    · exact chk25
    · exact chk26
    · exact chk27
    · exact chk28
    · exact chk29
    · exact chk31
    · exact chk32
    · exact chk35
    · exact chk37
    · exact chk42
    · exact chk43
    · exact chk44
    · exact chk45
    · exact chk46
    · exact chk47
    · exact chk48
    · exact chk49
    · exact chk50
    · exact chk51
    · exact chk52
    · exact chk53
    · exact chk54
    · exact chk55
    · exact chk56
    · exact chk57
    · exact chk58
    · exact chk60
    · exact chk61
    · exact chk62
    · exact chk63
    · exact chk64
    · exact chk65
    · exact chk66
    · exact chk67
    · exact chk68
    · exact chk74
    · exact chk77
    · exact chk78
    · exact chk79
    · exact chk80
    · exact chk81
    · exact chk82
    · exact chk83
    · exact chk84
    · exact chk85
    · exact chk86
    · exact chk87
    · exact chk88
    · exact chk89
    · exact chk90
    · exact chk92
    · exact chk93
    · exact chk94
    · exact chk95
    · exact chk96
    · exact chk97
    · exact chk98
    · exact chk99
    · exact chk100
    · exact chk101
    · exact chk102
    · exact chk103
    · exact chk104
    · exact chk105
    · exact chk106
    · exact chk1000018
    · exact chk1000030
    · exact chk1000049
    all_goals cases h
  unfold chkAt at key
  rw [h] at key
  split at key
  · rename_i fn F' h1 h2
    obtain rfl := Option.some.inj h2
    exact ⟨fn, h1, key⟩
  · rename_i h2; cases h2
  · cases key

end Go.Proofs.YtkecobdhgabknaaDoor.A
