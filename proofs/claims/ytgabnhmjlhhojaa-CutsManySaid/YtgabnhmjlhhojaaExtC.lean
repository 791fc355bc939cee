/- The library's slices.Clone gives what the interpreter takes it to give. -/
import Derived.Test.YtgabnhmjlhhojaaYieldS
namespace Go.Proofs.Ytgabnhmjlhhojaa.A
open Go
set_option linter.unusedSimpArgs false
set_option linter.unusedVariables false

/-- slices.Clone in the interpreter's own code -/
def Fclone (ty sz bytes : Nat) (z : List AV) (own : Bool) : AF :=
  { ntmps := 8, results := [.tmp 2], pure := !own, body :=
    .seq (.ops [⟨some 2, .move (.c (.fsl sz [])), none⟩] false)
      (.seq (.seq (.ops [⟨some 3, .move (.t 0), none⟩, ⟨some 4, .isnil 0 false (.t 3), none⟩] false) (.cond (.t 4) (.seq (.ops [⟨some 2, .move (.c (.fsl sz [])), none⟩] false) .ret) .skip))
        (.seq (.ops [⟨some 5, .buildSl sz z 0 [], none⟩, ⟨some 6, .move (.t 0), none⟩, ⟨some 7, .append ty sz bytes (.t 5) (.t 6), none⟩, ⟨some 2, .move (.t 7), none⟩] false) .ret)) }

def chkCl (P : Program) (T : Tab) (f ty sz bytes : Nat) (z : List AV) (own : Bool) : Bool :=
  match P.funcs[rl f]? with
  | some fn => chkF P T fn (Fclone ty sz bytes z own)
  | none => false

section
variable {P : Program} {T : Tab} {E : Env} {st st' : St} {w : World}

def O0 : Orc := { call := fun _ _ _ => none, yield := fun _ _ _ => none, loop := fun _ _ _ _ => none }
theorem O0_snd : SndO P T O0 := ⟨⟨fun _ _ _ _ _ h => by simp [O0] at h, fun _ _ _ _ _ h => by simp [O0] at h, fun _ _ _ _ _ _ _ h => by simp [O0] at h⟩, fun _ _ _ _ _ h => by simp [O0] at h, fun _ _ _ _ _ h => by simp [O0] at h, fun _ _ _ _ _ _ _ h => by simp [O0] at h⟩
theorem O0_pure (hx : ∀ f, extP f = true → T f = none) : OPure T O0 := ⟨fun _ _ _ _ _ _ _ _ h => by simp [O0] at h, fun _ _ _ _ _ _ _ _ h => by simp [O0] at h, hx⟩

theorem clone_nil (ty sz bytes : Nat) (z : List AV) (st : St) : exFn O0 (Fclone ty sz bytes z false) [.nils] st = some (.sl sz [], st) := by
  simp [exFn, Fclone, exC, exOps, exStep, exOp, ev, put, slot, nilOf, resOf, killAll, tupOf, hand, hand1, hand0, AV.flatLL]

theorem clone_emp (ty sz bytes : Nat) (z : List AV) (st : St) : exFn O0 (Fclone ty sz bytes z false) [.emps] st = some (.sl sz [], st) := by
  simp [exFn, Fclone, exC, exOps, exStep, exOp, ev, put, slot, nilOf, resOf, killAll, tupOf, hand, hand1, hand0, AV.flatLL, fillSl, app, elems, room, St.push]

theorem nil_of_elems {s : Nat} {v : AV} {e : List AV} {es : List (List AV)} (he : elems st v = some (s, e :: es)) : nilOf 0 v = some false := by
  cases v <;> simp only [elems, reduceCtorEq, Option.some.injEq, Prod.mk.injEq] at he
  · simp at he
  · simp at he
  · rename_i r lo n full
    cases n with
    | zero =>
      split at he
      · split at he <;> simp at he
      · cases he
    | succ n => rfl
  · obtain ⟨_, rfl⟩ := he; rfl
  · obtain ⟨_, rfl⟩ := he; rfl

theorem clone_pure {ty sz bytes s : Nat} {z : List AV} {v : AV} {e : List AV} {es : List (List AV)} (he : elems st v = some (s, e :: es)) (hs : s = sz) (hr : room (es.length + 1) bytes = true) (hf : AV.flatLL (e :: es) = true) :
    exFn O0 (Fclone ty sz bytes z false) [v] st = some (.sl sz (e :: es), st) := by
  have hn := nil_of_elems he
  have he' : ∀ df, elems { objs := st.objs, ro := st.objs.length, df := df } v = some (s, e :: es) := fun df => by
    rw [← he]
    cases v <;> rfl
  subst hs
  have hl : ((e :: es).length) = es.length + 1 := rfl
  simp [exFn, Fclone, exC, exOps, exStep, exOp, ev, put, slot, hn, he', hr, hf, resOf, killAll, tupOf, hand, hand1, hand0, fillSl, app, St.push]

theorem clone_own {ty sz bytes s : Nat} {z : List AV} {v : AV} {e : List AV} {es : List (List AV)} (he : elems st v = some (s, e :: es)) (hs : s = sz) (hr : room (es.length + 1) bytes = true) :
    exFn O0 (Fclone ty sz bytes z true) [v] st = some (.own st.objs.length 0 (es.length + 1) false, st.push (.arr ty sz (e :: es))) := by
  have hn := nil_of_elems he
  have he' : ∀ df, elems { objs := st.objs, ro := st.ro, df := df } v = some (s, e :: es) := fun df => by
    rw [← he]
    cases v <;> rfl
  subst hs
  simp [exFn, Fclone, exC, exOps, exStep, exOp, ev, put, slot, hn, he', hr, resOf, killAll, tupOf, fillSl, app, St.push]

/-- a slice of no elements is nil, or it is not -/
theorem empty_rep {n s : Nat} {v : AV} {cv : Value} (he : elems st v = some (s, [])) (S : Sim P T E st w) (R : Rep E st.objs.length w v cv) : Rep E n w .nils cv ∨ Rep E n w .emps cv := by
  have key : ∀ (a : Option Addr) len cp, cv = .slice a len cp → len = 0 → Rep E n w .nils cv ∨ Rep E n w .emps cv := by
    rintro a len cp rfl rfl
    cases a with
    | none => exact .inl (.nils cp)
    | some a => exact .inr (.emps a cp)
  cases R <;> simp only [elems, reduceCtorEq, Option.some.injEq, Prod.mk.injEq] at he
  case nils => exact key _ _ _ rfl rfl
  case emps => exact key _ _ _ rfl rfl
  case own r lo m cp full a h hm h1 h2 ha =>
    refine key _ _ _ rfl ?_
    split at he
    · split at he
      · rename_i hle
        simp only [Option.some.injEq, Prod.mk.injEq] at he
        have := congrArg List.length he.2
        simp at this
        omega
      · cases he
    · cases he
  case sl sz es a len cp b o c hl hcp hs ha hc hh =>
    obtain ⟨_, rfl⟩ := he
    exact key _ _ _ rfl (by simpa using hl)
  case fsl sz es a len cp b o c hl hcp hs ha hc hh =>
    obtain ⟨_, rfl⟩ := he
    exact key _ _ _ rfl (by simpa using hl)

theorem clone_ok {f ty sz bytes : Nat} {own : Bool} {z : List AV} (hxp : ∀ f, extP f = true → T f = none) (hm : P.follows .mixedOrders = true) (hp : chkCl P T f ty sz bytes z false = true) (ho : chkCl P T f ty sz bytes z true = true) {args : List AV} {v : AV}
    (h : exClone ty sz bytes own args st = some (v, st')) (hr : st.ro ≤ st.objs.length) (cargs : Array Value) (S : Sim P T E st w) (A : RepL E st.objs.length w args cargs.toList) (cs : List Frame) :
    ∃ E' w' cv, Sim P T E' st' w' ∧ Rep E' st'.objs.length w' v cv ∧ Ext E st.objs.length w E' st'.objs.length w' ∧ (callFunc (rl f) cargs).run P w = .ok (.enter (rl f) cargs) w ∧
      ∃ fr, Steps P (lone (Frame.enter P (rl f) cargs .normal) cs w) (lone fr cs w') ∧ fr.fn = rl f ∧ fr.leaving P w' (.returned cv) := by
  have go : ∀ (ow : Bool) (args' : List AV) (v' : AV) (s' : St), exFn O0 (Fclone ty sz bytes z ow) args' st = some (v', s') → RepL E st.objs.length w args' cargs.toList →
      ∃ E' w' cv, Sim P T E' s' w' ∧ Rep E' s'.objs.length w' v' cv ∧ Ext E st.objs.length w E' s'.objs.length w' ∧ (callFunc (rl f) cargs).run P w = .ok (.enter (rl f) cargs) w ∧
        ∃ fr, Steps P (lone (Frame.enter P (rl f) cargs .normal) cs w) (lone fr cs w') ∧ fr.fn = rl f ∧ fr.leaving P w' (.returned cv) := by
    intro ow args' v' s' hx A'
    have hc : chkCl P T f ty sz bytes z ow = true := by cases ow <;> assumption
    unfold chkCl at hc
    split at hc
    · rename_i fn hfn
      obtain ⟨E', w', cv, h1, h2, h3, h4⟩ := fn_sound O0_snd (O0_pure hxp) hm hfn hc hx hr S A' cs
      exact ⟨E', w', cv, h1, h2, h3, run_callFunc hfn hc cargs, h4⟩
    · cases hc
  unfold exClone at h
  split at h
  · rename_i a
    have hl := A.len
    obtain ⟨cl⟩ := cargs
    match cl, hl with
    | [cv], _ =>
      have hr0 := A.at_ 0 _ _ rfl rfl
      have one : ∀ x, Rep E st.objs.length w x cv → RepL E st.objs.length w [x] (Array.mk [cv]).toList := fun x hx => ⟨rfl, fun j y u hy hu => by
        cases j with
        | zero => simp at hy hu; subst hy; subst hu; exact hx
        | succ j => simp at hy⟩
      split at h
      · rename_i s he
        obtain ⟨rfl, rfl⟩ := Prod.mk.inj (Option.some.inj h)
        rcases empty_rep (n := st.objs.length) he S hr0 with hh | hh
        · exact go false [.nils] _ _ (clone_nil ty sz bytes z st) (one _ hh)
        · exact go false [.emps] _ _ (clone_emp ty sz bytes z st) (one _ hh)
      · rename_i s e es he
        split at h
        · rename_i hc
          cases own with
          | true =>
            simp only [cond_true, Option.some.injEq, Prod.mk.injEq] at h
            obtain ⟨rfl, rfl⟩ := h
            exact go true [a] _ _ (clone_own he hc.1 hc.2) (one _ hr0)
          | false =>
            simp only [cond_false] at h
            split at h
            · rename_i hf
              obtain ⟨rfl, rfl⟩ := Prod.mk.inj (Option.some.inj h)
              exact go false [a] _ _ (clone_pure he hc.1 hc.2 hf) (one _ hr0)
            · cases h
        · cases h
      · cases h
  · cases h

end
end Go.Proofs.Ytgabnhmjlhhojaa.A
