/- The machine's moves at a frame that may be a round of a loop over a function. -/
import Derived.Test.YtgabnhmjlhhojaaOps5
import Derived.Calls
import Derived.Test.YtgabnhmjlhhojaaKeep
namespace Go.Proofs.Ytgabnhmjlhhojaa.A
open Go

/-- the frame b at an act -/
def on (b : Frame) (a : Act) (todo : List Item) : Frame := { b with tmps := a.tmps, todo := todo, defers := a.defers, mode := .run }

theorem eval_on (b : Frame) (a : Act) (todo : List Item) : (on b a todo).eval = a.eval := by
  funext x; cases x <;> rfl

section
variable {P : Program} {b : Frame} {a : Act} {k : List Item} {cs : List Frame} {w : World}

theorem st_skip : step P (lone (on b a (.code .skip :: k)) cs w) = .next (lone (on b a k) cs w) := step_lone_go (by simp [stepG, stepG.exec, on])
theorem st_inBlock {id : Nat} : step P (lone (on b a (.inBlock id :: k)) cs w) = .next (lone (on b a k) cs w) := step_lone_go (by simp [stepG, stepG.exec, on])
theorem st_seq {x y : Code} : step P (lone (on b a (.code (.seq x y) :: k)) cs w) = .next (lone (on b a (.code x :: .code y :: k)) cs w) := step_lone_go (by simp [stepG, stepG.exec, on])
theorem st_cond {c : Operand} {x y : Code} {t : Bool} (h : a.eval c = .bool t) : step P (lone (on b a (.code (.cond c x y) :: k)) cs w) = .next (lone (on b a (.code (if t then x else y) :: k)) cs w) :=
  step_lone_go (by
    have := congrFun (eval_on b a (.code (.cond c x y) :: k)) c
    simp only [on] at this
    simp [stepG, stepG.exec, on, this, h])
theorem st_block {id : Nat} {c : Code} : step P (lone (on b a (.code (.block id c) :: k)) cs w) = .next (lone (on b a (.code c :: .inBlock id :: k)) cs w) := step_lone_go (by simp [stepG, stepG.exec, on])
theorem st_loop {c : Code} : step P (lone (on b a (.code (.loop c) :: k)) cs w) = .next (lone (on b a (.code c :: .inLoop c :: k)) cs w) := step_lone_go (by simp [stepG, stepG.exec, on])
theorem st_inLoop {c : Code} : step P (lone (on b a (.inLoop c :: k)) cs w) = .next (lone (on b a (.code c :: .inLoop c :: k)) cs w) := step_lone_go (by simp [stepG, stepG.exec, on])
theorem st_exit {id : Nat} {k' : List Item} (h : exitTo id k = some k') : step P (lone (on b a (.code (.exit id) :: k)) cs w) = .next (lone (on b a k') cs w) := step_lone_go (by simp [stepG, stepG.exec, on, h])
theorem st_region {id : Nat} {ops : Array Oper} : step P (lone (on b a (.code (.region id ops false) :: k)) cs w) = .next (lone (on b a (.inRegion ops (List.range ops.size) :: k)) cs w) := step_lone_go (by simp [stepG, stepG.exec, on])
theorem st_draw {id : Nat} {ops : Array Oper} : step P (lone (on b a (.code (.region id ops true) :: k)) cs w) =
    .next (lone (on b a (.inRegion ops (Region.schedule (P.follows .mixedOrders) ops (w.tape w.drawn (.order b.fn id))) :: k)) cs w.drew) :=
  step_lone_go (by simp [stepG, stepG.exec, on, choose, Sem.run, Question.forced, Question.cut])
theorem st_end {ops : Array Oper} : step P (lone (on b a (.inRegion ops [] :: k)) cs w) = .next (lone (on b a k) cs w) := step_lone_go (by simp [stepG, stepG.exec, on])

theorem finish_on (b : Frame) (a : Act) (ops : Array Oper) (i : Nat) (rest : List Nat) (k : List Item) (v : Value) :
    (on b a (.inRegion ops (i :: rest) :: k)).finish v = on b (a.put ((ops[i]?).bind (·.dst)) v) (.inRegion ops rest :: k) := by
  cases h : (ops[i]?).bind (·.dst) <;> simp [Frame.finish, on, Act.put, h]

theorem st_op_skip {ops : Array Oper} {i : Nat} {rest : List Nat} {o : Oper} (ho : ops[i]? = some o) (h : Region.wanted o (yielded ops a.tmps) = false) :
    step P (lone (on b a (.inRegion ops (i :: rest) :: k)) cs w) = .next (lone (on b (a.put o.dst undef) (.inRegion ops rest :: k)) cs w) := by
  have hf := finish_on b a ops i rest k undef
  rw [ho] at hf
  rw [show a.put o.dst undef = a.put ((some o).bind (·.dst)) undef from rfl, ← hf]
  exact step_lone_go (by
    simp only [on] at *
    simp [stepG, stepG.exec, ho, h])

theorem stepG_on {ops : Array Oper} {i : Nat} {rest : List Nat} {o : Oper} (ho : ops[i]? = some o) (hw : Region.wanted o (yielded ops a.tmps) = true) (hd : ∀ c, o.op ≠ .defer c) :
    stepG P true { frame := on b a (.inRegion ops (i :: rest) :: k), callers := cs, status := .running, dying := none } w =
      stepG.apply P true (on b a (.inRegion ops (i :: rest) :: k)) cs none (execOp a.eval o) w := by
  have he := eval_on b a (.inRegion ops (i :: rest) :: k)
  have key : ∀ (x : Option Nat), (match x, o.op with
      | some l, .defer c => stepG.apply P true (on b a (.inRegion ops (i :: rest) :: k)) cs none (do Instr.deferInRound l (← resolve (on b a (.inRegion ops (i :: rest) :: k)).eval c o.type); pure .skip) w
      | _, _ => stepG.apply P true (on b a (.inRegion ops (i :: rest) :: k)) cs none (execOp (on b a (.inRegion ops (i :: rest) :: k)).eval o) w) =
        stepG.apply P true (on b a (.inRegion ops (i :: rest) :: k)) cs none (execOp a.eval o) w := by
    intro x
    split
    · rename_i c h; exact absurd h (hd c)
    · rw [he]
  have := key b.roundOf
  simp only [on] at *
  simp only [stepG, stepG.exec, stepG.oper, Frame.oper?, ho, hw, Option.map_some, Option.getD_some, if_true]
  exact this

/-- an operation that gives a value, or nothing -/
theorem st_value {ops : Array Oper} {i : Nat} {rest : List Nat} {o : Oper} (ho : ops[i]? = some o) (hw : Region.wanted o (yielded ops a.tmps) = true) (hd : ∀ c, o.op ≠ .defer c) {v : Value} {w' : World}
    (hr : (execOp a.eval o).run P w = .ok (.value v) w') : step P (lone (on b a (.inRegion ops (i :: rest) :: k)) cs w) = .next (lone (on b (a.put o.dst v) (.inRegion ops rest :: k)) cs w') := by
  have hf := finish_on b a ops i rest k v
  rw [ho] at hf
  rw [show a.put o.dst v = a.put ((some o).bind (·.dst)) v from rfl, ← hf]
  exact step_lone_go (by rw [stepG_on ho hw hd]; simp [stepG.apply, hr])
theorem st_unit {ops : Array Oper} {i : Nat} {rest : List Nat} {o : Oper} (ho : ops[i]? = some o) (hw : Region.wanted o (yielded ops a.tmps) = true) (hd : ∀ c, o.op ≠ .defer c) {w' : World}
    (hr : (execOp a.eval o).run P w = .ok .skip w') : step P (lone (on b a (.inRegion ops (i :: rest) :: k)) cs w) = .next (lone (on b (a.put o.dst undef) (.inRegion ops rest :: k)) cs w') := by
  have hf := finish_on b a ops i rest k undef
  rw [ho] at hf
  rw [show a.put o.dst undef = a.put ((some o).bind (·.dst)) undef from rfl, ← hf]
  exact step_lone_go (by rw [stepG_on ho hw hd]; simp [stepG.apply, hr])
theorem st_enter {ops : Array Oper} {i : Nat} {rest : List Nat} {o : Oper} (ho : ops[i]? = some o) (hw : Region.wanted o (yielded ops a.tmps) = true) (hd : ∀ c, o.op ≠ .defer c) {f : FuncId} {args : Array Value} {w' : World}
    (hr : (execOp a.eval o).run P w = .ok (.enter f args) w') : step P (lone (on b a (.inRegion ops (i :: rest) :: k)) cs w) =
      .next (lone (Frame.enter P f args .normal) (on b a (.inRegion ops (i :: rest) :: k) :: cs) w') :=
  step_lone_go (by rw [stepG_on ho hw hd]; simp [stepG.apply, hr, on])
theorem st_round {ops : Array Oper} {i : Nat} {rest : List Nat} {o : Oper} (ho : ops[i]? = some o) (hw : Region.wanted o (yielded ops a.tmps) = true) (hd : ∀ c, o.op ≠ .defer c) {l : Nat} {f : FuncId} {tmps : Array Value} {asg body : Code} {w' : World}
    (hr : (execOp a.eval o).run P w = .ok (.round l f tmps asg body) w') : step P (lone (on b a (.inRegion ops (i :: rest) :: k)) cs w) =
      .next (lone (Frame.round l f tmps asg body .normal) (on b a (.inRegion ops (i :: rest) :: k) :: cs) w') :=
  step_lone_go (by rw [stepG_on ho hw hd]; simp [stepG.apply, hr])

/-- what a frame's caller sees when it is left -/
theorem st_ret {v : Value} {fr c : Frame} (h : fr.leaving P w (.returned v)) : step P (lone fr (c :: cs) w) = .next (lone (c.finish v) cs w) := step_leave_returned h

/-! the loop over a function -/

theorem st_range {f : Operand} {ps : Array Tmp} {asg body : Code} (hro : b.roundOf = none) {l : Nat} {mark : List Deferred} {w1 w2 : World} {g : FuncId} {args : Array Value}
    (h1 : (Instr.enterLoop b.fn a.tmps ps asg body none).run P w = .ok (l, mark) w1)
    (h2 : (do let d ← resolve a.eval { callee := .value f, args := #[.const (.func (.yield l) #[] #[])], argTypes := #[] } 0; invoke d.target d.args : Sem Next).run P w1 = .ok (.enter g args) w2) :
    step P (lone (on b a (.code (.rangeFunc f ps asg body) :: k)) cs w) =
      .next (lone (Frame.enter P g args .normal) (on b { tmps := a.tmps, defers := mark ++ a.defers } (.inRangeFunc l :: k) :: cs) w2) := by
  have he : ∀ d t, (({ fn := b.fn, tmps := a.tmps, todo := t, defers := d, mode := .run, kind := b.kind } : Frame)).eval = a.eval := fun d t => by funext x; cases x <;> rfl
  refine step_lone_go ?_
  simp only [stepG, stepG.exec, on, hro, Sem.runT_eq, h1]
  simp only [GStep.bare_after]
  simp only [he]
  simp only [stepG.apply, Sem.runT_eq, if_true, h2, GStep.bare_after]
  rfl

theorem st_endRange {l : Nat} {w1 : World} {j : Option Code} (h : (Instr.endLoop l).run P w = .ok j w1) :
    step P (lone (on b a (.endRangeFunc l :: k)) cs w) = .next (lone (on b a ((j.map Item.code).toList ++ k)) cs w1) := by
  refine step_lone_go ?_
  simp [stepG, stepG.exec, on, h]

theorem st_begin {l : Nat} (hro : b.roundOf = some l) {w1 : World} (h : (Instr.beginRound l).run P w = .ok () w1) :
    step P (lone (on b a (.beginRound :: k)) cs w) = .next (lone (on b a k) cs w1) := by
  refine step_lone_go ?_
  simp [stepG, stepG.exec, stepG.apply, on, hro, h, Frame.finish]

theorem st_leaveRound {l : Nat} (hro : b.roundOf = some l) (hk : b.kind = .normal) {jump : Option Code} {v : Value} {w1 : World} {c : Frame} (h : (Instr.endRound l jump).run P w = .ok v w1) {t : List Item}
    (ht : (t = [] ∧ jump = none) ∨ (∃ k, t = .code .ret :: k ∧ jump = some .ret) ∨ (∃ id k, t = .code (.exit id) :: k ∧ exitTo id k = none ∧ jump = some (.exit id))) :
    step P (lone (on b a t) (c :: cs) w) = .next (lone (c.finish v) cs w1) := by
  refine step_lone_go ?_
  rcases ht with ⟨rfl, rfl⟩ | ⟨k, rfl, rfl⟩ | ⟨id, k, rfl, he, rfl⟩
  · simp [stepG, stepG.exec, on, hro, h, doReturn, hk]
  · simp [stepG, stepG.exec, on, hro, h, doReturn, hk]
  · simp [stepG, stepG.exec, on, hro, he, h, doReturn, hk]

/-- out of code, into returning -/
theorem st_return (hro : b.roundOf = none) {t : List Item} (ht : t = [] ∨ ∃ k, t = .code .ret :: k) : step P (lone (on b a t) cs w) = .next (lone { on b a t with mode := .returning } cs w) := by
  refine step_lone_go ?_
  rcases ht with rfl | ⟨k, rfl⟩
  · simp [stepG, stepG.exec, on, hro]
  · simp [stepG, stepG.exec, on, hro]

theorem st_unwind {blk : Nat} {ds : List Deferred} {calls : List Deferred} {w1 : World} {fr : Frame} (hm : fr.mode = .returning) (hd : fr.defers = { target := .collected blk, args := #[] } :: ds)
    (h : (Instr.takeDeferred blk).run P w = .ok calls w1) : step P (lone fr cs w) = .next (lone { fr with defers := calls ++ ds } cs w1) := by
  refine step_lone_go ?_
  simp [stepG, hm, unwind, hd, h]

end
end Go.Proofs.Ytgabnhmjlhhojaa.A

/- Code of the interpreter is the model's: everything but a statement's open order, and calls themselves. -/
namespace Go.Proofs.Ytgabnhmjlhhojaa.A
open Go

section
variable (P : Program) (T : Tab)

def DfRel (E : Env) (df : List Nat) (ds : List Deferred) : Prop := ds = df.map fun r => ({ target := .collected (E.L r).blk, args := #[] } : Deferred)

def DfOk (st : St) : Prop := ∀ r ∈ st.df, st.objs[r]? = some Obj.dfr

/-- where the machine comes to -/
def Arr (m : Machine) (b : Frame) (k : List Item) (cs : List Frame) (a : Act) (w : World) : AE → Prop
  | .norm => Steps P m (lone (on b a k) cs w)
  | .exit id => ∃ t, exitTo id t = exitTo id k ∧ Steps P m (lone (on b a (.code (.exit id) :: t)) cs w)
  | .ret => ∃ t, Steps P m (lone (on b a (.code .ret :: t)) cs w)

/-- what a callee comes to -/
def Then (c : Frame) (cs : List Frame) (w : World) (cv : Value) (w' : World) : Next → Prop
  | .enter f as => ∃ fr, Steps P (lone (Frame.enter P f as .normal) (c :: cs) w) (lone fr (c :: cs) w') ∧ fr.leaving P w' (.returned cv)
  | .round l f tmps asg body => Steps P (lone (Frame.round l f tmps asg body .normal) (c :: cs) w) (lone (c.finish cv) cs w')
  | _ => False

structure SndO (O : Orc) : Prop where
  keep : OKeep O
  call : ∀ f args st v st', O.call f args st = some (v, st') → st.ro ≤ st.objs.length → ∀ E w (cargs : Array Value), Sim P T E st w → RepL E st.objs.length w args cargs.toList →
    ∀ c cs, ∃ E' w' cv, Sim P T E' st' w' ∧ Rep E' st'.objs.length w' v cv ∧ Ext E st.objs.length w E' st'.objs.length w' ∧ (callFunc (rl f) cargs).run P w = .ok (.enter (rl f) cargs) w ∧ Then P c cs w cv w' (.enter (rl f) cargs)
  yield : ∀ r args st v st', O.yield r args st = some (v, st') → st.ro ≤ st.objs.length → ∀ E w (cargs : Array Value), Sim P T E st w → RepL E st.objs.length w args cargs.toList →
    ∀ c cs, ∃ E' w' cv nx, Sim P T E' st' w' ∧ Rep E' st'.objs.length w' v cv ∧ Ext E st.objs.length w E' st'.objs.length w' ∧ (Instr.yield (E.L r).blk cargs).run P w = .ok nx w ∧ Then P c cs w cv w' nx
  loop : ∀ rd c fr st e fr' st', O.loop rd c fr st = some (e, fr', st') → st.ro ≤ st.objs.length → DfOk st → ∀ code E w a (b : Frame), chkC P T code c = true → Sim P T E st w → RepL E st.objs.length w fr a.tmps.toList →
    DfRel E st.df a.defers → b.roundOf.isSome = rd →
    ∀ k cs, ∃ E' a' w', Sim P T E' st' w' ∧ RepL E' st'.objs.length w' fr' a'.tmps.toList ∧ DfRel E' st'.df a'.defers ∧ Ext E st.objs.length w E' st'.objs.length w' ∧
      Arr P (lone (on b a (.code code :: .inLoop code :: k)) cs w) b k cs a' w' e

variable {P T} {O : Orc} {E : Env} {st st' : St} {w : World}

theorem Arr.of_steps {m m1 : Machine} {b : Frame} {k : List Item} {cs : List Frame} {a : Act} {w : World} {e : AE} (h : Steps P m m1) (h' : Arr P m1 b k cs a w e) : Arr P m b k cs a w e := by
  cases e with
  | norm => exact h.trans h'
  | exit id => obtain ⟨t, h1, h2⟩ := h'; exact ⟨t, h1, h.trans h2⟩
  | ret => obtain ⟨t, h2⟩ := h'; exact ⟨t, h.trans h2⟩

theorem DfRel.mono {E E' : Env} {n n' : Nat} {w w' : World} {df : List Nat} {ds : List Deferred} (h : DfRel E df ds) (x : Ext E n w E' n' w') (hlt : ∀ r ∈ df, r < n) : DfRel E' df ds := by
  rw [DfRel, h]
  exact List.map_congr_left fun r hr => by rw [x.L r (hlt r hr)]

theorem DfOk.lt (h : DfOk st) : ∀ r ∈ st.df, r < st.objs.length := fun r hr => lt_of_get (h r hr)

theorem DfOk.keep (h : DfOk st) (k : Keep st st') : DfOk st' := by
  obtain ⟨l, hl, _, hl2⟩ := k.df
  intro r hr
  rw [hl] at hr
  rcases List.mem_append.1 hr with h' | h'
  · exact (hl2 r h').2
  · exact k.dfr r (h r h')

theorem put_rep {n : Nat} {w : World} {fr : List AV} {a : Act} (F : RepL E n w fr a.tmps.toList) (d : Option Nat) {v : AV} {cv : Value} (hv : Rep E n w v cv) : RepL E n w (put fr d v) (a.put d cv).tmps.toList := by
  cases d with
  | none => exact F
  | some d =>
    refine ⟨by simp [put, Act.put, F.len], fun j x u hx hu => ?_⟩
    simp only [put, List.getElem?_set] at hx
    simp only [Act.put, Array.getElem?_toList, Array.getElem?_setIfInBounds] at hu
    by_cases e : d = j
    · subst e
      rw [if_pos rfl] at hx hu
      split at hx
      · split at hu
        · obtain rfl := Option.some.inj hx
          obtain rfl := Option.some.inj hu
          exact hv
        · cases hu
      · cases hx
    · rw [if_neg e] at hx hu
      exact F.at_ j x u hx (by simpa using hu)

theorem put_defers (a : Act) (d : Option Nat) (v : Value) : (a.put d v).defers = a.defers := by cases d <;> rfl

/-- a call of a function value -/
theorem callV_sound (H : SndO P T O) {f v : AV} {args : List AV} (h : callV O f args st = some (v, st')) (hr : st.ro ≤ st.objs.length) (S : Sim P T E st w) {cf : Value} {cargs : Array Value}
    (hf : Rep E st.objs.length w f cf) (ha : RepL E st.objs.length w args cargs.toList) (c : Frame) (cs : List Frame) :
    ∃ E' w' cv nx, Sim P T E' st' w' ∧ Rep E' st'.objs.length w' v cv ∧ Ext E st.objs.length w E' st'.objs.length w' ∧
      (do let d ← Deferred.ofValue cf cargs; invoke d.target d.args : Sem Next).run P w = .ok nx w ∧ Then P c cs w cv w' nx := by
  unfold callV at h
  split at h
  · rename_i g first captured
    cases hf with
    | fn hla hra hlb hrb =>
      rename_i va vb
      have hall : RepL E st.objs.length w (first ++ args ++ captured) (va ++ cargs ++ vb).toList := by
        have e1 : first.length = va.toList.length := by simpa using hla
        have e2 := ha.len
        have e0 : cargs.toList.length = cargs.size := Array.length_toList
        refine ⟨by simp [hla, hlb] at *; omega, fun j x u hx hu => ?_⟩
        simp only [Array.toList_append] at hu
        rcases Nat.lt_or_ge j (first ++ args).length with h1 | h1
        · rw [List.getElem?_append_left h1] at hx
          rw [List.getElem?_append_left (by simp at h1 ⊢; omega)] at hu
          rcases Nat.lt_or_ge j first.length with h2 | h2
          · rw [List.getElem?_append_left h2] at hx
            rw [List.getElem?_append_left (by omega)] at hu
            exact hra j x u hx (by simpa using hu)
          · rw [List.getElem?_append_right h2] at hx
            rw [List.getElem?_append_right (by omega), ← e1] at hu
            exact ha.at_ _ x u hx hu
        · rw [List.getElem?_append_right h1] at hx
          rw [List.getElem?_append_right (by simp at h1 ⊢; omega)] at hu
          have e3 : (va.toList ++ cargs.toList).length = (first ++ args).length := by simp at *; omega
          rw [e3] at hu
          exact hrb _ x u hx (by simpa using hu)
      obtain ⟨E', w', cv, r1, r2, r3, r4, r5⟩ := H.call _ _ _ _ _ h hr E w (va ++ cargs ++ vb) S hall c cs
      exact ⟨E', w', cv, _, r1, r2, r3, by simp only [Deferred.ofValue, Sem.run_bind, Sem.run_pure, Result.andThen_ok, invoke]; exact r4, r5⟩
  · rename_i r
    cases hf with
    | yld hrn =>
      obtain ⟨E', w', cv, nx, r1, r2, r3, r4, r5⟩ := H.yield _ _ _ _ _ h hr E w cargs S ha c cs
      exact ⟨E', w', cv, nx, r1, r2, r3, by simp only [Deferred.ofValue, Sem.run_bind, Sem.run_pure, Result.andThen_ok, invoke, Array.empty_append]; exact r4, r5⟩
  · cases h

/-- one operation, calls too: from its turn to the next one's -/
theorem step_sound (H : SndO P T O) {ops : Array Oper} {i : Nat} {o : Oper} {x : AOp} (ho : ops[i]? = some o) (hc : chkOper P ops o x = true) {fr fr' : List AV} {a : Act} (h : exStep O x fr st = some (fr', st'))
    (hr : st.ro ≤ st.objs.length) (S : Sim P T E st w) (F : RepL E st.objs.length w fr a.tmps.toList) (b : Frame) (rest : List Nat) (k : List Item) (cs : List Frame) :
    ∃ E' a' w', Sim P T E' st' w' ∧ RepL E' st'.objs.length w' fr' a'.tmps.toList ∧ (∃ cv, a' = a.put x.dst cv) ∧ Ext E st.objs.length w E' st'.objs.length w' ∧
      Steps P (lone (on b a (.inRegion ops (i :: rest) :: k)) cs w) (lone (on b a' (.inRegion ops rest :: k)) cs w') := by
  simp only [chkOper, Bool.and_eq_true] at hc
  obtain ⟨⟨hd, hop⟩, hg⟩ := hc
  have hdst : o.dst = x.dst := by simpa using hd
  have hdef : ∀ c, o.op ≠ .defer c := by
    intro c e
    rw [e] at hop
    cases hx : x.op <;> rw [hx] at hop <;> simp [chkOp] at hop
  -- the operation itself
  have main : Region.wanted o (yielded ops a.tmps) = true → (match exOp O fr st x.op with | some (v, st') => some (put fr x.dst v, st') | none => none) = some (fr', st') →
      ∃ E' a' w', Sim P T E' st' w' ∧ RepL E' st'.objs.length w' fr' a'.tmps.toList ∧ (∃ cv, a' = a.put x.dst cv) ∧ Ext E st.objs.length w E' st'.objs.length w' ∧
      Steps P (lone (on b a (.inRegion ops (i :: rest) :: k)) cs w) (lone (on b a' (.inRegion ops rest :: k)) cs w') := by
    intro hw h
    split at h
    · rename_i v s hx
      obtain ⟨rfl, rfl⟩ : _ ∧ _ := by simpa using h
      -- calls
      have calls : ∀ (cf : Value) (cargs : Array Value) (f : AV) (args : List AV), callV O f args st = some (v, s) → Rep E st.objs.length w f cf → RepL E st.objs.length w args cargs.toList →
          (execOp a.eval o).run P w = (do let d ← Deferred.ofValue cf cargs; invoke d.target d.args : Sem Next).run P w →
          ∃ E' a' w', Sim P T E' s w' ∧ RepL E' s.objs.length w' (put fr x.dst v) a'.tmps.toList ∧ (∃ cv, a' = a.put x.dst cv) ∧ Ext E st.objs.length w E' s.objs.length w' ∧
          Steps P (lone (on b a (.inRegion ops (i :: rest) :: k)) cs w) (lone (on b a' (.inRegion ops rest :: k)) cs w') := by
        intro cf cargs f args hcall hf hargs hrun
        obtain ⟨E', w', cv, nx, r1, r2, r3, r4, r5⟩ := callV_sound H hcall hr S hf hargs (on b a (.inRegion ops (i :: rest) :: k)) cs
        rw [r4] at hrun
        refine ⟨E', a.put x.dst cv, w', r1, put_rep (F.mono r3.toMono) _ r2, ⟨_, rfl⟩, r3, ?_⟩
        have hfin := finish_on b a ops i rest k cv
        rw [ho] at hfin
        have hfin' : (on b a (.inRegion ops (i :: rest) :: k)).finish cv = on b (a.put x.dst cv) (.inRegion ops rest :: k) := by rw [hfin, ← hdst]; rfl
        cases nx <;> simp only [Then] at r5
        case enter g as =>
          obtain ⟨fr2, s1, s2⟩ := r5
          rw [← hfin']
          exact .head (st_enter ho hw hdef hrun) (s1.trans (.one (st_ret s2)))
        case round l g tmps asg body =>
          rw [← hfin']
          exact .head (st_round ho hw hdef hrun) r5
      by_cases hcall : (∃ f l, x.op = .call f l) ∨ (∃ f l, x.op = .callv f l)
      · rcases hcall with ⟨f, l, e⟩ | ⟨f, l, e⟩
        · rw [e] at hop hx
          obtain ⟨dst, op, ty, pos, after, guard⟩ := o
          cases op <;> simp only [chkOp, Bool.false_eq_true] at hop
          rename_i c
          obtain ⟨callee, args, ts⟩ := c
          cases callee <;> simp only [chkCall, Bool.false_eq_true, chkBuiltin] at hop
          rename_i g
          cases g <;> simp only [Bool.false_eq_true] at hop
          rename_i g
          simp only [Bool.and_eq_true, beq_iff_eq] at hop
          obtain ⟨rfl, hargs⟩ := hop
          have ha := canAL_rep (evs_rep S.glob F hargs)
          refine calls (.func (.func (rl f)) #[] #[]) (args.map a.eval) (.fn (.func f) [] []) (canAL (evs fr l)) (by simpa [callV, exOp] using hx) (.fn (f := .func f) (va := #[]) (vb := #[]) rfl (by simp) rfl (by simp)) (by simpa using ha) ?_
          simp [execOp, resolve, Act.eval]
        · rw [e] at hop hx
          obtain ⟨dst, op, ty, pos, after, guard⟩ := o
          cases op <;> simp only [chkOp, Bool.false_eq_true] at hop
          rename_i c
          obtain ⟨callee, args, ts⟩ := c
          cases callee <;> simp only [chkCall, Bool.false_eq_true, chkBuiltin] at hop
          rename_i g
          simp only [Bool.and_eq_true] at hop
          have ha := canAL_rep (evs_rep S.glob F hop.2)
          refine calls (a.eval g) (args.map a.eval) (ev fr f) (canAL (evs fr l)) hx (ev_rep S.glob F hop.1) (by simpa using ha) ?_
          simp [execOp, resolve]
      · obtain ⟨nx, w', E', r1, r2, r3, r4⟩ := op_sound (a := a) S F hop hx (fun f l e => hcall (.inl ⟨f, l, e⟩)) (fun f l e => hcall (.inr ⟨f, l, e⟩))
        rcases r2 with ⟨cv, rfl, r2⟩ | ⟨rfl, rfl⟩
        · refine ⟨E', a.put x.dst cv, w', r3, put_rep (F.mono r4.toMono) _ r2, ⟨_, rfl⟩, r4, ?_⟩
          rw [← hdst]
          exact .one (st_value ho hw hdef r1)
        · refine ⟨E', a.put x.dst undef, w', r3, put_rep (F.mono r4.toMono) _ (.any _), ⟨_, rfl⟩, r4, ?_⟩
          rw [← hdst]
          exact .one (st_unit ho hw hdef r1)
    · cases h
  obtain ⟨xd, xo, xg⟩ := x
  cases hog : o.guard with
  | none =>
    rw [hog] at hg
    cases xg with
    | some _ => simp at hg
    | none => exact main (by simp [Region.wanted, hog]) h
  | some jw =>
    obtain ⟨j, want⟩ := jw
    rw [hog] at hg
    cases xg with
    | none => simp at hg
    | some sw =>
      obtain ⟨s, want'⟩ := sw
      simp only [Bool.and_eq_true, beq_iff_eq] at hg
      obtain ⟨rfl, hj⟩ := hg
      simp only [exStep] at h
      split at h
      · rename_i bb hb
        have hs : yielded ops a.tmps j = bb := by
          have hr1 := slot_rep F s
          unfold yielded
          rw [hj]
          rw [Array.getD_eq_getD_getElem?] at hr1
          generalize slot fr s = v at hb hr1
          unfold gd at hb
          split at hb
          · obtain rfl := Option.some.inj hb
            have he := rep_bool hr1
            cases hq : a.tmps[s]? with
            | none => rw [hq] at he; simp [undef] at he
            | some q => rw [hq] at he; simp at he; simp [hq, he]
          · obtain rfl := Option.some.inj hb
            cases hq : a.tmps[s]? with
            | none => simp [hq]
            | some q =>
              rw [hq] at hr1
              simp only [Option.getD_some] at hr1
              cases hr1
              simp [hq]
          · cases hb
        cases hbw : bb == some want with
        | true =>
          rw [hbw] at h
          exact main (by simp only [Region.wanted, hog, hs]; simpa using hbw) h
        | false =>
          rw [hbw] at h
          obtain ⟨rfl, rfl⟩ : _ ∧ _ := by simpa using h
          refine ⟨E, a.put xd undef, w, S, put_rep F _ (.tup rfl (by simp)), ⟨_, rfl⟩, Ext.refl _ _ _, ?_⟩
          have hd' : o.dst = xd := hdst
          rw [← hd']
          exact .one (st_op_skip ho (by simp only [Region.wanted, hog, hs]; simpa using hbw))
      · cases h

/-- operations one behind the other, in any listed order -/
theorem list_sound (H : SndO P T O) {ops : Array Oper} {xs : List AOp} (hops : ∀ (i : Nat) x, xs[i]? = some x → ∃ o, ops[i]? = some o ∧ chkOper P ops o x = true) (b : Frame) (k : List Item) (cs : List Frame) (L : List Nat) :
    ∀ {fr fr' : List AV} {st st' : St} {E : Env} {w : World} {a : Act} (l : List AOp), L.map (fun (j : Nat) => xs[j]?) = l.map some → exOps O l fr st = some (fr', st') → st.ro ≤ st.objs.length → Sim P T E st w → RepL E st.objs.length w fr a.tmps.toList →
      ∃ E' a' w', Sim P T E' st' w' ∧ RepL E' st'.objs.length w' fr' a'.tmps.toList ∧ a'.defers = a.defers ∧ Ext E st.objs.length w E' st'.objs.length w' ∧
        Steps P (lone (on b a (.inRegion ops L :: k)) cs w) (lone (on b a' k) cs w') := by
  induction L with
  | nil =>
    intro fr fr' st st' E w a l hl h hr S F
    obtain rfl : l = [] := by cases l <;> simp at hl; rfl
    simp [exOps] at h
    obtain ⟨rfl, rfl⟩ := h
    exact ⟨E, a, w, S, F, rfl, Ext.refl _ _ _, .one st_end⟩
  | cons i L ih =>
    intro fr fr' st st' E w a l hl h hr S F
    cases l with
    | nil => simp at hl
    | cons x l =>
      simp only [List.map_cons, List.cons.injEq] at hl
      obtain ⟨o, ho, hc⟩ := hops i x hl.1
      simp only [exOps] at h
      split at h
      · rename_i fr1 st1 h1
        obtain ⟨E1, a1, w1, S1, F1, d1, X1, r1⟩ := step_sound H ho hc h1 hr S F b L k cs
        have k1 := exStep_keep H.keep h1 hr
        obtain ⟨E2, a2, w2, S2, F2, d2, X2, r2⟩ := ih l hl.2 h (by rw [k1.1.ro]; exact Nat.le_trans hr k1.1.len) S1 F1
        exact ⟨E2, a2, w2, S2, F2, d2.trans (by obtain ⟨cv, rfl⟩ := d1; exact put_defers _ _ _), X1.trans X2, r1.trans r2⟩
      · cases h

theorem chkOpers_get {ops : Array Oper} : ∀ {l : List Oper} {xs : List AOp}, chkOpers P ops l xs = true → l.length = xs.length ∧ ∀ (i : Nat) x, xs[i]? = some x → ∃ o, l[i]? = some o ∧ chkOper P ops o x = true
  | [], [], _ => ⟨rfl, by simp⟩
  | [], _ :: _, h => by simp [chkOpers] at h
  | _ :: _, [], h => by simp [chkOpers] at h
  | o :: l, x :: xs, h => by
    simp only [chkOpers, Bool.and_eq_true] at h
    obtain ⟨h1, h2⟩ := chkOpers_get h.2
    refine ⟨by simp [h1], fun i y hy => ?_⟩
    cases i with
    | zero => simp at hy; subst hy; exact ⟨o, rfl, h.1⟩
    | succ i => obtain ⟨o', a1, a2⟩ := h2 i y (by simpa using hy); exact ⟨o', by simpa using a1, a2⟩

end
end Go.Proofs.Ytgabnhmjlhhojaa.A
