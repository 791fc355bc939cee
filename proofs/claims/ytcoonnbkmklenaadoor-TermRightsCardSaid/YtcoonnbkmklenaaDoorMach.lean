/- The machine's moves at a frame that may be a round of a loop over a function. -/
import Derived.Test.YtcoonnbkmklenaaDoorOps8
import Derived.Calls
namespace Go.Proofs.YtcoonnbkmklenaaDoor.A
open Go

/-- the frame b at an act -/
def on (b : Frame) (a : Act) (todo : List Item) : Frame := { b with tmps := a.tmps, todo := todo, defers := a.defers, mode := .run }

theorem eval_on (b : Frame) (a : Act) (todo : List Item) : (on b a todo).eval = a.eval := by
  funext x; cases x <;> rfl

section
variable {P : Program} {b : Frame} {a : Act} {k : List Item} {cs : List Frame} {w : World}

theorem st_skip : step P (lone (on b a (.code .skip :: k)) cs w) = .next (lone (on b a k) cs w) := step_lone_go (by simp [stepG, stepG.exec, on])
theorem st_inBlock {id : Nat} : step P (lone (on b a (.inBlock id :: k)) cs w) = .next (lone (on b a k) cs w) := step_lone_go (by simp [stepG, stepG.exec, on])
theorem st_seq {x y : Code} : step P (lone (on b a (.code (.seq x y) :: k)) cs w) = .next (lone (on b a (.code x :: .code y :: k)) cs w) := step_lone_go (by simp [stepG, stepG.exec, on])
theorem st_cond {c : Operand} {x y : Code} {t : Bool} (h : a.eval c = .bool t) : step P (lone (on b a (.code (.cond c x y) :: k)) cs w) = .next (lone (on b a (.code (if t then x else y) :: k)) cs w) :=
  step_lone_go (by
    have := congrFun (eval_on b a (.code (.cond c x y) :: k)) c
    simp only [on] at this
    simp [stepG, stepG.exec, on, this, h])
theorem st_block {id : Nat} {c : Code} : step P (lone (on b a (.code (.block id c) :: k)) cs w) = .next (lone (on b a (.code c :: .inBlock id :: k)) cs w) := step_lone_go (by simp [stepG, stepG.exec, on])
theorem st_loop {c : Code} : step P (lone (on b a (.code (.loop c) :: k)) cs w) = .next (lone (on b a (.code c :: .inLoop c :: k)) cs w) := step_lone_go (by simp [stepG, stepG.exec, on])
theorem st_inLoop {c : Code} : step P (lone (on b a (.inLoop c :: k)) cs w) = .next (lone (on b a (.code c :: .inLoop c :: k)) cs w) := step_lone_go (by simp [stepG, stepG.exec, on])
theorem st_exit {id : Nat} {k' : List Item} (h : exitTo id k = some k') : step P (lone (on b a (.code (.exit id) :: k)) cs w) = .next (lone (on b a k') cs w) := step_lone_go (by simp [stepG, stepG.exec, on, h])
theorem st_region {id : Nat} {ops : Array Oper} : step P (lone (on b a (.code (.region id ops false) :: k)) cs w) = .next (lone (on b a (.inRegion ops (List.range ops.size) :: k)) cs w) := step_lone_go (by simp [stepG, stepG.exec, on])
theorem st_draw {id : Nat} {ops : Array Oper} : step P (lone (on b a (.code (.region id ops true) :: k)) cs w) =
    .next (lone (on b a (.inRegion ops (Region.schedule (P.follows .mixedOrders) ops (w.tape w.drawn (.order b.fn id))) :: k)) cs w.drew) :=
  step_lone_go (by simp [stepG, stepG.exec, on, choose, Sem.run, Question.forced, Question.cut])
theorem st_end {ops : Array Oper} : step P (lone (on b a (.inRegion ops [] :: k)) cs w) = .next (lone (on b a k) cs w) := step_lone_go (by simp [stepG, stepG.exec, on])

theorem finish_on (b : Frame) (a : Act) (ops : Array Oper) (i : Nat) (rest : List Nat) (k : List Item) (v : Value) :
    (on b a (.inRegion ops (i :: rest) :: k)).finish v = on b (a.put ((ops[i]?).bind (·.dst)) v) (.inRegion ops rest :: k) := by
  cases h : (ops[i]?).bind (·.dst) <;> simp [Frame.finish, on, Act.put, h]

theorem st_op_skip {ops : Array Oper} {i : Nat} {rest : List Nat} {o : Oper} (ho : ops[i]? = some o) (h : Region.wanted o (yielded ops a.tmps) = false) :
    step P (lone (on b a (.inRegion ops (i :: rest) :: k)) cs w) = .next (lone (on b (a.put o.dst undef) (.inRegion ops rest :: k)) cs w) := by
  have hf := finish_on b a ops i rest k undef
  rw [ho] at hf
  rw [show a.put o.dst undef = a.put ((some o).bind (·.dst)) undef from rfl, ← hf]
  exact step_lone_go (by
    simp only [on] at *
    simp [stepG, stepG.exec, ho, h])

theorem stepG_on {ops : Array Oper} {i : Nat} {rest : List Nat} {o : Oper} (ho : ops[i]? = some o) (hw : Region.wanted o (yielded ops a.tmps) = true) (hd : ∀ c, o.op ≠ .defer c) :
    stepG P true { frame := on b a (.inRegion ops (i :: rest) :: k), callers := cs, status := .running, dying := none } w =
      stepG.apply P true (on b a (.inRegion ops (i :: rest) :: k)) cs none (execOp a.eval o) w := by
  have he := eval_on b a (.inRegion ops (i :: rest) :: k)
  have key : ∀ (x : Option Nat), (match x, o.op with
      | some l, .defer c => stepG.apply P true (on b a (.inRegion ops (i :: rest) :: k)) cs none (do Instr.deferInRound l (← resolve (on b a (.inRegion ops (i :: rest) :: k)).eval c o.type); pure .skip) w
      | _, _ => stepG.apply P true (on b a (.inRegion ops (i :: rest) :: k)) cs none (execOp (on b a (.inRegion ops (i :: rest) :: k)).eval o) w) =
        stepG.apply P true (on b a (.inRegion ops (i :: rest) :: k)) cs none (execOp a.eval o) w := by
    intro x
    split
    · rename_i c h; exact absurd h (hd c)
    · rw [he]
  have := key b.roundOf
  simp only [on] at *
  simp only [stepG, stepG.exec, stepG.oper, Frame.oper?, ho, hw, Option.map_some, Option.getD_some, if_true]
  exact this

/-- an operation that gives a value, or nothing -/
theorem st_value {ops : Array Oper} {i : Nat} {rest : List Nat} {o : Oper} (ho : ops[i]? = some o) (hw : Region.wanted o (yielded ops a.tmps) = true) (hd : ∀ c, o.op ≠ .defer c) {v : Value} {w' : World}
    (hr : (execOp a.eval o).run P w = .ok (.value v) w') : step P (lone (on b a (.inRegion ops (i :: rest) :: k)) cs w) = .next (lone (on b (a.put o.dst v) (.inRegion ops rest :: k)) cs w') := by
  have hf := finish_on b a ops i rest k v
  rw [ho] at hf
  rw [show a.put o.dst v = a.put ((some o).bind (·.dst)) v from rfl, ← hf]
  exact step_lone_go (by rw [stepG_on ho hw hd]; simp [stepG.apply, hr])
theorem st_unit {ops : Array Oper} {i : Nat} {rest : List Nat} {o : Oper} (ho : ops[i]? = some o) (hw : Region.wanted o (yielded ops a.tmps) = true) (hd : ∀ c, o.op ≠ .defer c) {w' : World}
    (hr : (execOp a.eval o).run P w = .ok .skip w') : step P (lone (on b a (.inRegion ops (i :: rest) :: k)) cs w) = .next (lone (on b (a.put o.dst undef) (.inRegion ops rest :: k)) cs w') := by
  have hf := finish_on b a ops i rest k undef
  rw [ho] at hf
  rw [show a.put o.dst undef = a.put ((some o).bind (·.dst)) undef from rfl, ← hf]
  exact step_lone_go (by rw [stepG_on ho hw hd]; simp [stepG.apply, hr])
theorem st_enter {ops : Array Oper} {i : Nat} {rest : List Nat} {o : Oper} (ho : ops[i]? = some o) (hw : Region.wanted o (yielded ops a.tmps) = true) (hd : ∀ c, o.op ≠ .defer c) {f : FuncId} {args : Array Value} {w' : World}
    (hr : (execOp a.eval o).run P w = .ok (.enter f args) w') : step P (lone (on b a (.inRegion ops (i :: rest) :: k)) cs w) =
      .next (lone (Frame.enter P f args .normal) (on b a (.inRegion ops (i :: rest) :: k) :: cs) w') :=
  step_lone_go (by rw [stepG_on ho hw hd]; simp [stepG.apply, hr, on])
theorem st_round {ops : Array Oper} {i : Nat} {rest : List Nat} {o : Oper} (ho : ops[i]? = some o) (hw : Region.wanted o (yielded ops a.tmps) = true) (hd : ∀ c, o.op ≠ .defer c) {l : Nat} {f : FuncId} {tmps : Array Value} {asg body : Code} {w' : World}
    (hr : (execOp a.eval o).run P w = .ok (.round l f tmps asg body) w') : step P (lone (on b a (.inRegion ops (i :: rest) :: k)) cs w) =
      .next (lone (Frame.round l f tmps asg body .normal) (on b a (.inRegion ops (i :: rest) :: k) :: cs) w') :=
  step_lone_go (by rw [stepG_on ho hw hd]; simp [stepG.apply, hr])

/-- what a frame's caller sees when it is left -/
theorem st_ret {v : Value} {fr c : Frame} (h : fr.leaving P w (.returned v)) : step P (lone fr (c :: cs) w) = .next (lone (c.finish v) cs w) := step_leave_returned h

/-! the loop over a function -/

theorem st_range {f : Operand} {ps : Array Tmp} {asg body : Code} (hro : b.roundOf = none) {l : Nat} {mark : List Deferred} {w1 w2 : World} {g : FuncId} {args : Array Value}
    (h1 : (Instr.enterLoop b.fn a.tmps ps asg body none).run P w = .ok (l, mark) w1)
    (h2 : (do let d ← resolve a.eval { callee := .value f, args := #[.const (.func (.yield l) #[] #[])], argTypes := #[] } 0; invoke d.target d.args : Sem Next).run P w1 = .ok (.enter g args) w2) :
    step P (lone (on b a (.code (.rangeFunc f ps asg body) :: k)) cs w) =
      .next (lone (Frame.enter P g args .normal) (on b { tmps := a.tmps, defers := mark ++ a.defers } (.inRangeFunc l :: k) :: cs) w2) := by
  have he : ∀ d t, (({ fn := b.fn, tmps := a.tmps, todo := t, defers := d, mode := .run, kind := b.kind } : Frame)).eval = a.eval := fun d t => by funext x; cases x <;> rfl
  refine step_lone_go ?_
  simp only [stepG, stepG.exec, on, hro, Sem.runT_eq, h1]
  simp only [GStep.bare_after]
  simp only [he]
  simp only [stepG.apply, Sem.runT_eq, if_true, h2, GStep.bare_after]
  rfl

theorem st_endRange {l : Nat} {w1 : World} {j : Option Code} (h : (Instr.endLoop l).run P w = .ok j w1) :
    step P (lone (on b a (.endRangeFunc l :: k)) cs w) = .next (lone (on b a ((j.map Item.code).toList ++ k)) cs w1) := by
  refine step_lone_go ?_
  simp [stepG, stepG.exec, on, h]

theorem st_begin {l : Nat} (hro : b.roundOf = some l) {w1 : World} (h : (Instr.beginRound l).run P w = .ok () w1) :
    step P (lone (on b a (.beginRound :: k)) cs w) = .next (lone (on b a k) cs w1) := by
  refine step_lone_go ?_
  simp [stepG, stepG.exec, stepG.apply, on, hro, h, Frame.finish]

theorem st_leaveRound {l : Nat} (hro : b.roundOf = some l) (hk : b.kind = .normal) {jump : Option Code} {v : Value} {w1 : World} {c : Frame} (h : (Instr.endRound l jump).run P w = .ok v w1) {t : List Item}
    (ht : (t = [] ∧ jump = none) ∨ (∃ k, t = .code .ret :: k ∧ jump = some .ret) ∨ (∃ id k, t = .code (.exit id) :: k ∧ exitTo id k = none ∧ jump = some (.exit id))) :
    step P (lone (on b a t) (c :: cs) w) = .next (lone (c.finish v) cs w1) := by
  refine step_lone_go ?_
  rcases ht with ⟨rfl, rfl⟩ | ⟨k, rfl, rfl⟩ | ⟨id, k, rfl, he, rfl⟩
  · simp [stepG, stepG.exec, on, hro, h, doReturn, hk]
  · simp [stepG, stepG.exec, on, hro, h, doReturn, hk]
  · simp [stepG, stepG.exec, on, hro, he, h, doReturn, hk]

/-- out of code, into returning -/
theorem st_return (hro : b.roundOf = none) {t : List Item} (ht : t = [] ∨ ∃ k, t = .code .ret :: k) : step P (lone (on b a t) cs w) = .next (lone { on b a t with mode := .returning } cs w) := by
  refine step_lone_go ?_
  rcases ht with rfl | ⟨k, rfl⟩
  · simp [stepG, stepG.exec, on, hro]
  · simp [stepG, stepG.exec, on, hro]

theorem st_unwind {blk : Nat} {ds : List Deferred} {calls : List Deferred} {w1 : World} {fr : Frame} (hm : fr.mode = .returning) (hd : fr.defers = { target := .collected blk, args := #[] } :: ds)
    (h : (Instr.takeDeferred blk).run P w = .ok calls w1) : step P (lone fr cs w) = .next (lone { fr with defers := calls ++ ds } cs w1) := by
  refine step_lone_go ?_
  simp [stepG, hm, unwind, hd, h]

end
end Go.Proofs.YtcoonnbkmklenaaDoor.A
