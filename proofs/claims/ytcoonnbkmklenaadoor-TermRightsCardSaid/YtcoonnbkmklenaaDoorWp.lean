/- The abstract interpreter in the form in which it is evaluated: what is to hold behind a piece of code. -/
import Derived.Test.YtcoonnbkmklenaaDoorLim
namespace Go.Proofs.YtcoonnbkmklenaaDoor.A
open Go

def kOp (O : Orc) (fr : List AV) (st : St) (o : AO) (K : AV → St → Prop) : Prop :=
  match exOp O fr st o with
  | some (v, st') => K v st'
  | none => False

def kStep (O : Orc) (o : AOp) (fr : List AV) (st : St) (K : List AV → St → Prop) : Prop :=
  match o.guard with
  | none => kOp O fr st o.op fun v st' => K (put fr o.dst v) st'
  | some (j, want) =>
    match gd (slot fr j) with
    | some x => if x = some want then kOp O fr st o.op fun v st' => K (put fr o.dst v) st' else K (put fr o.dst (.tup [])) st
    | none => False

def kOps (O : Orc) : List AOp → List AV → St → (List AV → St → Prop) → Prop
  | [], fr, st, K => K fr st
  | o :: l, fr, st, K => kStep O o fr st fun fr' st' => kOps O l fr' st' K

def kDraw (O : Orc) : List AOp → List (Nat × Nat × Nat × Nat) → List AV → St → (List AV → St → Prop) → Prop
  | [], ts, fr, st, K => allApart ts = true ∧ K fr st
  | o :: l, ts, fr, st, K => kStep O o fr st fun fr' st' => kDraw O l (target fr o.op ++ ts) fr' st' K

/-- behind a loop over a function -/
def kEnd (fr : List AV) (r : Nat) (st : St) (Q : AE → List AV → St → Prop) : Prop :=
  match st.objs[r]? with
  | some (.loop s p fr' ps' asg' body') =>
    s ≠ .busy ∧ Q (p.getD .norm) fr (st.set r (.loop .exhausted p fr' ps' asg' body'))
  | _ => False

def kC (O : Orc) (rd : Bool) : AC → List AV → St → (AE → List AV → St → Prop) → Prop
  | .skip, fr, st, Q => Q .norm fr st
  | .ops l false, fr, st, Q => kOps O l fr st fun fr' st' => Q .norm fr' st'
  | .ops l true, fr, st, Q => kDraw O l [] fr st fun fr' st' => Q .norm fr' st'
  | .seq a b, fr, st, Q => kC O rd a fr st fun e fr' st' => match e with | .norm => kC O rd b fr' st' Q | .exit id => Q (.exit id) fr' st' | .ret => Q .ret fr' st'
  | .cond c a b, fr, st, Q =>
    match ev fr c with
    | .bool t => if t = true then kC O rd a fr st Q else kC O rd b fr st Q
    | _ => False
  | .block id c, fr, st, Q => kC O rd c fr st fun e fr' st' => match e with | .exit j => if j = id then Q .norm fr' st' else Q (.exit j) fr' st' | .norm => Q .norm fr' st' | .ret => Q .ret fr' st'
  | .loop c, fr, st, Q => ∃ e fr' st', O.loop rd c fr st = some (e, fr', st') ∧ Q e fr' st'
  | .range f ps asg body, fr, st, Q =>
    rd = false ∧
    ∃ v st', callF O (ev fr f) [.yld (st.objs.length + 1)] { st with objs := st.objs ++ [.dfr, .loop .ready none fr ps asg body], df := st.objs.length :: st.df } = some (v, st') ∧
      kEnd fr (st.objs.length + 1) st' Q
  | .exit id, fr, st, Q => Q (.exit id) fr st
  | .ret, fr, st, Q => Q .ret fr st

theorem kOp_mono {O : Orc} {fr : List AV} {st : St} {o : AO} {K K' : AV → St → Prop} (h : kOp O fr st o K) (hk : ∀ v s, K v s → K' v s) : kOp O fr st o K' := by
  unfold kOp at *
  split at h
  · exact hk _ _ h
  · exact h

theorem kStep_get {O : Orc} {o : AOp} {fr : List AV} {st : St} {K : List AV → St → Prop} (h : kStep O o fr st K) : ∃ fr' st', exStep O o fr st = some (fr', st') ∧ K fr' st' := by
  obtain ⟨dst, op, guard⟩ := o
  have key : kOp O fr st op (fun v st' => K (put fr dst v) st') → ∃ fr' st', (match exOp O fr st op with | some (v, st') => some (put fr dst v, st') | none => none) = some (fr', st') ∧ K fr' st' := by
    intro h
    unfold kOp at h
    split at h
    · exact ⟨_, _, rfl, h⟩
    · exact h.elim
  cases guard with
  | none => exact key h
  | some g =>
    obtain ⟨j, want⟩ := g
    simp only [kStep] at h
    simp only [exStep]
    split at h
    · rename_i b hb
      by_cases hw : b = some want
      · rw [if_pos hw] at h
        obtain ⟨_, _, e, hk⟩ := key h
        refine ⟨_, _, ?_, hk⟩
        simp only [hb, hw, beq_self_eq_true, cond_true]
        exact e
      · rw [if_neg hw] at h
        have e : (b == some want) = false := by simpa using hw
        exact ⟨_, _, by simp only [hb, e, cond_false], h⟩
    · exact h.elim

theorem kOps_get {O : Orc} (l : List AOp) : ∀ {fr : List AV} {st : St} {K : List AV → St → Prop}, kOps O l fr st K → ∃ fr' st', exOps O l fr st = some (fr', st') ∧ K fr' st' := by
  induction l with
  | nil => exact fun h => ⟨_, _, rfl, h⟩
  | cons o l ih =>
    intro fr st K h
    obtain ⟨fr1, st1, e1, h1⟩ := kStep_get h
    obtain ⟨fr2, st2, e2, h2⟩ := ih h1
    exact ⟨fr2, st2, by simp only [exOps, e1]; exact e2, h2⟩

theorem kDraw_get {O : Orc} (l : List AOp) : ∀ {ts : List (Nat × Nat × Nat × Nat)} {fr : List AV} {st : St} {K : List AV → St → Prop}, kDraw O l ts fr st K → ∃ fr' st', exDraw O l ts fr st = some (fr', st') ∧ K fr' st' := by
  induction l with
  | nil => exact fun h => ⟨_, _, by simp only [exDraw, h.1, if_true], h.2⟩
  | cons o l ih =>
    intro ts fr st K h
    obtain ⟨fr1, st1, e1, h1⟩ := kStep_get h
    obtain ⟨fr2, st2, e2, h2⟩ := ih h1
    exact ⟨fr2, st2, by simp only [exDraw, e1]; exact e2, h2⟩

theorem kC_get {O : Orc} {rd : Bool} (c : AC) : ∀ {fr : List AV} {st : St} {Q : AE → List AV → St → Prop}, kC O rd c fr st Q → ∃ e fr' st', exC O rd c fr st = some (e, fr', st') ∧ Q e fr' st' := by
  induction c with
  | skip => exact fun h => ⟨_, _, _, rfl, h⟩
  | exit id => exact fun h => ⟨_, _, _, rfl, h⟩
  | ret => exact fun h => ⟨_, _, _, rfl, h⟩
  | ops l d =>
    intro fr st Q h
    cases d with
    | false =>
      obtain ⟨fr', st', e, hq⟩ := kOps_get l h
      exact ⟨_, _, _, by simp only [exC, e], hq⟩
    | true =>
      obtain ⟨fr', st', e, hq⟩ := kDraw_get l h
      exact ⟨_, _, _, by simp only [exC, e], hq⟩
  | seq a b iha ihb =>
    intro fr st Q h
    obtain ⟨e, fr', st', he, hq⟩ := iha h
    cases e with
    | norm =>
      obtain ⟨e2, fr2, st2, he2, hq2⟩ := ihb hq
      exact ⟨e2, fr2, st2, by simp only [exC, he]; exact he2, hq2⟩
    | exit id => exact ⟨_, _, _, by simp only [exC, he], hq⟩
    | ret => exact ⟨_, _, _, by simp only [exC, he], hq⟩
  | cond c a b iha ihb =>
    intro fr st Q h
    simp only [kC] at h
    simp only [exC]
    split at h
    · rename_i t ht
      simp only [ht]
      cases t
      · exact ihb h
      · exact iha h
    · exact h.elim
  | block id c ih =>
    intro fr st Q h
    obtain ⟨e, fr', st', he, hq⟩ := ih h
    cases e with
    | norm => exact ⟨_, _, _, by simp only [exC, he], hq⟩
    | exit j =>
      by_cases hj : j = id
      · simp only [hj, if_true] at hq
        exact ⟨_, _, _, by simp only [exC, he, hj, if_true], hq⟩
      · simp only [hj, if_false] at hq
        exact ⟨_, _, _, by simp only [exC, he, hj, if_false], hq⟩
    | ret => exact ⟨_, _, _, by simp only [exC, he], hq⟩
  | loop c ih => exact fun h => h
  | range f ps asg body _ _ =>
    rintro fr st Q ⟨rfl, v, st', he, hq⟩
    simp only [exC, Bool.false_eq_true, if_false, he]
    unfold kEnd at hq
    split at hq
    · rename_i s _ _ _ _ _ hl
      rw [hl]
      refine ⟨_, _, _, ?_, hq.2⟩
      cases s <;> first | rfl | exact (hq.1 rfl).elim
    · exact hq.elim

/-- what is still to be done -/
inductive It where
  | c (c : AC)
  | ops (l : List AOp)
  | draw (l : List AOp) (ts : List (Nat × Nat × Nat × Nat))
  | blk (id : Nat)

def run (O : Orc) (rd : Bool) (Q : AE → List AV → St → Prop) : List It → AE → List AV → St → Prop
  | [], e, fr, st => Q e fr st
  | .c c :: k, .norm, fr, st => kC O rd c fr st fun e fr' st' => run O rd Q k e fr' st'
  | .ops l :: k, .norm, fr, st => kOps O l fr st fun fr' st' => run O rd Q k .norm fr' st'
  | .draw l ts :: k, .norm, fr, st => kDraw O l ts fr st fun fr' st' => run O rd Q k .norm fr' st'
  | .blk _ :: k, .norm, fr, st => run O rd Q k .norm fr st
  | .blk id :: k, .exit j, fr, st => if j = id then run O rd Q k .norm fr st else run O rd Q k (.exit j) fr st
  | _ :: k, e, fr, st => run O rd Q k e fr st

section
variable {O : Orc} {rd : Bool} {Q : AE → List AV → St → Prop} {k : List It} {fr : List AV} {st : St}
theorem run_one {c : AC} : run O rd Q [.c c] .norm fr st = kC O rd c fr st Q := rfl
theorem run_nil {e : AE} : run O rd Q [] e fr st = Q e fr st := rfl
theorem run_skip : run O rd Q (.c .skip :: k) .norm fr st = run O rd Q k .norm fr st := rfl
theorem run_ops {l : List AOp} : run O rd Q (.c (.ops l false) :: k) .norm fr st = run O rd Q (.ops l :: k) .norm fr st := rfl
theorem run_draw {l : List AOp} : run O rd Q (.c (.ops l true) :: k) .norm fr st = run O rd Q (.draw l [] :: k) .norm fr st := rfl
theorem run_seq {a b : AC} : run O rd Q (.c (.seq a b) :: k) .norm fr st = run O rd Q (.c a :: .c b :: k) .norm fr st := by
  simp only [run, kC]
  congr
  funext e fr' st'
  cases e <;> rfl
theorem run_cond {c : Opd} {a b : AC} : run O rd Q (.c (.cond c a b) :: k) .norm fr st = match ev fr c with
    | .bool t => (if t = true then run O rd Q (.c a :: k) .norm fr st else run O rd Q (.c b :: k) .norm fr st)
    | _ => False := rfl
theorem run_block {id : Nat} {c : AC} : run O rd Q (.c (.block id c) :: k) .norm fr st = run O rd Q (.c c :: .blk id :: k) .norm fr st := by
  simp only [run, kC]
  congr
  funext e fr' st'
  cases e <;> simp only [run]
theorem run_loop {c : AC} : run O rd Q (.c (.loop c) :: k) .norm fr st = ∃ e fr' st', O.loop rd c fr st = some (e, fr', st') ∧ run O rd Q k e fr' st' := rfl
theorem run_range {f : Opd} {ps : List Nat} {asg body : AC} : run O rd Q (.c (.range f ps asg body) :: k) .norm fr st = (rd = false ∧
    ∃ v st', callF O (ev fr f) [.yld (st.objs.length + 1)] { st with objs := st.objs ++ [.dfr, .loop .ready none fr ps asg body], df := st.objs.length :: st.df } = some (v, st') ∧
      kEnd fr (st.objs.length + 1) st' (run O rd Q k)) := rfl
theorem run_exit {id : Nat} : run O rd Q (.c (.exit id) :: k) .norm fr st = run O rd Q k (.exit id) fr st := rfl
theorem run_ret : run O rd Q (.c .ret :: k) .norm fr st = run O rd Q k .ret fr st := rfl
theorem run_c_exit {c : AC} {j : Nat} : run O rd Q (.c c :: k) (.exit j) fr st = run O rd Q k (.exit j) fr st := rfl
theorem run_c_ret {c : AC} : run O rd Q (.c c :: k) .ret fr st = run O rd Q k .ret fr st := rfl
theorem run_blk {id : Nat} : run O rd Q (.blk id :: k) .norm fr st = run O rd Q k .norm fr st := rfl
theorem run_blk_ret {id : Nat} : run O rd Q (.blk id :: k) .ret fr st = run O rd Q k .ret fr st := rfl
theorem run_blk_exit {id j : Nat} : run O rd Q (.blk id :: k) (.exit j) fr st = if j = id then run O rd Q k .norm fr st else run O rd Q k (.exit j) fr st := rfl
theorem run_ops_nil : run O rd Q (.ops [] :: k) .norm fr st = run O rd Q k .norm fr st := rfl
theorem run_op {d : Option Nat} {o : AO} {l : List AOp} : run O rd Q (.ops (⟨d, o, none⟩ :: l) :: k) .norm fr st = match exOp O fr st o with
    | some (v, st') => run O rd Q (.ops l :: k) .norm (put fr d v) st'
    | none => False := by
  simp only [run, kOps, kStep, kOp]
theorem run_opg {d : Option Nat} {o : AO} {j : Nat} {w : Bool} {l : List AOp} : run O rd Q (.ops (⟨d, o, some (j, w)⟩ :: l) :: k) .norm fr st = match gd (slot fr j) with
    | some x => if x = some w then run O rd Q (.ops (⟨d, o, none⟩ :: l) :: k) .norm fr st else run O rd Q (.ops l :: k) .norm (put fr d (.tup [])) st
    | none => False := by
  simp only [run, kOps, kStep, kOp]
theorem run_draw_nil {ts : List (Nat × Nat × Nat × Nat)} : run O rd Q (.draw [] ts :: k) .norm fr st = (allApart ts = true ∧ run O rd Q k .norm fr st) := rfl
theorem run_drawop {d : Option Nat} {o : AO} {l : List AOp} {ts : List (Nat × Nat × Nat × Nat)} : run O rd Q (.draw (⟨d, o, none⟩ :: l) ts :: k) .norm fr st = match exOp O fr st o with
    | some (v, st') => run O rd Q (.draw l (target fr o ++ ts) :: k) .norm (put fr d v) st'
    | none => False := by
  simp only [run, kDraw, kStep, kOp]
theorem run_drawopg {d : Option Nat} {o : AO} {j : Nat} {w : Bool} {l : List AOp} {ts : List (Nat × Nat × Nat × Nat)} : run O rd Q (.draw (⟨d, o, some (j, w)⟩ :: l) ts :: k) .norm fr st = match gd (slot fr j) with
    | some x => if x = some w then run O rd Q (.draw (⟨d, o, none⟩ :: l) ts :: k) .norm fr st else run O rd Q (.draw l (target fr o ++ ts) :: k) .norm (put fr d (.tup [])) st
    | none => False := by
  simp only [run, kDraw, kStep, kOp]
end
attribute [irreducible] run

/-- what a function hands out -/
def kFin (rs : List ARes) (pure : Bool) (st : St) (R : AV → St → Prop) (fr : List AV) (st' : St) : Prop :=
  match resOf { st' with objs := killAll st'.df st'.objs } fr rs with
  | some vs =>
    if pure = true then (match hand st.objs.length (killAll st'.df st'.objs) (tupOf vs) with | some v => R v st | none => False)
    else R (tupOf vs) { objs := killAll st'.df st'.objs, ro := st.ro, df := st.df }
  | none => False

def fin (rs : List ARes) (pure : Bool) (st : St) (R : AV → St → Prop) : AE → List AV → St → Prop
  | .exit _, _, _ => False
  | .norm, fr, st' => kFin rs pure st R fr st'
  | .ret, fr, st' => kFin rs pure st R fr st'

theorem kFin_get {rs : List ARes} {pure : Bool} {st st' : St} {fr : List AV} {R : AV → St → Prop} (h : kFin rs pure st R fr st') : ∃ v s,
    (match resOf { st' with objs := killAll st'.df st'.objs } fr rs with
    | some vs =>
      if pure then (match hand st.objs.length (killAll st'.df st'.objs) (tupOf vs) with | some v => some (v, st) | none => none)
      else some (tupOf vs, { objs := killAll st'.df st'.objs, ro := st.ro, df := st.df })
    | none => none) = some (v, s) ∧ R v s := by
  unfold kFin at h
  split at h
  · rename_i vs hv
    cases pure with
    | true =>
      simp only [if_true] at h
      split at h
      · exact ⟨_, _, rfl, h⟩
      · exact h.elim
    | false =>
      simp only [Bool.false_eq_true, if_false] at h
      exact ⟨_, _, rfl, h⟩
  · exact h.elim

theorem call_of {T : Tab} {f n : Nat} {rs : List ARes} {c : AC} {p : Bool} (hF : T f = some ⟨n, rs, c, p⟩) {args : List AV} {st : St} {R : AV → St → Prop}
    (hn : args.length ≤ n)
    (h : run (D T) false (fin rs p st R) [.c c] .norm (args ++ List.replicate (n - args.length) .any) { objs := st.objs, ro := if p = true then st.objs.length else st.ro, df := [] }) :
    ∃ v st', (D T).call f args st = some (v, st') ∧ R v st' := by
  rw [run_one] at h
  obtain ⟨e, fr, st', he, hq⟩ := kC_get c (Q := fin rs p st R) h
  rw [D_call T f _ hF]
  unfold exFn
  dsimp only
  rw [if_neg (by omega), he]
  cases e with
  | exit id => exact hq.elim
  | norm => exact kFin_get hq
  | ret => exact kFin_get hq

/-- a call that gives just this -/
theorem call_eq {T : Tab} {f n : Nat} {rs : List ARes} {c : AC} {p : Bool} (hF : T f = some ⟨n, rs, c, p⟩) {args : List AV} {st : St} {v : AV} {s : St}
    (hn : args.length ≤ n)
    (h : run (D T) false (fin rs p st (fun v' s' => v' = v ∧ s' = s)) [.c c] .norm (args ++ List.replicate (n - args.length) .any) { objs := st.objs, ro := if p = true then st.objs.length else st.ro, df := [] }) :
    (D T).call f args st = some (v, s) := by
  obtain ⟨v', s', e, rfl, rfl⟩ := call_of hF hn h
  exact e

/-- behind one round of a loop -/
def again (T : Tab) (rd : Bool) (c : AC) (Q : AE → List AV → St → Prop) : AE → List AV → St → Prop
  | .norm, fr, st => ∃ e2 fr2 st2, (D T).loop rd c fr st = some (e2, fr2, st2) ∧ Q e2 fr2 st2
  | .exit id, fr, st => Q (.exit id) fr st
  | .ret, fr, st => Q .ret fr st

theorem loop_round {T : Tab} {rd : Bool} {c : AC} {fr : List AV} {st : St} {Q : AE → List AV → St → Prop}
    (h : run (D T) rd (again T rd c Q) [.c c] .norm fr st) :
    ∃ e fr' st', (D T).loop rd c fr st = some (e, fr', st') ∧ Q e fr' st' := by
  rw [run_one] at h
  obtain ⟨e, fr', st', he, hq⟩ := kC_get c (Q := again T rd c Q) h
  rw [D_loop, he]
  cases e with
  | norm => exact hq
  | exit id => exact ⟨_, _, _, rfl, hq⟩
  | ret => exact ⟨_, _, _, rfl, hq⟩

theorem loop_step {T : Tab} {rd : Bool} {c c' : AC} (hc : c = c') {fr : List AV} {st : St} {Q : AE → List AV → St → Prop}
    (h : run (D T) rd (again T rd c Q) [.c c'] .norm fr st) :
    ∃ e fr' st', (D T).loop rd c fr st = some (e, fr', st') ∧ Q e fr' st' := by
  subst hc
  exact loop_round h

/-- a loop over a function, one round -/
def yend (r : Nat) (df : List Nat) (R : AV → St → Prop) : AE → List AV → St → Prop
  | e, _, st3 =>
    match st3.objs[r]? with
    | some (.loop .busy none fr4 ps4 asg4 body4) =>
      (match e with
      | .norm => R (.bool true) { st3.set r (.loop .ready none fr4 ps4 asg4 body4) with df := df }
      | e => R (.bool false) { st3.set r (.loop .done (some e) fr4 ps4 asg4 body4) with df := df })
    | _ => False

theorem slot_def (fr : List AV) (n : Nat) : slot fr n = fr.getD n .any := id rfl

section
variable (b : Bool) (k : IntKind) (n : Int) (s : ByteArray) (r i o : Nat) (cs : List AV) (es : List (List AV)) (f : Fn)
@[simp] theorem one_bool : AV.one (.bool b) = true := rfl
@[simp] theorem one_int : AV.one (.int k n) = true := rfl
@[simp] theorem one_str : AV.one (.str s) = true := rfl
@[simp] theorem one_nilf : AV.one .nilf = true := rfl
@[simp] theorem one_nilp : AV.one .nilp = true := rfl
@[simp] theorem one_ptr : AV.one (.ptr r i o) = true := rfl
@[simp] theorem one_vptr : AV.one (.vptr cs) = true := rfl
@[simp] theorem one_own : AV.one (.own r i o b) = true := rfl
@[simp] theorem one_sl : AV.one (.sl r es) = true := rfl
@[simp] theorem one_fsl : AV.one (.fsl r es) = true := rfl
@[simp] theorem one_fn : AV.one (.fn f cs cs) = true := rfl
@[simp] theorem one_fn2 (ds : List AV) : AV.one (.fn f cs ds) = true := rfl
@[simp] theorem one_yld : AV.one (.yld r) = true := rfl
@[simp] theorem one_any : AV.one .any = false := rfl
@[simp] theorem one_agg : AV.one (.agg cs) = false := rfl
@[simp] theorem one_tup : AV.one (.tup cs) = false := rfl
end
attribute [simp] run_nil run_skip run_ops run_draw run_seq run_cond run_block run_loop run_range run_exit run_ret run_c_exit run_c_ret run_blk run_blk_ret run_blk_exit run_ops_nil run_op run_opg
  run_draw_nil run_drawop run_drawopg fin kFin again slot_def killAll
attribute [simp] gd exOp ev evs put target allApart apart2 AV.cells bin binI binS resOf tupOf hand hand1 hand0 mapO opt
  canAL canA canL can1 bindP fill fillSl setMany val ld sto inB idxA idxArrA natB slc slcL slcS lenOf elems app callV callF St.arr? St.push St.set AV.flat AV.flatL AV.flatLL

end Go.Proofs.YtcoonnbkmklenaaDoor.A
