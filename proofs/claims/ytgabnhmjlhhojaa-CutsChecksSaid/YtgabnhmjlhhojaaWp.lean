/- The abstract interpreter in the form in which it is evaluated: what is to hold behind a piece of code. -/
import Derived.Test.YtgabnhmjlhhojaaKeep
namespace Go.Proofs.Ytgabnhmjlhhojaa.A
open Go

def kOp (O : Orc) (fr : List AV) (st : St) (o : AO) (K : AV → St → Prop) : Prop :=
  match exOp O fr st o with
  | some (v, st') => K v st'
  | none => False

def kStep (O : Orc) (o : AOp) (fr : List AV) (st : St) (K : List AV → St → Prop) : Prop :=
  match o.guard with
  | none => kOp O fr st o.op fun v st' => K (put fr o.dst v) st'
  | some (j, want) =>
    match gd (slot fr j) with
    | some x => if x = some want then kOp O fr st o.op fun v st' => K (put fr o.dst v) st' else K (put fr o.dst (.tup [])) st
    | none => False

def kOps (O : Orc) : List AOp → List AV → St → (List AV → St → Prop) → Prop
  | [], fr, st, K => K fr st
  | o :: l, fr, st, K => kStep O o fr st fun fr' st' => kOps O l fr' st' K

def kDraw (O : Orc) : List AOp → List (Nat × Nat × Nat × Nat) → List AV → St → (List AV → St → Prop) → Prop
  | [], ts, fr, st, K => allApart ts = true ∧ K fr st
  | o :: l, ts, fr, st, K => kStep O o fr st fun fr' st' => kDraw O l (target fr o.op ++ ts) fr' st' K

def kW (O : Orc) : List AOp → List Wt → List AV → St → (List AV → St → Prop) → Prop
  | [], _, fr, st, K => K fr st
  | o :: l, ws, fr, st, K => kStep O o fr st fun fr' st' => (effB o.op = true → wsOk st' ws = true) ∧ kW O l (entry o fr st ++ ws) fr' st' K

def kV (O : Orc) (n0 : Nat) : List AOp → List Wt → List AV → St → (List AV → St → Prop) → Prop
  | [], _, fr, st, K => K fr st
  | o :: l, ws, fr, st, K => kStep O o fr st fun fr' st' => (loudV o.op = true → wsOk st' ws = true) ∧ oldOk n0 o fr = true ∧ kV O n0 l (entry o fr st ++ ws) fr' st' K

/-- behind a loop over a function -/
def kEnd (fr : List AV) (r : Nat) (st : St) (Q : AE → List AV → St → Prop) : Prop :=
  match st.objs[r]? with
  | some (.loop s p fr' ps' asg' body') =>
    s ≠ .busy ∧ Q (p.getD .norm) fr (st.set r (.loop .exhausted p fr' ps' asg' body'))
  | _ => False

def kC (O : Orc) (rd : Bool) : AC → List AV → St → (AE → List AV → St → Prop) → Prop
  | .skip, fr, st, Q => Q .norm fr st
  | .ops l false, fr, st, Q => kOps O l fr st fun fr' st' => Q .norm fr' st'
  | .ops l true, fr, st, Q => kDraw O l [] fr st fun fr' st' => Q .norm fr' st'
  | .opsW l, fr, st, Q => kW O l [] fr st fun fr' st' => Q .norm fr' st'
  | .opsV l, fr, st, Q => kV O st.objs.length l [] fr st fun fr' st' => Q .norm fr' st'
  | .seq a b, fr, st, Q => kC O rd a fr st fun e fr' st' => match e with | .norm => kC O rd b fr' st' Q | .exit id => Q (.exit id) fr' st' | .ret => Q .ret fr' st'
  | .cond c a b, fr, st, Q =>
    match ev fr c with
    | .bool t => if t = true then kC O rd a fr st Q else kC O rd b fr st Q
    | _ => False
  | .block id c, fr, st, Q => kC O rd c fr st fun e fr' st' => match e with | .exit j => if j = id then Q .norm fr' st' else Q (.exit j) fr' st' | .norm => Q .norm fr' st' | .ret => Q .ret fr' st'
  | .loop c, fr, st, Q => ∃ e fr' st', O.loop rd c fr st = some (e, fr', st') ∧ Q e fr' st'
  | .range f ps asg body, fr, st, Q =>
    rd = false ∧
    ∃ v st', callF O (ev fr f) [.yld (st.objs.length + 1)] { st with objs := st.objs ++ [.dfr, .loop .ready none fr ps asg body], df := st.objs.length :: st.df } = some (v, st') ∧
      kEnd fr (st.objs.length + 1) st' Q
  | .exit id, fr, st, Q => Q (.exit id) fr st
  | .ret, fr, st, Q => Q .ret fr st

theorem kOp_mono {O : Orc} {fr : List AV} {st : St} {o : AO} {K K' : AV → St → Prop} (h : kOp O fr st o K) (hk : ∀ v s, K v s → K' v s) : kOp O fr st o K' := by
  unfold kOp at *
  split at h
  · exact hk _ _ h
  · exact h

theorem kStep_get {O : Orc} {o : AOp} {fr : List AV} {st : St} {K : List AV → St → Prop} (h : kStep O o fr st K) : ∃ fr' st', exStep O o fr st = some (fr', st') ∧ K fr' st' := by
  obtain ⟨dst, op, guard⟩ := o
  have key : kOp O fr st op (fun v st' => K (put fr dst v) st') → ∃ fr' st', (match exOp O fr st op with | some (v, st') => some (put fr dst v, st') | none => none) = some (fr', st') ∧ K fr' st' := by
    intro h
    unfold kOp at h
    split at h
    · exact ⟨_, _, rfl, h⟩
    · exact h.elim
  cases guard with
  | none => exact key h
  | some g =>
    obtain ⟨j, want⟩ := g
    simp only [kStep] at h
    simp only [exStep]
    split at h
    · rename_i b hb
      by_cases hw : b = some want
      · rw [if_pos hw] at h
        obtain ⟨_, _, e, hk⟩ := key h
        refine ⟨_, _, ?_, hk⟩
        simp only [hb, hw, beq_self_eq_true, cond_true]
        exact e
      · rw [if_neg hw] at h
        have e : (b == some want) = false := by simpa using hw
        exact ⟨_, _, by simp only [hb, e, cond_false], h⟩
    · exact h.elim

theorem kOps_get {O : Orc} (l : List AOp) : ∀ {fr : List AV} {st : St} {K : List AV → St → Prop}, kOps O l fr st K → ∃ fr' st', exOps O l fr st = some (fr', st') ∧ K fr' st' := by
  induction l with
  | nil => exact fun h => ⟨_, _, rfl, h⟩
  | cons o l ih =>
    intro fr st K h
    obtain ⟨fr1, st1, e1, h1⟩ := kStep_get h
    obtain ⟨fr2, st2, e2, h2⟩ := ih h1
    exact ⟨fr2, st2, by simp only [exOps, e1]; exact e2, h2⟩

theorem kDraw_get {O : Orc} (l : List AOp) : ∀ {ts : List (Nat × Nat × Nat × Nat)} {fr : List AV} {st : St} {K : List AV → St → Prop}, kDraw O l ts fr st K → ∃ fr' st', exDraw O l ts fr st = some (fr', st') ∧ K fr' st' := by
  induction l with
  | nil => exact fun h => ⟨_, _, by simp only [exDraw, h.1, if_true], h.2⟩
  | cons o l ih =>
    intro ts fr st K h
    obtain ⟨fr1, st1, e1, h1⟩ := kStep_get h
    obtain ⟨fr2, st2, e2, h2⟩ := ih h1
    exact ⟨fr2, st2, by simp only [exDraw, e1]; exact e2, h2⟩

theorem kW_get {O : Orc} (l : List AOp) : ∀ {ws : List Wt} {fr : List AV} {st : St} {K : List AV → St → Prop}, kW O l ws fr st K → ∃ fr' st', exW O l ws fr st = some (fr', st') ∧ K fr' st' := by
  induction l with
  | nil => exact fun h => ⟨_, _, rfl, h⟩
  | cons o l ih =>
    intro ws fr st K h
    obtain ⟨fr1, st1, e1, h0, h1⟩ := kStep_get h
    obtain ⟨fr2, st2, e2, h2⟩ := ih h1
    refine ⟨fr2, st2, ?_, h2⟩
    simp only [exW, e1]
    rw [if_neg]
    · exact e2
    · intro hc
      simp only [Bool.and_eq_true, Bool.not_eq_true'] at hc
      rw [h0 hc.1] at hc
      simp at hc

theorem kV_get {O : Orc} {n0 : Nat} (l : List AOp) : ∀ {ws : List Wt} {fr : List AV} {st : St} {K : List AV → St → Prop}, kV O n0 l ws fr st K → ∃ fr' st', exV O n0 l ws fr st = some (fr', st') ∧ K fr' st' := by
  induction l with
  | nil => exact fun h => ⟨_, _, rfl, h⟩
  | cons o l ih =>
    intro ws fr st K h
    obtain ⟨fr1, st1, e1, h0, h5, h1⟩ := kStep_get h
    obtain ⟨fr2, st2, e2, h2⟩ := ih h1
    refine ⟨fr2, st2, ?_, h2⟩
    simp only [exV, e1]
    rw [if_neg]
    · exact e2
    · intro hc
      simp only [Bool.or_eq_true, Bool.and_eq_true, Bool.not_eq_true'] at hc
      rcases hc with hc | hc
      · rw [h0 hc.1] at hc
        simp at hc
      · rw [h5] at hc; cases hc

theorem kC_get {O : Orc} {rd : Bool} (c : AC) : ∀ {fr : List AV} {st : St} {Q : AE → List AV → St → Prop}, kC O rd c fr st Q → ∃ e fr' st', exC O rd c fr st = some (e, fr', st') ∧ Q e fr' st' := by
  induction c with
  | skip => exact fun h => ⟨_, _, _, rfl, h⟩
  | exit id => exact fun h => ⟨_, _, _, rfl, h⟩
  | ret => exact fun h => ⟨_, _, _, rfl, h⟩
  | ops l d =>
    intro fr st Q h
    cases d with
    | false =>
      obtain ⟨fr', st', e, hq⟩ := kOps_get l h
      exact ⟨_, _, _, by simp only [exC, e], hq⟩
    | true =>
      obtain ⟨fr', st', e, hq⟩ := kDraw_get l h
      exact ⟨_, _, _, by simp only [exC, e], hq⟩
  | opsW l =>
    intro fr st Q h
    obtain ⟨fr', st', e, hq⟩ := kW_get l h
    exact ⟨_, _, _, by simp only [exC, e], hq⟩
  | opsV l =>
    intro fr st Q h
    obtain ⟨fr', st', e, hq⟩ := kV_get l h
    exact ⟨_, _, _, by simp only [exC, e], hq⟩
  | seq a b iha ihb =>
    intro fr st Q h
    obtain ⟨e, fr', st', he, hq⟩ := iha h
    cases e with
    | norm =>
      obtain ⟨e2, fr2, st2, he2, hq2⟩ := ihb hq
      exact ⟨e2, fr2, st2, by simp only [exC, he]; exact he2, hq2⟩
    | exit id => exact ⟨_, _, _, by simp only [exC, he], hq⟩
    | ret => exact ⟨_, _, _, by simp only [exC, he], hq⟩
  | cond c a b iha ihb =>
    intro fr st Q h
    simp only [kC] at h
    simp only [exC]
    split at h
    · rename_i t ht
      simp only [ht]
      cases t
      · exact ihb h
      · exact iha h
    · exact h.elim
  | block id c ih =>
    intro fr st Q h
    obtain ⟨e, fr', st', he, hq⟩ := ih h
    cases e with
    | norm => exact ⟨_, _, _, by simp only [exC, he], hq⟩
    | exit j =>
      by_cases hj : j = id
      · simp only [hj, if_true] at hq
        exact ⟨_, _, _, by simp only [exC, he, hj, if_true], hq⟩
      · simp only [hj, if_false] at hq
        exact ⟨_, _, _, by simp only [exC, he, hj, if_false], hq⟩
    | ret => exact ⟨_, _, _, by simp only [exC, he], hq⟩
  | loop c ih => exact fun h => h
  | range f ps asg body _ _ =>
    rintro fr st Q ⟨rfl, v, st', he, hq⟩
    simp only [exC, Bool.false_eq_true, if_false, he]
    unfold kEnd at hq
    split at hq
    · rename_i s _ _ _ _ _ hl
      rw [hl]
      refine ⟨_, _, _, ?_, hq.2⟩
      cases s <;> first | rfl | exact (hq.1 rfl).elim
    · exact hq.elim

/-- what is still to be done -/
inductive It where
  | c (c : AC)
  | ops (l : List AOp)
  | draw (l : List AOp) (ts : List (Nat × Nat × Nat × Nat))
  | drawW (l : List AOp) (ws : List Wt)
  | drawV (n0 : Nat) (l : List AOp) (ws : List Wt)
  | blk (id : Nat)

def run (O : Orc) (rd : Bool) (Q : AE → List AV → St → Prop) : List It → AE → List AV → St → Prop
  | [], e, fr, st => Q e fr st
  | .c c :: k, .norm, fr, st => kC O rd c fr st fun e fr' st' => run O rd Q k e fr' st'
  | .ops l :: k, .norm, fr, st => kOps O l fr st fun fr' st' => run O rd Q k .norm fr' st'
  | .drawW l ws :: k, .norm, fr, st => kW O l ws fr st fun fr' st' => run O rd Q k .norm fr' st'
  | .drawV n0 l ws :: k, .norm, fr, st => kV O n0 l ws fr st fun fr' st' => run O rd Q k .norm fr' st'
  | .draw l ts :: k, .norm, fr, st => kDraw O l ts fr st fun fr' st' => run O rd Q k .norm fr' st'
  | .blk _ :: k, .norm, fr, st => run O rd Q k .norm fr st
  | .blk id :: k, .exit j, fr, st => if j = id then run O rd Q k .norm fr st else run O rd Q k (.exit j) fr st
  | _ :: k, e, fr, st => run O rd Q k e fr st

section
variable {O : Orc} {rd : Bool} {Q : AE → List AV → St → Prop} {k : List It} {fr : List AV} {st : St}
theorem run_one {c : AC} : run O rd Q [.c c] .norm fr st = kC O rd c fr st Q := rfl
theorem run_nil {e : AE} : run O rd Q [] e fr st = Q e fr st := rfl
theorem run_skip : run O rd Q (.c .skip :: k) .norm fr st = run O rd Q k .norm fr st := rfl
theorem run_ops {l : List AOp} : run O rd Q (.c (.ops l false) :: k) .norm fr st = run O rd Q (.ops l :: k) .norm fr st := rfl
theorem run_draw {l : List AOp} : run O rd Q (.c (.ops l true) :: k) .norm fr st = run O rd Q (.draw l [] :: k) .norm fr st := rfl
theorem run_drawW {l : List AOp} : run O rd Q (.c (.opsW l) :: k) .norm fr st = run O rd Q (.drawW l [] :: k) .norm fr st := rfl
theorem run_w_nil {ws : List Wt} : run O rd Q (.drawW [] ws :: k) .norm fr st = run O rd Q k .norm fr st := rfl
theorem run_w {d : Option Nat} {o : AO} {l : List AOp} {ws : List Wt} : run O rd Q (.drawW (⟨d, o, none⟩ :: l) ws :: k) .norm fr st = match exOp O fr st o with
    | some (v, st') => (effB o = true → wsOk st' ws = true) ∧ run O rd Q (.drawW l (entry ⟨d, o, none⟩ fr st ++ ws) :: k) .norm (put fr d v) st'
    | none => False := by
  simp only [run, kW, kStep, kOp]
theorem run_wg {d : Option Nat} {o : AO} {j : Nat} {w : Bool} {l : List AOp} {ws : List Wt} : run O rd Q (.drawW (⟨d, o, some (j, w)⟩ :: l) ws :: k) .norm fr st = match gd (slot fr j) with
    | some x => if x = some w then (match exOp O fr st o with
        | some (v, st') => (effB o = true → wsOk st' ws = true) ∧ run O rd Q (.drawW l (entry ⟨d, o, some (j, w)⟩ fr st ++ ws) :: k) .norm (put fr d v) st'
        | none => False) else (effB o = true → wsOk st ws = true) ∧ run O rd Q (.drawW l (entry ⟨d, o, some (j, w)⟩ fr st ++ ws) :: k) .norm (put fr d (.tup [])) st
    | none => False := by
  simp only [run, kW, kStep, kOp]
theorem run_drawV {l : List AOp} : run O rd Q (.c (.opsV l) :: k) .norm fr st = run O rd Q (.drawV st.objs.length l [] :: k) .norm fr st := rfl
theorem run_v_nil {n0 : Nat} {ws : List Wt} : run O rd Q (.drawV n0 [] ws :: k) .norm fr st = run O rd Q k .norm fr st := rfl
theorem run_v {n0 : Nat} {d : Option Nat} {o : AO} {l : List AOp} {ws : List Wt} : run O rd Q (.drawV n0 (⟨d, o, none⟩ :: l) ws :: k) .norm fr st = match exOp O fr st o with
    | some (v, st') => (loudV o = true → wsOk st' ws = true) ∧ oldOk n0 ⟨d, o, none⟩ fr = true ∧ run O rd Q (.drawV n0 l (entry ⟨d, o, none⟩ fr st ++ ws) :: k) .norm (put fr d v) st'
    | none => False := by
  simp only [run, kV, kStep, kOp]
theorem run_vg {n0 : Nat} {d : Option Nat} {o : AO} {j : Nat} {w : Bool} {l : List AOp} {ws : List Wt} : run O rd Q (.drawV n0 (⟨d, o, some (j, w)⟩ :: l) ws :: k) .norm fr st = match gd (slot fr j) with
    | some x => if x = some w then (match exOp O fr st o with
        | some (v, st') => (loudV o = true → wsOk st' ws = true) ∧ oldOk n0 ⟨d, o, some (j, w)⟩ fr = true ∧ run O rd Q (.drawV n0 l (entry ⟨d, o, some (j, w)⟩ fr st ++ ws) :: k) .norm (put fr d v) st'
        | none => False) else (loudV o = true → wsOk st ws = true) ∧ oldOk n0 ⟨d, o, some (j, w)⟩ fr = true ∧ run O rd Q (.drawV n0 l (entry ⟨d, o, some (j, w)⟩ fr st ++ ws) :: k) .norm (put fr d (.tup [])) st
    | none => False := by
  simp only [run, kV, kStep, kOp]
theorem run_seq {a b : AC} : run O rd Q (.c (.seq a b) :: k) .norm fr st = run O rd Q (.c a :: .c b :: k) .norm fr st := by
  simp only [run, kC]
  congr
  funext e fr' st'
  cases e <;> rfl
theorem run_cond {c : Opd} {a b : AC} : run O rd Q (.c (.cond c a b) :: k) .norm fr st = match ev fr c with
    | .bool t => (if t = true then run O rd Q (.c a :: k) .norm fr st else run O rd Q (.c b :: k) .norm fr st)
    | _ => False := rfl
theorem run_block {id : Nat} {c : AC} : run O rd Q (.c (.block id c) :: k) .norm fr st = run O rd Q (.c c :: .blk id :: k) .norm fr st := by
  simp only [run, kC]
  congr
  funext e fr' st'
  cases e <;> simp only [run]
theorem run_loop {c : AC} : run O rd Q (.c (.loop c) :: k) .norm fr st = ∃ e fr' st', O.loop rd c fr st = some (e, fr', st') ∧ run O rd Q k e fr' st' := rfl
theorem run_range {f : Opd} {ps : List Nat} {asg body : AC} : run O rd Q (.c (.range f ps asg body) :: k) .norm fr st = (rd = false ∧
    ∃ v st', callF O (ev fr f) [.yld (st.objs.length + 1)] { st with objs := st.objs ++ [.dfr, .loop .ready none fr ps asg body], df := st.objs.length :: st.df } = some (v, st') ∧
      kEnd fr (st.objs.length + 1) st' (run O rd Q k)) := rfl
theorem run_exit {id : Nat} : run O rd Q (.c (.exit id) :: k) .norm fr st = run O rd Q k (.exit id) fr st := rfl
theorem run_ret : run O rd Q (.c .ret :: k) .norm fr st = run O rd Q k .ret fr st := rfl
theorem run_c_exit {c : AC} {j : Nat} : run O rd Q (.c c :: k) (.exit j) fr st = run O rd Q k (.exit j) fr st := rfl
theorem run_c_ret {c : AC} : run O rd Q (.c c :: k) .ret fr st = run O rd Q k .ret fr st := rfl
theorem run_blk {id : Nat} : run O rd Q (.blk id :: k) .norm fr st = run O rd Q k .norm fr st := rfl
theorem run_blk_ret {id : Nat} : run O rd Q (.blk id :: k) .ret fr st = run O rd Q k .ret fr st := rfl
theorem run_blk_exit {id j : Nat} : run O rd Q (.blk id :: k) (.exit j) fr st = if j = id then run O rd Q k .norm fr st else run O rd Q k (.exit j) fr st := rfl
theorem run_ops_nil : run O rd Q (.ops [] :: k) .norm fr st = run O rd Q k .norm fr st := rfl
theorem run_op {d : Option Nat} {o : AO} {l : List AOp} : run O rd Q (.ops (⟨d, o, none⟩ :: l) :: k) .norm fr st = match exOp O fr st o with
    | some (v, st') => run O rd Q (.ops l :: k) .norm (put fr d v) st'
    | none => False := by
  simp only [run, kOps, kStep, kOp]
theorem run_opg {d : Option Nat} {o : AO} {j : Nat} {w : Bool} {l : List AOp} : run O rd Q (.ops (⟨d, o, some (j, w)⟩ :: l) :: k) .norm fr st = match gd (slot fr j) with
    | some x => if x = some w then run O rd Q (.ops (⟨d, o, none⟩ :: l) :: k) .norm fr st else run O rd Q (.ops l :: k) .norm (put fr d (.tup [])) st
    | none => False := by
  simp only [run, kOps, kStep, kOp]
theorem run_draw_nil {ts : List (Nat × Nat × Nat × Nat)} : run O rd Q (.draw [] ts :: k) .norm fr st = (allApart ts = true ∧ run O rd Q k .norm fr st) := rfl
theorem run_drawop {d : Option Nat} {o : AO} {l : List AOp} {ts : List (Nat × Nat × Nat × Nat)} : run O rd Q (.draw (⟨d, o, none⟩ :: l) ts :: k) .norm fr st = match exOp O fr st o with
    | some (v, st') => run O rd Q (.draw l (target fr o ++ ts) :: k) .norm (put fr d v) st'
    | none => False := by
  simp only [run, kDraw, kStep, kOp]
theorem run_drawopg {d : Option Nat} {o : AO} {j : Nat} {w : Bool} {l : List AOp} {ts : List (Nat × Nat × Nat × Nat)} : run O rd Q (.draw (⟨d, o, some (j, w)⟩ :: l) ts :: k) .norm fr st = match gd (slot fr j) with
    | some x => if x = some w then run O rd Q (.draw (⟨d, o, none⟩ :: l) ts :: k) .norm fr st else run O rd Q (.draw l (target fr o ++ ts) :: k) .norm (put fr d (.tup [])) st
    | none => False := by
  simp only [run, kDraw, kStep, kOp]
end
attribute [irreducible] run

/-- what a function hands out -/
def kFin (rs : List ARes) (pure : Bool) (st : St) (R : AV → St → Prop) (fr : List AV) (st' : St) : Prop :=
  match resOf { st' with objs := killAll st'.df st'.objs } fr rs with
  | some vs =>
    if pure = true then (match hand st.objs.length (killAll st'.df st'.objs) (tupOf vs) with | some v => R v st | none => False)
    else R (tupOf vs) { objs := killAll st'.df st'.objs, ro := st.ro, df := st.df }
  | none => False

def fin (rs : List ARes) (pure : Bool) (st : St) (R : AV → St → Prop) : AE → List AV → St → Prop
  | .exit _, _, _ => False
  | .norm, fr, st' => kFin rs pure st R fr st'
  | .ret, fr, st' => kFin rs pure st R fr st'

theorem kFin_get {rs : List ARes} {pure : Bool} {st st' : St} {fr : List AV} {R : AV → St → Prop} (h : kFin rs pure st R fr st') : ∃ v s,
    (match resOf { st' with objs := killAll st'.df st'.objs } fr rs with
    | some vs =>
      if pure then (match hand st.objs.length (killAll st'.df st'.objs) (tupOf vs) with | some v => some (v, st) | none => none)
      else some (tupOf vs, { objs := killAll st'.df st'.objs, ro := st.ro, df := st.df })
    | none => none) = some (v, s) ∧ R v s := by
  unfold kFin at h
  split at h
  · rename_i vs hv
    cases pure with
    | true =>
      simp only [if_true] at h
      split at h
      · exact ⟨_, _, rfl, h⟩
      · exact h.elim
    | false =>
      simp only [Bool.false_eq_true, if_false] at h
      exact ⟨_, _, rfl, h⟩
  · exact h.elim

theorem call_of {T : Tab} {f n : Nat} {rs : List ARes} {c : AC} {p : Bool} (hF : T f = some ⟨n, rs, c, p⟩) {args : List AV} {st : St} {R : AV → St → Prop}
    (hn : args.length ≤ n)
    (h : run (D T) false (fin rs p st R) [.c c] .norm (args ++ List.replicate (n - args.length) .any) { objs := st.objs, ro := if p = true then st.objs.length else st.ro, df := [] }) :
    ∃ v st', (D T).call f args st = some (v, st') ∧ R v st' := by
  rw [run_one] at h
  obtain ⟨e, fr, st', he, hq⟩ := kC_get c (Q := fin rs p st R) h
  rw [D_call T f _ hF]
  unfold exFn
  dsimp only
  rw [if_neg (by omega), he]
  cases e with
  | exit id => exact hq.elim
  | norm => exact kFin_get hq
  | ret => exact kFin_get hq

/-- a call that gives just this -/
theorem call_eq {T : Tab} {f n : Nat} {rs : List ARes} {c : AC} {p : Bool} (hF : T f = some ⟨n, rs, c, p⟩) {args : List AV} {st : St} {v : AV} {s : St}
    (hn : args.length ≤ n)
    (h : run (D T) false (fin rs p st (fun v' s' => v' = v ∧ s' = s)) [.c c] .norm (args ++ List.replicate (n - args.length) .any) { objs := st.objs, ro := if p = true then st.objs.length else st.ro, df := [] }) :
    (D T).call f args st = some (v, s) := by
  obtain ⟨v', s', e, rfl, rfl⟩ := call_of hF hn h
  exact e

/-- behind one round of a loop -/
def again (T : Tab) (rd : Bool) (c : AC) (Q : AE → List AV → St → Prop) : AE → List AV → St → Prop
  | .norm, fr, st => ∃ e2 fr2 st2, (D T).loop rd c fr st = some (e2, fr2, st2) ∧ Q e2 fr2 st2
  | .exit id, fr, st => Q (.exit id) fr st
  | .ret, fr, st => Q .ret fr st

theorem loop_round {T : Tab} {rd : Bool} {c : AC} {fr : List AV} {st : St} {Q : AE → List AV → St → Prop}
    (h : run (D T) rd (again T rd c Q) [.c c] .norm fr st) :
    ∃ e fr' st', (D T).loop rd c fr st = some (e, fr', st') ∧ Q e fr' st' := by
  rw [run_one] at h
  obtain ⟨e, fr', st', he, hq⟩ := kC_get c (Q := again T rd c Q) h
  rw [D_loop, he]
  cases e with
  | norm => exact hq
  | exit id => exact ⟨_, _, _, rfl, hq⟩
  | ret => exact ⟨_, _, _, rfl, hq⟩

theorem loop_step {T : Tab} {rd : Bool} {c c' : AC} (hc : c = c') {fr : List AV} {st : St} {Q : AE → List AV → St → Prop}
    (h : run (D T) rd (again T rd c Q) [.c c'] .norm fr st) :
    ∃ e fr' st', (D T).loop rd c fr st = some (e, fr', st') ∧ Q e fr' st' := by
  subst hc
  exact loop_round h

/-- a loop over a function, one round -/
def yend (r : Nat) (df : List Nat) (R : AV → St → Prop) : AE → List AV → St → Prop
  | e, _, st3 =>
    match st3.objs[r]? with
    | some (.loop .busy none fr4 ps4 asg4 body4) =>
      (match e with
      | .norm => R (.bool true) { st3.set r (.loop .ready none fr4 ps4 asg4 body4) with df := df }
      | e => R (.bool false) { st3.set r (.loop .done (some e) fr4 ps4 asg4 body4) with df := df })
    | _ => False

theorem slot_def (fr : List AV) (n : Nat) : slot fr n = fr.getD n .any := id rfl

section
variable (b : Bool) (k : IntKind) (n : Int) (s : ByteArray) (r i o : Nat) (cs : List AV) (es : List (List AV)) (f : Fn)
@[simp] theorem one_bool : AV.one (.bool b) = true := rfl
@[simp] theorem one_int : AV.one (.int k n) = true := rfl
@[simp] theorem one_str : AV.one (.str s) = true := rfl
@[simp] theorem one_nilf : AV.one .nilf = true := rfl
@[simp] theorem one_nilp : AV.one .nilp = true := rfl
@[simp] theorem one_ptr : AV.one (.ptr r i o) = true := rfl
@[simp] theorem one_vptr : AV.one (.vptr cs) = true := rfl
@[simp] theorem one_own : AV.one (.own r i o b) = true := rfl
@[simp] theorem one_sl : AV.one (.sl r es) = true := rfl
@[simp] theorem one_fsl : AV.one (.fsl r es) = true := rfl
@[simp] theorem one_fn : AV.one (.fn f cs cs) = true := rfl
@[simp] theorem one_fn2 (ds : List AV) : AV.one (.fn f cs ds) = true := rfl
@[simp] theorem one_yld : AV.one (.yld r) = true := rfl
@[simp] theorem one_any : AV.one .any = false := rfl
@[simp] theorem one_agg : AV.one (.agg cs) = false := rfl
@[simp] theorem one_tup : AV.one (.tup cs) = false := rfl
end
attribute [simp] run_nil run_skip run_ops run_draw run_seq run_cond run_block run_loop run_range run_exit run_ret run_c_exit run_c_ret run_blk run_blk_ret run_blk_exit run_ops_nil run_op run_opg
  beq_refl run_drawW run_w_nil run_w run_wg run_drawV run_v_nil run_v run_vg loudV oldOk extP effB wsOk entry ran run_draw_nil run_drawop run_drawopg fin kFin again slot_def killAll
attribute [simp] add64A keyEq mpGet mpSet mset mget St.map? gd exOp ev evs put target allApart apart2 AV.cells bin binI binS resOf tupOf hand hand1 hand0 mapO opt
  canAL canA canL can1 bindP fill fillSl setMany val ld sto inB idxA idxV idxArrA natB slc slcL slcS lenOf elems app callV callF St.arr? St.push St.set AV.flat AV.flatL AV.flatLL

end Go.Proofs.Ytgabnhmjlhhojaa.A

/- Evaluation with frames that are known by their slots alone. -/
namespace Go.Proofs.Ytgabnhmjlhhojaa.A
open Go
attribute [-simp] put slot_def

theorem put_len (fr : List AV) (d : Option Nat) (v : AV) : (put fr d v).length = fr.length := by cases d <;> simp [put]
theorem put_none (fr : List AV) (v : AV) : put fr none v = fr := rfl
theorem slot_same {fr : List AV} {d : Nat} {v : AV} (h : d < fr.length) : slot (put fr (some d) v) d = v := by
  simp [slot, put, List.getD_eq_getElem?_getD, h]
theorem slot_other {fr : List AV} {d e : Nat} {v : AV} (h : d ≠ e) : slot (put fr (some d) v) e = slot fr e := by
  simp [slot, put, List.getD_eq_getElem?_getD, List.getElem?_set_ne h]
theorem slot_of {l : List AV} {n : Nat} {x : AV} (h : l[n]? = some x) : slot l n = x := by simp [slot, List.getD_eq_getElem?_getD, h]

/-- a call, its frame known by its slots -/
theorem call_by {T : Tab} {f n : Nat} {rs : List ARes} {c : AC} {p : Bool} (hF : T f = some ⟨n, rs, c, p⟩) {args : List AV} {st : St} {v : AV} {s : St} (hn : args.length ≤ n)
    (h : ∀ fr : List AV, fr.length = n → (∀ (j : Nat) x, args[j]? = some x → slot fr j = x) →
      run (D T) false (fin rs p st (fun v' s' => v' = v ∧ s' = s)) [.c c] .norm fr { objs := st.objs, ro := if p = true then st.objs.length else st.ro, df := [] }) :
    (D T).call f args st = some (v, s) := by
  refine call_eq hF hn (h _ (by simp; omega) fun j x hx => ?_)
  have hj : j < args.length := (List.getElem?_eq_some_iff.1 hx).1
  exact slot_of (by rw [List.getElem?_append_left hj]; exact hx)

attribute [simp] put_len put_none slot_same slot_other

end Go.Proofs.Ytgabnhmjlhhojaa.A

/- Loops by an invariant, rounds of a loop over a function, and lookups in a store that is known from its beginning. -/
namespace Go.Proofs.Ytgabnhmjlhhojaa.A
open Go

/-- a loop whose invariant is kept, and whose measure falls -/
theorem loop_inv {σ : Type} {T : Tab} {rd : Bool} {c c' : AC} (hc : c = c') {Q : AE → List AV → St → Prop} (μ : σ → Nat) (I : σ → List AV → St → Prop)
    (h : ∀ s fr st, I s fr st → run (D T) rd (fun e fr' st' => match e with
      | .norm => ∃ s', μ s' < μ s ∧ I s' fr' st'
      | .exit id => Q (.exit id) fr' st'
      | .ret => Q .ret fr' st') [.c c'] .norm fr st) (s : σ) {fr : List AV} {st : St} (hi : I s fr st) :
    ∃ e fr' st', (D T).loop rd c fr st = some (e, fr', st') ∧ Q e fr' st' := by
  subst hc
  have key : ∀ (n : Nat) s fr st, μ s = n → I s fr st → ∃ e fr' st', (D T).loop rd c fr st = some (e, fr', st') ∧ Q e fr' st' := by
    intro n
    induction n using Nat.strongRecOn with
    | ind n ih =>
      intro s fr st hn hi
      have := h s fr st hi
      rw [run_one] at this
      obtain ⟨e, fr', st', he, hq⟩ := kC_get c (Q := _) this
      rw [D_loop, he]
      cases e with
      | norm =>
        obtain ⟨s', hlt, hi'⟩ := hq
        exact ih (μ s') (by omega) s' fr' st' rfl hi'
      | exit id => exact ⟨_, _, _, rfl, hq⟩
      | ret => exact ⟨_, _, _, rfl, hq⟩
  exact key _ s fr st rfl hi

/-- one round of a loop over a function -/
theorem yield_of {T : Tab} {r : Nat} {args fr : List AV} {ps : List Nat} {asg body : AC} {st : St} {R : AV → St → Prop}
    (h0 : st.objs[r]? = some (.loop .ready none fr ps asg body)) (ha : args.length = ps.length) (hr : st.ro ≤ r)
    (h : run (D T) true (fun e fr1 st1 => e = .norm ∧ match st1.objs[r]? with
      | some (.loop .ready none fr2 ps2 asg2 body2) => run (D T) true (yend r st.df R) [.c body] .norm fr1 (st1.set r (.loop .busy none fr2 ps2 asg2 body2))
      | _ => False) [.c asg] .norm (bindP fr ps args) { st with df := [] }) :
    ∃ v s, (D T).yield r args st = some (v, s) ∧ R v s := by
  rw [run_one] at h
  obtain ⟨e, fr1, st1, he, rfl, hq⟩ := kC_get asg (Q := _) h
  rw [D_yield]
  unfold exYield
  rw [h0]
  dsimp only
  rw [if_pos ⟨ha, hr⟩, he]
  simp only [] at hq ⊢
  split at hq
  · rename_i fr2 ps2 asg2 body2 h1
    rw [h1]
    dsimp only
    rw [run_one] at hq
    obtain ⟨e, fr3, st3, he3, hq⟩ := kC_get body (Q := _) hq
    rw [he3]
    dsimp only
    unfold yend at hq
    cases e with
    | norm =>
      simp only [] at hq ⊢
      split at hq
      · rename_i h3
        rw [h3]
        exact ⟨_, _, rfl, hq⟩
      · exact hq.elim
    | exit id =>
      simp only [] at hq ⊢
      split at hq
      · rename_i h3
        rw [h3]
        exact ⟨_, _, rfl, hq⟩
      · exact hq.elim
    | ret =>
      simp only [] at hq ⊢
      split at hq
      · rename_i h3
        rw [h3]
        exact ⟨_, _, rfl, hq⟩
      · exact hq.elim
  · exact hq.elim

theorem kStep_mono {O : Orc} {o : AOp} {fr : List AV} {st : St} {K K' : List AV → St → Prop} (h : kStep O o fr st K) (hk : ∀ f s, K f s → K' f s) : kStep O o fr st K' := by
  unfold kStep at *
  split at h
  · exact kOp_mono h fun v s h => hk _ _ h
  · split at h
    · split at h
      · rename_i hx
        rw [if_pos hx]
        exact kOp_mono h fun v s h => hk _ _ h
      · rename_i hx
        rw [if_neg hx]
        exact hk _ _ h
    · exact h.elim

/-- one round of a loop over a function, by its texts -/
theorem yield_step {T : Tab} {r : Nat} {args fr : List AV} {ps : List Nat} {asg body asg' body' : AC} {st : St} {R : AV → St → Prop} (hA : asg = asg') (hB : body = body')
    (h0 : st.objs[r]? = some (.loop .ready none fr ps asg body)) (ha : args.length = ps.length) (hr : st.ro ≤ r)
    (h : run (D T) true (fun e fr1 st1 => e = .norm ∧ st1.objs[r]? = some (.loop .ready none fr ps asg body) ∧
      run (D T) true (yend r st.df R) [.c body'] .norm fr1 (st1.set r (.loop .busy none fr ps asg body))) [.c asg'] .norm (bindP fr ps args) { st with df := [] }) :
    ∃ v s, (D T).yield r args st = some (v, s) ∧ R v s := by
  subst hA hB
  refine yield_of h0 ha hr ?_
  rw [run_one] at h ⊢
  have mono : ∀ (c : AC) {fr : List AV} {st : St} {Q Q' : AE → List AV → St → Prop}, kC (D T) true c fr st Q → (∀ e f s, Q e f s → Q' e f s) → kC (D T) true c fr st Q' := by
    intro c
    induction c with
    | skip => exact fun h k => k _ _ _ h
    | exit id => exact fun h k => k _ _ _ h
    | ret => exact fun h k => k _ _ _ h
    | ops l d =>
      intro fr st Q Q' h k
      have ops : ∀ (l : List AOp) {fr : List AV} {st : St} {K K' : List AV → St → Prop}, kOps (D T) l fr st K → (∀ f s, K f s → K' f s) → kOps (D T) l fr st K' := by
        intro l
        induction l with
        | nil => exact fun h k => k _ _ h
        | cons o l ih =>
          intro fr st K K' h k
          exact kStep_mono h fun f s h => ih h k
      have draw : ∀ (l : List AOp) {ts : List (Nat × Nat × Nat × Nat)} {fr : List AV} {st : St} {K K' : List AV → St → Prop}, kDraw (D T) l ts fr st K → (∀ f s, K f s → K' f s) → kDraw (D T) l ts fr st K' := by
        intro l
        induction l with
        | nil => exact fun h k => ⟨h.1, k _ _ h.2⟩
        | cons o l ih =>
          intro ts fr st K K' h k
          exact kStep_mono h fun f s h => ih h k
      cases d with
      | false => exact ops l h fun f s h => k _ _ _ h
      | true => exact draw l h fun f s h => k _ _ _ h
    | opsW l =>
      intro fr st Q Q' h k
      have key : ∀ (l : List AOp) {ws : List Wt} {fr : List AV} {st : St} {K K' : List AV → St → Prop}, kW (D T) l ws fr st K → (∀ f s, K f s → K' f s) → kW (D T) l ws fr st K' := by
        intro l
        induction l with
        | nil => exact fun h k => k _ _ h
        | cons o l ih =>
          intro ws fr st K K' h k
          exact kStep_mono h fun f s h => ⟨h.1, ih h.2 k⟩
      exact key l h fun f s h => k _ _ _ h
    | opsV l =>
      intro fr st Q Q' h k
      have key : ∀ (n0 : Nat) (l : List AOp) {ws : List Wt} {fr : List AV} {st : St} {K K' : List AV → St → Prop}, kV (D T) n0 l ws fr st K → (∀ f s, K f s → K' f s) → kV (D T) n0 l ws fr st K' := by
        intro n0 l
        induction l with
        | nil => exact fun h k => k _ _ h
        | cons o l ih =>
          intro ws fr st K K' h k
          exact kStep_mono h fun f s h => ⟨h.1, h.2.1, ih h.2.2 k⟩
      exact key _ l h fun f s h => k _ _ _ h
    | seq a b iha ihb =>
      intro fr st Q Q' h k
      refine iha h fun e f s h => ?_
      cases e with
      | norm => exact ihb h k
      | exit id => exact k _ _ _ h
      | ret => exact k _ _ _ h
    | cond c a b iha ihb =>
      intro fr st Q Q' h k
      simp only [kC] at h ⊢
      split at h
      · rename_i t ht
        cases t
        · simp only [Bool.false_eq_true, if_false] at h ⊢
          exact ihb h k
        · simp only [if_true] at h ⊢
          exact iha h k
      · exact h.elim
    | block id c ih =>
      intro fr st Q Q' h k
      refine ih h fun e f s h => ?_
      cases e with
      | norm => exact k _ _ _ h
      | exit j =>
        by_cases hj : j = id
        · simp only [hj, if_true] at h ⊢
          exact k _ _ _ h
        · simp only [hj, if_false] at h ⊢
          exact k _ _ _ h
      | ret => exact k _ _ _ h
    | loop c ih =>
      rintro fr st Q Q' ⟨e, f, s, h1, h2⟩ k
      exact ⟨e, f, s, h1, k _ _ _ h2⟩
    | range f ps asg body _ _ =>
      rintro fr st Q Q' ⟨h, _⟩ k
      cases h
  refine mono _ h fun e f s hq => ?_
  obtain ⟨h1, h2, h3⟩ := hq
  refine ⟨h1, ?_⟩
  rw [h2]
  exact h3

theorem get_base0 {α : Type} (l m : List α) : (l ++ m)[l.length]? = m[0]? := by
  rw [List.getElem?_append_right (Nat.le_refl _)]; simp
theorem get_base {α : Type} (l m : List α) (k : Nat) : (l ++ m)[l.length + k]? = m[k]? := by
  rw [List.getElem?_append_right (by omega)]; simp
theorem set_base0 {α : Type} (l m : List α) (o : α) : (l ++ m).set l.length o = l ++ m.set 0 o := by
  rw [List.set_append_right _ _ (by omega)]; simp
theorem set_base {α : Type} (l m : List α) (k : Nat) (o : α) : (l ++ m).set (l.length + k) o = l ++ m.set k o := by
  rw [List.set_append_right _ _ (by omega)]; simp

/-- a call, its frame known by its slots, what it gives by a condition -/
theorem call_for {T : Tab} {f n : Nat} {rs : List ARes} {c : AC} {p : Bool} (hF : T f = some ⟨n, rs, c, p⟩) {args : List AV} {st : St} {R : AV → St → Prop} (hn : args.length ≤ n)
    (h : ∀ fr : List AV, fr.length = n → (∀ (j : Nat) x, args[j]? = some x → slot fr j = x) →
      run (D T) false (fin rs p st R) [.c c] .norm fr { objs := st.objs, ro := if p = true then st.objs.length else st.ro, df := [] }) :
    ∃ v s, (D T).call f args st = some (v, s) ∧ R v s := by
  refine call_of hF hn (h _ (by simp; omega) fun j x hx => ?_)
  have hj : j < args.length := (List.getElem?_eq_some_iff.1 hx).1
  exact slot_of (by rw [List.getElem?_append_left hj]; exact hx)

@[simp] theorem slot_set_same {fr : List AV} {d : Nat} {v : AV} (h : d < fr.length) : slot (fr.set d v) d = v := slot_same h
@[simp] theorem slot_set_other {fr : List AV} {d e : Nat} {v : AV} (h : d ≠ e) : slot (fr.set d v) e = slot fr e := slot_other h

/-- facts for a loop over a list's numbers -/
theorem idx_end {α : Type} {l pre : List α} (e : l = pre ++ []) : ¬ ((pre.length : Int) < (l.length : Int)) := by subst e; simp
theorem idx_at {α : Type} {l pre rest : List α} {x : α} (e : l = pre ++ x :: rest) : (pre.length : Int) < (l.length : Int) ∧ l[pre.length]? = some x ∧ pre.length < l.length := by
  subst e
  refine ⟨by simp; omega, by simp, by simp⟩
theorem idx_next {α : Type} {l pre rest : List α} {x : α} (e : l = pre ++ x :: rest) (hl : l.length ≤ 9223372036854775807) : IntKind.i64.wrap ((pre.length : Int) + 1) = ((pre ++ [x]).length : Int) := by
  subst e
  simp only [List.length_append, List.length_cons] at hl
  simp [IntKind.wrap, IntKind.signed, IntKind.bits]
  omega

/-! readings, each for what it reads (for texts that hide the general ones: -ld -idxA -lenOf -elems -canA -app -hand) -/
section
variable (st : St) (agg full : Bool) (sz s r i off lo n : Nat) (k : IntKind) (x : Int) (cs : List AV) (es : List (List AV))
@[simp] theorem ld_ptr : ld st agg sz (.ptr r i off) = match st.arr? r with
    | some (_, _, es) => match es[i]? with
      | some e => if off + sz ≤ e.length then val agg ((e.drop off).take sz) else none
      | none => none
    | none => none := rfl
@[simp] theorem ld_vptr : ld st agg sz (.vptr cs) = if sz ≤ cs.length then val agg (cs.take sz) else none := rfl
@[simp] theorem idxA_sl : idxA st sz (.sl s es) (.int k x) = if inB x es.length = true ∧ s = sz then some (.vptr (es.getD x.toNat [])) else none := rfl
@[simp] theorem idxA_fsl : idxA st sz (.fsl s es) (.int k x) = if inB x es.length = true ∧ s = sz then some (.vptr (es.getD x.toNat [])) else none := rfl
@[simp] theorem idxA_own : idxA st sz (.own r lo n full) (.int k x) = match st.arr? r with
    | some (_, s, es) => if inB x n = true ∧ s = sz ∧ lo + n ≤ es.length then some (.ptr r (lo + x.toNat) 0) else none
    | none => none := rfl
@[simp] theorem lenOf_sl : lenOf (.sl s es) = some es.length := rfl
@[simp] theorem lenOf_fsl : lenOf (.fsl s es) = some es.length := rfl
@[simp] theorem lenOf_own : lenOf (.own r lo n full) = some n := rfl
@[simp] theorem elems_sl : elems st (.sl s es) = some (s, es) := rfl
@[simp] theorem elems_fsl : elems st (.fsl s es) = some (s, es) := rfl
@[simp] theorem canA_agg : canA (.agg cs) = .agg (canL cs) := rfl
@[simp] theorem canA_sl : canA (.sl s es) = .sl s es := rfl
@[simp] theorem canA_fsl : canA (.fsl s es) = .fsl s es := rfl
@[simp] theorem canA_own : canA (.own r lo n full) = .own r lo n full := rfl
@[simp] theorem canA_ptr : canA (.ptr r lo n) = .ptr r lo n := rfl
@[simp] theorem canA_vptr : canA (.vptr cs) = .vptr cs := rfl
@[simp] theorem canA_int : canA (.int k x) = .int k x := rfl
@[simp] theorem canA_bool : canA (.bool full) = .bool full := rfl
@[simp] theorem canA_str (b : ByteArray) : canA (.str b) = .str b := rfl
@[simp] theorem canA_fn (f : Fn) (a b : List AV) : canA (.fn f a b) = .fn f a b := rfl
@[simp] theorem canA_yld : canA (.yld r) = .yld r := rfl
@[simp] theorem canA_nilf : canA .nilf = .nilf := rfl
@[simp] theorem canA_nilp : canA .nilp = .nilp := rfl
@[simp] theorem hand_bool (o : List Obj) : hand n o (.bool full) = some (.bool full) := rfl
@[simp] theorem hand_int (o : List Obj) : hand n o (.int k x) = some (.int k x) := rfl
@[simp] theorem hand_str (o : List Obj) (b : ByteArray) : hand n o (.str b) = some (.str b) := rfl
@[simp] theorem hand_agg (o : List Obj) : hand n o (.agg cs) = match mapO (hand0 n o) cs with | some cs' => some (.agg cs') | none => none := rfl
@[simp] theorem hand_tup (o : List Obj) : hand n o (.tup cs) = match mapO (hand1 n o) cs with | some cs' => some (.tup cs') | none => none := rfl
@[simp] theorem hand_fn (o : List Obj) (f : Fn) (a b : List AV) : hand n o (.fn f a b) = match mapO (hand0 n o) a with
    | some a' => match mapO (hand0 n o) b with | some b' => some (.fn f a' b') | none => none
    | none => none := rfl
@[simp] theorem hand_sl (o : List Obj) : hand n o (.sl s es) = if (AV.sl s es).flat = true then some (.sl s es) else none := rfl
@[simp] theorem hand_fsl (o : List Obj) : hand n o (.fsl s es) = if AV.flatLL es = true then some (.sl s es) else none := rfl
end

/-- lookups in a store that is known by its lookups -/
theorem getO_last {α : Type} {l : List α} {i : Nat} {x : α} (h : i = l.length) : (l ++ [x])[i]? = some x := by subst h; simp
theorem getO_set {α : Type} {l : List α} {i : Nat} {x : α} (h : i < l.length) : (l.set i x)[i]? = some x := by simp [h]
theorem setO_last {α : Type} {l : List α} {i : Nat} {x y : α} (h : i = l.length) : (l ++ [x]).set i y = l ++ [y] := by subst h; simp

/-! lists that grow -/

/-- the value of a slice that grows -/
def Gr (lo ty sz : Nat) (o : List Obj) (v : AV) (es : List (List AV)) : Prop :=
  v = .fsl sz es ∨ ∃ r, lo ≤ r ∧ v = .own r 0 es.length false ∧ o[r]? = some (.arr ty sz es)

theorem lt_of_getO {α : Type} {l : List α} {r : Nat} {x : α} (h : l[r]? = some x) : r < l.length := (List.getElem?_eq_some_iff.1 h).1
theorem getO_push {α : Type} {l : List α} {r : Nat} {x : α} (h : l[r]? = some x) (m : List α) : (l ++ m)[r]? = some x := by
  rw [List.getElem?_append_left (lt_of_getO h)]; exact h

theorem Gr.push {lo ty sz : Nat} {o : List Obj} {v : AV} {es : List (List AV)} (h : Gr lo ty sz o v es) (m : List Obj) : Gr lo ty sz (o ++ m) v es := by
  rcases h with h | ⟨r, h1, h2, h3⟩
  · exact .inl h
  · exact .inr ⟨r, h1, h2, getO_push h3 m⟩

theorem Gr.set {lo ty sz : Nat} {o : List Obj} {v : AV} {es : List (List AV)} (h : Gr lo ty sz o v es) {i : Nat} (hi : i < lo) (x : Obj) : Gr lo ty sz (o.set i x) v es := by
  rcases h with h | ⟨r, h1, h2, h3⟩
  · exact .inl h
  · exact .inr ⟨r, h1, h2, by rw [List.getElem?_set_ne (by omega)]; exact h3⟩

theorem Gr.le {lo lo' ty sz : Nat} {o : List Obj} {v : AV} {es : List (List AV)} (h : Gr lo ty sz o v es) (hl : lo' ≤ lo) : Gr lo' ty sz o v es := by
  rcases h with h | ⟨r, h1, h2, h3⟩
  · exact .inl h
  · exact .inr ⟨r, by omega, h2, h3⟩

theorem Gr.not {lo ty sz : Nat} {o : List Obj} {v : AV} {es : List (List AV)} (h : Gr lo ty sz o v es) {i : Nat} (hi : i < lo) (n : Nat) (f : Bool) : v ≠ .own i 0 n f := by
  rcases h with rfl | ⟨r, h1, rfl, h3⟩
  · simp
  · simp; omega

theorem Gr.lt {lo ty sz : Nat} {o : List Obj} {v : AV} {es : List (List AV)} (h : Gr lo ty sz o v es) {i : Nat} (hi : o.length ≤ i) (n : Nat) (f : Bool) : v ≠ .own i 0 n f := by
  rcases h with rfl | ⟨r, h1, rfl, h3⟩
  · simp
  · have := lt_of_getO h3
    simp; omega

theorem app_get' {o : List Obj} {lo ty sz bytes ro : Nat} {df : List Nat} {v : AV} {es : List (List AV)} (h : Gr lo ty sz o v es) (hro : ro ≤ lo)
    {x : AV} {xs : List (List AV)} (hx : elems ⟨o, ro, df⟩ x = some (sz, xs)) (hne : v = .fsl sz es → es = [] ∨ xs ≠ []) (hr : room (es.length + xs.length) bytes = true) :
    ∃ o', app ⟨o, ro, df⟩ ty sz bytes v x = some (.own o.length 0 (es.length + xs.length) false, ⟨o', ro, df⟩) ∧ o'.length = o.length + 1 ∧ o'[o.length]? = some (.arr ty sz (es ++ xs)) ∧
      ∀ i y, o[i]? = some y → (∀ n f, v ≠ .own i 0 n f) → o'[i]? = some y := by
  rcases h with rfl | ⟨r, h1, rfl, h3⟩
  · have hne := hne rfl
    exact ⟨o ++ [.arr ty sz (es ++ xs)], by
      have hc : ¬ (xs = [] ∧ es ≠ []) := fun hh => by rcases hne with h | h; exact hh.2 h; exact h hh.1
      unfold app; rw [hx]
      simp only [true_or, not_true, if_false]
      rw [if_neg hc, if_pos ⟨hne.imp id fun h => ⟨trivial, h⟩, hr⟩]; rfl, by simp, by simp, fun i y hy _ => getO_push hy _⟩
  · exact ⟨o.set r .dead ++ [.arr ty sz (es ++ xs)], by unfold app; rw [hx]; simp [h3, hr, show ro ≤ r by omega, -elems], by simp, by rw [show o.length = (o.set r .dead).length by simp]; simp,
      fun i y hy hv => getO_push (by rw [List.getElem?_set_ne (fun e => hv es.length false (by rw [e]))]; exact hy) _⟩

theorem app_get {o : List Obj} {lo ty sz bytes ro : Nat} {df : List Nat} {v : AV} {es : List (List AV)} (h : Gr lo ty sz o v es) (hro : ro ≤ lo)
    {x : AV} {xs : List (List AV)} (hx : elems ⟨o, ro, df⟩ x = some (sz, xs)) (hne : es = [] ∨ xs ≠ []) (hr : room (es.length + xs.length) bytes = true) :
    ∃ o', app ⟨o, ro, df⟩ ty sz bytes v x = some (.own o.length 0 (es.length + xs.length) false, ⟨o', ro, df⟩) ∧ o'.length = o.length + 1 ∧ o'[o.length]? = some (.arr ty sz (es ++ xs)) ∧
      ∀ i y, o[i]? = some y → (∀ n f, v ≠ .own i 0 n f) → o'[i]? = some y := app_get' h hro hx (fun _ => hne) hr

theorem gr_new {lo ty sz : Nat} {o o' : List Obj} {es : List (List AV)} {n : Nat} (h : o'[o.length]? = some (.arr ty sz es)) (hlo : lo ≤ o.length) (hn : n = es.length) : Gr lo ty sz o' (.own o.length 0 n false) es := by
  subst hn; exact .inr ⟨_, hlo, rfl, h⟩

theorem gr_hand {lo ty sz n : Nat} {o : List Obj} {v : AV} {es : List (List AV)} (h : Gr lo ty sz o v es) (hn : n ≤ lo) (hf : AV.flatLL es = true) : hand n o v = some (.sl sz es) := by
  rcases h with rfl | ⟨r, h1, rfl, h3⟩
  · simp [hf]
  · simp [show ¬ r < n by omega, h3, hf]

theorem gr_elems {lo ty sz : Nat} {o : List Obj} {v : AV} {es : List (List AV)} (h : Gr lo ty sz o v es) (ro : Nat) (df : List Nat) : elems ⟨o, ro, df⟩ v = some (sz, es) := by
  rcases h with rfl | ⟨r, h1, rfl, h3⟩
  · rfl
  · simp [h3]

/-- a slice whose elements can be read -/
structure Ls (o : List Obj) (sz : Nat) (v : AV) (es : List (List AV)) : Prop where
  len : lenOf v = some es.length
  can : canA v = v
  get : ∀ (m : List Obj) (ro : Nat) (df : List Nat) (i : Nat) e, es[i]? = some e → e.length = sz → ∃ p, idxA ⟨o ++ m, ro, df⟩ sz v (.int .i64 i) = some p ∧ ∀ agg, ld ⟨o ++ m, ro, df⟩ agg sz p = val agg e

theorem take_len {α : Type} {l : List α} {n : Nat} (h : l.length = n) : l.take n = l := by subst h; simp

theorem ls_sl {o : List Obj} {sz : Nat} (es : List (List AV)) : Ls o sz (.sl sz es) es := by
  refine ⟨rfl, rfl, fun m ro df i e he hl => ?_⟩
  have := lt_of_getO he
  refine ⟨.vptr e, by simp [idxA, inB, show (i : Int) < es.length by omega, List.getD_eq_getElem?_getD, he], fun agg => by simp [ld, hl, take_len hl]⟩

theorem ls_fsl {o : List Obj} {sz : Nat} (es : List (List AV)) : Ls o sz (.fsl sz es) es := by
  refine ⟨rfl, rfl, fun m ro df i e he hl => ?_⟩
  have := lt_of_getO he
  refine ⟨.vptr e, by simp [idxA, inB, show (i : Int) < es.length by omega, List.getD_eq_getElem?_getD, he], fun agg => by simp [ld, hl, take_len hl]⟩

theorem gr_ls {lo ty sz : Nat} {o : List Obj} {v : AV} {es : List (List AV)} (h : Gr lo ty sz o v es) : Ls o sz v es := by
  rcases h with rfl | ⟨r, h1, rfl, h3⟩
  · exact ls_fsl es
  · refine ⟨rfl, rfl, fun m ro df i e he hl => ?_⟩
    have := lt_of_getO he
    have hr := lt_of_getO h3
    have h4 : (o ++ m)[r]? = some (.arr ty sz es) := getO_push h3 m
    refine ⟨.ptr r i 0, by simp [idxA, inB, show (i : Int) < es.length by omega, h4], fun agg => by simp [ld, h4, he, hl, take_len hl]⟩

end Go.Proofs.Ytgabnhmjlhhojaa.A
