/- A store stands for memory; how both go on together. -/
import Derived.Test.YtcoonnbkmklenaaDoorRep
import Derived.Test.YtcoonnbkmklenaaDoorChk
namespace Go.Proofs.YtcoonnbkmklenaaDoor.A
open Go

section
variable (P : Program) (T : Tab)

def ObjRep (E : Env) (n : Nat) (w : World) : Obj → Lay → Prop
  | .dead, _ => True
  | .dfr, l => w.heap[l.blk]? = some (.deferred (some []))
  | .arr ty sz es, l => l.sz = sz ∧ es.length ≤ l.cap ∧ l.cap ≤ maxLen ∧ 0 < sz ∧ (∀ e ∈ es, e.length = sz) ∧
      (l.cap = 0 ∨ ∃ cur, w.heap[l.blk]? = some (.cells cur ty (0, 0)) ∧ cur.size = l.cap * sz ∧
        ∀ i e j x, es[i]? = some e → e[j]? = some x → ∃ v, cur[i * sz + j]? = some v ∧ v.oneCell' = true ∧ Rep E n w x v)
  | .loop s p fr ps asg body, l => ∃ lp : Loop, w.heap[l.blk]? = some (.loop lp) ∧ lp.state = s ∧ pend p lp.pending ∧ lp.params.toList = ps ∧ chkC P T lp.assign asg = true ∧
      chkC P T lp.body body = true ∧ RepL E n w fr lp.tmps.toList

def live : Obj → Lay → Prop
  | .arr .., l => l.cap ≠ 0
  | .loop .., _ => True
  | .dfr, _ => True
  | .dead, _ => False

structure Sim (E : Env) (st : St) (w : World) : Prop where
  obj : ∀ (r : Nat) o, st.objs[r]? = some o → ObjRep P T E st.objs.length w o (E.L r)
  away : ∀ (r : Nat) o, st.objs[r]? = some o → live o (E.L r) → ¬ E.F (E.L r).blk
  inj : ∀ (r r' : Nat) o o', st.objs[r]? = some o → st.objs[r']? = some o' → live o (E.L r) → live o' (E.L r') → r ≠ r' → (E.L r).blk ≠ (E.L r').blk
  fro : ∀ b, E.F b → b < w.heap.size
  glob : GlobOk E w

variable {P T} {E E' : Env} {st : St} {w w' : World} {n n' : Nat}

theorem ObjRep.mono {o : Obj} {l : Lay} (h : ObjRep P T E n w o l) (m : Mono E n w E' n' w') (hb : live o l → w'.heap[l.blk]? = w.heap[l.blk]?) : ObjRep P T E' n' w' o l := by
  cases o with
  | dead => trivial
  | dfr => exact (hb trivial).trans h
  | arr ty sz es =>
    obtain ⟨h1, h2, h3, h4, h5, h6⟩ := h
    refine ⟨h1, h2, h3, h4, h5, ?_⟩
    by_cases hc : l.cap = 0
    · exact .inl hc
    · obtain ⟨cur, hcur, hs, hx⟩ := h6.resolve_left hc
      refine .inr ⟨cur, (hb hc).trans hcur, hs, fun i e j x he hj => ?_⟩
      obtain ⟨v, hv, h1, hr⟩ := hx i e j x he hj
      exact ⟨v, hv, h1, hr.mono m⟩
  | loop s p fr ps asg body =>
    obtain ⟨lp, h1, h2, h3, h4, h5, h6, h7⟩ := h
    exact ⟨lp, (hb trivial).trans h1, h2, h3, h4, h5, h6, h7.mono m⟩

theorem ObjRep.lt {o : Obj} {l : Lay} (h : ObjRep P T E n w o l) (hl : live o l) : l.blk < w.heap.size := by
  have key : ∀ x, w.heap[l.blk]? = some x → l.blk < w.heap.size := fun x hx => by
    rcases Nat.lt_or_ge l.blk w.heap.size with h' | h'
    · exact h'
    · simp [Array.getElem?_eq_none h'] at hx
  cases o with
  | dead => exact hl.elim
  | dfr => exact key _ h
  | arr ty sz es =>
    obtain ⟨cur, hcur, _⟩ := h.2.2.2.2.2.resolve_left hl
    exact key _ hcur
  | loop s p fr ps asg body =>
    obtain ⟨lp, h1, _⟩ := h
    exact key _ h1

/-- new blocks, draws -/
theorem Sim.grow (h : Sim P T E st w) (hs : w.heap.size ≤ w'.heap.size) (hb : ∀ b, b < w.heap.size → w'.heap[b]? = w.heap[b]?) : Sim P T E st w' :=
  ⟨fun r o ho => (h.obj r o ho).mono ⟨fun _ hr => ⟨hr, rfl⟩, fun _ hF => hF, fun b hF => hb b (h.fro b hF)⟩ fun hl => hb _ ((h.obj r o ho).lt hl),
   h.away, h.inj, fun b hF => Nat.lt_of_lt_of_le (h.fro b hF) hs, h.glob.mono (fun _ h => h) fun b hF => hb b (h.fro b hF)⟩

theorem get_push {o : Obj} {r : Nat} {x : Obj} (h : (st.push o).objs[r]? = some x) : (r < st.objs.length ∧ st.objs[r]? = some x) ∨ (r = st.objs.length ∧ x = o) := by
  simp only [St.push] at h
  rcases Nat.lt_trichotomy r st.objs.length with h' | h' | h'
  · rw [List.getElem?_append_left h'] at h; exact .inl ⟨h', h⟩
  · subst h'; simp at h; exact .inr ⟨rfl, h.symm⟩
  · have := lt_of_get h; simp at this; omega

def updL (E : Env) (n : Nat) (l : Lay) : Env := { E with L := fun r => if r = n then l else E.L r }
theorem updL_lt {l : Lay} {r : Nat} (h : r < n) : (updL E n l).L r = E.L r := by simp [updL, Nat.ne_of_lt h]
theorem updL_eq {l : Lay} : (updL E n l).L n = l := by simp [updL]

/-- a new object, in a new block (or in none) -/
theorem Sim.push (h : Sim P T E st w) (o : Obj) (l : Lay) (hs : w.heap.size ≤ w'.heap.size) (hb : ∀ b, b < w.heap.size → w'.heap[b]? = w.heap[b]?)
    (hl : live o l → w.heap.size ≤ l.blk) (ho : ObjRep P T (updL E st.objs.length l) (st.objs.length + 1) w' o l) : Sim P T (updL E st.objs.length l) (st.push o) w' := by
  have hlen : (st.push o).objs.length = st.objs.length + 1 := by simp [St.push]
  have m : Mono E st.objs.length w (updL E st.objs.length l) (st.objs.length + 1) w' := ⟨fun r hr => ⟨by omega, updL_lt hr⟩, fun _ hF => hF, fun b hF => hb b (h.fro b hF)⟩
  refine ⟨fun r x hx => ?_, fun r x hx hlv => ?_, fun r r' x x' hx hx' hlv hlv' hne => ?_, fun b hF => Nat.lt_of_lt_of_le (h.fro b hF) hs, h.glob.mono m.F m.mem⟩
  · rw [hlen]
    rcases get_push hx with ⟨hr, hx⟩ | ⟨rfl, rfl⟩
    · rw [updL_lt hr]
      exact (h.obj r x hx).mono m fun hl => hb _ ((h.obj r x hx).lt hl)
    · rw [updL_eq]; exact ho
  · rcases get_push hx with ⟨hr, hx⟩ | ⟨rfl, rfl⟩
    · rw [updL_lt hr] at hlv ⊢; exact h.away r x hx hlv
    · rw [updL_eq] at hlv ⊢
      intro hF
      have := h.fro _ hF
      have := hl hlv
      omega
  · rcases get_push hx with ⟨hr, gx⟩ | ⟨rfl, rfl⟩
    · rcases get_push hx' with ⟨hr', gx'⟩ | ⟨rfl, rfl⟩
      · rw [updL_lt hr] at hlv ⊢
        rw [updL_lt hr'] at hlv' ⊢
        exact h.inj r r' x x' gx gx' hlv hlv' hne
      · rw [updL_lt hr] at hlv ⊢
        rw [updL_eq] at hlv' ⊢
        have := (h.obj r x gx).lt hlv
        have := hl hlv'
        omega
    · rcases get_push hx' with ⟨hr', gx'⟩ | ⟨rfl, rfl⟩
      · rw [updL_eq] at hlv ⊢
        rw [updL_lt hr'] at hlv' ⊢
        have := (h.obj r' x' gx').lt hlv'
        have := hl hlv
        omega
      · exact absurd rfl hne

theorem Ext.push (l : Lay) (h : Sim P T E st w) (hs : w.heap.size ≤ w'.heap.size) (hb : ∀ b, b < w.heap.size → w'.heap[b]? = w.heap[b]?)
    (h1 : w'.os = w.os) (h2 : w'.tape = w.tape) (h3 : w'.output = w.output) : Ext E st.objs.length w (updL E st.objs.length l) (st.objs.length + 1) w' :=
  ⟨by omega, fun r hr => updL_lt hr, fun _ hF => hF, fun b hF => hb b (h.fro b hF), h1, h2, h3, hs⟩

theorem get_set {o : Obj} {r r' : Nat} {x : Obj} (h : (st.set r o).objs[r']? = some x) : (r' ≠ r ∧ st.objs[r']? = some x) ∨ (r' = r ∧ x = o ∧ r < st.objs.length) := by
  simp only [St.set, List.getElem?_set] at h
  by_cases e : r = r'
  · subst e
    rw [if_pos rfl] at h
    split at h
    · exact .inr ⟨rfl, (Option.some.inj h).symm, by assumption⟩
    · cases h
  · rw [if_neg e] at h
    exact .inl ⟨fun x => e x.symm, h⟩

/-- an object that is written, in its own block -/
theorem Sim.set (h : Sim P T E st w) (r : Nat) (o o' : Obj) (ho : st.objs[r]? = some o) (hlv : live o (E.L r)) (hs : w'.heap.size = w.heap.size)
    (hb : ∀ b, b ≠ (E.L r).blk → w'.heap[b]? = w.heap[b]?) (hl : live o' (E.L r) ∨ o' = .dead) (ho' : ObjRep P T E st.objs.length w' o' (E.L r)) : Sim P T E (st.set r o') w' := by
  have hlen : (st.set r o').objs.length = st.objs.length := by simp [St.set]
  have m : Mono E st.objs.length w E st.objs.length w' := ⟨fun r hr => ⟨hr, rfl⟩, fun _ hF => hF, fun b hF => hb b fun e => h.away r o ho hlv (e ▸ hF)⟩
  refine ⟨fun r' x hx => ?_, fun r' x hx hlv' => ?_, fun r1 r2 x x' hx hx' hlv1 hlv2 hne => ?_, fun b hF => by rw [hs]; exact h.fro b hF, h.glob.mono m.F m.mem⟩
  · rw [hlen]
    rcases get_set hx with ⟨hne, hx⟩ | ⟨rfl, rfl, _⟩
    · exact (h.obj r' x hx).mono m fun hl => hb _ (h.inj r' r x o hx ho hl hlv hne)
    · exact ho'
  · rcases get_set hx with ⟨hne, hx⟩ | ⟨rfl, rfl, _⟩
    · exact h.away r' x hx hlv'
    · exact h.away r' o ho hlv
  · rcases get_set hx with ⟨hne1, gx⟩ | ⟨rfl, rfl, _⟩
    · rcases get_set hx' with ⟨hne2, gx'⟩ | ⟨rfl, rfl, _⟩
      · exact h.inj r1 r2 x x' gx gx' hlv1 hlv2 hne
      · exact h.inj r1 r2 x o gx ho hlv1 hlv hne
    · rcases get_set hx' with ⟨hne2, gx'⟩ | ⟨rfl, rfl, _⟩
      · exact h.inj r1 r2 o x' ho gx' hlv hlv2 hne
      · exact absurd rfl hne

theorem Ext.set (h : Sim P T E st w) {r : Nat} {o : Obj} (ho : st.objs[r]? = some o) (hlv : live o (E.L r)) (hs : w'.heap.size = w.heap.size)
    (hb : ∀ b, b ≠ (E.L r).blk → w'.heap[b]? = w.heap[b]?) (h1 : w'.os = w.os) (h2 : w'.tape = w.tape) (h3 : w'.output = w.output) : Ext E n w E n w' :=
  ⟨Nat.le_refl _, fun _ _ => rfl, fun _ hF => hF, fun b hF => hb b fun e => h.away r o ho hlv (e ▸ hF), h1, h2, h3, by omega⟩

/-- an object that is given up -/
theorem Sim.kill (h : Sim P T E st w) (r : Nat) : Sim P T E (st.set r .dead) w := by
  have hlen : (st.set r .dead).objs.length = st.objs.length := by simp [St.set]
  refine ⟨fun r' x hx => ?_, fun r' x hx hlv' => ?_, fun r1 r2 x x' hx hx' hlv1 hlv2 hne => ?_, h.fro, h.glob⟩
  · rw [hlen]
    rcases get_set hx with ⟨_, hx⟩ | ⟨rfl, rfl, _⟩
    · exact h.obj r' x hx
    · trivial
  · rcases get_set hx with ⟨_, hx⟩ | ⟨rfl, rfl, _⟩
    · exact h.away r' x hx hlv'
    · exact hlv'.elim
  · rcases get_set hx with ⟨_, hx⟩ | ⟨rfl, rfl, _⟩
    · rcases get_set hx' with ⟨_, hx'⟩ | ⟨rfl, rfl, _⟩
      · exact h.inj r1 r2 x x' hx hx' hlv1 hlv2 hne
      · exact hlv2.elim
    · exact hlv1.elim

/-- an array that lives on, in its block, as a new object -/
theorem Sim.move (h : Sim P T E st w) (r : Nat) (o o' : Obj) (l : Lay) (ho : st.objs[r]? = some o) (hlv : live o (E.L r)) (hblk : l.blk = (E.L r).blk) (hs : w'.heap.size = w.heap.size)
    (hb : ∀ b, b ≠ (E.L r).blk → w'.heap[b]? = w.heap[b]?) (ho' : ObjRep P T (updL E st.objs.length l) (st.objs.length + 1) w' o' l) :
    Sim P T (updL E st.objs.length l) ((st.set r .dead).push o') w' := by
  have hlen : ((st.set r .dead).push o').objs.length = st.objs.length + 1 := by simp [St.push, St.set]
  have hl0 : (st.set r .dead).objs.length = st.objs.length := by simp [St.set]
  have m : Mono E st.objs.length w (updL E st.objs.length l) (st.objs.length + 1) w' :=
    ⟨fun r hr => ⟨by omega, updL_lt hr⟩, fun _ hF => hF, fun b hF => hb b fun e => h.away r o ho hlv (e ▸ hF)⟩
  have key : ∀ (r' : Nat) x, ((st.set r .dead).push o').objs[r']? = some x → (r' < st.objs.length ∧ r' ≠ r ∧ st.objs[r']? = some x) ∨ x = .dead ∨ (r' = st.objs.length ∧ x = o') := by
    intro r' x hx
    rcases get_push hx with ⟨hr, hx⟩ | ⟨e, rfl⟩
    · rw [hl0] at hr
      rcases get_set hx with ⟨hne, hx⟩ | ⟨_, rfl, _⟩
      · exact .inl ⟨hr, hne, hx⟩
      · exact .inr (.inl rfl)
    · rw [hl0] at e; exact .inr (.inr ⟨e, rfl⟩)
  refine ⟨fun r' x hx => ?_, fun r' x hx hlv' => ?_, fun r1 r2 x x' hx hx' hlv1 hlv2 hne => ?_, fun b hF => by rw [hs]; exact h.fro b hF, h.glob.mono m.F m.mem⟩
  · rw [hlen]
    rcases key r' x hx with ⟨hr, hne, hx⟩ | rfl | ⟨rfl, rfl⟩
    · rw [updL_lt hr]
      exact (h.obj r' x hx).mono m fun hl => hb _ (h.inj r' r x o hx ho hl hlv hne)
    · trivial
    · rw [updL_eq]; exact ho'
  · rcases key r' x hx with ⟨hr, hne, hx⟩ | rfl | ⟨rfl, rfl⟩
    · rw [updL_lt hr] at hlv' ⊢; exact h.away r' x hx hlv'
    · exact hlv'.elim
    · rw [updL_eq, hblk]; exact h.away r o ho hlv
  · rcases key r1 x hx with ⟨hr1, hne1, gx⟩ | rfl | ⟨rfl, rfl⟩
    · rw [updL_lt hr1] at hlv1 ⊢
      rcases key r2 x' hx' with ⟨hr2, hne2, gx'⟩ | rfl | ⟨rfl, rfl⟩
      · rw [updL_lt hr2] at hlv2 ⊢; exact h.inj r1 r2 x x' gx gx' hlv1 hlv2 hne
      · exact hlv2.elim
      · rw [updL_eq, hblk]; exact h.inj r1 r x o gx ho hlv1 hlv hne1
    · exact hlv1.elim
    · rcases key r2 x' hx' with ⟨hr2, hne2, gx'⟩ | rfl | ⟨rfl, rfl⟩
      · rw [updL_lt hr2] at hlv2 ⊢
        rw [updL_eq, hblk]; exact (h.inj r2 r x' o gx' ho hlv2 hlv hne2).symm
      · exact hlv2.elim
      · exact absurd rfl hne

theorem Ext.move (h : Sim P T E st w) {r : Nat} {o : Obj} (l : Lay) (ho : st.objs[r]? = some o) (hlv : live o (E.L r)) (hs : w'.heap.size = w.heap.size)
    (hb : ∀ b, b ≠ (E.L r).blk → w'.heap[b]? = w.heap[b]?) (h1 : w'.os = w.os) (h2 : w'.tape = w.tape) (h3 : w'.output = w.output) :
    Ext E st.objs.length w (updL E st.objs.length l) (st.objs.length + 1) w' :=
  ⟨by omega, fun r hr => updL_lt hr, fun _ hF => hF, fun b hF => hb b fun e => h.away r o ho hlv (e ▸ hF), h1, h2, h3, by omega⟩

/-- more blocks are frozen: those that no live object has -/
def addF (E : Env) (p : Nat → Prop) : Env := { E with F := fun b => E.F b ∨ p b }

theorem Sim.freeze (h : Sim P T E st w) (p : Nat → Prop) (hp : ∀ b, p b → b < w.heap.size) (ha : ∀ (r : Nat) o, st.objs[r]? = some o → live o (E.L r) → ¬ p (E.L r).blk) :
    Sim P T (addF E p) st w :=
  ⟨fun r o ho => (h.obj r o ho).mono ⟨fun _ hr => ⟨hr, rfl⟩, fun _ hF => .inl hF, fun _ _ => rfl⟩ fun _ => rfl,
   fun r o ho hl hF => hF.elim (h.away r o ho hl) (ha r o ho hl), h.inj, fun b hF => hF.elim (h.fro b) (hp b), h.glob.mono (fun _ hF => .inl hF) fun _ _ => rfl⟩

theorem Ext.freeze (p : Nat → Prop) : Ext E n w (addF E p) n w := ⟨Nat.le_refl _, fun _ _ => rfl, fun _ hF => .inl hF, fun _ _ => rfl, rfl, rfl, rfl, Nat.le_refl _⟩

theorem Ext.grow (h : Sim P T E st w) (hs : w.heap.size ≤ w'.heap.size) (hb : ∀ b, b < w.heap.size → w'.heap[b]? = w.heap[b]?)
    (h1 : w'.os = w.os) (h2 : w'.tape = w.tape) (h3 : w'.output = w.output) : Ext E n w E n w' :=
  ⟨Nat.le_refl _, fun _ _ => rfl, fun _ hF => hF, fun b hF => hb b (h.fro b hF), h1, h2, h3, hs⟩

end
end Go.Proofs.YtcoonnbkmklenaaDoor.A
