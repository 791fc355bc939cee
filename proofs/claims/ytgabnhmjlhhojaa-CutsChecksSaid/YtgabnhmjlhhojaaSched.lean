/- A statement whose order is open: operations that do not meet may change places. -/
import Derived.Test.YtgabnhmjlhhojaaSound
namespace Go.Proofs.Ytgabnhmjlhhojaa.A
open Go
set_option linter.unusedSimpArgs false
set_option linter.unusedVariables false

section
variable {T : Tab} {O : Orc}

/-- calls of functions that leave the store alone do so -/
def OPure (T : Tab) (O : Orc) : Prop := (∀ f F args st v st', T f = some F → F.pure = true → O.call f args st = some (v, st') → st' = st) ∧
  (∀ f args st v st', T f = none → extP f = true → AV.stillL args = true → O.call f args st = some (v, st') → st' = st ∧ ∀ s, O.call f args s = some (v, s)) ∧
  (∀ f, extP f = true → T f = none)

theorem slot_set {fr : List AV} {d n : Nat} {v : AV} (h : d ≠ n) : slot (fr.set d v) n = slot fr n := by
  simp [slot, List.getD_eq_getElem?_getD, List.getElem?_set_ne h]

theorem ev_set {fr : List AV} {d : Nat} {v : AV} {x : Opd} (h : d ∉ opSlots x) : ev (fr.set d v) x = ev fr x := by
  cases x with
  | t n => exact slot_set (by simpa [opSlots] using h)
  | _ => rfl

theorem evs_set {fr : List AV} {d : Nat} {v : AV} : ∀ {l : List Opd}, d ∉ opsSlots l → evs (fr.set d v) l = evs fr l
  | [], _ => rfl
  | x :: l, h => by
    simp only [opsSlots, List.flatMap_cons, List.mem_append, not_or] at h
    simp only [evs, ev_set h.1]
    rw [evs_set (l := l) h.2]

theorem evo_set {fr : List AV} {d : Nat} {v : AV} {x : Option Opd} (h : d ∉ opoSlots x) : x.map (ev (fr.set d v)) = x.map (ev fr) := by
  cases x with
  | none => rfl
  | some x => simp [ev_set (x := x) (v := v) (fr := fr) h]

theorem fill_set {fr : List AV} {d : Nat} {v : AV} : ∀ {ps : List (Nat × Nat × Opd)} {cs : List AV}, d ∉ (ps.flatMap fun p => opSlots p.2.2) → fill (fr.set d v) ps cs = fill fr ps cs
  | [], _, _ => rfl
  | (o, n, x) :: r, cs, h => by
    simp only [List.flatMap_cons, List.mem_append, not_or] at h
    simp only [fill, ev_set h.1]
    split
    · exact fill_set h.2
    · rfl

theorem fillSl_set {fr : List AV} {d : Nat} {v : AV} {sz : Nat} : ∀ {ps : List (Nat × Opd)} {es : List (List AV)}, d ∉ (ps.flatMap fun p => opSlots p.2) → fillSl (fr.set d v) sz ps es = fillSl fr sz ps es
  | [], _, _ => rfl
  | (i, x) :: r, es, h => by
    simp only [List.flatMap_cons, List.mem_append, not_or] at h
    simp only [fillSl, ev_set h.1]
    split
    · exact fillSl_set h.2
    · rfl

theorem exOp_set {fr : List AV} {d : Nat} {v : AV} {st : St} {o : AO} (h : d ∉ reads o) : exOp O (fr.set d v) st o = exOp O fr st o := by
  cases o <;> simp only [reads, List.mem_append, not_or] at h
  case alloc => rfl
  case build => simp only [exOp, fill_set h]
  case buildSl => simp only [exOp, fillSl_set h]
  case mkfn => simp only [exOp, evs_set h.1, evs_set h.2]
  case call => simp only [exOp, evs_set h]
  case callv => simp only [exOp, ev_set h.1, evs_set h.2]
  case slice => simp only [exOp, ev_set h.1.1.1, evo_set h.1.1.2, evo_set h.1.2, evo_set h.2]
  case sliceS => simp only [exOp, ev_set h.1.1, evo_set h.1.2, evo_set h.2]
  case pick => simp only [exOp, ev_set h.1.1, ev_set h.1.2, ev_set h.2]
  case mkmap => rfl
  case add64 => simp only [exOp, ev_set h.1.1, ev_set h.1.2, ev_set h.2]
  case mapset => simp only [exOp, ev_set h.1.1, ev_set h.1.2, ev_set h.2]
  all_goals first
    | simp only [exOp, ev_set h]
    | simp only [exOp, ev_set h.1, ev_set h.2]

theorem target_set {fr : List AV} {d : Nat} {v : AV} {o : AO} (h : d ∉ reads o) : target (fr.set d v) o = target fr o := by
  cases o <;> try rfl
  simp only [reads, List.mem_append, not_or] at h
  simp only [target, ev_set h.1]

/-- an operation's value and store, its guard minded -/
def exG (O : Orc) (o : AOp) (fr : List AV) (st : St) : Option (AV × St) :=
  match o.guard with
  | none => exOp O fr st o.op
  | some (j, want) => match gd (slot fr j) with
    | some x => bif x == some want then exOp O fr st o.op else some (.tup [], st)
    | none => none

theorem exStep_eq (o : AOp) (fr : List AV) (st : St) : exStep O o fr st = match exG O o fr st with | some (v, st') => some (put fr o.dst v, st') | none => none := by
  obtain ⟨dst, op, g⟩ := o
  cases g with
  | none => rfl
  | some jw =>
    obtain ⟨j, want⟩ := jw
    simp only [exStep, exG]
    cases gd (slot fr j) with
    | none => rfl
    | some b =>
      simp only []
      cases b == some want <;> rfl

theorem exG_put {fr : List AV} {d : Option Nat} {v : AV} {st : St} {o : AOp} (h : ∀ k, d = some k → k ∉ o.slots) : exG O o (put fr d v) st = exG O o fr st := by
  cases d with
  | none => rfl
  | some k =>
    have hk := h k rfl
    obtain ⟨dst, op, g⟩ := o
    cases g with
    | none => exact exOp_set (by simpa [AOp.slots] using hk)
    | some jw =>
      obtain ⟨j, want⟩ := jw
      simp only [AOp.slots, List.mem_append, not_or] at hk
      simp only [exG, put]
      rw [slot_set (by simpa using hk.2), exOp_set hk.1]

/-- the same arrays, of the same length -/
structure Shape (s t : St) : Prop where
  ro : s.ro = t.ro
  at_ : ∀ r, (s.arr? r).map (fun x => (x.1, x.2.1, x.2.2.length)) = (t.arr? r).map (fun x => (x.1, x.2.1, x.2.2.length))

theorem Shape.refl (s : St) : Shape s s := ⟨rfl, fun _ => rfl⟩

theorem Shape.symm {s t : St} (h : Shape s t) : Shape t s := ⟨h.ro.symm, fun r => (h.at_ r).symm⟩

theorem idxA_shape {s t : St} (h : Shape s t) (sz : Nat) (x i : AV) : idxA s sz x i = idxA t sz x i := by
  cases x <;> cases i <;> try rfl
  rename_i r lo n full k i
  have hr := h.at_ r
  simp only [idxA]
  cases h1 : s.arr? r <;> cases h2 : t.arr? r <;> rw [h1, h2] at hr <;> simp at hr ⊢
  obtain ⟨_, e1, e2⟩ := hr
  rw [e1, e2]

theorem slc_shape {s t : St} (h : Shape s t) (sz : Nat) (x : AV) (lo hi mx : Option AV) : slc s sz x lo hi mx = slc t sz x lo hi mx := by
  cases x <;> try rfl
  rename_i r o n full
  have hr := h.at_ r
  simp only [slc]
  cases h1 : s.arr? r <;> cases h2 : t.arr? r <;> rw [h1, h2] at hr <;> simp at hr ⊢
  obtain ⟨_, e1, e2⟩ := hr
  rw [e1]

theorem opt_st {st st' : St} {o : Option AV} {v : AV} (h : opt st o = some (v, st')) : st' = st ∧ ∀ s, opt s o = some (v, s) := by
  cases o with
  | none => cases h
  | some u => simp [opt] at h; obtain ⟨rfl, rfl⟩ := h; exact ⟨rfl, fun s => rfl⟩

/-- slots alone -/
theorem pur_op {fr : List AV} {st st' : St} {o : AO} {v : AV} (hc : cls T o = .pur) (h : exOp O fr st o = some (v, st')) : st' = st ∧ ∀ s, exOp O fr s o = some (v, s) := by
  cases o <;> simp only [cls, reduceCtorEq] at hc
  case call f l => exfalso; revert hc; cases T f <;> simp only [reduceCtorEq, imp_self]; split <;> simp
  all_goals simp only [exOp] at h ⊢
  all_goals first
    | exact opt_st h
    | (repeat' split at h) <;> first
      | contradiction
      | (obtain ⟨rfl, rfl⟩ := Prod.mk.inj (Option.some.inj h); refine ⟨rfl, fun s => ?_⟩; rfl)
      | (obtain ⟨rfl, rfl⟩ := Prod.mk.inj (Option.some.inj h); refine ⟨rfl, fun s => ?_⟩; rw [if_pos ‹_›]; done)
      | (obtain ⟨rfl, rfl⟩ := Prod.mk.inj (Option.some.inj h); refine ⟨rfl, fun s => ?_⟩; rw [if_pos ‹_ = _›]; first | (rw [if_pos ‹_›]; done) | (rw [if_neg ‹_›]; done))
      | (obtain ⟨rfl, rfl⟩ := Prod.mk.inj (Option.some.inj h); refine ⟨rfl, fun s => ?_⟩; simp only [*, and_self, if_true, reduceIte]; done)
      | (obtain ⟨e, h2⟩ := opt_st h; refine ⟨e, fun s => ?_⟩; (try rw [if_pos ‹_›]); exact h2 s)

theorem shp_op {fr : List AV} {st st' : St} {o : AO} {v : AV} (hc : cls T o = .shp) (h : exOp O fr st o = some (v, st')) : st' = st ∧ ∀ s, Shape st s → exOp O fr s o = some (v, s) := by
  cases o <;> simp only [cls, reduceCtorEq] at hc
  case call f l => exfalso; revert hc; cases T f <;> simp only [reduceCtorEq, imp_self]; split <;> simp
  case idxA sz x i =>
    simp only [exOp] at h ⊢
    obtain ⟨e, h2⟩ := opt_st h
    exact ⟨e, fun s hs => by rw [← idxA_shape hs]; exact h2 s⟩
  case slice sz x lo hi mx =>
    simp only [exOp] at h ⊢
    obtain ⟨e, h2⟩ := opt_st h
    exact ⟨e, fun s hs => by rw [← slc_shape hs]; exact h2 s⟩

theorem rd_op {fr : List AV} {st st' : St} {o : AO} {v : AV} (hc : cls T o = .rd) (h : exOp O fr st o = some (v, st')) : st' = st := by
  cases o <;> simp only [cls, reduceCtorEq] at hc
  case call f l => exfalso; revert hc; cases T f <;> simp only [reduceCtorEq, imp_self]; split <;> simp
  case load => exact (opt_st h).1

theorem runc_op (H : OPure T O) {fr : List AV} {st st' : St} {o : AO} {v : AV} (hc : cls T o = .run) (h : exOp O fr st o = some (v, st')) : st' = st := by
  cases o <;> simp only [cls, reduceCtorEq] at hc
  case call f l =>
    cases hT : T f with
    | none => rw [hT] at hc; simp at hc
    | some F =>
      rw [hT] at hc
      cases hp : F.pure with
      | false => simp [hp] at hc
      | true => exact H.1 f F _ _ _ _ hT hp h

theorem setMany_set : ∀ (xs : List AV) (cs : List AV) (o k : Nat) (v : AV), k < o ∨ o + xs.length ≤ k → setMany (cs.set k v) o xs = (setMany cs o xs).set k v
  | [], _, _, _, _, _ => rfl
  | x :: xs, cs, o, k, v, h => by
    simp only [List.length_cons] at h
    rw [setMany, setMany, List.set_comm _ _ (by omega), setMany_set xs _ _ _ _ (by omega)]

theorem setMany_comm : ∀ (ys xs : List AV) (cs : List AV) (o p : Nat), o + xs.length ≤ p ∨ p + ys.length ≤ o → setMany (setMany cs o xs) p ys = setMany (setMany cs p ys) o xs
  | [], _, _, _, _, _ => rfl
  | y :: ys, xs, cs, o, p, h => by
    simp only [List.length_cons] at h
    rw [setMany, setMany, ← setMany_set _ _ _ _ _ (by omega), setMany_comm ys _ _ _ _ (by omega)]

theorem arr_set_self {st : St} {r ty s : Nat} {es : List (List AV)} (h : r < st.objs.length) : (st.set r (.arr ty s es)).arr? r = some (ty, s, es) := by
  simp [St.arr?, St.set, h]

theorem arr_set_ne {st : St} {r q : Nat} {o : Obj} (h : r ≠ q) : (st.set r o).arr? q = st.arr? q := by
  simp [St.arr?, St.set, List.getElem?_set_ne h]

theorem arr_lt {st : St} {r : Nat} {x : Nat × Nat × List (List AV)} (h : st.arr? r = some x) : r < st.objs.length := by
  unfold St.arr? at h
  split at h
  · rename_i hr
    exact (List.getElem?_eq_some_iff.1 hr).1
  · cases h

theorem sto_inv {st st' : St} {sz : Nat} {a v : AV} (h : sto st sz a v = some st') : ∃ r i off ty s es e, a = .ptr r i off ∧ st.arr? r = some (ty, s, es) ∧ es[i]? = some e ∧
    (v.cells.length = sz ∧ off + sz ≤ e.length ∧ v.cells.all AV.one = true ∧ st.ro ≤ r) ∧ st' = st.set r (.arr ty s (es.set i (setMany e off v.cells))) := by
  unfold sto at h
  split at h
  · split at h
    · split at h
      · split at h
        · exact ⟨_, _, _, _, _, _, _, rfl, ‹_›, ‹_›, ‹_›, (Option.some.inj h).symm⟩
        · cases h
      · cases h
    · cases h
  · cases h

theorem sto_shape {st st' : St} {sz : Nat} {a v : AV} (h : sto st sz a v = some st') : Shape st st' := by
  obtain ⟨r, i, off, ty, s, es, e, rfl, ha, he, hc, rfl⟩ := sto_inv h
  refine ⟨rfl, fun q => ?_⟩
  by_cases hq : r = q
  · subst hq
    rw [arr_set_self (arr_lt ha), ha]
    simp
  · rw [arr_set_ne hq]

theorem sto_comm {st st1 st2 : St} {sz sz' : Nat} {a v a' v' : AV} (h1 : sto st sz a v = some st1) (h2 : sto st1 sz' a' v' = some st2)
    (hap : ∀ r i off r' i' off', a = .ptr r i off → a' = .ptr r' i' off' → apart2 (r, i, off, sz) (r', i', off', sz') = true) :
    ∃ st1', sto st sz' a' v' = some st1' ∧ sto st1' sz a v = some st2 := by
  obtain ⟨r, i, off, ty, s, es, e, rfl, ha, he, hc, rfl⟩ := sto_inv h1
  obtain ⟨r', i', off', ty', s', es', e', rfl, ha', he', hc', rfl⟩ := sto_inv h2
  have hp := hap _ _ _ _ _ _ rfl rfl
  have hlt := arr_lt ha
  by_cases hr : r = r'
  · subst hr
    rw [arr_set_self hlt] at ha'
    obtain ⟨rfl, rfl, rfl⟩ : ty = ty' ∧ s = s' ∧ es.set i (setMany e off v.cells) = es' := by simpa using ha'
    have hi : i < es.length := (List.getElem?_eq_some_iff.1 he).1
    by_cases hii : i = i'
    · subst hii
      rw [List.getElem?_set_self hi] at he'
      obtain rfl := Option.some.inj he'
      rw [setMany_length] at hc'
      have hd : off + sz ≤ off' ∨ off' + sz' ≤ off := by simpa [apart2] using hp
      refine ⟨st.set r (.arr ty s (es.set i (setMany e off' v'.cells))), ?_, ?_⟩
      · simp only [sto, ha, he]
        rw [if_pos (show _ ∧ _ ∧ _ ∧ st.ro ≤ _ from hc')]
      · simp only [sto]
        rw [arr_set_self hlt]
        simp only []
        rw [List.getElem?_set_self hi]
        simp only [setMany_length]
        rw [if_pos ⟨hc.1, hc.2.1, hc.2.2.1, hc.2.2.2⟩]
        simp only [St.set, List.set_set]
        rw [setMany_comm _ _ _ _ _ (by first | (rw [hc.1, hc'.1]; exact hd) | (rw [hc.1, hc'.1]; exact hd.symm))]
    · rw [List.getElem?_set_ne hii] at he'
      refine ⟨st.set r (.arr ty s (es.set i' (setMany e' off' v'.cells))), ?_, ?_⟩
      · simp only [sto, ha, he']
        rw [if_pos (show _ ∧ _ ∧ _ ∧ st.ro ≤ _ from hc')]
      · simp only [sto]
        rw [arr_set_self hlt]
        simp only []
        rw [List.getElem?_set_ne (Ne.symm hii), he]
        simp only []
        rw [if_pos ⟨hc.1, hc.2.1, hc.2.2.1, hc.2.2.2⟩]
        simp only [St.set, List.set_set]
        rw [List.set_comm _ _ hii]
  · rw [arr_set_ne hr] at ha'
    refine ⟨st.set r' (.arr ty' s' (es'.set i' (setMany e' off' v'.cells))), ?_, ?_⟩
    · simp only [sto, ha', he']
      rw [if_pos (show _ ∧ _ ∧ _ ∧ st.ro ≤ _ from hc')]
    · simp only [sto]
      rw [arr_set_ne (Ne.symm hr), ha]
      simp only [he]
      rw [if_pos ⟨hc.1, hc.2.1, hc.2.2.1, hc.2.2.2⟩]
      simp only [St.set]
      rw [List.set_comm _ _ hr]

/-- the place an operation writes to, in order -/
def exL (O : Orc) : List AOp → List AV → St → Option (List AV × St × List (Nat × Nat × Nat × Nat))
  | [], fr, st => some (fr, st, [])
  | o :: l, fr, st =>
    match exStep O o fr st with
    | some (fr', st') =>
      match exL O l fr' st' with
      | some (fr2, st2, ts) => some (fr2, st2, target fr o.op ++ ts)
      | none => none
    | none => none

theorem slotsApart_spec {x y : AOp} (h : slotsApart x y = true) :
    (∀ d, x.dst = some d → d ∉ y.slots) ∧ (∀ d, x.dst = some d → y.dst ≠ some d) ∧ (∀ d, y.dst = some d → d ∉ x.slots) := by
  refine ⟨fun d hd => ?_, fun d hd => ?_, fun d hd => ?_⟩ <;> simp [slotsApart, hd] at h
  · exact h.1.1
  · exact h.1.2
  · exact h.2

theorem put_comm {fr : List AV} {d e : Option Nat} {v u : AV} (h : ∀ k, d = some k → e ≠ some k) : put (put fr d v) e u = put (put fr e u) d v := by
  cases d <;> cases e <;> try rfl
  rename_i d e
  have : d ≠ e := fun q => h d rfl (by rw [q])
  simp only [put]
  rw [List.set_comm _ _ this]

/-- two operations change places -/
theorem exG_swap (H : OPure T O) {x y : AOp} {fr : List AV} {st st1 st2 : St} {v u : AV} (hc : clsOk (cls T x.op) (cls T y.op) = true)
    (h1 : exG O x fr st = some (v, st1)) (h2 : exG O y fr st1 = some (u, st2))
    (hap : ∀ a ∈ target fr x.op, ∀ b ∈ target fr y.op, apart2 a b = true) : ∃ st1', exG O y fr st = some (u, st1') ∧ exG O x fr st1' = some (v, st2) := by
  -- an operation that is kept from running, or runs
  have split_ : ∀ (z : AOp) (s s' : St) (q : AV), exG O z fr s = some (q, s') → (s' = s ∧ ∀ t, exG O z fr t = some (q, t)) ∨ (exOp O fr s z.op = some (q, s') ∧ ∀ t, exG O z fr t = exOp O fr t z.op) := by
    intro z s s' q hz
    obtain ⟨dst, op, g⟩ := z
    cases g with
    | none => exact .inr ⟨hz, fun t => rfl⟩
    | some jw =>
      obtain ⟨j, want⟩ := jw
      simp only [exG] at hz ⊢
      cases hs : gd (slot fr j) with
      | none => rw [hs] at hz; cases hz
      | some b =>
        rw [hs] at hz
        simp only [] at hz ⊢
        cases hb : b == some want with
        | true => rw [hb] at hz; exact .inr ⟨hz, fun t => rfl⟩
        | false =>
          rw [hb] at hz
          obtain ⟨rfl, rfl⟩ := Prod.mk.inj (Option.some.inj hz)
          exact .inl ⟨rfl, fun t => rfl⟩
  rcases split_ x st st1 v h1 with ⟨rfl, a1⟩ | ⟨a1, a2⟩
  · exact ⟨st2, h2, a1 st2⟩
  rcases split_ y st1 st2 u h2 with ⟨rfl, b1⟩ | ⟨b1, b2⟩
  · exact ⟨st, b1 st, h1⟩
  -- both run
  simp only [a2, b2]
  have same : st1 = st → st2 = st1 → ∃ st1', exOp O fr st y.op = some (u, st1') ∧ exOp O fr st1' x.op = some (v, st2) := by
    rintro rfl rfl
    exact ⟨_, b1, a1⟩
  have xpur : cls T x.op = .pur → ∃ st1', exOp O fr st y.op = some (u, st1') ∧ exOp O fr st1' x.op = some (v, st2) := by
    intro hx
    obtain ⟨rfl, hi⟩ := pur_op hx a1
    exact ⟨st2, b1, hi st2⟩
  have ypur : cls T y.op = .pur → ∃ st1', exOp O fr st y.op = some (u, st1') ∧ exOp O fr st1' x.op = some (v, st2) := by
    intro hy
    obtain ⟨rfl, hi⟩ := pur_op hy b1
    exact ⟨st, hi st, a1⟩
  have keepx : cls T x.op = .rd ∨ cls T x.op = .run ∨ cls T x.op = .shp → st1 = st := by
    rintro (hx | hx | hx)
    · exact rd_op hx a1
    · exact runc_op H hx a1
    · exact (shp_op hx a1).1
  have keepy : cls T y.op = .rd ∨ cls T y.op = .run ∨ cls T y.op = .shp → st2 = st1 := by
    rintro (hx | hx | hx)
    · exact rd_op hx b1
    · exact runc_op H hx b1
    · exact (shp_op hx b1).1
  have isSto : ∀ z : AOp, cls T z.op = .wr → ∃ sz a w, z.op = .store sz a w := by
    intro z hz
    cases ho : z.op <;> rw [ho] at hz <;> simp only [cls, reduceCtorEq] at hz
    case call f l => exfalso; revert hz; cases T f <;> simp only [reduceCtorEq, imp_self]; split <;> simp
    exact ⟨_, _, _, rfl⟩
  have stoRun : ∀ sz a w (s s' : St) (q : AV), exOp O fr s (.store sz a w) = some (q, s') → q = .any ∧ sto s sz (ev fr a) (ev fr w) = some s' := by
    intro sz a w s s' q hq
    simp only [exOp] at hq
    split at hq
    · obtain ⟨rfl, rfl⟩ := Prod.mk.inj (Option.some.inj hq)
      exact ⟨rfl, ‹_›⟩
    · cases hq
  cases hx : cls T x.op <;> cases hy : cls T y.op <;> rw [hx, hy] at hc <;> simp only [clsOk, Bool.false_eq_true] at hc <;>
    first
    | exact xpur hx
    | exact ypur hy
    | (refine same (keepx ?_) (keepy ?_) <;> (simp [hx, hy]; done))
    | skip
  · -- shp, wr
    obtain ⟨rfl, hi⟩ := shp_op hx a1
    obtain ⟨sz, a, w, e⟩ := isSto y hy
    rw [e] at b1
    obtain ⟨rfl, hs⟩ := stoRun _ _ _ _ _ _ b1
    exact ⟨st2, by rw [e]; exact b1, hi st2 (sto_shape hs)⟩
  · -- wr, shp
    obtain ⟨rfl, hi⟩ := shp_op hy b1
    obtain ⟨sz, a, w, e⟩ := isSto x hx
    rw [e] at a1
    obtain ⟨rfl, hs⟩ := stoRun _ _ _ _ _ _ a1
    exact ⟨st, hi st (sto_shape hs).symm, by rw [e]; exact a1⟩
  · -- wr, wr
    obtain ⟨sz, a, w, e⟩ := isSto x hx
    obtain ⟨sz', a', w', e'⟩ := isSto y hy
    rw [e] at a1
    rw [e'] at b1
    obtain ⟨rfl, hs⟩ := stoRun _ _ _ _ _ _ a1
    obtain ⟨rfl, hs'⟩ := stoRun _ _ _ _ _ _ b1
    obtain ⟨st1', c1, c2⟩ := sto_comm hs hs' (fun r i off r' i' off' q q' => hap _ (by rw [e]; simp [target, q]) _ (by rw [e']; simp [target, q']))
    refine ⟨st1', ?_, ?_⟩
    · rw [e']; simp only [exOp]; rw [c1]
    · rw [e]; simp only [exOp]; rw [c2]

abbrev Places := List (Nat × Nat × Nat × Nat)

theorem exL_cons {o : AOp} {l : List AOp} {fr fr' : List AV} {st st' : St} {ts : Places} (h : exL O (o :: l) fr st = some (fr', st', ts)) :
    ∃ v st1 ts1, exG O o fr st = some (v, st1) ∧ exL O l (put fr o.dst v) st1 = some (fr', st', ts1) ∧ ts = target fr o.op ++ ts1 := by
  simp only [exL, exStep_eq] at h
  split at h
  · rename_i a b hx
    split at hx
    · rename_i v s hg
      obtain ⟨rfl, rfl⟩ := Prod.mk.inj (Option.some.inj hx)
      split at h
      · rename_i f2 s2 t2 hl
        obtain ⟨rfl, h9⟩ := Prod.mk.inj (Option.some.inj h)
        obtain ⟨rfl, rfl⟩ := Prod.mk.inj h9
        exact ⟨v, _, _, hg, hl, rfl⟩
      · cases h
    · cases hx
  · cases h

theorem exL_mk {o : AOp} {l : List AOp} {fr fr' : List AV} {st st' : St} {ts1 : Places} {v : AV} {st1 : St} (h1 : exG O o fr st = some (v, st1)) (h2 : exL O l (put fr o.dst v) st1 = some (fr', st', ts1)) :
    exL O (o :: l) fr st = some (fr', st', target fr o.op ++ ts1) := by
  simp only [exL, exStep_eq, h1, h2]

theorem target_put {fr : List AV} {d : Option Nat} {v : AV} {o : AOp} (h : ∀ k, d = some k → k ∉ o.slots) : target (put fr d v) o.op = target fr o.op := by
  cases d with
  | none => rfl
  | some k =>
    have hk := h k rfl
    simp only [AOp.slots, List.mem_append, not_or] at hk
    exact target_set hk.1

theorem apart2_symm {a b : Nat × Nat × Nat × Nat} (h : apart2 a b = true) : apart2 b a = true := by
  simp only [apart2, Bool.or_eq_true, bne_iff_ne, decide_eq_true_eq] at h ⊢
  rcases h with ((h | h) | h) | h
  · exact .inl (.inl (.inl (Ne.symm h)))
  · exact .inl (.inl (.inr (Ne.symm h)))
  · exact .inr h
  · exact .inl (.inr h)

abbrev Apart (ts : Places) : Prop := ts.Pairwise (fun a b => apart2 a b = true)

theorem Apart.perm {ts us : Places} (h : Apart ts) (p : ts.Perm us) : Apart us := (p.pairwise_iff (fun q => apart2_symm q)).1 h

theorem exL_swap (H : OPure T O) {x y : AOp} {l : List AOp} {fr fr' : List AV} {st st' : St} {ts : Places} (hf : free2 T x y = true)
    (h : exL O (x :: y :: l) fr st = some (fr', st', ts)) (hp : Apart ts) : ∃ ts', exL O (y :: x :: l) fr st = some (fr', st', ts') ∧ ts.Perm ts' := by
  simp only [free2, Bool.and_eq_true] at hf
  obtain ⟨s1, s2, s3⟩ := slotsApart_spec hf.1
  obtain ⟨v, st1, ts1, h1, h8, rfl⟩ := exL_cons h
  obtain ⟨u, st2, ts2, h2, h9, rfl⟩ := exL_cons h8
  rw [exG_put s1] at h2
  rw [target_put s1] at hp ⊢
  obtain ⟨stm, g1, g2⟩ := exG_swap H hf.2 h1 h2 (fun a ha b hb => (List.pairwise_append.1 hp).2.2 a ha b (List.mem_append_left _ hb))
  rw [put_comm s2] at h9
  refine ⟨_, exL_mk g1 (exL_mk (by rw [exG_put s3]; exact g2) h9), ?_⟩
  rw [target_put s3, ← List.append_assoc, ← List.append_assoc]
  exact List.perm_append_comm.append_right _

/-- an operation to the front -/
theorem exL_front (H : OPure T O) {x : AOp} {l : List AOp} : ∀ (k : List AOp) {fr fr' : List AV} {st st' : St} {ts : Places}, (∀ y ∈ k, free2 T y x = true) →
    exL O (k ++ x :: l) fr st = some (fr', st', ts) → Apart ts → ∃ ts', exL O (x :: (k ++ l)) fr st = some (fr', st', ts') ∧ ts.Perm ts'
  | [], _, _, _, _, _, _, h, _ => ⟨_, h, .refl _⟩
  | y :: k, fr, fr', st, st', ts, hk, h, hp => by
    obtain ⟨v, st1, ts1, h1, h2, rfl⟩ := exL_cons h
    obtain ⟨ts2, h3, p3⟩ := exL_front H k (fun z hz => hk z (List.mem_cons_of_mem _ hz)) h2 (List.pairwise_append.1 hp).2.1
    have p4 := p3.append_left (target fr y.op)
    obtain ⟨ts4, h5, p5⟩ := exL_swap H (hk y (List.mem_cons_self ..)) (exL_mk h1 h3) (hp.perm p4)
    exact ⟨ts4, h5, p4.trans p5⟩

/-- any order that keeps what must be kept -/
theorem exL_any (H : OPure T O) (xs : List AOp) (bef : Nat → Nat → Bool) (hb : ∀ i j x y, i < j → xs[i]? = some x → xs[j]? = some y → bef j i = true ∨ free2 T x y = true) :
    ∀ (L R : List Nat) (l : List AOp) {fr fr' : List AV} {st st' : St} {ts : Places}, L.Perm R → R.Pairwise (· < ·) → L.Pairwise (fun a b => bef a b = false) →
      R.map (fun (j : Nat) => xs[j]?) = l.map some → exL O l fr st = some (fr', st', ts) → Apart ts →
      ∃ l' ts', L.map (fun (j : Nat) => xs[j]?) = l'.map some ∧ exL O l' fr st = some (fr', st', ts')
  | [], R, l, _, _, _, _, _, p, _, _, hl, h, _ => by
    obtain rfl := p.symm.eq_nil
    obtain rfl : l = [] := by cases l <;> simp at hl; rfl
    exact ⟨[], _, rfl, h⟩
  | a :: L, R, l, fr, fr', st, st', ts, p, hs, hL, hl, h, hp => by
    have ha : a ∈ R := p.subset (List.mem_cons_self ..)
    obtain ⟨R1, R2, rfl⟩ := List.append_of_mem ha
    obtain ⟨k, l2, rfl, hk, hl2⟩ : ∃ k l2, l = k ++ l2 ∧ R1.map (fun (j : Nat) => xs[j]?) = k.map some ∧ (a :: R2).map (fun (j : Nat) => xs[j]?) = l2.map some := by
      rw [List.map_append] at hl
      obtain ⟨k, l2, e, e1, e2⟩ := List.map_eq_append_iff.1 hl.symm
      exact ⟨k, l2, e, e1.symm, e2.symm⟩
    cases l2 with
    | nil => simp at hl2
    | cons x l2 =>
      simp only [List.map_cons, List.cons.injEq] at hl2
      have p' : L.Perm (R1 ++ R2) := (List.perm_cons a).1 (p.trans List.perm_middle)
      have hs' := List.pairwise_append.1 hs
      have hfree : ∀ y ∈ k, free2 T y x = true := by
        intro y hy
        have : some y ∈ k.map some := List.mem_map_of_mem hy
        rw [← hk] at this
        obtain ⟨i, hi, e⟩ := List.mem_map.1 this
        have hlt : i < a := hs'.2.2 i hi a (List.mem_cons_self ..)
        rcases hb i a y x hlt e hl2.1 with hbb | hff
        · have := (List.pairwise_cons.1 hL).1 i (p'.symm.subset (List.mem_append_left _ hi))
          rw [this] at hbb; cases hbb
        · exact hff
      obtain ⟨ts2, h2, p2⟩ := exL_front H k hfree h hp
      obtain ⟨v, st1, ts3, h3, h4, rfl⟩ := exL_cons h2
      obtain ⟨l', ts4, e4, h5⟩ := exL_any H xs bef hb L (R1 ++ R2) (k ++ l2) p'
        (hs.sublist (List.Sublist.append_left (List.sublist_cons_self a R2) R1)) (List.pairwise_cons.1 hL).2
        (by rw [List.map_append, hk, hl2.2, List.map_append]) h4 (List.pairwise_append.1 (hp.perm p2)).2.1
      exact ⟨x :: l', _, by simp [hl2.1, e4], exL_mk h3 h5⟩

mutual
theorem beq_sound : ∀ (a b : AV), AV.beq a b = true → a = b
  | .any, b, h => by cases b <;> simp_all [AV.beq]
  | .bool _, b, h => by cases b <;> simp_all [AV.beq]
  | .int .., b, h => by cases b <;> simp_all [AV.beq]
  | .str x, b, h => by
    cases b <;> simp [AV.beq] at h
    rename_i y
    obtain ⟨⟨x⟩⟩ := x
    obtain ⟨⟨y⟩⟩ := y
    simp at h
    rw [h]
  | .nilf, b, h => by cases b <;> simp_all [AV.beq]
  | .nilp, b, h => by cases b <;> simp_all [AV.beq]
  | .nils, b, h => by cases b <;> simp_all [AV.beq]
  | .emps, b, h => by cases b <;> simp_all [AV.beq]
  | .ptr .., b, h => by cases b <;> simp_all [AV.beq]
  | .own .., b, h => by cases b <;> simp_all [AV.beq]
  | .yld _, b, h => by cases b <;> simp_all [AV.beq]
  | .mref _, b, h => by cases b <;> simp_all [AV.beq]
  | .vptr l, b, h => by
    cases b <;> simp [AV.beq] at h
    rw [beqL_sound l _ h]
  | .agg l, b, h => by
    cases b <;> simp [AV.beq] at h
    rw [beqL_sound l _ h]
  | .tup l, b, h => by
    cases b <;> simp [AV.beq] at h
    rw [beqL_sound l _ h]
  | .sl _ l, b, h => by
    cases b <;> simp [AV.beq] at h
    rw [h.1, beqLL_sound l _ h.2]
  | .fsl _ l, b, h => by
    cases b <;> simp [AV.beq] at h
    rw [h.1, beqLL_sound l _ h.2]
  | .fn f x y, b, h => by
    cases b <;> simp [AV.beq] at h
    rw [h.1.1, beqL_sound x _ h.1.2, beqL_sound y _ h.2]
theorem beqL_sound : ∀ (a b : List AV), AV.beqL a b = true → a = b
  | [], [], _ => rfl
  | [], _ :: _, h => by simp [AV.beqL] at h
  | _ :: _, [], h => by simp [AV.beqL] at h
  | a :: l, b :: k, h => by
    simp only [AV.beqL, Bool.and_eq_true] at h
    rw [beq_sound a b h.1, beqL_sound l k h.2]
theorem beqLL_sound : ∀ (a b : List (List AV)), AV.beqLL a b = true → a = b
  | [], [], _ => rfl
  | [], _ :: _, h => by simp [AV.beqLL] at h
  | _ :: _, [], h => by simp [AV.beqLL] at h
  | a :: l, b :: k, h => by
    simp only [AV.beqLL, Bool.and_eq_true] at h
    rw [beqL_sound a b h.1, beqLL_sound l k h.2]
end

theorem wsOk_perm {st : St} {ws ws' : List Wt} (p : ws.Perm ws') : wsOk st ws = wsOk st ws' := by
  have key : ∀ ws : List Wt, wsOk st ws = ws.all fun w => match ld st w.1 w.2.1 w.2.2.1 with | some u => AV.beq u w.2.2.2 | none => false := by
    intro ws
    induction ws with
    | nil => rfl
    | cons w ws ih =>
      obtain ⟨g, sz, p, v⟩ := w
      simp only [wsOk, List.all_cons, ih]
      rfl
  rw [key, key]
  exact p.all_eq

theorem wsOk_app {st : St} : ∀ {ws us : List Wt}, wsOk st (ws ++ us) = true → wsOk st ws = true ∧ wsOk st us = true
  | [], us, h => ⟨rfl, h⟩
  | (g, sz, p, v) :: ws, us, h => by
    simp only [List.cons_append, wsOk, Bool.and_eq_true] at h ⊢
    obtain ⟨h1, h2⟩ := h
    exact ⟨⟨h1, (wsOk_app h2).1⟩, (wsOk_app h2).2⟩

theorem exW_cons {o : AOp} {l : List AOp} {ws : List Wt} {fr : List AV} {st : St} {R : List AV × St} (h : exW O (o :: l) ws fr st = some R) :
    ∃ v st1, exG O o fr st = some (v, st1) ∧ (effB o.op = true → wsOk st1 ws = true) ∧ exW O l (entry o fr st ++ ws) (put fr o.dst v) st1 = some R := by
  simp only [exW, exStep_eq] at h
  split at h
  · rename_i a b hx
    split at hx
    · rename_i v s hg
      obtain ⟨rfl, rfl⟩ := Prod.mk.inj (Option.some.inj hx)
      split at h
      · cases h
      · rename_i hc
        refine ⟨v, _, hg, fun he => ?_, h⟩
        cases hw : wsOk s ws with
        | true => rfl
        | false => exact absurd (by simp [he, hw]) hc
    · cases hx
  · cases h

theorem exW_mk {o : AOp} {l : List AOp} {ws : List Wt} {fr : List AV} {st st1 : St} {v : AV} {R : List AV × St} (h1 : exG O o fr st = some (v, st1)) (h2 : effB o.op = true → wsOk st1 ws = true)
    (h3 : exW O l (entry o fr st ++ ws) (put fr o.dst v) st1 = some R) : exW O (o :: l) ws fr st = some R := by
  simp only [exW, exStep_eq, h1]
  rw [if_neg ?_]
  · exact h3
  · intro hc
    simp only [Bool.and_eq_true, Bool.not_eq_true'] at hc
    rw [h2 hc.1] at hc
    simp at hc

theorem exW_perm : ∀ (l : List AOp) {ws ws' : List Wt} {fr : List AV} {st : St} {R : List AV × St}, ws.Perm ws' → exW O l ws fr st = some R → exW O l ws' fr st = some R
  | [], _, _, _, _, _, _, h => h
  | o :: l, ws, ws', fr, st, R, p, h => by
    obtain ⟨v, st1, h1, h2, h3⟩ := exW_cons h
    exact exW_mk h1 (fun he => by rw [← wsOk_perm p]; exact h2 he) (exW_perm l (p.append_left _) h3)

theorem ran_put {o : AOp} {fr : List AV} {d : Option Nat} {v : AV} (h : ∀ k, d = some k → k ∉ o.slots) : ran (put fr d v) o = ran fr o := by
  cases d with
  | none => rfl
  | some k =>
    have hk := h k rfl
    obtain ⟨dst, op, g⟩ := o
    cases g with
    | none => rfl
    | some jw =>
      obtain ⟨j, want⟩ := jw
      simp only [AOp.slots, List.mem_append, not_or] at hk
      simp only [ran, put]
      rw [slot_set (by simpa using hk.2)]

theorem entry_put {o : AOp} {fr : List AV} {st : St} {d : Option Nat} {v : AV} (h : ∀ k, d = some k → k ∉ o.slots) : entry o (put fr d v) st = entry o fr st := by
  have hr := ran_put (v := v) (fr := fr) h
  obtain ⟨dst, op, g⟩ := o
  cases op <;> simp only [entry]
  rename_i a sz x
  rw [hr]
  cases d with
  | none => rfl
  | some k =>
    have hk := h k rfl
    simp only [AOp.slots, reads, List.mem_append, not_or] at hk
    simp only [put]
    rw [ev_set hk.1]

/-- what leaves the store alone does so, guarded too -/
theorem exG_quiet (H : OPure T O) {o : AOp} {fr : List AV} {st st' : St} {v : AV} (hc : quiet (cls T o.op) = true) (h : exG O o fr st = some (v, st')) : st' = st := by
  have key : ∀ {v st'}, exOp O fr st o.op = some (v, st') → st' = st := fun {v st'} h => by
    cases hcl : cls T o.op <;> rw [hcl] at hc <;> simp [quiet] at hc
    · exact (pur_op hcl h).1
    · exact (shp_op hcl h).1
    · exact rd_op hcl h
    · exact runc_op H hcl h
  unfold exG at h
  split at h
  · exact key h
  · split at h
    · rename_i x _
      cases hx : x == some _ <;> rw [hx] at h
      · obtain ⟨rfl, rfl⟩ := Prod.mk.inj (Option.some.inj h); rfl
      · exact key h
    · cases h

theorem exG_pur {o : AOp} {fr : List AV} {st st' : St} {v : AV} (hc : cls T o.op = .pur) (h : exG O o fr st = some (v, st')) : ∀ s, exG O o fr s = some (v, s) := by
  unfold exG at h ⊢
  intro s
  split at h
  · exact (pur_op hc h).2 s
  · split at h
    · rename_i x hx
      cases hw : x == some _ <;> rw [hw] at h
      · obtain ⟨rfl, rfl⟩ := Prod.mk.inj (Option.some.inj h); rfl
      · exact (pur_op hc h).2 s
    · cases h

theorem pur_eff {o : AO} (hc : cls T o = .pur) : effB o = false := by
  cases o <;> simp only [cls, reduceCtorEq] at hc <;> try rfl
  case call f l => exfalso; revert hc; cases T f <;> simp only [reduceCtorEq, imp_self]; split <;> simp

theorem loud_eff {o : AO} (hc : cls T o = .oth ∨ cls T o = .new) : effB o = true := by
  cases o <;> simp [cls] at hc <;> rfl

theorem nrd_entry {o : AOp} (hc : cls T o.op ≠ .rd) (fr : List AV) (st : St) : entry o fr st = [] := by
  obtain ⟨d, op, g⟩ := o
  cases op <;> first | rfl | exact absurd rfl hc

theorem eff_entry {o : AOp} (h : effB o.op = true) (fr : List AV) (st : St) : entry o fr st = [] := by
  obtain ⟨d, op, g⟩ := o
  cases op <;> simp [effB] at h <;> rfl

theorem pur_entry {o : AOp} (hc : cls T o.op = .pur) (fr : List AV) (st : St) : entry o fr st = [] := by
  obtain ⟨d, op, g⟩ := o
  cases op <;> simp only [cls, reduceCtorEq] at hc <;> rfl

theorem rd_load {o : AO} (hc : cls T o = .rd) : ∃ g sz a, o = .load g sz a := by
  cases o <;> simp only [cls, reduceCtorEq] at hc
  case load g sz a => exact ⟨g, sz, a, rfl⟩
  case call f l => exfalso; revert hc; cases T f <;> simp only [reduceCtorEq, imp_self]; split <;> simp

/-- a reading that reads so still -/
theorem rd_still {o : AOp} {fr : List AV} {st st' s : St} {v : AV} (hc : cls T o.op = .rd) (h : exG O o fr st = some (v, st')) (hw : wsOk s (entry o fr st) = true) : exG O o fr s = some (v, s) ∧ entry o fr s = entry o fr st := by
  obtain ⟨g, sz, a, e⟩ := rd_load hc
  obtain ⟨d, op, gu⟩ := o
  simp only at e
  subst e
  have main : ran fr ⟨d, .load g sz a, gu⟩ = true → exOp O fr st (.load g sz a) = some (v, st') → exOp O fr s (.load g sz a) = some (v, s) ∧ entry ⟨d, .load g sz a, gu⟩ fr s = entry ⟨d, .load g sz a, gu⟩ fr st := by
    intro hr hx
    simp only [exOp] at hx ⊢
    cases hl : ld st g sz (ev fr a) with
    | none => rw [hl] at hx; cases hx
    | some u =>
      rw [hl] at hx
      simp only [opt, Option.some.injEq, Prod.mk.injEq] at hx
      obtain ⟨rfl, rfl⟩ := hx
      simp only [entry, hr, cond_true, hl, wsOk, Bool.and_true] at hw
      cases hl2 : ld s g sz (ev fr a) with
      | none => rw [hl2] at hw; simp at hw
      | some u2 =>
        rw [hl2] at hw
        simp only at hw
        obtain rfl := beq_sound _ _ hw
        exact ⟨rfl, by simp only [entry, hr, cond_true, hl, hl2]⟩
  cases gu with
  | none => exact main rfl h
  | some jw =>
    obtain ⟨j, w⟩ := jw
    simp only [exG] at h ⊢
    cases hg : gd (slot fr j) with
    | none => rw [hg] at h; cases h
    | some x =>
      rw [hg] at h
      simp only at h ⊢
      cases hx : x == some w with
      | true =>
        rw [hx] at h
        simp only [cond_true] at h ⊢
        refine main ?_ h
        obtain rfl : x = some w := by simpa using hx
        simp [ran, hg]
      | false =>
        rw [hx] at h
        simp only [cond_false, Option.some.injEq, Prod.mk.injEq] at h ⊢
        refine ⟨⟨h.1, trivial⟩, ?_⟩
        have hr : ran fr ⟨d, .load g sz a, some (j, w)⟩ = false := by
          simp only [ran, hg]
          cases x with
          | none => rfl
          | some b => simpa using hx
        simp only [entry, hr, cond_false]

theorem exW_swap (H : OPure T O) {x y : AOp} {l : List AOp} {ws : List Wt} {fr : List AV} {st : St} {R : List AV × St} (hf : freeW T x y = true)
    (h : exW O (x :: y :: l) ws fr st = some R) : exW O (y :: x :: l) ws fr st = some R := by
  simp only [freeW, Bool.and_eq_true] at hf
  obtain ⟨s1, s2, s3⟩ := slotsApart_spec hf.1
  obtain ⟨v, st1, h1, c1, h8⟩ := exW_cons h
  obtain ⟨u, st2, h2, c2, h9⟩ := exW_cons h8
  rw [exG_put s1] at h2
  rw [entry_put s1, put_comm s2] at h9
  have hc := hf.2
  by_cases qx : quiet (cls T x.op) = true
  · obtain rfl := exG_quiet H qx h1
    by_cases qy : quiet (cls T y.op) = true
    · obtain rfl := exG_quiet H qy h2
      refine exW_mk h2 (fun he => (wsOk_app (c2 he)).2) (exW_mk (by rw [exG_put s3]; exact h1) (fun he => ?_) ?_)
      · by_cases he2 : effB y.op = true
        · rw [eff_entry he2]; exact c1 he
        · have := c1 he
          -- the entry of y reads so in the same store
          have hy : wsOk st2 (entry y fr st2) = true := by
            obtain ⟨d, op, g⟩ := y
            cases op <;> simp only [entry] <;> try rfl
            rename_i g' sz a
            cases ran fr _ with
            | false => rfl
            | true =>
              simp only [cond_true]
              cases hl : ld st2 g' sz (ev fr a) with
              | none => rfl
              | some w =>
                have : AV.beq w w = true := beq_refl w
                simp [wsOk, hl, this]
          have app : ∀ {us vs : List Wt}, wsOk st2 us = true → wsOk st2 vs = true → wsOk st2 (us ++ vs) = true := by
            intro us vs h1 h2
            induction us with
            | nil => exact h2
            | cons w us ih =>
              obtain ⟨g, sz, p, v⟩ := w
              simp only [List.cons_append, wsOk, Bool.and_eq_true] at h1 ⊢
              exact ⟨h1.1, ih h1.2⟩
          exact app hy this
      · rw [entry_put s3]
        exact exW_perm l (by rw [← List.append_assoc, ← List.append_assoc]; exact List.perm_append_comm.append_right _) h9
    · have eyn : ∀ fr st, entry y fr st = [] := nrd_entry (T := T) (fun e => by rw [e] at qy; exact qy rfl)
      have hxc : cls T x.op = .pur ∨ (cls T x.op = .rd ∧ (cls T y.op = .oth ∨ cls T y.op = .new)) := by
        have qy' : quiet (cls T y.op) = false := by simpa using qy
        have hyp : (cls T y.op == Cls.pur) = false := by
          cases hh : cls T y.op <;> rw [hh] at qy' <;> simp [quiet] at qy' <;> rfl
        simp only [clsW, qy', Bool.and_false, Bool.false_or, hyp, Bool.or_false, Bool.or_eq_true, Bool.and_eq_true, beq_iff_eq] at hc
        exact hc
      rcases hxc with hp | ⟨hr, hyc⟩
      · have ex := fun fr st => pur_entry (T := T) hp fr st
        refine exW_mk h2 (fun he => (wsOk_app (c2 he)).2) (exW_mk (by rw [exG_put s3]; exact exG_pur hp h1 st2) (fun he => by rw [pur_eff hp] at he; cases he) ?_)
        rw [eyn, ex]
        rw [eyn, ex] at h9
        exact h9
      · have ey : effB y.op = true := loud_eff hyc
        obtain ⟨w3, w4⟩ := wsOk_app (c2 ey)
        obtain ⟨k1, k2⟩ := rd_still hr h1 w3
        refine exW_mk h2 (fun _ => w4) (exW_mk (by rw [exG_put s3]; exact k1) (fun he => ?_) ?_)
        · rw [eff_entry ey]; exact w4
        · rw [entry_put s3, k2, eff_entry ey]
          rw [eff_entry ey] at h9
          exact h9
  · have exn : ∀ fr st, entry x fr st = [] := nrd_entry (T := T) (fun e => by rw [e] at qx; exact qx rfl)
    have hyp : cls T y.op = .pur := by
      have qx' : quiet (cls T x.op) = false := by simpa using qx
      have hxp : (cls T x.op == Cls.pur) = false := by
        cases hh : cls T x.op <;> rw [hh] at qx' <;> simp [quiet] at qx' <;> rfl
      have hxr : (cls T x.op == Cls.rd) = false := by
        cases hh : cls T x.op <;> rw [hh] at qx' <;> simp [quiet] at qx' <;> rfl
      simpa only [clsW, qx', Bool.false_and, Bool.false_or, hxp, hxr, Bool.or_false, beq_iff_eq] using hc
    have e2 := exG_quiet H (by rw [hyp]; rfl) h2
    have hy := exG_pur hyp h2 st
    have ey := fun fr st => pur_entry (T := T) hyp fr st
    refine exW_mk hy (fun he => by rw [pur_eff hyp] at he; cases he) (exW_mk (by rw [exG_put s3]; exact h1) (fun he => by rw [ey]; exact c1 he) ?_)
    rw [ey, exn]
    rw [ey, exn] at h9
    subst e2
    exact h9

theorem exW_front (H : OPure T O) {x : AOp} {l : List AOp} : ∀ (k : List AOp) {ws : List Wt} {fr : List AV} {st : St} {R : List AV × St}, (∀ y ∈ k, freeW T y x = true) →
    exW O (k ++ x :: l) ws fr st = some R → exW O (x :: (k ++ l)) ws fr st = some R
  | [], _, _, _, _, _, h => h
  | y :: k, ws, fr, st, R, hk, h => by
    obtain ⟨v, st1, h1, c1, h2⟩ := exW_cons h
    exact exW_swap H (hk y (List.mem_cons_self ..)) (exW_mk h1 c1 (exW_front H k (fun z hz => hk z (List.mem_cons_of_mem _ hz)) h2))

theorem exW_any (H : OPure T O) (xs : List AOp) (bef : Nat → Nat → Bool) (hb : ∀ i j x y, i < j → xs[i]? = some x → xs[j]? = some y → bef j i = true ∨ freeW T x y = true) :
    ∀ (L R : List Nat) (l : List AOp) {ws : List Wt} {fr : List AV} {st : St} {Z : List AV × St}, L.Perm R → R.Pairwise (· < ·) → L.Pairwise (fun a b => bef a b = false) →
      R.map (fun (j : Nat) => xs[j]?) = l.map some → exW O l ws fr st = some Z →
      ∃ l', L.map (fun (j : Nat) => xs[j]?) = l'.map some ∧ exW O l' ws fr st = some Z
  | [], R, l, _, _, _, _, p, _, _, hl, h => by
    obtain rfl := p.symm.eq_nil
    obtain rfl : l = [] := by cases l <;> simp at hl; rfl
    exact ⟨[], rfl, h⟩
  | a :: L, R, l, ws, fr, st, Z, p, hs, hL, hl, h => by
    have ha : a ∈ R := p.subset (List.mem_cons_self ..)
    obtain ⟨R1, R2, rfl⟩ := List.append_of_mem ha
    obtain ⟨k, l2, rfl, hk, hl2⟩ : ∃ k l2, l = k ++ l2 ∧ R1.map (fun (j : Nat) => xs[j]?) = k.map some ∧ (a :: R2).map (fun (j : Nat) => xs[j]?) = l2.map some := by
      rw [List.map_append] at hl
      obtain ⟨k, l2, e, e1, e2⟩ := List.map_eq_append_iff.1 hl.symm
      exact ⟨k, l2, e, e1.symm, e2.symm⟩
    cases l2 with
    | nil => simp at hl2
    | cons x l2 =>
      simp only [List.map_cons, List.cons.injEq] at hl2
      have p' : L.Perm (R1 ++ R2) := (List.perm_cons a).1 (p.trans List.perm_middle)
      have hs' := List.pairwise_append.1 hs
      have hfree : ∀ y ∈ k, freeW T y x = true := by
        intro y hy
        have : some y ∈ k.map some := List.mem_map_of_mem hy
        rw [← hk] at this
        obtain ⟨i, hi, e⟩ := List.mem_map.1 this
        have hlt : i < a := hs'.2.2 i hi a (List.mem_cons_self ..)
        rcases hb i a y x hlt e hl2.1 with hbb | hff
        · have := (List.pairwise_cons.1 hL).1 i (p'.symm.subset (List.mem_append_left _ hi))
          rw [this] at hbb; cases hbb
        · exact hff
      have h2 := exW_front H k hfree h
      obtain ⟨v, st1, h3, c3, h4⟩ := exW_cons h2
      obtain ⟨l', e4, h5⟩ := exW_any H xs bef hb L (R1 ++ R2) (k ++ l2) p'
        (hs.sublist (List.Sublist.append_left (List.sublist_cons_self a R2) R1)) (List.pairwise_cons.1 hL).2
        (by rw [List.map_append, hk, hl2.2, List.map_append]) h4
      exact ⟨x :: l', by simp [hl2.1, e4], exW_mk h3 c3 h5⟩

theorem allApart_iff : ∀ {ts : Places}, allApart ts = true → Apart ts
  | [], _ => .nil
  | x :: l, h => by
    simp only [allApart, Bool.and_eq_true, List.all_eq_true] at h
    exact List.pairwise_cons.2 ⟨h.1, allApart_iff h.2⟩

theorem exDraw_exL : ∀ (l : List AOp) {us : Places} {fr fr' : List AV} {st st' : St}, exDraw O l us fr st = some (fr', st') → ∃ ts, exL O l fr st = some (fr', st', ts) ∧ Apart (ts.reverse ++ us)
  | [], us, fr, fr', st, st', h => by
    simp only [exDraw] at h
    split at h
    · obtain ⟨rfl, rfl⟩ := Prod.mk.inj (Option.some.inj h)
      exact ⟨[], rfl, allApart_iff ‹_›⟩
    · cases h
  | o :: l, us, fr, fr', st, st', h => by
    simp only [exDraw] at h
    split at h
    · rename_i f1 s1 h1
      obtain ⟨ts, h2, h3⟩ := exDraw_exL l h
      refine ⟨target fr o.op ++ ts, by simp only [exL, h1, h2], ?_⟩
      refine h3.perm ?_
      rw [← List.append_assoc, List.reverse_append]
      refine List.Perm.append_right us ?_
      exact List.Perm.append_left _ (List.reverse_perm _).symm
    · cases h

theorem exL_exOps : ∀ (l : List AOp) {fr fr' : List AV} {st st' : St} {ts : Places}, exL O l fr st = some (fr', st', ts) → exOps O l fr st = some (fr', st')
  | [], _, _, _, _, _, h => by
    simp only [exL] at h
    obtain ⟨rfl, h9⟩ := Prod.mk.inj (Option.some.inj h)
    obtain ⟨rfl, rfl⟩ := Prod.mk.inj h9
    rfl
  | o :: l, fr, fr', st, st', ts, h => by
    obtain ⟨v, st1, ts1, h1, h2, rfl⟩ := exL_cons h
    simp only [exOps, exStep_eq, h1]
    exact exL_exOps l h2

end
end Go.Proofs.Ytgabnhmjlhhojaa.A

/- Every order that a statement may be run in keeps what must be kept. -/
namespace Go.Proofs.Ytgabnhmjlhhojaa.A
open Go

section

def befF (acc : Array Nat) (o : Oper) : Nat := o.after.foldl (fun s e => if Region.binds .any e then s ||| 2 ^ e.on ||| acc.getD e.on 0 else s) 0

def bef (ops : Array Oper) (a i : Nat) : Bool := ((Region.before ops).getD a 0).testBit i

theorem befF_list {acc : Array Nat} {i : Nat} : ∀ (l : List Edge) (s : Nat), (l.foldl (fun s e => if Region.binds .any e then s ||| 2 ^ e.on ||| acc.getD e.on 0 else s) s).testBit i = true →
    s.testBit i = true ∨ ∃ e ∈ l, Region.binds .any e = true ∧ (e.on = i ∨ (acc.getD e.on 0).testBit i = true)
  | [], s, h => .inl h
  | e :: l, s, h => by
    rw [List.foldl_cons] at h
    rcases befF_list l _ h with h1 | ⟨e', h2, h3⟩
    · split at h1
      · simp only [Nat.testBit_or, Bool.or_eq_true, Nat.testBit_two_pow, decide_eq_true_eq] at h1
        rcases h1 with (h1 | h1) | h1
        · exact .inl h1
        · exact .inr ⟨e, List.mem_cons_self .., ‹_›, .inl h1⟩
        · exact .inr ⟨e, List.mem_cons_self .., ‹_›, .inr h1⟩
      · exact .inl h1
    · exact .inr ⟨e', List.mem_cons_of_mem _ h2, h3⟩

theorem befF_spec {acc : Array Nat} {o : Oper} {i : Nat} (h : (befF acc o).testBit i = true) : ∃ e ∈ o.after, Region.binds .any e = true ∧ (e.on = i ∨ (acc.getD e.on 0).testBit i = true) := by
  unfold befF at h
  rw [← Array.foldl_toList] at h
  rcases befF_list _ _ h with h1 | ⟨e, h1, h2⟩
  · simp at h1
  · exact ⟨e, by simpa using h1, h2⟩

theorem bef_fold : ∀ (l : List Oper) (acc : Array Nat), (∀ j, j < acc.size → (l.foldl (fun acc o => acc.push (befF acc o)) acc).getD j 0 = acc.getD j 0) ∧
    (∀ (k : Nat) o, l[k]? = some o → ∃ pre : Array Nat, pre.size = acc.size + k ∧ (l.foldl (fun acc o => acc.push (befF acc o)) acc).getD (acc.size + k) 0 = befF pre o ∧ ∀ j, j < pre.size → (l.foldl (fun acc o => acc.push (befF acc o)) acc).getD j 0 = pre.getD j 0) ∧
    (l.foldl (fun acc o => acc.push (befF acc o)) acc).size = acc.size + l.length
  | [], acc => ⟨fun _ _ => rfl, by simp, rfl⟩
  | o :: l, acc => by
    obtain ⟨h1, h2, h3⟩ := bef_fold l (acc.push (befF acc o))
    simp only [Array.size_push] at h1 h2 h3
    rw [List.foldl_cons]
    refine ⟨fun j hj => ?_, fun k x hk => ?_, by rw [h3]; simp; omega⟩
    · rw [h1 j (by omega)]
      simp [Array.getD_eq_getD_getElem?, Array.getElem?_push, Nat.ne_of_lt hj]
    · cases k with
      | zero =>
        simp at hk
        subst hk
        refine ⟨acc, rfl, ?_, fun j hj => ?_⟩
        · rw [Nat.add_zero, h1 _ (by omega)]
          simp [Array.getD_eq_getD_getElem?, Array.getElem?_push]
        · rw [h1 j (by omega)]
          simp [Array.getD_eq_getD_getElem?, Array.getElem?_push, Nat.ne_of_lt hj]
      | succ k =>
        obtain ⟨pre, p1, p2, p3⟩ := h2 k x (by simpa using hk)
        exact ⟨pre, by omega, by rw [← p2]; congr 1; omega, p3⟩

theorem bef_spec {ops : Array Oper} {a i : Nat} (h : bef ops a i = true) : ∃ o, ops[a]? = some o ∧ ∃ e ∈ o.after, Region.binds .any e = true ∧ (e.on = i ∨ bef ops e.on i = true) := by
  obtain ⟨h1, h2, h3⟩ := bef_fold ops.toList #[]
  have e : Region.before ops = ops.toList.foldl (fun acc o => acc.push (befF acc o)) #[] := by
    unfold Region.before
    rw [← Array.foldl_toList]
    rfl
  rw [← e] at h2 h3
  unfold bef at h
  simp only [Array.size_empty, Nat.zero_add] at h2 h3
  cases ho : ops[a]? with
  | none =>
    have : ops.size ≤ a := by simpa using ho
    rw [Array.getD_eq_getD_getElem?, Array.getElem?_eq_none (by rw [h3]; simpa using this)] at h
    simp at h
  | some o =>
    obtain ⟨pre, p1, p2, p3⟩ := h2 a o (by simpa using ho)
    rw [p2] at h
    obtain ⟨e', m, b, q⟩ := befF_spec h
    refine ⟨o, rfl, e', m, b, q.imp id fun q => ?_⟩
    unfold bef
    by_cases hlt : e'.on < pre.size
    · rw [p3 _ hlt]; exact q
    · rw [Array.getD_eq_getD_getElem?, Array.getElem?_eq_none (by omega)] at q
      simp at q

def left (n : Nat) (listed : Array Bool) : List Nat := (List.range n).filter fun i => !listed.getD i true

def readyL (ops : Array Oper) (listed : Array Bool) : List Nat :=
  (List.range ops.size).filter fun i => !listed.getD i true && ((ops[i]?).map (·.after.all fun e => !Region.binds .any e || listed.getD e.on false)).getD false

structure Listed (ops : Array Oper) (listed : Array Bool) : Prop where
  size : listed.size = ops.size
  closed : ∀ a, listed.getD a false = true → ∀ i, bef ops a i = true → listed.getD i false = true

theorem getD_both {l : Array Bool} {i : Nat} (h : i < l.size) : l.getD i true = l.getD i false := by
  simp [Array.getD_eq_getD_getElem?, h]

theorem go_acc (ops : Array Oper) : ∀ (fuel t : Nat) (listed : Array Bool) (acc : List Nat), Region.linearise.go .any ops fuel t listed acc = acc.reverse ++ Region.linearise.go .any ops fuel t listed []
  | 0, _, _, _ => by simp [Region.linearise.go]
  | fuel + 1, t, listed, acc => by
    simp only [Region.linearise.go]
    split
    · rename_i i _
      rw [go_acc ops fuel _ _ (i :: acc), go_acc ops fuel _ _ [i]]
      simp
    · simp

theorem mem_left {n i : Nat} {l : Array Bool} : i ∈ left n l ↔ i < n ∧ l.getD i true = false := by
  simp [left]

theorem left_set {n i : Nat} {l : Array Bool} (h : i ∈ left n l) : (left n l).Perm (i :: left n (l.setIfInBounds i true)) := by
  have hn : (left n l).Nodup := List.nodup_range.filter _
  have hi := mem_left.1 h
  rw [List.perm_ext_iff_of_nodup hn]
  · intro j
    rw [List.mem_cons, mem_left, mem_left]
    simp only [Array.getD_eq_getD_getElem?, Array.getElem?_setIfInBounds]
    by_cases e : i = j
    · subst e
      rw [Array.getD_eq_getD_getElem?] at hi
      simp [hi]
    · rw [if_neg e]
      constructor
      · exact fun q => .inr q
      · rintro (q | q)
        · exact absurd q.symm e
        · exact q
  · refine List.nodup_cons.2 ⟨?_, List.nodup_range.filter _⟩
    rw [mem_left]
    intro ⟨h1, h2⟩
    have : i < l.size := by
      have := hi.2
      rw [Array.getD_eq_getD_getElem?] at this
      by_cases q : i < l.size
      · exact q
      · rw [Array.getElem?_eq_none (by omega)] at this; simp at this
    simp [Array.getD_eq_getD_getElem?, Array.getElem?_setIfInBounds, this] at h2

theorem ready_ne {ops : Array Oper} {l : Array Bool} (he : edgesB ops = true) (hL : Listed ops l) (hne : left ops.size l ≠ []) : readyL ops l ≠ [] := by
  -- the least that is left
  obtain ⟨j, rest, e⟩ : ∃ j rest, left ops.size l = j :: rest := by
    cases h : left ops.size l with
    | nil => exact absurd h hne
    | cons j r => exact ⟨j, r, rfl⟩
  have hj : j ∈ left ops.size l := by rw [e]; exact List.mem_cons_self ..
  have hmin : ∀ k, k < j → l.getD k true = true := by
    intro k hk
    by_cases hb : l.getD k true = true
    · exact hb
    · have hk2 : k ∈ left ops.size l := mem_left.2 ⟨Nat.lt_trans hk (mem_left.1 hj).1, by simpa using hb⟩
      have hs : (left ops.size l).Pairwise (· < ·) := List.pairwise_lt_range.filter _
      rw [e] at hk2 hs
      rcases List.mem_cons.1 hk2 with q | q
      · omega
      · have := (List.pairwise_cons.1 hs).1 k q
        omega
  have hjm := mem_left.1 hj
  have hin : j ∈ readyL ops l := by
    simp only [readyL, List.mem_filter, List.mem_range, Bool.and_eq_true, Bool.not_eq_true']
    refine ⟨hjm.1, hjm.2, ?_⟩
    have : ops[j]? = some ops[j] := by simp [hjm.1]
    rw [this]
    simp only [Option.map_some, Option.getD_some]
    rw [Array.all_eq_true']
    intro e' he'
    have hx := List.all_eq_true.1 he j (by simpa using hjm.1)
    rw [this] at hx
    simp only [] at hx
    have hy := List.all_eq_true.1 hx e' (by simpa using he')
    simp only [Bool.or_eq_true, Bool.not_eq_true', decide_eq_true_eq] at hy ⊢
    rcases hy with q | q
    · exact .inl q
    · right
      have := hmin _ q
      rw [getD_both (by rw [hL.size]; omega)] at this
      exact this
  intro h0
  rw [h0] at hin
  cases hin

theorem listed_set {ops : Array Oper} {l : Array Bool} {i : Nat} (hL : Listed ops l) (hi : i ∈ readyL ops l) : i ∈ left ops.size l ∧ Listed ops (l.setIfInBounds i true) ∧ ∀ j, bef ops i j = true → l.getD j false = true := by
  simp only [readyL, List.mem_filter, List.mem_range, Bool.and_eq_true, Bool.not_eq_true'] at hi
  obtain ⟨h1, h2, h3⟩ := hi
  have hb : ∀ j, bef ops i j = true → l.getD j false = true := by
    intro j hj
    obtain ⟨o, ho, e, he, hbd, hor⟩ := bef_spec hj
    rw [ho] at h3
    simp only [Option.map_some, Option.getD_some] at h3
    rw [Array.all_eq_true'] at h3
    have := h3 e he
    rw [hbd] at this
    simp only [Bool.not_true, Bool.false_or] at this
    rcases hor with rfl | hor
    · exact this
    · exact hL.closed _ this _ hor
  refine ⟨mem_left.2 ⟨h1, h2⟩, ⟨by simp [hL.size], fun a ha j hj => ?_⟩, hb⟩
  have up : ∀ k, l.getD k false = true → (l.setIfInBounds i true).getD k false = true := by
    intro k hk
    simp only [Array.getD_eq_getD_getElem?, Array.getElem?_setIfInBounds] at hk ⊢
    split
    · split <;> simp_all
    · exact hk
  by_cases e : i = a
  · subst e
    exact up _ (hb j hj)
  · refine up _ (hL.closed a ?_ j hj)
    simp only [Array.getD_eq_getD_getElem?, Array.getElem?_setIfInBounds, if_neg e] at ha ⊢
    exact ha

theorem go_ok {ops : Array Oper} (he : edgesB ops = true) : ∀ (fuel t : Nat) (l : Array Bool), Listed ops l → (left ops.size l).length = fuel →
    (Region.linearise.go .any ops fuel t l []).Perm (left ops.size l) ∧ (Region.linearise.go .any ops fuel t l []).Pairwise (fun a b => bef ops a b = false)
  | 0, t, l, hL, hf => by
    rw [List.eq_nil_of_length_eq_zero hf]
    exact ⟨.refl _, .nil⟩
  | fuel + 1, t, l, hL, hf => by
    have hne : readyL ops l ≠ [] := ready_ne he hL (by intro h; rw [h] at hf; cases hf)
    have hlt : t % (readyL ops l).length < (readyL ops l).length := Nat.mod_lt _ (by cases h : readyL ops l with | nil => exact absurd h hne | cons => simp)
    simp only [Region.linearise.go]
    change List.Perm (match (readyL ops l)[t % (readyL ops l).length]? with
      | some i => Region.linearise.go .any ops fuel (t / (readyL ops l).length) (l.setIfInBounds i true) [i]
      | none => [].reverse) _ ∧ List.Pairwise _ (match (readyL ops l)[t % (readyL ops l).length]? with
      | some i => Region.linearise.go .any ops fuel (t / (readyL ops l).length) (l.setIfInBounds i true) [i]
      | none => [].reverse)
    rw [List.getElem?_eq_getElem hlt]
    generalize hi : (readyL ops l)[t % (readyL ops l).length] = i
    have him : i ∈ readyL ops l := by rw [← hi]; exact List.getElem_mem _
    simp only []
    rw [go_acc]
    obtain ⟨h1, h2, h3⟩ := listed_set hL him
    have hp := left_set h1
    obtain ⟨r1, r2⟩ := go_ok he fuel (t / (readyL ops l).length) (l.setIfInBounds i true) h2 (by have := hp.length_eq; simp at this; omega)
    refine ⟨?_, ?_⟩
    · exact (r1.cons i).trans hp.symm
    · refine List.pairwise_cons.2 ⟨fun b hb => ?_, r2⟩
      have hbl := mem_left.1 (r1.subset hb)
      by_cases q : bef ops i b = true
      · have := h3 b q
        have hb2 : (l.setIfInBounds i true).getD b true = true := by
          have hsz : b < l.size := by
            rw [Array.getD_eq_getD_getElem?] at this
            by_cases z : b < l.size
            · exact z
            · rw [Array.getElem?_eq_none (by omega)] at this; simp at this
          rw [← getD_both hsz] at this
          simp only [Array.getD_eq_getD_getElem?, Array.getElem?_setIfInBounds] at this ⊢
          split
          · split <;> simp_all
          · exact this
        rw [hb2] at hbl
        cases hbl.2
      · simpa using q

theorem left_new (n : Nat) : left n (Array.replicate n false) = List.range n := by
  unfold left
  rw [List.filter_eq_self]
  intro a ha
  have : a < n := by simpa using ha
  simp [Array.getD_eq_getD_getElem?, this]

theorem schedule_ok {ops : Array Oper} (he : edgesB ops = true) (t : Nat) : (Region.schedule true ops t).Perm (List.range ops.size) ∧ (Region.schedule true ops t).Pairwise (fun a b => bef ops a b = false) := by
  have := go_ok he ops.size t (Array.replicate ops.size false) ⟨by simp, fun a ha i hi => by
    simp [Array.getD_eq_getD_getElem?, Array.getElem?_replicate] at ha
    split at ha <;> simp at ha⟩ (by rw [left_new]; simp)
  rw [left_new] at this
  exact this

theorem drawFrom_spec {T : Tab} {l : List AOp} {b : Array Nat} : ∀ (m : List AOp) (j : Nat), drawFrom T l b j m = true → ∀ (k : Nat) y, m[k]? = some y → ∀ i, i < j + k → ∀ x, l[i]? = some x → (b.getD (j + k) 0).testBit i = true ∨ free2 T x y = true
  | [], _, _, k, y, h => by simp at h
  | z :: m, j, h, k, y, hk => by
    simp only [drawFrom, Bool.and_eq_true, List.all_eq_true, List.mem_range] at h
    cases k with
    | zero =>
      simp at hk
      subst hk
      intro i hi x hx
      have := h.1 i (by simpa using hi)
      rw [hx] at this
      simpa using this
    | succ k =>
      intro i hi x hx
      have := drawFrom_spec m (j + 1) h.2 k y (by simpa using hk) i (by omega) x hx
      rw [show j + (k + 1) = j + 1 + k by omega]
      exact this

/-- a statement whose order is open -/
theorem draw_ok {T : Tab} {O : Orc} (H : OPure T O) {ops : Array Oper} {xs : List AOp} (hlen : ops.size = xs.length) (hd : drawB T ops xs = true) (t : Nat) {fr fr' : List AV} {st st' : St}
    (h : exDraw O xs [] fr st = some (fr', st')) : ∃ l, (Region.schedule true ops t).map (fun (j : Nat) => xs[j]?) = l.map some ∧ exOps O l fr st = some (fr', st') := by
  simp only [drawB, Bool.and_eq_true] at hd
  obtain ⟨p, hp⟩ := schedule_ok hd.1 t
  obtain ⟨ts, h1, h2⟩ := exDraw_exL xs h
  rw [List.append_nil] at h2
  obtain ⟨l, ts', h3, h4⟩ := exL_any H xs (bef ops) (fun i j x y hij hx hy => by
    have := drawFrom_spec xs 0 hd.2 j y hy i (by omega) x hx
    rw [Nat.zero_add] at this
    exact this) _ (List.range ops.size) xs p List.pairwise_lt_range hp (by
    rw [hlen]
    apply List.ext_getElem?
    intro i
    by_cases hi : i < xs.length
    · simp [hi]
    · simp [hi]) h1 (h2.perm (List.reverse_perm ts))
  exact ⟨l, h3, exL_exOps _ h4⟩


theorem drawFromW_spec {T : Tab} {l : List AOp} {b : Array Nat} : ∀ (m : List AOp) (j : Nat), drawFromW T l b j m = true → ∀ (k : Nat) y, m[k]? = some y → ∀ i, i < j + k → ∀ x, l[i]? = some x → (b.getD (j + k) 0).testBit i = true ∨ freeW T x y = true
  | [], _, _, k, y, h => by simp at h
  | z :: m, j, h, k, y, hk => by
    simp only [drawFromW, Bool.and_eq_true, List.all_eq_true, List.mem_range] at h
    cases k with
    | zero =>
      simp at hk
      subst hk
      intro i hi x hx
      have := h.1 i (by simpa using hi)
      rw [hx] at this
      simpa using this
    | succ k =>
      intro i hi x hx
      have := drawFromW_spec m (j + 1) h.2 k y (by simpa using hk) i (by omega) x hx
      rw [show j + (k + 1) = j + 1 + k by omega]
      exact this

/-- a statement whose order is open, with calls that write -/
theorem drawW_ok {T : Tab} {O : Orc} (H : OPure T O) {ops : Array Oper} {xs : List AOp} (hlen : ops.size = xs.length) (hd : drawW T ops xs = true) (t : Nat) {fr fr' : List AV} {st st' : St}
    (h : exW O xs [] fr st = some (fr', st')) : ∃ l, (Region.schedule true ops t).map (fun (j : Nat) => xs[j]?) = l.map some ∧ exOps O l fr st = some (fr', st') := by
  simp only [drawW, Bool.and_eq_true] at hd
  obtain ⟨p, hp⟩ := schedule_ok hd.1 t
  obtain ⟨l, h3, h4⟩ := exW_any H xs (bef ops) (fun i j x y hij hx hy => by
    have := drawFromW_spec xs 0 hd.2 j y hy i (by omega) x hx
    rw [Nat.zero_add] at this
    exact this) _ (List.range ops.size) xs p List.pairwise_lt_range hp (by
    rw [hlen]
    apply List.ext_getElem?
    intro i
    by_cases hi : i < xs.length
    · simp [hi]
    · simp [hi]) h
  exact ⟨l, h3, exW_ops _ h4⟩

end
end Go.Proofs.Ytgabnhmjlhhojaa.A
