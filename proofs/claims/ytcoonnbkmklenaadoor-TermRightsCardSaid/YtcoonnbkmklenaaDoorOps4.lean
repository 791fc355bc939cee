/- Every operation but calls. -/
import Derived.Test.YtcoonnbkmklenaaDoorOps3
namespace Go.Proofs.YtcoonnbkmklenaaDoor.A
open Go

section
variable {P : Program} {T : Tab} {E E' : Env} {st st' : St} {w w' : World} {n : Nat}

/-- what an operation comes to -/
def Goes (P : Program) (T : Tab) (E : Env) (st : St) (w : World) (o : Oper) (a : Act) (v : AV) (st' : St) : Prop :=
  ∃ nx w' E', (execOp a.eval o).run P w = .ok nx w' ∧ ((∃ cv, nx = .value cv ∧ Rep E' st'.objs.length w' v cv) ∨ (nx = .skip ∧ v = .any)) ∧ Sim P T E' st' w' ∧
    Ext E st.objs.length w E' st'.objs.length w'

theorem Goes.quiet (S : Sim P T E st w) {o : Oper} {a : Act} {v : AV} {cv : Value} (h : (execOp a.eval o).run P w = .ok (.value cv) w) (hv : Rep E st.objs.length w v cv) : Goes P T E st w o a v st :=
  ⟨_, w, E, h, .inl ⟨cv, rfl, hv⟩, S, Ext.refl _ _ _⟩

theorem opt_get {o : Option AV} {v : AV} {s : St} (h : opt st o = some (v, s)) : o = some v ∧ s = st := by
  unfold opt at h
  split at h
  · simp at h; exact ⟨by rw [h.1], h.2.symm⟩
  · cases h

variable {o : Oper} {a : Act} {fr : List AV} {v : AV} {O : Orc}

theorem s_move (S : Sim P T E st w) (F : RepL E st.objs.length w fr a.tmps.toList) {x : Opd} (hc : chkOp P o.op (.move x) = true) (h : exOp O fr st (.move x) = some (v, st')) : Goes P T E st w o a v st' := by
  obtain ⟨rfl, rfl⟩ : ev fr x = v ∧ st = st' := by simpa [exOp] using h
  obtain ⟨dst, op, ty, pos, after, guard⟩ := o
  cases op <;> simp only [chkOp, Bool.false_eq_true] at hc
  case move y => exact Goes.quiet S (cv := a.eval y) (by simp [execOp]) (ev_rep S.glob F hc)
  case assign y => exact Goes.quiet S (cv := a.eval y) (by simp [execOp]) (ev_rep S.glob F hc)

theorem s_pick (S : Sim P T E st w) (F : RepL E st.objs.length w fr a.tmps.toList) {x y z : Opd} (hc : chkOp P o.op (.pick x y z) = true) (h : exOp O fr st (.pick x y z) = some (v, st')) : Goes P T E st w o a v st' := by
  obtain ⟨dst, op, ty, pos, after, guard⟩ := o
  cases op <;> simp only [chkOp, Bool.false_eq_true] at hc
  rename_i c p q
  simp only [Bool.and_eq_true] at hc
  simp only [exOp] at h
  split at h
  · rename_i t ht
    obtain ⟨rfl, rfl⟩ : _ ∧ _ := by simpa using h
    have hb := ev_rep S.glob F hc.1.1
    rw [ht] at hb
    have e : a.eval c = .bool t := by
      generalize a.eval c = u at hb
      cases hb; rfl
    cases t
    · exact Goes.quiet S (cv := a.eval q) (by simp [execOp, e, asBool]) (ev_rep S.glob F hc.2)
    · exact Goes.quiet S (cv := a.eval p) (by simp [execOp, e, asBool]) (ev_rep S.glob F hc.1.2)
  · cases h

theorem zeroB_get {t : Nat} {z : List AV} (h : zeroB P t z = true) : ∃ i v, P.info? t = some i ∧ i.zero = some v ∧ atomsB z v.cells.toList = true ∧ i.size = z.length := by
  unfold zeroB at h
  cases hi : P.info? t with
  | none => simp [hi] at h
  | some i =>
    cases hz : i.zero with
    | none => simp [hi, hz] at h
    | some v => simp [hi, hz] at h; exact ⟨i, v, rfl, hz, h.1, h.2⟩

/-- a variable of its own -/
theorem new_box (S : Sim P T E st w) {ty : Nat} {cs : List AV} {cv : List Value} (hp : 0 < cs.length) (hr : RepL E st.objs.length w cs cv) (h1 : ∀ u ∈ cv, u.oneCell' = true) :
    Sim P T (updL E st.objs.length ⟨w.heap.size, 1, cs.length⟩) (st.push (.arr ty cs.length [cs])) (w.alloc (.cells cv.toArray ty)) ∧
      Ext E st.objs.length w (updL E st.objs.length ⟨w.heap.size, 1, cs.length⟩) (st.objs.length + 1) (w.alloc (.cells cv.toArray ty)) ∧
      Rep (updL E st.objs.length ⟨w.heap.size, 1, cs.length⟩) (st.objs.length + 1) (w.alloc (.cells cv.toArray ty)) (.ptr st.objs.length 0 0) (.pointer (some ⟨w.heap.size, 0, none⟩)) := by
  have hb : ∀ b, b < w.heap.size → (w.alloc (.cells cv.toArray ty)).heap[b]? = w.heap[b]? := fun b hb => heap_alloc_old w _ b hb
  have hx := Ext.push (w' := w.alloc (.cells cv.toArray ty)) ⟨w.heap.size, 1, cs.length⟩ S (by simp) hb rfl rfl rfl
  refine ⟨S.push _ _ (by simp) hb (fun _ => Nat.le_refl _) ⟨rfl, by simp, by simp [maxLen], hp, by simp, .inr ⟨_, heap_alloc_new w _, by simp [hr.len], fun i e j x he hj => ?_⟩⟩, hx, ?_⟩
  · cases i with
    | succ i => simp at he
    | zero =>
      simp at he; subst he
      have hjl := lt_of_get hj
      have hjv : j < cv.length := by rw [← hr.len]; exact hjl
      refine ⟨cv[j], by simp [hjv], h1 _ (by simp), (hr.at_ j x _ hj (by simp [hjv])).mono hx.toMono⟩
  · have := Rep.ptr (E := updL E st.objs.length ⟨w.heap.size, 1, cs.length⟩) (n := st.objs.length + 1) (w := w.alloc (.cells cv.toArray ty)) (r := st.objs.length) 0 0 0 (by omega) (by simp)
    rwa [updL_eq] at this

theorem s_alloc (S : Sim P T E st w) {ty : Nat} {z : List AV} (hc : chkOp P o.op (.alloc ty z) = true) (h : exOp O fr st (.alloc ty z) = some (v, st')) : Goes P T E st w o a v st' := by
  obtain ⟨dst, op, ty', pos, after, guard⟩ := o
  cases op <;> simp only [chkOp, Bool.false_eq_true] at hc
  rename_i e
  simp only [Bool.and_eq_true, beq_iff_eq, decide_eq_true_eq] at hc
  obtain ⟨⟨rfl, hz⟩, hp⟩ := hc
  obtain ⟨rfl, rfl⟩ : _ ∧ _ := by simpa [exOp] using h
  obtain ⟨i, zv, hi, hzv, ha, hs⟩ := zeroB_get hz
  obtain ⟨hr, ho⟩ := atomsB_rep (E := E) (n := st.objs.length) (w := w) ha
  obtain ⟨g1, g2, g3⟩ := new_box (ty := ty) S hp hr ho
  refine ⟨.value (.pointer (some ⟨w.heap.size, 0, none⟩)), _, _, ?_, .inl ⟨_, rfl, by simpa [St.push] using g3⟩, g1, by simpa [St.push] using g2⟩
  simp [execOp, Instr.alloc, zeroValue, typeInfo, hi, hzv, newVar, newRow]

theorem s_box (S : Sim P T E st w) (F : RepL E st.objs.length w fr a.tmps.toList) {ty : Nat} {x : Opd} (hc : chkOp P o.op (.box ty x) = true) (h : exOp O fr st (.box ty x) = some (v, st')) : Goes P T E st w o a v st' := by
  obtain ⟨dst, op, ty', pos, after, guard⟩ := o
  cases op <;> simp only [chkOp, Bool.false_eq_true] at hc
  rename_i e y
  simp only [Bool.and_eq_true, beq_iff_eq] at hc
  obtain ⟨rfl, hxy⟩ := hc
  simp only [exOp] at h
  split at h
  · rename_i hone
    obtain ⟨rfl, rfl⟩ : _ ∧ _ := by simpa using h
    have hx := ev_rep S.glob F hxy
    obtain ⟨hr, ho⟩ := cells_rep hx hone.1
    obtain ⟨g1, g2, g3⟩ := new_box (ty := ty) S hone.2 hr ho
    refine ⟨.value (.pointer (some ⟨w.heap.size, 0, none⟩)), _, _, ?_, .inl ⟨_, rfl, by simpa [St.push] using g3⟩, g1, by simpa [St.push] using g2⟩
    simp [execOp, Instr.box, newVar, newRow]
  · cases h

theorem s_load (S : Sim P T E st w) (F : RepL E st.objs.length w fr a.tmps.toList) {agg : Bool} {sz : Nat} {x : Opd} (hc : chkOp P o.op (.load agg sz x) = true) (h : exOp O fr st (.load agg sz x) = some (v, st')) : Goes P T E st w o a v st' := by
  obtain ⟨dst, op, ty', pos, after, guard⟩ := o
  cases op <;> simp only [chkOp, Bool.false_eq_true] at hc
  rename_i t y
  simp only [Bool.and_eq_true, Bool.or_eq_true, beq_iff_eq, decide_eq_true_eq] at hc
  obtain ⟨⟨⟨⟨h1, h2⟩, h3⟩, h4⟩, h5⟩ := hc
  obtain ⟨hl, rfl⟩ := opt_get h
  obtain ⟨cv, r1, r2⟩ := run_load S hl (ev_rep S.glob F h1) h2 h3 h5
  exact Goes.quiet S (cv := cv) (by simp [execOp, r1]) r2

theorem s_store (S : Sim P T E st w) (F : RepL E st.objs.length w fr a.tmps.toList) {sz : Nat} {x y : Opd} (hc : chkOp P o.op (.store sz x y) = true) (h : exOp O fr st (.store sz x y) = some (v, st')) : Goes P T E st w o a v st' := by
  obtain ⟨dst, op, ty', pos, after, guard⟩ := o
  cases op <;> simp only [chkOp, Bool.false_eq_true] at hc
  rename_i t p q
  simp only [Bool.and_eq_true, decide_eq_true_eq] at hc
  obtain ⟨⟨⟨h1, h2⟩, h3⟩, h4⟩ := hc
  simp only [exOp] at h
  split at h
  · rename_i s hs
    obtain ⟨rfl, rfl⟩ : _ ∧ _ := by simpa using h
    obtain ⟨w', r1, r2, r3⟩ := run_store S hs (ev_rep S.glob F h1) (ev_rep S.glob F h2) h3
    exact ⟨.skip, w', E, by simp [execOp, r1], .inr ⟨rfl, rfl⟩, r2, r3⟩
  · cases h

theorem s_nilck (S : Sim P T E st w) (F : RepL E st.objs.length w fr a.tmps.toList) {x : Opd} (hc : chkOp P o.op (.nilck x) = true) (h : exOp O fr st (.nilck x) = some (v, st')) : Goes P T E st w o a v st' := by
  obtain ⟨dst, op, ty', pos, after, guard⟩ := o
  cases op <;> simp only [chkOp, Bool.false_eq_true] at hc
  rename_i y
  have hx := ev_rep S.glob F hc
  simp only [exOp] at h
  generalize ev fr x = u at h hx
  generalize hz : a.eval y = z at hx
  cases hx
  all_goals try (cases h; done)
  case ptr i off o' hr ho => obtain ⟨rfl, rfl⟩ : _ ∧ _ := by simpa using h
                             exact Goes.quiet S (by simp [execOp, hz]) (.ptr i off o' hr ho)
  case yld hr => obtain ⟨rfl, rfl⟩ : _ ∧ _ := by simpa using h
                 exact Goes.quiet S (by simp [execOp, hz]) (.yld hr)
  case vptr b o' c hF hc' hh => obtain ⟨rfl, rfl⟩ : _ ∧ _ := by simpa using h
                                exact Goes.quiet S (by simp [execOp, hz]) (.vptr b o' c hF hc' hh)
  case fn f a' b' va vb hla ha hlb hb =>
    cases f with
    | func f => obtain ⟨rfl, rfl⟩ : _ ∧ _ := by simpa using h
                exact Goes.quiet S (by simp [execOp, hz]) (.fn hla ha hlb hb)
    | _ => simp at h

end
end Go.Proofs.YtcoonnbkmklenaaDoor.A
