/- What a run leaves as it was in the store. -/
import Derived.Test.YtcoonnbkmklenaaDoorLim
namespace Go.Proofs.YtcoonnbkmklenaaDoor.A
open Go

structure Keep (st st' : St) : Prop where
  ro : st'.ro = st.ro
  len : st.objs.length ≤ st'.objs.length
  low : ∀ r : Nat, r < st.ro → st'.objs[r]? = st.objs[r]?
  dfr : ∀ r : Nat, st.objs[r]? = some Obj.dfr → st'.objs[r]? = some Obj.dfr
  df : ∃ l : List Nat, st'.df = l ++ st.df ∧ l.Nodup ∧ ∀ r ∈ l, st.objs.length ≤ r ∧ st'.objs[r]? = some Obj.dfr

variable {st st' st'' : St}

theorem Keep.refl (st : St) : Keep st st := ⟨rfl, Nat.le_refl _, fun _ _ => rfl, fun _ h => h, [], rfl, .nil, by simp⟩
theorem Keep.trans (h : Keep st st') (k : Keep st' st'') : Keep st st'' := by
  obtain ⟨l, hl, hn, hl2⟩ := h.df
  obtain ⟨m, hm, hn', hm2⟩ := k.df
  refine ⟨k.ro.trans h.ro, Nat.le_trans h.len k.len, fun r hr => (k.low r (by rw [h.ro]; exact hr)).trans (h.low r hr), fun r hr => k.dfr r (h.dfr r hr), m ++ l, by rw [hm, hl, List.append_assoc], List.nodup_append.2 ⟨hn', hn, fun a ha b hb => ?_⟩, fun r hr => ?_⟩
  · have h1 := (hm2 a ha).1
    have h2 := (hl2 b hb).2
    have h3 : b < st'.objs.length := (List.getElem?_eq_some_iff.1 h2).1
    omega
  rcases List.mem_append.1 hr with h' | h'
  · exact ⟨Nat.le_trans h.len (hm2 r h').1, (hm2 r h').2⟩
  · exact ⟨(hl2 r h').1, k.dfr r (hl2 r h').2⟩

theorem Keep.push (o : Obj) (hr : st.ro ≤ st.objs.length) : Keep st (st.push o) := by
  refine ⟨rfl, by simp [St.push], fun r hlt => ?_, fun r h => ?_, [], rfl, .nil, by simp⟩
  · simp only [St.push]; rw [List.getElem?_append_left (by omega)]
  · have hlt : r < st.objs.length := by
      rcases Nat.lt_or_ge r st.objs.length with h' | h'
      · exact h'
      · simp [List.getElem?_eq_none h'] at h
    simp only [St.push]; rw [List.getElem?_append_left hlt]; exact h

theorem Keep.set {r : Nat} {o o' : Obj} (hr : st.ro ≤ r) (ho : st.objs[r]? = some o) (hd : o ≠ .dfr) : Keep st (st.set r o') := by
  refine ⟨rfl, by simp [St.set], fun q hlt => ?_, fun q h => ?_, [], rfl, .nil, by simp⟩
  · simp only [St.set, List.getElem?_set]; rw [if_neg (by omega)]
  · have : r ≠ q := by rintro rfl; rw [ho] at h; exact hd (Option.some.inj h)
    simp only [St.set, List.getElem?_set]; rw [if_neg this]; exact h

theorem arr?_get {r : Nat} {x : Nat × Nat × List (List AV)} (h : st.arr? r = some x) : st.objs[r]? = some (.arr x.1 x.2.1 x.2.2) := by
  unfold St.arr? at h
  split at h
  · rename_i e; obtain rfl := Option.some.inj h; exact e
  · cases h

structure OKeep (O : Orc) : Prop where
  call : ∀ f a s v s', O.call f a s = some (v, s') → s.ro ≤ s.objs.length → Keep s s' ∧ s'.df = s.df
  yield : ∀ f a s v s', O.yield f a s = some (v, s') → s.ro ≤ s.objs.length → Keep s s' ∧ s'.df = s.df
  loop : ∀ d c fr s e fr' s', O.loop d c fr s = some (e, fr', s') → s.ro ≤ s.objs.length → Keep s s' ∧ (d = true → s'.df = s.df)

variable {O : Orc} (K : OKeep O)
include K

theorem callV_keep {f : AV} {a : List AV} {v : AV} (h : callV O f a st = some (v, st')) (hr : st.ro ≤ st.objs.length) : Keep st st' ∧ st'.df = st.df := by
  unfold callV at h
  split at h
  · exact K.call _ _ _ _ _ h hr
  · exact K.yield _ _ _ _ _ h hr
  · cases h

theorem callF_keep {f : AV} {a : List AV} {v : AV} (h : callF O f a st = some (v, st')) (hr : st.ro ≤ st.objs.length) : Keep st st' ∧ st'.df = st.df := by
  unfold callF at h
  split at h
  · exact K.call _ _ _ _ _ h hr
  · cases h

theorem exOp_keep {fr : List AV} {x : AO} {v : AV} (h : exOp O fr st x = some (v, st')) (hr : st.ro ≤ st.objs.length) : Keep st st' ∧ st'.df = st.df := by
  have same : st' = st → Keep st st' ∧ st'.df = st.df := by rintro rfl; exact ⟨Keep.refl _, rfl⟩
  have hopt : ∀ o : Option AV, opt st o = some (v, st') → Keep st st' ∧ st'.df = st.df := by
    intro o h
    unfold opt at h
    split at h
    · simp at h; exact same h.2.symm
    · cases h
  cases x with
  | alloc ty z => simp [exOp] at h; obtain ⟨_, rfl⟩ := h; exact ⟨Keep.push _ hr, rfl⟩
  | box ty x =>
    simp only [exOp] at h
    split at h
    · simp at h; obtain ⟨_, rfl⟩ := h; exact ⟨Keep.push _ hr, rfl⟩
    · cases h
  | load agg sz a => exact hopt _ h
  | bin op x y => exact hopt _ h
  | idxA sz x i => exact hopt _ h
  | idxArrA n sz x i => exact hopt _ h
  | slice sz x lo hi mx => exact hopt _ h
  | sliceS x lo hi => exact hopt _ h
  | move x => simp [exOp] at h; exact same h.2.symm
  | mkfn f a b => simp [exOp] at h; exact same h.2.symm
  | store sz a v =>
    simp only [exOp] at h
    split at h
    · rename_i s hs
      obtain ⟨rfl, rfl⟩ : _ ∧ _ := by simpa using h
      unfold sto at hs
      split at hs
      · split at hs
        · rename_i ty s' es hr'
          split at hs
          · split at hs
            · rename_i hc
              obtain rfl := Option.some.inj hs
              exact ⟨Keep.set hc.2.2.2 (arr?_get hr') (by simp), rfl⟩
            · cases hs
          · cases hs
        · cases hs
      · cases hs
    · cases h
  | append ty sz b s x =>
    simp only [exOp, app] at h
    split at h
    · cases h
    · split at h
      · cases h
      · split at h
        · split at h
          · simp at h; obtain ⟨_, rfl⟩ := h; exact ⟨Keep.push _ hr, rfl⟩
          · cases h
        · split at h
          · rename_i r _ _ _ _ _ ha
            split at h
            · rename_i hc
              obtain ⟨_, rfl⟩ : _ ∧ _ := by simpa using h
              exact ⟨(Keep.set hc.2.2.2.2.1 (arr?_get ha) (by simp)).trans (Keep.push _ (by simp [St.set]; exact hr)), rfl⟩
            · cases h
          · cases h
        · split at h
          · split at h
            · simp at h; obtain ⟨_, rfl⟩ := h; exact ⟨Keep.push _ hr, rfl⟩
            · cases h
          · cases h
        · cases h
  | call f l => exact K.call _ _ _ _ _ h hr
  | callv f l => exact callV_keep K h hr
  | field agg off sz x =>
    simp only [exOp] at h
    split at h
    · split at h
      · exact hopt _ h
      · cases h
    · cases h
  | extract x i =>
    simp only [exOp] at h
    split at h
    · split at h
      · simp at h; exact same h.2.symm
      · cases h
    · cases h
  | buildSl sz z n ps =>
    simp only [exOp] at h
    split at h
    · split at h
      · simp at h; exact same h.2.symm
      · cases h
    · cases h
  | _ =>
    simp only [exOp] at h
    repeat' split at h
    all_goals first
      | (simp at h; exact same h.2.symm)
      | (cases h; done)

theorem exStep_keep {o : AOp} {fr fr' : List AV} (h : exStep O o fr st = some (fr', st')) (hr : st.ro ≤ st.objs.length) : Keep st st' ∧ st'.df = st.df ∧ fr'.length = fr.length := by
  have hp : ∀ (d : Option Nat) (v : AV), (put fr d v).length = fr.length := by intro d v; cases d <;> simp [put]
  have key : (match exOp O fr st o.op with | some (v, st') => some (put fr o.dst v, st') | none => none) = some (fr', st') → Keep st st' ∧ st'.df = st.df ∧ fr'.length = fr.length := by
    intro h
    split at h
    · rename_i v s hx
      obtain ⟨rfl, rfl⟩ : _ ∧ _ := by simpa using h
      have := exOp_keep K hx hr
      exact ⟨this.1, this.2, hp _ _⟩
    · cases h
  obtain ⟨dst, op, guard⟩ := o
  cases guard with
  | none => exact key h
  | some g =>
    obtain ⟨j, want⟩ := g
    simp only [exStep] at h
    split at h
    · rename_i b _
      cases hb : b == some want with
      | true => rw [hb] at h; exact key h
      | false =>
        rw [hb] at h
        obtain ⟨rfl, rfl⟩ : _ ∧ _ := by simpa using h
        exact ⟨Keep.refl _, rfl, hp _ _⟩
    · cases h

theorem exOps_keep (l : List AOp) : ∀ {fr fr' : List AV} {st st' : St}, exOps O l fr st = some (fr', st') → st.ro ≤ st.objs.length → Keep st st' ∧ st'.df = st.df ∧ fr'.length = fr.length := by
  induction l with
  | nil => intro fr fr' st st' h _; simp [exOps] at h; obtain ⟨rfl, rfl⟩ := h; exact ⟨Keep.refl _, rfl, rfl⟩
  | cons o l ih =>
    intro fr fr' st st' h hr
    simp only [exOps] at h
    split at h
    · rename_i fr1 st1 h1
      obtain ⟨k1, d1, l1⟩ := exStep_keep K h1 hr
      obtain ⟨k2, d2, l2⟩ := ih h (by rw [k1.ro]; exact Nat.le_trans hr k1.len)
      exact ⟨k1.trans k2, d2.trans d1, l2.trans l1⟩
    · cases h

omit K in
theorem draw_ops (l : List AOp) : ∀ {ts : List (Nat × Nat × Nat × Nat)} {fr fr' : List AV} {st st' : St}, exDraw O l ts fr st = some (fr', st') → exOps O l fr st = some (fr', st') := by
  induction l with
  | nil => intro ts fr fr' st st' h; simp only [exDraw] at h; split at h <;> simp_all [exOps]
  | cons o l ih =>
    intro ts fr fr' st st' h
    simp only [exDraw] at h
    simp only [exOps]
    split at h
    · exact ih h
    · cases h

theorem exC_keep (c : AC) : ∀ {rd : Bool} {fr fr' : List AV} {st st' : St} {e : AE}, exC O rd c fr st = some (e, fr', st') → st.ro ≤ st.objs.length → Keep st st' ∧ (rd = true → st'.df = st.df) := by
  induction c with
  | skip => intro rd fr fr' st st' e h _; simp [exC] at h; obtain ⟨rfl, rfl, rfl⟩ := h; exact ⟨Keep.refl _, fun _ => rfl⟩
  | exit id => intro rd fr fr' st st' e h _; simp [exC] at h; obtain ⟨rfl, rfl, rfl⟩ := h; exact ⟨Keep.refl _, fun _ => rfl⟩
  | ret => intro rd fr fr' st st' e h _; simp [exC] at h; obtain ⟨rfl, rfl, rfl⟩ := h; exact ⟨Keep.refl _, fun _ => rfl⟩
  | ops l d =>
    intro rd fr fr' st st' e h hr
    cases d with
    | false =>
      simp only [exC] at h
      split at h
      · rename_i fr1 st1 h1
        simp at h; obtain ⟨rfl, rfl, rfl⟩ := h
        obtain ⟨k, d, _⟩ := exOps_keep K l h1 hr
        exact ⟨k, fun _ => d⟩
      · cases h
    | true =>
      simp only [exC] at h
      split at h
      · rename_i fr1 st1 h1
        simp at h; obtain ⟨rfl, rfl, rfl⟩ := h
        obtain ⟨k, d, _⟩ := exOps_keep K l (draw_ops l h1) hr
        exact ⟨k, fun _ => d⟩
      · cases h
  | seq a b iha ihb =>
    intro rd fr fr' st st' e h hr
    simp only [exC] at h
    split at h
    · rename_i fr1 st1 h1
      obtain ⟨k1, d1⟩ := iha h1 hr
      obtain ⟨k2, d2⟩ := ihb h (by rw [k1.ro]; exact Nat.le_trans hr k1.len)
      exact ⟨k1.trans k2, fun hrd => (d2 hrd).trans (d1 hrd)⟩
    · exact iha h hr
  | cond c a b iha ihb =>
    intro rd fr fr' st st' e h hr
    simp only [exC] at h
    split at h
    · rename_i t _
      cases t
      · exact ihb h hr
      · exact iha h hr
    · cases h
  | block id c ih =>
    intro rd fr fr' st st' e h hr
    simp only [exC] at h
    split at h
    · rename_i j fr1 st1 h1
      have := ih h1 hr
      split at h <;> (simp at h; obtain ⟨rfl, rfl, rfl⟩ := h; exact this)
    · exact ih h hr
  | loop c ih => intro rd fr fr' st st' e h hr; exact K.loop _ _ _ _ _ _ _ h hr
  | range f ps asg body _ _ =>
    intro rd fr fr' st st' e h hr
    simp only [exC] at h
    cases rd with
    | true => simp at h
    | false =>
      simp only [Bool.false_eq_true, if_false] at h
      split at h
      · rename_i v s hv
        split at h
        · rename_i s0 p fr1 ps1 asg1 body1 hl
          have k0 : Keep st { st with objs := st.objs ++ [.dfr, .loop .ready none fr ps asg body], df := st.objs.length :: st.df } := by
            refine ⟨rfl, by simp, fun r hlt => List.getElem?_append_left (by omega), fun r h => ?_, [st.objs.length], rfl, by simp, fun r hr => ?_⟩
            · have hlt : r < st.objs.length := by
                rcases Nat.lt_or_ge r st.objs.length with h' | h'
                · exact h'
                · simp [List.getElem?_eq_none h'] at h
              rw [List.getElem?_append_left hlt]; exact h
            · simp at hr; subst hr; simp
          obtain ⟨k1, d1⟩ := callF_keep K hv (by simp; omega)
          have k2 : Keep s (s.set (st.objs.length + 1) (.loop .exhausted p fr1 ps1 asg1 body1)) := Keep.set (by rw [k1.ro]; exact Nat.le_trans hr (by omega)) hl (by simp)
          have fin : st' = s.set (st.objs.length + 1) (.loop .exhausted p fr1 ps1 asg1 body1) := by
            split at h
            · cases h
            · simp at h; exact h.2.2.symm
          rw [fin]
          exact ⟨(k0.trans k1).trans k2, fun h => by cases h⟩
        · cases h
      · cases h

end Go.Proofs.YtcoonnbkmklenaaDoor.A
