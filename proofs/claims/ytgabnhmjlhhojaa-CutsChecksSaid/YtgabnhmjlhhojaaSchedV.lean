/- Statements of open order, in the widest form: objects may be made at any time, and what is read may be read behind stores that do not meet it. -/
import Derived.Test.YtgabnhmjlhhojaaSchedP
namespace Go.Proofs.Ytgabnhmjlhhojaa.A
open Go
set_option linter.unusedSimpArgs false
set_option linter.unusedVariables false

theorem mem_tw {p : Nat → Bool} : ∀ {l : List Nat} {y : Nat}, y ∈ l.takeWhile p → p y = true
  | x :: l, y, h => by
    rw [List.takeWhile_cons] at h
    split at h
    · rcases List.mem_cons.1 h with rfl | h
      · assumption
      · exact mem_tw h
    · cases h
theorem head_dw {p : Nat → Bool} {h0 : Nat} {tl : List Nat} : ∀ {l : List Nat}, l.dropWhile p = h0 :: tl → p h0 = false
  | x :: l, h => by
    rw [List.dropWhile_cons] at h
    split at h
    · exact head_dw h
    · simp only [List.cons.injEq] at h
      obtain ⟨rfl, _⟩ := h
      rename_i hx _
      simpa using hx

section
variable {T : Tab} {O : Orc} {n0 : Nat}

theorem exV_cons {o : AOp} {l : List AOp} {ws : List Wt} {fr : List AV} {st : St} {R : List AV × St} (h : exV O n0 (o :: l) ws fr st = some R) :
    ∃ v st1, exG O o fr st = some (v, st1) ∧ (loudV o.op = true → wsOk st1 ws = true) ∧ oldOk n0 o fr = true ∧ exV O n0 l (entry o fr st ++ ws) (put fr o.dst v) st1 = some R := by
  simp only [exV, exStep_eq] at h
  split at h
  · rename_i a b hx
    split at hx
    · rename_i v s hg
      obtain ⟨rfl, rfl⟩ := Prod.mk.inj (Option.some.inj hx)
      split at h
      · cases h
      · rename_i hc
        refine ⟨v, _, hg, fun he => ?_, ?_, h⟩
        · cases hw : wsOk s ws with
          | true => rfl
          | false => exact absurd (by simp [he, hw]) hc
        · cases ho : oldOk n0 o fr with
          | true => rfl
          | false => exact absurd (by simp [ho]) hc
    · cases hx
  · cases h

theorem exV_mk {o : AOp} {l : List AOp} {ws : List Wt} {fr : List AV} {st st1 : St} {v : AV} {R : List AV × St} (h1 : exG O o fr st = some (v, st1)) (h2 : loudV o.op = true → wsOk st1 ws = true) (h4 : oldOk n0 o fr = true)
    (h3 : exV O n0 l (entry o fr st ++ ws) (put fr o.dst v) st1 = some R) : exV O n0 (o :: l) ws fr st = some R := by
  simp only [exV, exStep_eq, h1]
  rw [if_neg ?_]
  · exact h3
  · intro hc
    simp only [Bool.or_eq_true, Bool.and_eq_true, Bool.not_eq_true'] at hc
    rcases hc with hc | hc
    · rw [h2 hc.1] at hc
      simp at hc
    · rw [h4] at hc; cases hc

theorem exV_perm : ∀ (l : List AOp) {ws ws' : List Wt} {fr : List AV} {st : St} {R : List AV × St}, ws.Perm ws' → exV O n0 l ws fr st = some R → exV O n0 l ws' fr st = some R
  | [], _, _, _, _, _, _, h => h
  | o :: l, ws, ws', fr, st, R, p, h => by
    obtain ⟨v, st1, h1, h2, h4, h3⟩ := exV_cons h
    exact exV_mk h1 (fun he => by rw [← wsOk_perm p]; exact h2 he) h4 (exV_perm l (p.append_left _) h3)

theorem oldOk_put {o : AOp} {fr : List AV} {d : Option Nat} {v : AV} (h : ∀ k, d = some k → k ∉ o.slots) : oldOk n0 o (put fr d v) = oldOk n0 o fr := by
  have hr := ran_put (v := v) (fr := fr) h
  obtain ⟨dst, op, g⟩ := o
  cases d with
  | none => rfl
  | some k =>
    have hk := h k rfl
    simp only [AOp.slots, List.mem_append, not_or] at hk
    simp only [oldOk, hr]
    cases op <;> simp only [reads] at hk <;> try rfl
    · simp only [put]; rw [ev_set hk.1]
    · simp only [put]; rw [evs_set hk.1]

theorem wsOk_app2 {st : St} : ∀ {us vs : List Wt}, wsOk st us = true → wsOk st vs = true → wsOk st (us ++ vs) = true
  | [], _, _, h => h
  | (g, sz, p, v) :: us, vs, h1, h2 => by
    simp only [List.cons_append, wsOk, Bool.and_eq_true] at h1 ⊢
    exact ⟨h1.1, wsOk_app2 h1.2 h2⟩

theorem entry_ok (y : AOp) (fr : List AV) (st : St) : wsOk st (entry y fr st) = true := by
  obtain ⟨d, op, g⟩ := y
  cases op <;> simp only [entry] <;> try rfl
  rename_i g' sz a
  cases ran fr _ with
  | false => rfl
  | true =>
    simp only [cond_true]
    cases hl : ld st g' sz (ev fr a) with
    | none => rfl
    | some w =>
      have : AV.beq w w = true := beq_refl w
      simp [wsOk, hl, this]

/-- two operations change places, if each then does what it did -/
theorem swap_core {x y : AOp} {l : List AOp} {ws : List Wt} {fr : List AV} {st st1 st2 sty : St} {v u : AV} {R : List AV × St} (hs : slotsApart x y = true)
    (d1 : oldOk n0 x fr = true) (d2 : oldOk n0 y (put fr x.dst v) = true) (h9 : exV O n0 l (entry y (put fr x.dst v) st1 ++ (entry x fr st ++ ws)) (put (put fr x.dst v) y.dst u) st2 = some R)
    (g1 : exG O y fr st = some (u, sty)) (g2 : exG O x fr sty = some (v, st2)) (e1 : entry y fr st = entry y fr st1) (e2 : entry x fr sty = entry x fr st)
    (k1 : loudV y.op = true → wsOk sty ws = true) (k2 : loudV x.op = true → wsOk st2 (entry y fr st1 ++ ws) = true) : exV O n0 (y :: x :: l) ws fr st = some R := by
  obtain ⟨s1, s2, s3⟩ := slotsApart_spec hs
  rw [entry_put s1, put_comm s2] at h9
  rw [oldOk_put s1] at d2
  refine exV_mk g1 k1 d2 (exV_mk (by rw [exG_put s3]; exact g2) (by rw [e1]; exact k2) (by rw [oldOk_put s3]; exact d1) ?_)
  rw [entry_put s3, e1, e2]
  exact exV_perm l (by rw [← List.append_assoc, ← List.append_assoc]; exact List.perm_append_comm.append_right _) h9

/-- it asks nothing of the store -/
def PurD (T : Tab) (o : AOp) : Prop := clsE T o.op = .pur

theorem purE_exG (H : OPure T O) {o : AOp} {fr : List AV} {st st' : St} {v : AV} (hc : clsE T o.op = .pur) (ho : oldOk n0 o fr = true) (h : exG O o fr st = some (v, st')) : ∀ s, exG O o fr s = some (v, s) := by
  by_cases hp : cls T o.op = .pur
  · exact exG_pur hp h
  · obtain ⟨d, op, g⟩ := o
    cases op <;> simp only [clsE] at hc hp <;> try exact absurd hc hp
    rename_i f args
    split at hc
    · rename_i hx
      simp only [Bool.and_eq_true, Option.isNone_iff_eq_none] at hx
      have main : ran fr ⟨d, .call f args, g⟩ = true → O.call f (canAL (evs fr args)) st = some (v, st') → ∀ s, O.call f (canAL (evs fr args)) s = some (v, s) := fun hr hcall => by
        simp only [oldOk, hr, hx.2, Bool.not_true, Bool.false_or] at ho
        exact (H.2.1 _ _ _ _ _ hx.1 hx.2 ho hcall).2
      intro s
      cases g with
      | none => exact main rfl h s
      | some jw =>
        obtain ⟨j, w⟩ := jw
        simp only [exG] at h ⊢
        cases hg : gd (slot fr j) with
        | none => rw [hg] at h; cases h
        | some x =>
          rw [hg] at h
          simp only at h ⊢
          cases hxw : x == some w with
          | true =>
            rw [hxw] at h
            obtain rfl : x = some w := by simpa using hxw
            exact main (by simp [ran, hg]) h s
          | false =>
            rw [hxw] at h
            simp only [cond_false, Option.some.injEq, Prod.mk.injEq] at h ⊢
            exact ⟨h.1, trivial⟩
    · exact absurd hc hp

theorem purE_loud {o : AO} (hc : clsE T o = .pur) : loudV o = false := by
  cases o <;> simp only [clsE, cls, reduceCtorEq] at hc <;> try rfl
  rename_i f args
  split at hc
  · rename_i hx
    simp only [Bool.and_eq_true] at hx
    simp [loudV, hx.2]
  · exfalso
    revert hc
    cases T f <;> simp only [reduceCtorEq, imp_self]
    split <;> simp

theorem purE_entry {o : AOp} (hc : clsE T o.op = .pur) (fr : List AV) (st : St) : entry o fr st = [] := by
  obtain ⟨d, op, g⟩ := o
  cases op <;> simp only [clsE, cls, reduceCtorEq] at hc <;> rfl

/-- what is not loud leaves the store alone -/
theorem soft_same {o : AOp} {fr : List AV} {st st' : St} {v : AV} (hl : loudV o.op = false) (hne : ∀ f a, o.op ≠ .call f a) (h : exG O o fr st = some (v, st')) : st' = st := by
  have key : ∀ {v st'}, exOp O fr st o.op = some (v, st') → st' = st := fun {v st'} h => by
    cases ho : o.op <;> rw [ho] at h hl <;> simp only [loudV, Bool.true_eq_false, reduceCtorEq] at hl
    case call f a => exact absurd ho (hne f a)
    all_goals simp only [exOp] at h
    all_goals first
      | exact (opt_st h).1
      | (repeat' split at h) <;> first
        | contradiction
        | exact (Prod.mk.inj (Option.some.inj h)).2.symm
        | exact (opt_st h).1
  unfold exG at h
  split at h
  · exact key h
  · split at h
    · rename_i x _
      cases hx : x == some _ <;> rw [hx] at h
      · exact (Prod.mk.inj (Option.some.inj h)).2.symm
      · exact key h
    · cases h

theorem arr_push {st : St} {o : Obj} {r : Nat} (h : r < st.objs.length) : (st.push o).arr? r = st.arr? r := by
  simp [St.arr?, St.push, List.getElem?_append_left h]

/-- a reading of what was there before, ahead of what makes an object -/
theorem ld_newish {x : AO} {fr : List AV} {st st1 : St} {v : AV} (hx : newish x = true) (h : exOp O fr st x = some (v, st1)) {p : AV} (hp : (match p with | .vptr _ => true | .ptr r _ _ => decide (r < n0) | _ => false) = true) (hn : n0 ≤ st.objs.length)
    {g : Bool} {sz : Nat} {w : AV} (hl : ld st1 g sz p = some w) : ld st g sz p = some w := by
  cases p with
  | vptr cs => exact hl
  | ptr r i off =>
    have hr : r < st.objs.length := Nat.lt_of_lt_of_le (by simpa using hp) hn
    suffices hh : st1.arr? r = st.arr? r ∨ st1.arr? r = none by
      rcases hh with hh | hh
      · unfold ld at hl ⊢
        simp only [hh] at hl
        exact hl
      · unfold ld at hl
        simp only [hh] at hl
        cases hl
    have dead : ∀ (q : Nat) (o : Obj), ((st.set q .dead).push o).arr? r = st.arr? r ∨ ((st.set q .dead).push o).arr? r = none := fun q o => by
      rw [arr_push (by simpa [St.set] using hr)]
      by_cases e : q = r
      · subst e
        right
        simp [St.arr?, St.set, hr]
      · exact .inl (arr_set_ne e)
    cases x <;> simp only [newish, Bool.false_eq_true] at hx
    · simp only [exOp, Option.some.injEq, Prod.mk.injEq] at h
      obtain ⟨_, rfl⟩ := h
      exact .inl (arr_push hr)
    · simp only [exOp] at h
      split at h
      · simp only [Option.some.injEq, Prod.mk.injEq] at h
        obtain ⟨_, rfl⟩ := h
        exact .inl (arr_push hr)
      · cases h
    · simp only [exOp, app] at h
      repeat' split at h
      all_goals first
        | (cases h; done)
        | (obtain ⟨_, rfl⟩ := Prod.mk.inj (Option.some.inj h)
           first | exact .inl rfl | exact .inl (arr_push hr) | exact dead _ _)
  | _ => simp at hp

theorem exV_swap (H : OPure T O) {x y : AOp} {l : List AOp} {ws : List Wt} {fr : List AV} {st : St} {R : List AV × St} (hn : n0 ≤ st.objs.length) (hf : freeV T x y = true)
    (h : exV O n0 (x :: y :: l) ws fr st = some R) : exV O n0 (y :: x :: l) ws fr st = some R := by
  simp only [freeV, Bool.and_eq_true] at hf
  obtain ⟨hs, hc⟩ := hf
  obtain ⟨s1, s2, s3⟩ := slotsApart_spec hs
  obtain ⟨v, st1, h1, c1, d1, h8⟩ := exV_cons h
  obtain ⟨u, st2, h2, c2, d2, h9⟩ := exV_cons h8
  rw [exG_put s1] at h2
  have d2' : oldOk n0 y fr = true := by rw [oldOk_put s1] at d2; exact d2
  have core := fun sty g1 g2 e1 e2 k1 k2 => swap_core (sty := sty) hs d1 d2 h9 g1 g2 e1 e2 k1 k2
  by_cases px : clsE T x.op = .pur
  · have hx := purE_exG H px d1 h1
    obtain rfl : st1 = st := by
      have := hx st
      rw [h1] at this
      exact (Prod.mk.inj (Option.some.inj this)).2
    refine core st2 h2 (hx st2) rfl (by rw [purE_entry px, purE_entry px]) (fun he => (wsOk_app (c2 he)).2) (fun he => by rw [purE_loud px] at he; cases he)
  by_cases py : clsE T y.op = .pur
  · have hy := purE_exG H py d2' h2
    obtain rfl : st2 = st1 := by
      have := hy st1
      rw [h2] at this
      exact (Prod.mk.inj (Option.some.inj this)).2
    refine core st (hy st) h1 (by rw [purE_entry py, purE_entry py]) rfl (fun he => by rw [purE_loud py] at he; cases he) (fun he => by rw [purE_entry py]; exact c1 he)
  have ex : clsE T x.op = cls T x.op := by
    cases hxo : x.op <;> simp only [clsE]
    rename_i f a
    rw [hxo] at px
    simp only [clsE] at px
    split
    · rename_i hh; rw [if_pos hh] at px; exact absurd rfl px
    · rfl
  have ey : clsE T y.op = cls T y.op := by
    cases hyo : y.op <;> simp only [clsE]
    rename_i f a
    rw [hyo] at py
    simp only [clsE] at py
    split
    · rename_i hh; rw [if_pos hh] at py; exact absurd rfl py
    · rfl
  simp only [clsV, clsW, ex, ey, Bool.or_eq_true, Bool.and_eq_true, beq_iff_eq] at hc
  rw [ex] at px
  rw [ey] at py
  have rdLoud : (cls T x.op = .rd) → (cls T y.op = .oth ∨ cls T y.op = .new ∨ cls T y.op = .wr) → loudV y.op = true → exV O n0 (y :: x :: l) ws fr st = some R := by
    intro hr hyc hl
    obtain rfl : st1 = st := exG_quiet H (by rw [hr]; rfl) h1
    obtain ⟨w3, w4⟩ := wsOk_app (c2 hl)
    obtain ⟨k1, k2⟩ := rd_still hr h1 w3
    refine core st2 h2 k1 rfl k2 (fun _ => w4) (fun he => ?_)
    obtain ⟨g, sz, a, e⟩ := rd_load hr
    rw [e] at he
    simp [loudV] at he
  have loudOth : (cls T y.op = .oth ∨ cls T y.op = .new ∨ cls T y.op = .wr) → loudV y.op = true := by
    intro hyc
    cases hyo : y.op <;> rw [hyo] at hyc py <;> simp [cls] at hyc <;> try rfl
    rename_i f a
    simp only [loudV, Bool.not_eq_true']
    cases hxe : extP f with
    | false => rfl
    | true =>
      exfalso
      rw [hyo] at ey
      simp only [clsE, hxe, H.2.2 f hxe, Option.isNone_none, Bool.and_true, if_true] at ey
      rw [← ey] at py
      exact py rfl
  rcases hc with ((((hc | hc) | hc) | hc) | hc) | hc
  · obtain rfl : st1 = st := exG_quiet H hc.1 h1
    obtain rfl : st2 = st1 := exG_quiet H hc.2 h2
    exact core st2 h2 h1 rfl rfl (fun he => (wsOk_app (c2 he)).2) (fun he => wsOk_app2 (entry_ok y fr st2) (c1 he))
  · exact absurd hc px
  · exact absurd hc py
  · exact rdLoud hc.1 (hc.2.imp id .inl) (loudOth (hc.2.imp id .inl))
  · exact rdLoud hc.1 (.inr (.inr hc.2)) (loudOth (.inr (.inr hc.2)))
  · obtain ⟨hnw, hyr⟩ := hc
    obtain rfl : st2 = st1 := exG_quiet H (by rw [hyr]; rfl) h2
    obtain ⟨g, sz, a, e⟩ := rd_load hyr
    obtain ⟨dy, oy, gy⟩ := y
    simp only at e
    subst e
    -- the reading gives the same ahead
    have same : ran fr ⟨dy, .load g sz a, gy⟩ = true → ∀ w, exOp O fr st2 (.load g sz a) = some (w, st2) → exOp O fr st (.load g sz a) = some (w, st) ∧ entry ⟨dy, .load g sz a, gy⟩ fr st = entry ⟨dy, .load g sz a, gy⟩ fr st2 := by
      intro hr w hw
      simp only [oldOk, hr, Bool.not_true, Bool.false_or] at d2'
      simp only [exOp] at hw ⊢
      cases hl : ld st2 g sz (ev fr a) with
      | none => rw [hl] at hw; cases hw
      | some w' =>
        rw [hl] at hw
        simp only [opt, Option.some.injEq, Prod.mk.injEq, and_true] at hw
        subst hw
        have hl2 : ld st g sz (ev fr a) = some w' := by
          -- what makes an object, guarded or not
          have : ∀ {v' s'}, exG O x fr st = some (v', s') → ld s' g sz (ev fr a) = some w' → ld st g sz (ev fr a) = some w' := fun {v' s'} hx hs => by
            unfold exG at hx
            split at hx
            · exact ld_newish hnw hx d2' hn hs
            · split at hx
              · rename_i q _
                cases hq : q == some _ <;> rw [hq] at hx
                · obtain ⟨_, rfl⟩ := Prod.mk.inj (Option.some.inj hx)
                  exact hs
                · exact ld_newish hnw hx d2' hn hs
              · cases hx
          exact this h1 hl
        exact ⟨by rw [hl2]; rfl, by simp only [entry, hr, cond_true, hl, hl2]⟩
    have hy : exG O ⟨dy, .load g sz a, gy⟩ fr st = some (u, st) ∧ entry ⟨dy, .load g sz a, gy⟩ fr st = entry ⟨dy, .load g sz a, gy⟩ fr st2 := by
      cases gy with
      | none => exact same rfl u h2
      | some jw =>
        obtain ⟨j, w⟩ := jw
        simp only [exG] at h2 ⊢
        cases hg : gd (slot fr j) with
        | none => rw [hg] at h2; cases h2
        | some q =>
          rw [hg] at h2
          simp only at h2 ⊢
          cases hq : q == some w with
          | true =>
            rw [hq] at h2
            obtain rfl : q = some w := by simpa using hq
            exact same (by simp [ran, hg]) u h2
          | false =>
            rw [hq] at h2
            simp only [cond_false, Option.some.injEq, Prod.mk.injEq] at h2 ⊢
            refine ⟨⟨h2.1, trivial⟩, ?_⟩
            have hr : ran fr ⟨dy, .load g sz a, some (j, w)⟩ = false := by
              simp only [ran, hg]
              cases q with
              | none => rfl
              | some b => simpa using hq
            simp only [entry, hr, cond_false]
    exact core st hy.1 h1 hy.2 rfl (fun he => by simp [loudV] at he) (fun he => wsOk_app2 (entry_ok _ fr st2) (c1 he))

theorem exV_front (H : OPure T O) (K : OKeep O) {x : AOp} {l : List AOp} : ∀ (k : List AOp) {ws : List Wt} {fr : List AV} {st : St} {R : List AV × St}, n0 ≤ st.objs.length → st.ro ≤ st.objs.length → (∀ y ∈ k, freeV T y x = true) →
    exV O n0 (k ++ x :: l) ws fr st = some R → exV O n0 (x :: (k ++ l)) ws fr st = some R
  | [], ws, fr, st, R, _, _, _, h => h
  | y :: k, ws, fr, st, R, hn, hr, hk, h => by
    obtain ⟨v, st1, h1, c1, d1, h2⟩ := exV_cons h
    have kk := exStep_keep K (o := y) (fr := fr) (fr' := put fr y.dst v) (st' := st1) (by rw [exStep_eq, h1]) hr
    exact exV_swap H hn (hk y (List.mem_cons_self ..)) (exV_mk h1 c1 d1 (exV_front H K k (Nat.le_trans hn kk.1.len) (by rw [kk.1.ro]; exact Nat.le_trans hr kk.1.len) (fun z hz => hk z (List.mem_cons_of_mem _ hz)) h2))

theorem exV_any (H : OPure T O) (K : OKeep O) (xs : List AOp) (bef : Nat → Nat → Bool) (hb : ∀ i j x y, i < j → xs[i]? = some x → xs[j]? = some y → bef j i = true ∨ freeV T x y = true) :
    ∀ (L R : List Nat) (l : List AOp) {ws : List Wt} {fr : List AV} {st : St} {Z : List AV × St}, n0 ≤ st.objs.length → st.ro ≤ st.objs.length → L.Perm R → R.Pairwise (· < ·) → L.Pairwise (fun a b => bef a b = false) →
      R.map (fun (j : Nat) => xs[j]?) = l.map some → exV O n0 l ws fr st = some Z →
      ∃ l', L.map (fun (j : Nat) => xs[j]?) = l'.map some ∧ exV O n0 l' ws fr st = some Z
  | [], R, l, _, _, _, _, _, _, p, _, _, hl, h => by
    obtain rfl := p.symm.eq_nil
    obtain rfl : l = [] := by cases l <;> simp at hl; rfl
    exact ⟨[], rfl, h⟩
  | a :: L, R, l, ws, fr, st, Z, hn, hr, p, hs, hL, hl, h => by
    have ha : a ∈ R := p.subset (List.mem_cons_self ..)
    obtain ⟨R1, R2, rfl⟩ := List.append_of_mem ha
    obtain ⟨k, l2, rfl, hk, hl2⟩ : ∃ k l2, l = k ++ l2 ∧ R1.map (fun (j : Nat) => xs[j]?) = k.map some ∧ (a :: R2).map (fun (j : Nat) => xs[j]?) = l2.map some := by
      rw [List.map_append] at hl
      obtain ⟨k, l2, e, e1, e2⟩ := List.map_eq_append_iff.1 hl.symm
      exact ⟨k, l2, e, e1.symm, e2.symm⟩
    cases l2 with
    | nil => simp at hl2
    | cons x l2 =>
      simp only [List.map_cons, List.cons.injEq] at hl2
      have p' : L.Perm (R1 ++ R2) := (List.perm_cons a).1 (p.trans List.perm_middle)
      have hs' := List.pairwise_append.1 hs
      have hfree : ∀ y ∈ k, freeV T y x = true := by
        intro y hy
        have : some y ∈ k.map some := List.mem_map_of_mem hy
        rw [← hk] at this
        obtain ⟨i, hi, e⟩ := List.mem_map.1 this
        have hlt : i < a := hs'.2.2 i hi a (List.mem_cons_self ..)
        rcases hb i a y x hlt e hl2.1 with hbb | hff
        · have := (List.pairwise_cons.1 hL).1 i (p'.symm.subset (List.mem_append_left _ hi))
          rw [this] at hbb; cases hbb
        · exact hff
      have h2 := exV_front H K k hn hr hfree h
      obtain ⟨v, st1, h3, c3, d3, h4⟩ := exV_cons h2
      have kk := exStep_keep K (o := x) (fr := fr) (fr' := put fr x.dst v) (st' := st1) (by rw [exStep_eq, h3]) hr
      obtain ⟨l', e4, h5⟩ := exV_any H K xs bef hb L (R1 ++ R2) (k ++ l2) (Nat.le_trans hn kk.1.len) (by rw [kk.1.ro]; exact Nat.le_trans hr kk.1.len) p'
        (hs.sublist (List.Sublist.append_left (List.sublist_cons_self a R2) R1)) (List.pairwise_cons.1 hL).2
        (by rw [List.map_append, hk, hl2.2, List.map_append]) h4
      exact ⟨x :: l', by simp [hl2.1, e4], exV_mk h3 c3 d3 h5⟩

theorem pairsV_spec {l : List AOp} {b : Array Nat} {ex : Nat → Nat → Bool} : ∀ (m : List AOp) (j : Nat), pairsV T l b ex j m = true → ∀ (k : Nat) y, m[k]? = some y → ∀ i, i < j + k → ∀ x, l[i]? = some x →
    (b.getD (j + k) 0).testBit i = true ∨ ex i (j + k) = true ∨ freeV T x y = true
  | [], _, _, k, y, h => by simp at h
  | z :: m, j, h, k, y, hk => by
    simp only [pairsV, Bool.and_eq_true, List.all_eq_true, List.mem_range] at h
    cases k with
    | zero =>
      simp at hk
      subst hk
      intro i hi x hx
      have := h.1 i (by simpa using hi)
      rw [hx] at this
      simpa [or_assoc] using this
    | succ k =>
      intro i hi x hx
      have := pairsV_spec m (j + 1) h.2 k y (by simpa using hk) i (by omega) x hx
      rw [show j + (k + 1) = j + 1 + k by omega]
      exact this

theorem exV_app : ∀ (l1 : List AOp) {l2 : List AOp} {ws : List Wt} {fr : List AV} {st : St} {Z : List AV × St}, exV O n0 (l1 ++ l2) ws fr st = some Z → ∃ fr1 st1 ws1, exV O n0 l1 ws fr st = some (fr1, st1) ∧ exV O n0 l2 ws1 fr1 st1 = some Z
  | [], _, ws, fr, st, _, h => ⟨fr, st, ws, rfl, h⟩
  | o :: l1, l2, ws, fr, st, Z, h => by
    obtain ⟨v, st1, h1, h2, h3, h4⟩ := exV_cons h
    obtain ⟨fr2, st2, ws2, h5, h6⟩ := exV_app l1 h4
    exact ⟨fr2, st2, ws2, exV_mk h1 h2 h3 h5, h6⟩

theorem map_split {xs : List AOp} {L1 L2 : List Nat} {l : List AOp} (h : (L1 ++ L2).map (fun (j : Nat) => xs[j]?) = l.map some) : ∃ l1 l2, l = l1 ++ l2 ∧ L1.map (fun (j : Nat) => xs[j]?) = l1.map some ∧ L2.map (fun (j : Nat) => xs[j]?) = l2.map some := by
  rw [List.map_append] at h
  obtain ⟨k, l2, e, e1, e2⟩ := List.map_eq_append_iff.1 h.symm
  exact ⟨k, l2, e, e1.symm, e2.symm⟩

theorem some_inj {l m : List AOp} (h : l.map some = m.map some) : l = m := by
  have := congrArg (List.filterMap id) h
  simpa using this

end

section
variable {P : Program} {T : Tab} {O : Orc} {E : Env} {st st' : St} {w : World}

/-- a statement of open order, in the widest form -/
theorem drawV_sound (H : SndO P T O) (HP : OPure T O) {ops : Array Oper} {xs : List AOp} (hops : ∀ (i : Nat) x, xs[i]? = some x → ∃ o, ops[i]? = some o ∧ chkOper P ops o x = true) (hlen : ops.size = xs.length) (hd : drawV T ops xs = true) (t : Nat)
    (b : Frame) (k : List Item) (cs : List Frame) {fr fr' : List AV} {a : Act} (h : exV O st.objs.length xs [] fr st = some (fr', st')) (hr : st.ro ≤ st.objs.length) (S : Sim P T E st w) (F : RepL E st.objs.length w fr a.tmps.toList) :
    ∃ E' a' w', Sim P T E' st' w' ∧ RepL E' st'.objs.length w' fr' a'.tmps.toList ∧ a'.defers = a.defers ∧ Ext E st.objs.length w E' st'.objs.length w' ∧
      Steps P (lone (on b a (.inRegion ops (Region.schedule true ops t) :: k)) cs w) (lone (on b a' k) cs w') := by
  simp only [drawV, Bool.and_eq_true, List.all_eq_true, List.mem_range] at hd
  obtain ⟨⟨⟨⟨hed, hap⟩, hdd⟩, hwait⟩, hpairs⟩ := hd
  obtain ⟨p, hp⟩ := schedule_ok hed t
  have hxs : xs = cut1 xs ++ (cut2 xs ++ cut3 xs) := by
    simp only [cut1, cut2, cut3, List.takeWhile_append_dropWhile]
  generalize cut1 xs = l at *
  generalize hg2 : cut2 xs = als at *
  generalize cut3 xs = rest at *
  have hal : ∀ y ∈ als, ∃ d ty z, y = ⟨some d, .alloc ty z, none⟩ := fun y hy => by
    rw [← hg2] at hy
    exact isAl_get (takeWhile_all (p := isAl) hy)
  clear hg2
  obtain ⟨c, hc⟩ : ∃ c, c = l.length := ⟨_, rfl⟩
  obtain ⟨e, he⟩ : ∃ e, e = l.length + als.length := ⟨_, rfl⟩
  have hN : xs.length = e + rest.length := by
    have := congrArg List.length hxs
    simp at this
    omega
  rw [← he, ← hc] at hpairs hwait
  have g1 : ∀ i, i < c → xs[i]? = l[i]? := fun i hi => by rw [hxs, List.getElem?_append_left (by omega)]
  have g2 : ∀ i, i < als.length → xs[c + i]? = als[i]? := fun i hi => by
    rw [hxs, List.getElem?_append_right (by omega), List.getElem?_append_left (by omega)]
    congr 1; omega
  have early : ∀ i, earlyB (Region.before ops) e xs.length i = true → ∀ r, e ≤ r → r < xs.length → bef ops r i = true := fun i hi r h1 h2 => by
    simp only [earlyB, List.all_eq_true, List.mem_range] at hi
    have := hi (r - e) (by omega)
    rw [show e + (r - e) = r by omega] at this
    exact this
  have alEarly : ∀ i, c ≤ i → i < e → ∀ r, e ≤ r → r < xs.length → bef ops r i = true := fun i h1 h2 => by
    refine early i ?_
    have := hwait (i - c) (by omega)
    rw [show c + (i - c) = i by omega] at this
    exact this
  -- the order: what comes ahead of the first that follows the new objects, and what comes then
  have hsp : Region.schedule true ops t = (Region.schedule true ops t).takeWhile (fun i => decide (i < e)) ++ (Region.schedule true ops t).dropWhile (fun i => decide (i < e)) := (List.takeWhile_append_dropWhile ..).symm
  have hL1 : ∀ j ∈ (Region.schedule true ops t).takeWhile (fun i => decide (i < e)), j < e := fun j hj => by
    have := mem_tw hj
    simpa using this
  have hL2 : (Region.schedule true ops t).dropWhile (fun i => decide (i < e)) = [] ∨ ∃ h0 tl, (Region.schedule true ops t).dropWhile (fun i => decide (i < e)) = h0 :: tl ∧ e ≤ h0 := by
    cases hh : (Region.schedule true ops t).dropWhile (fun i => decide (i < e)) with
    | nil => exact .inl rfl
    | cons h0 tl =>
      refine .inr ⟨h0, tl, rfl, ?_⟩
      have := head_dw hh
      simpa using this
  generalize (Region.schedule true ops t).takeWhile (fun i => decide (i < e)) = L1 at hsp hL1
  generalize (Region.schedule true ops t).dropWhile (fun i => decide (i < e)) = L2 at hsp hL2
  rw [hsp] at p hp ⊢
  have hnd : (L1 ++ L2).Nodup := p.symm.nodup List.nodup_range
  have hmem : ∀ j, j ∈ L1 ++ L2 ↔ j < xs.length := fun j => by rw [p.mem_iff]; simp [hlen]
  obtain ⟨hp1, hp2, hp12⟩ := List.pairwise_append.1 hp
  obtain ⟨hn1, hn2, hn12⟩ := List.nodup_append.1 hnd
  -- behind the first that follows the new objects nothing comes that it waits for
  have hno : ∀ j ∈ L2, (∀ r, e ≤ r → r < xs.length → bef ops r j = true) → e ≤ j := fun j hj hw => by
    rcases hL2 with h0 | ⟨h0, tl, rfl, hh⟩
    · rw [h0] at hj; cases hj
    · rcases List.mem_cons.1 hj with rfl | hj
      · exact hh
      · have h1 := (List.pairwise_cons.1 hp2).1 j hj
        have h2 := hw h0 hh ((hmem h0).1 (List.mem_append_right _ (List.mem_cons_self ..)))
        rw [h1] at h2; cases h2
  have hL2c : ∀ j ∈ L2, j < c ∨ e ≤ j := fun j hj => by
    rcases Nat.lt_or_ge j c with h1 | h1
    · exact .inl h1
    · rcases Nat.lt_or_ge j e with h2 | h2
      · exact .inr (hno j hj (alEarly j h1 h2))
      · exact .inr h2
  have hals1 : ∀ j, c ≤ j → j < e → j ∈ L1 := fun j h1 h2 => by
    rcases List.mem_append.1 ((hmem j).2 (by omega)) with h3 | h3
    · exact h3
    · rcases hL2c j h3 with h4 | h4 <;> omega
  -- the order in which the interpreter goes
  have hA : (L1.filter (fun i => decide (i < c)) ++ (List.range' c (e - c) ++ L2)).Perm (List.range xs.length) := by
    have q1 : (L1.filter (fun i => !decide (i < c))).Perm (List.range' c (e - c)) := by
      rw [List.perm_ext_iff_of_nodup (hn1.filter _) List.nodup_range']
      intro j
      simp only [List.mem_filter, Bool.not_eq_true', decide_eq_false_iff_not, List.mem_range'_1]
      constructor
      · rintro ⟨h1, h2⟩
        have := hL1 j h1
        omega
      · rintro ⟨h1, h2⟩
        exact ⟨hals1 j h1 (by omega), by omega⟩
    have q2 : (L1.filter (fun i => decide (i < c)) ++ L1.filter (fun i => !decide (i < c))).Perm L1 := List.filter_append_perm _ _
    rw [← List.append_assoc]
    refine ((q1.symm.append_left _).append_right L2).trans ((q2.append_right L2).trans ?_)
    rw [← hlen]; exact p
  have hpw : (L1.filter (fun i => decide (i < c)) ++ (List.range' c (e - c) ++ L2)).Pairwise (fun a b => (decide (b < a) && (bef ops a b || exemptB (Region.before ops) c e xs.length b a)) = false) := by
    have inv : ∀ a b, bef ops a b = false → (b < a → exemptB (Region.before ops) c e xs.length b a = false) → (decide (b < a) && (bef ops a b || exemptB (Region.before ops) c e xs.length b a)) = false := by
      intro a b h1 h2
      by_cases hba : b < a
      · simp [hba, h1, h2 hba]
      · simp [hba]
    have exl : ∀ a b, a < c ∨ e ≤ a → exemptB (Region.before ops) c e xs.length b a = false ∨ a ≤ b := by
      intro a b h1
      rcases Nat.lt_or_ge b a with h2 | h2
      · left
        simp only [exemptB, Bool.or_eq_false_iff, Bool.and_eq_false_imp, decide_eq_false_iff_not, decide_eq_true_eq, Bool.and_eq_true]
        constructor
        · intro h3; omega
        · intro h3; omega
      · exact .inr h2
    have nex : ∀ a b, a < c ∨ e ≤ a → bef ops a b = false → (decide (b < a) && (bef ops a b || exemptB (Region.before ops) c e xs.length b a)) = false := fun a b h1 h2 =>
      inv a b h2 fun h3 => (exl a b h1).resolve_right (by omega)
    refine List.pairwise_append.2 ⟨?_, List.pairwise_append.2 ⟨?_, ?_, ?_⟩, ?_⟩
    · refine List.Pairwise.imp_of_mem (fun {a b} ha hb hab => ?_) (hp1.filter _)
      have := (List.mem_filter.1 ha).2
      exact nex a b (.inl (by simpa using this)) hab
    · refine List.Pairwise.imp_of_mem (fun {a b} ha hb hab => ?_) (List.pairwise_lt_range' (s := c) (n := e - c))
      have : ¬ b < a := by omega
      simp [this]
    · refine List.Pairwise.imp_of_mem (fun {a b} ha hb hab => ?_) hp2
      exact nex a b (hL2c a ha) hab
    · intro a ha b hb
      have ha' := List.mem_range'_1.1 ha
      refine inv a b (hp12 a (hals1 a ha'.1 (by omega)) b hb) fun hba => ?_
      have hbc : b < c := by rcases hL2c b hb with h | h <;> omega
      simp only [exemptB, Bool.or_eq_false_iff]
      constructor
      · have : ¬ c ≤ b := by omega
        simp [this]
      · cases hE : earlyB (Region.before ops) e xs.length b with
        | false => simp
        | true =>
          have := hno b hb (early b hE)
          omega
    · intro a ha b hb
      obtain ⟨ha1, ha2⟩ := List.mem_filter.1 ha
      have hac : a < c := by simpa using ha2
      rcases List.mem_append.1 hb with hb | hb
      · have := List.mem_range'_1.1 hb
        have : ¬ b < a := by omega
        simp [this]
      · exact nex a b (.inl hac) (hp12 a ha1 b hb)
  obtain ⟨l', hl', hx'⟩ := exV_any (n0 := st.objs.length) HP H.keep xs (fun a b => decide (b < a) && (bef ops a b || exemptB (Region.before ops) c e xs.length b a)) (fun i j x y hij hx hy => by
      have := pairsV_spec xs 0 hpairs j y hy i (by omega) x hx
      rw [Nat.zero_add] at this
      rcases this with h1 | h1 | h1
      · left
        have h1' : bef ops j i = true := h1
        simp [hij, h1']
      · left; simp [hij, h1]
      · exact .inr h1) _ (List.range xs.length) xs (Nat.le_refl _) hr hA List.pairwise_lt_range hpw (by
      have := map_range_get xs []
      simpa using this) h
  obtain ⟨lE, l2, rfl, m1, m2⟩ := map_split hl'
  obtain ⟨als', rest', rfl, m3, m4⟩ := map_split m2
  obtain rfl : als = als' := some_inj (by
    rw [← m3]
    apply List.ext_getElem?
    intro i
    simp only [List.getElem?_map]
    by_cases hi : i < als.length
    · have : (List.range' c (e - c))[i]? = some (c + i) := by
        rw [List.getElem?_range' (by omega)]; simp
      rw [this]
      simp only [Option.map_some, g2 i hi]
      rw [List.getElem?_eq_getElem hi]
      rfl
    · rw [List.getElem?_eq_none (by omega), List.getElem?_eq_none (by simp; omega)]
      rfl)
  obtain ⟨fr1, st1, ws1, h1, h8⟩ := exV_app lE hx'
  obtain ⟨fr2, st2, ws2, h2', h9⟩ := exV_app als h8
  have h2 := exV_ops _ h2'
  have h3 := exV_ops _ h9
  have hx1 := exV_ops _ h1
  clear h h8 h9 h2' h1 hx'
  have hmemE : ∀ y ∈ lE, y ∈ l := fun y hy => by
    have : some y ∈ lE.map some := List.mem_map_of_mem hy
    rw [← m1] at this
    obtain ⟨j, hj, hj2⟩ := List.mem_map.1 this
    have hjc : j < c := by simpa using (List.mem_filter.1 hj).2
    rw [g1 j hjc] at hj2
    exact List.mem_of_getElem? hj2
  -- places that nobody asks for
  have hsl : ∀ d ∈ dstsOf als, ∀ y ∈ lE, d ∉ y.slots ∧ y.dst ≠ some d := fun d hd y hy => by
    obtain ⟨q, hq, e1⟩ := mem_dstsOf.1 hd
    obtain ⟨s1, s2, s3⟩ := slotsApart_spec (hap y (hmemE y hy) q hq)
    exact ⟨s3 d e1, fun e2 => s2 d e2 e1⟩
  have hx2 := exOps_anyAll (dstsOf als) hsl hx1
  have h2a : exOps O als (anyAll (dstsOf als) fr1) st1 = some (fr2, st2) := by rw [als_anyAll als hal _ fun _ h => h]; exact h2
  have hAl : ∀ j d ty z, c ≤ j → j < e → alAt xs j d ty z → als[j - c]? = some ⟨some d, .alloc ty z, none⟩ := fun j d ty z h4 h5 h6 => by
    have := g2 (j - c) (by omega)
    rw [show c + (j - c) = j by omega] at this
    rw [← this]; exact h6
  obtain ⟨E1, a1, w1, bl, S1, F1, d1, X1, r1, P1, I1⟩ := merge H hops b k cs w.heap.size c e L2
    (fun j h4 h5 => by
      have hlt : j - c < als.length := by omega
      obtain ⟨d, ty, z, hq⟩ := hal als[j - c] (List.getElem_mem hlt)
      refine ⟨d, ty, z, ?_⟩
      have := g2 (j - c) hlt
      rw [show c + (j - c) = j by omega, List.getElem?_eq_getElem hlt, hq] at this
      exact this)
    (fun j d ty z h4 h5 h6 i y hi hy => by
      rw [g1 i hi] at hy
      obtain ⟨s1, s2, s3⟩ := slotsApart_spec (hap y (List.mem_of_getElem? hy) _ (List.mem_of_getElem? (hAl j d ty z h4 h5 h6)))
      exact fun e2 => s2 d e2 rfl)
    (fun j j' d d' ty ty' z z' h4 h5 h6 h7 hne ha hb => by
      have ha' := hAl j d ty z h4 h5 ha
      have hb' := hAl j' d' ty' z' h6 h7 hb
      rcases Nat.lt_or_ge j j' with hlt | hge
      · obtain ⟨s1, s2, s3⟩ := slotsApart_spec (apartAll_get hdd (j - c) (j' - c) _ _ (by omega) ha' hb')
        exact fun e2 => s2 d rfl (by rw [e2])
      · obtain ⟨s1, s2, s3⟩ := slotsApart_spec (apartAll_get hdd (j' - c) (j - c) _ _ (by omega) hb' ha')
        exact fun e2 => s2 d' rfl (by rw [e2]))
    L1 lE (fun _ => False) (fun _ => 0) hn1 (fun j hj => ⟨hL1 j hj, id⟩) (fun _ h => h.elim) m1 hx2
    (fun j d ty z h4 h5 h6 => slot_anyAll _ (.inl (mem_dstsOf.2 ⟨_, List.mem_of_getElem? (hAl j d ty z h4 h5 h6), rfl⟩)))
    hr S (rep_anyAll _ F) (fun _ h => h.elim) (fun _ _ h => h.elim) (Nat.le_refl _)
  have inM : ∀ i, i < als.length → (False ∨ (c + i ∈ L1 ∧ c ≤ c + i)) := fun i hi => .inr ⟨hals1 _ (by omega) (by omega), by omega⟩
  obtain ⟨E2, S2, F2, q3, q4, q5, q6⟩ := adopt_all (P := P) (T := T) (O := O) (N0 := w.heap.size) bl als c (fun i y hy => ⟨hal y (List.mem_of_getElem? hy), by rw [g2 i (lt_of_get hy)]; exact hy⟩) h2a S1 F1
    (fun i hi => P1 _ (inM i hi)) (fun i i' hi hi' hne => I1 _ _ (inM i hi) (inM i' hi') (by omega))
  have kl := exOps_keep H.keep lE hx2 hr
  have ka := exOps_keep H.keep als h2a (by rw [kl.1.ro]; exact Nat.le_trans hr kl.1.len)
  have X2 : Ext E st.objs.length w E2 st2.objs.length w1 := ⟨Nat.le_trans X1.n_le q3, fun r hr' => (q4 r (Nat.lt_of_lt_of_le hr' X1.n_le)).trans (X1.L r hr'), fun b hb => q5 b (X1.F b hb), fun b hb => q6 b (X1.G b hb) (S.fro b (.inr hb)),
    X1.mem, X1.os, X1.tape, X1.output, X1.size⟩
  obtain ⟨E3, a3, w3, S3, F3, d3, X3, r3⟩ := list_sound H hops b k cs L2 rest' m4 h3 (by rw [ka.1.ro, kl.1.ro]; exact Nat.le_trans hr (Nat.le_trans kl.1.len ka.1.len)) S2 F2
  exact ⟨E3, a3, w3, S3, F3, d3.trans d1, X2.trans X3, r1.trans r3⟩

end
end Go.Proofs.Ytgabnhmjlhhojaa.A
