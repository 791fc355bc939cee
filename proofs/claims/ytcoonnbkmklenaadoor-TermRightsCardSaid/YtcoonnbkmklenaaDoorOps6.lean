/- Indexes, parts of slices, builtins, literals. -/
import Derived.Test.YtcoonnbkmklenaaDoorOps5
namespace Go.Proofs.YtcoonnbkmklenaaDoor.A
open Go

section
variable {P : Program} {T : Tab} {E E' : Env} {st st' : St} {w w' : World} {n : Nat}
variable {o : Oper} {a : Act} {fr : List AV} {v : AV} {O : Orc}

theorem inB_get {i : Int} {n : Nat} (h : inB i n = true) : 0 ≤ i ∧ i < n ∧ i.toNat < n := by
  simp only [inB, Bool.and_eq_true, decide_eq_true_eq] at h
  omega

theorem run_idx {t e sz : Nat} (ht : P.underlying t = some (.slice e)) (hs : sizeB P e sz = true) {k : IntKind} {i : Int} {len cp : Nat} (h0 : 0 ≤ i) (h1 : i < len) (b o' : Nat) :
    (Instr.indexAt t (.slice (some ⟨b, o', none⟩) len cp) (.int k i)).run P w = .ok (.pointer (some ⟨b, o' + i.toNat * sz, none⟩)) w := by
  simp [Instr.indexAt, asIntOf, run_underlying ht, h0, h1, run_sizeOf hs, Addr.add_lit]

theorem drop_get {α : Type} {l : List α} {d j : Nat} {x : α} (h : (l.drop d)[j]? = some x) : l[d + j]? = some x := by simpa using h

theorem s_idxA (S : Sim P T E st w) (F : RepL E st.objs.length w fr a.tmps.toList) {sz : Nat} {x i : Opd} (hc : chkOp P o.op (.idxA sz x i) = true) (h : exOp O fr st (.idxA sz x i) = some (v, st')) : Goes P T E st w o a v st' := by
  obtain ⟨dst, op, ty', pos, after, guard⟩ := o
  cases op <;> simp only [chkOp, Bool.false_eq_true] at hc
  rename_i t y j
  simp only [Bool.and_eq_true] at hc
  obtain ⟨⟨h1, h2⟩, h3⟩ := hc
  split at h3
  · rename_i e he
    simp only [Bool.and_eq_true, decide_eq_true_eq] at h3
    obtain ⟨h4, h5⟩ := h3
    obtain ⟨hi, rfl⟩ := opt_get h
    have r1 := ev_rep S.glob F h1
    have r2 := ev_rep S.glob F h2
    generalize ev fr x = u at hi r1
    generalize hz : a.eval y = z at r1
    have gen : ∀ (es : List (List AV)) (k : IntKind) (iv : Int) (b o' len cp : Nat) (c : Nat → Nat → Value) (ax : Option Addr), ev fr i = .int k iv → inB iv es.length = true → z = .slice ax len cp → len = es.length →
        (∀ e ∈ es, e.length = sz) → (es = [] ∨ (ax = some ⟨b, o', none⟩ ∧ E.F b)) →
        (∀ i j, i < es.length → j < sz → w.cell? ⟨b, o' + i * sz + j, none⟩ = some (c i j) ∧ (c i j).oneCell' = true) →
        (∀ i e j x, es[i]? = some e → e[j]? = some x → Rep E st'.objs.length w x (c i j)) → v = .vptr (es.getD iv.toNat []) →
        Goes P T E st' w ⟨dst, .indexAddr t y j, ty', pos, after, guard⟩ a v st' := by
      intro es k iv b o' len cp c ax e1 hin hzz hlen hes ha hcc hh hv
      obtain ⟨b1, b2, b3⟩ := inB_get hin
      rw [e1] at r2
      obtain ⟨rfl, hF⟩ := ha.resolve_left (by rintro rfl; simp at b3)
      subst hzz hlen hv
      refine Goes.quiet S (cv := .pointer (some ⟨b, o' + iv.toNat * sz, none⟩)) (by simp [execOp, hz, rep_int r2, run_idx he h4 b1 b2]) (.vptr b _ (c iv.toNat) hF (fun q hq => ?_) fun q x hx => ?_)
      · have hel : (es.getD iv.toNat []).length = sz := by simp only [List.getD, List.getElem?_eq_getElem b3, Option.getD_some]; exact hes _ (List.getElem_mem b3)
        exact hcc iv.toNat q b3 (by omega)
      · exact hh iv.toNat es[iv.toNat] q x (by simp [b3]) (by simpa [List.getD, b3] using hx)
    cases hx : ev fr i with
    | int k iv =>
      rw [hx] at hi
      cases r1
      all_goals try (simp only [idxA, reduceCtorEq] at hi; done)
      case sl s es ax len cp b o' c hl hcp hs ha hcc hh =>
        simp only [idxA] at hi
        split at hi
        · rename_i hcond
          obtain ⟨hin, rfl⟩ := hcond
          exact gen es k iv b o' len cp c ax hx hin rfl hl hs ha hcc hh (Option.some.inj hi).symm
        · cases hi
      case fsl s es ax len cp b o' c hl hcp hs ha hcc hh =>
        simp only [idxA] at hi
        split at hi
        · rename_i hcond
          obtain ⟨hin, rfl⟩ := hcond
          exact gen es k iv b o' len cp c ax hx hin rfl hl hs ha hcc hh (Option.some.inj hi).symm
        · cases hi
      case own r lo m cp full ax hr hm q1 q2 ha =>
        simp only [idxA] at hi
        split at hi
        · rename_i ty s es hr'
          split at hi
          · rename_i hcond
            obtain ⟨hin, rfl, hle⟩ := hcond
            obtain rfl := (Option.some.inj hi).symm
            obtain ⟨b1, b2, b3⟩ := inB_get hin
            rw [hx] at r2
            obtain rfl := ha.resolve_left (by omega)
            have hsz := (S.obj r _ (arr_get hr')).1
            exact Goes.quiet S (cv := .pointer (some ⟨(E.L r).blk, lo * (E.L r).sz + iv.toNat * s, none⟩)) (by simp [execOp, hz, rep_int r2, run_idx he h4 b1 b2])
              (.ptr (lo + iv.toNat) 0 _ hr (by rw [hsz, Nat.add_mul]; rfl))
          · cases hi
        · cases hi
    | _ => rw [hx] at hi; cases u <;> simp [idxA] at hi
  · cases h3

theorem run_idxArr {t e m sz : Nat} (ht : P.underlying t = some (.array m e)) (hs : sizeB P e sz = true) {k : IntKind} {i : Int} (h0 : 0 ≤ i) (h1 : i < m) (b o' : Nat) :
    (Instr.indexAt t (.pointer (some ⟨b, o', none⟩)) (.int k i)).run P w = .ok (.pointer (some ⟨b, o' + i.toNat * sz, none⟩)) w := by
  simp [Instr.indexAt, asIntOf, run_underlying ht, Instr.sureAddr, h0, h1, run_sizeOf hs, Addr.add_lit]

theorem s_idxArrA (S : Sim P T E st w) (F : RepL E st.objs.length w fr a.tmps.toList) {m sz : Nat} {x i : Opd} (hc : chkOp P o.op (.idxArrA m sz x i) = true) (h : exOp O fr st (.idxArrA m sz x i) = some (v, st')) : Goes P T E st w o a v st' := by
  obtain ⟨dst, op, ty', pos, after, guard⟩ := o
  cases op <;> simp only [chkOp, Bool.false_eq_true] at hc
  rename_i t y j
  simp only [Bool.and_eq_true] at hc
  obtain ⟨⟨h1, h2⟩, h3⟩ := hc
  split at h3
  · rename_i m' e he
    simp only [Bool.and_eq_true, decide_eq_true_eq, beq_iff_eq] at h3
    obtain ⟨⟨rfl, h4⟩, h5⟩ := h3
    obtain ⟨hi, rfl⟩ := opt_get h
    have r1 := ev_rep S.glob F h1
    have r2 := ev_rep S.glob F h2
    generalize ev fr x = u at hi r1
    generalize hz : a.eval y = z at r1
    cases hx : ev fr i with
    | int k iv =>
      rw [hx] at hi r2
      cases r1
      all_goals try (simp only [idxArrA, reduceCtorEq] at hi; done)
      case ptr r i' off o' hr ho =>
        simp only [idxArrA] at hi
        split at hi
        · rename_i hin
          obtain ⟨b1, b2, b3⟩ := inB_get hin
          obtain rfl := (Option.some.inj hi).symm
          exact Goes.quiet S (cv := .pointer (some ⟨(E.L r).blk, o' + iv.toNat * sz, none⟩)) (by simp [execOp, hz, rep_int r2, run_idxArr he h4 b1 b2]) (.ptr i' _ _ hr (by omega))
        · cases hi
      case vptr cs b o' c hF hcc hh =>
        simp only [idxArrA] at hi
        split at hi
        · rename_i hin
          obtain ⟨b1, b2, b3⟩ := inB_get hin
          obtain rfl := (Option.some.inj hi).symm
          refine Goes.quiet S (cv := .pointer (some ⟨b, o' + iv.toNat * sz, none⟩)) (by simp [execOp, hz, rep_int r2, run_idxArr he h4 b1 b2]) (.vptr b _ (fun q => c (iv.toNat * sz + q)) hF (fun q hq => ?_) fun q x hx => hh _ x (drop_get hx))
          have := hcc (iv.toNat * sz + q) (by simp at hq; omega)
          rwa [← Nat.add_assoc] at this
        · cases hi
    | _ => rw [hx] at hi; cases u <;> simp [idxArrA] at hi
  · cases h3

theorem s_idxS (S : Sim P T E st w) (F : RepL E st.objs.length w fr a.tmps.toList) {x i : Opd} (hc : chkOp P o.op (.idxS x i) = true) (h : exOp O fr st (.idxS x i) = some (v, st')) : Goes P T E st w o a v st' := by
  obtain ⟨dst, op, ty', pos, after, guard⟩ := o
  cases op <;> simp only [chkOp, Bool.false_eq_true] at hc
  rename_i t y j
  simp only [Bool.and_eq_true] at hc
  obtain ⟨⟨h1, h2⟩, h3⟩ := hc
  have ht : P.underlying t = some .string := by
    split at h3
    · assumption
    · cases h3
  have r1 := ev_rep S.glob F h1
  have r2 := ev_rep S.glob F h2
  simp only [exOp] at h
  split at h
  · rename_i s k iv e1 e2
    rw [e1] at r1; rw [e2] at r2
    split at h
    · rename_i hin
      obtain ⟨b1, b2, b3⟩ := inB_get hin
      simp only [Option.some.injEq, Prod.mk.injEq] at h
      obtain ⟨rfl, rfl⟩ := h
      have hg : s[iv.toNat]? = some (s.data.toList.getD iv.toNat 0) := by
        have b4 : iv.toNat < s.data.size := b3
        simp only [List.getD, Array.getElem?_toList, Array.getElem?_eq_getElem b4, Option.getD_some]
        exact getElem?_pos s iv.toNat b3
      exact Goes.quiet S (cv := .int .u8 (s.data.toList.getD iv.toNat 0).toNat) (by simp [execOp, rep_str r1, rep_int r2, Instr.index, asIntOf, run_underlying ht, b1, hg]) (.int _ _)
    · cases h
  · cases h

theorem natB_run {oo : Option AV} {d lo hi r : Nat} (h : natB oo d lo hi = some r) : (oo = none ∧ r = d) ∨ ∃ k i, oo = some (.int k i) ∧ (lo : Int) ≤ i ∧ i ≤ hi ∧ r = i.toNat := by
  unfold natB at h
  split at h
  · exact .inl ⟨rfl, (Option.some.inj h).symm⟩
  · split at h
    · rename_i hc; exact .inr ⟨_, _, rfl, hc.1, hc.2, (Option.some.inj h).symm⟩
    · cases h
  · cases h

theorem bound_run {k : IntKind} {i : Int} {y : Nat} {code : BoundsCode} (h0 : 0 ≤ i) (h1 : i ≤ y) : (Instr.sliceBound (.int k i) y code).run P w = .ok i.toNat w := by
  simp [Instr.sliceBound, asIntOf, h0, h1]

theorem opdO_rep (G : GlobOk E w) (F : RepL E n w fr a.tmps.toList) {x : Option Opd} {y : Option Operand} (h : opdO x y = true) :
    (x = none ∧ y = none) ∨ ∃ x' y', x = some x' ∧ y = some y' ∧ Rep E n w (ev fr x') (a.eval y') := by
  unfold opdO at h
  split at h
  · exact .inl ⟨rfl, rfl⟩
  · exact .inr ⟨_, _, rfl, rfl, ev_rep G F h⟩
  · cases h

/-- the bounds of a slice expression -/
theorem bounds_run (isSl : Bool) (G : GlobOk E w) (F : RepL E n w fr a.tmps.toList) {lo hi mx : Option Opd} {lo' hi' mx' : Option Operand} (h1 : opdO lo lo' = true) (h2 : opdO hi hi' = true) (h3 : opdO mx mx' = true) (h4 : mx'.isNone = true ∨ hi'.isSome = true)
    {len cap l h : Nat} (hle : len ≤ cap) (eh : natB (hi.map (ev fr)) len 0 len = some h) (el : natB (lo.map (ev fr)) 0 0 h = some l) :
    h ≤ len ∧ l ≤ h ∧ (mx = none → (Instr.sliceBounds isSl len cap (lo'.map a.eval) (hi'.map a.eval) (mx'.map a.eval)).run P w = .ok (l, h, cap) w) ∧
      (∀ k (m : Int) x, mx = some x → ev fr x = .int k m → m = h → (Instr.sliceBounds isSl len cap (lo'.map a.eval) (hi'.map a.eval) (mx'.map a.eval)).run P w = .ok (l, h, h) w) := by
  have hh : h ≤ len := by
    rcases natB_run eh with ⟨_, rfl⟩ | ⟨k, i, _, i0, i1, rfl⟩ <;> omega
  have hl : l ≤ h := by
    rcases natB_run el with ⟨_, rfl⟩ | ⟨k, i, _, i0, i1, rfl⟩ <;> omega
  have low : ∀ (code : BoundsCode) v, lo'.map a.eval = some v → (Instr.sliceBound v h code).run P w = .ok l w := by
    intro code v hv
    rcases opdO_rep G F h1 with ⟨e1, e2⟩ | ⟨x', y', e1, e2, hr⟩
    · subst e2; simp at hv
    · subst e1 e2
      rcases natB_run el with ⟨e, _⟩ | ⟨k, i, e, i0, i1, rfl⟩
      · simp at e
      · simp at e hv; subst hv; rw [e] at hr
        rw [rep_int hr]
        exact bound_run i0 i1
  have nolow : lo'.map a.eval = none → l = 0 := by
    intro e
    rcases opdO_rep G F h1 with ⟨e1, e2⟩ | ⟨x', y', e1, e2, hr⟩
    · subst e1; simp [natB] at el; omega
    · subst e2; simp at e
  have high : ∀ (code : BoundsCode) (y : Nat), h ≤ y → ∀ v, hi'.map a.eval = some v → (Instr.sliceBound v y code).run P w = .ok h w := by
    intro code y hy v hv
    rcases opdO_rep G F h2 with ⟨e1, e2⟩ | ⟨x', y', e1, e2, hr⟩
    · subst e2; simp at hv
    · subst e1 e2
      rcases natB_run eh with ⟨e, _⟩ | ⟨k, i, e, i0, i1, rfl⟩
      · simp at e
      · simp at e; rw [e] at hr
        simp at hv; subst hv
        rw [rep_int hr]
        exact bound_run i0 (by omega)
  have nohigh : hi'.map a.eval = none → h = len := by
    intro e
    rcases opdO_rep G F h2 with ⟨e1, e2⟩ | ⟨x', y', e1, e2, hr⟩
    · subst e1; simp [natB] at eh; exact eh.symm
    · subst e2; simp at e
  refine ⟨hh, hl, fun hmx => ?_, fun k m x hmx hm hmh => ?_⟩
  · subst hmx
    rcases opdO_rep G F h3 with ⟨_, e2⟩ | ⟨x', y', e1, _⟩
    · subst e2
      unfold Instr.sliceBounds
      cases hhi : hi'.map a.eval with
      | none =>
        have e := nohigh hhi
        subst e
        cases hlo : lo'.map a.eval with
        | none => obtain rfl := nolow hlo; simp
        | some u => simp [low .sliceB u hlo]
      | some v =>
        have hhigh := high (if isSl = true then .sliceAcap else .sliceAlen) cap (by omega) v hhi
        cases hlo : lo'.map a.eval with
        | none => obtain rfl := nolow hlo; simp [hhigh]
        | some u => simp [hhigh, low .sliceB u hlo]
    · cases e1
  · subst hmx
    rcases opdO_rep G F h3 with ⟨e1, _⟩ | ⟨x', y', e1, e2, hr⟩
    · cases e1
    · obtain rfl := Option.some.inj e1
      subst e2
      rw [hm] at hr
      have hhs : hi'.isSome = true := by simpa using h4
      obtain ⟨hv, hhv⟩ := Option.isSome_iff_exists.1 hhs
      subst hhv
      have hhigh := high .slice3B h (Nat.le_refl _) (a.eval hv) rfl
      have hmax : (Instr.sliceBound (a.eval y') cap (if isSl = true then .slice3Acap else .slice3Alen)).run P w = .ok h w := by
        rw [rep_int hr, bound_run (by omega) (by omega), hmh]; rfl
      unfold Instr.sliceBounds
      cases hlo : lo'.map a.eval with
      | none => obtain rfl := nolow hlo; simp [hhigh, hmax]
      | some u => simp [hhigh, hmax, low .slice3C u hlo]

end
end Go.Proofs.YtcoonnbkmklenaaDoor.A
