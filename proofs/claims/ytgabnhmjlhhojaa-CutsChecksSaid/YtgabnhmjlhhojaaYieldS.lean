/- Functions, rounds and loops of the interpreter are the model's. -/
import Derived.Test.YtgabnhmjlhhojaaHand
namespace Go.Proofs.Ytgabnhmjlhhojaa.A
open Go

section
variable {P : Program} {T : Tab} {O : Orc} {E E' : Env} {st st' : St} {w w' : World}

/-- the deferred calls' blocks, one after another: none holds a call -/
theorem unwind_sound : ∀ (df : List Nat) {st : St} {w : World}, df.Nodup → (∀ r ∈ df, st.objs[r]? = some Obj.dfr) → Sim P T E st w →
    ∃ w', Sim P T E { st with objs := killAll df st.objs } w' ∧ Ext E st.objs.length w E st.objs.length w' ∧
      ∀ (fr : Frame) cs, fr.mode = .returning → DfRel E df fr.defers → Steps P (lone fr cs w) (lone { fr with defers := [] } cs w')
  | [], st, w, _, _, S => ⟨w, S, Ext.refl _ _ _, fun fr cs hm hd => by
      have : fr.defers = [] := hd
      rw [← this]
      exact .refl _ _⟩
  | r :: df, st, w, hn, hr, S => by
    have h0 := hr r (List.mem_cons_self ..)
    have hb : w.heap[(E.L r).blk]? = some (.deferred (some [])) := S.obj r _ h0
    have hlt : (E.L r).blk < w.heap.size := (S.obj r _ h0).lt trivial
    have hbo : ∀ q, q ≠ (E.L r).blk → (w.putObj (E.L r).blk (.deferred none)).heap[q]? = w.heap[q]? := fun q hq => World.putObj_heap_other hq
    have S1 := S.set (w' := w.putObj (E.L r).blk (.deferred none)) r _ .dead h0 trivial (by simp) hbo (.inr rfl) trivial
    have X1 : Ext E st.objs.length w E st.objs.length (w.putObj (E.L r).blk (.deferred none)) := Ext.set S h0 trivial (by simp) hbo rfl rfl rfl
    have hn' := List.nodup_cons.1 hn
    obtain ⟨w', S2, X2, r2⟩ := unwind_sound df (st := st.set r .dead) hn'.2 (fun q hq => by
      have : r ≠ q := by rintro rfl; exact hn'.1 hq
      simp only [St.set, List.getElem?_set_ne this]
      exact hr q (List.mem_cons_of_mem _ hq)) S1
    have hl : (st.set r .dead).objs.length = st.objs.length := by simp [St.set]
    rw [hl] at X2
    refine ⟨w', S2, X1.trans X2, fun fr cs hm hd => ?_⟩
    have hd' : fr.defers = { target := .collected (E.L r).blk, args := #[] } :: df.map fun r => ({ target := .collected (E.L r).blk, args := #[] } : Deferred) := hd
    have s1 := st_unwind (P := P) (cs := cs) (fr := fr) hm hd' (run_takeDeferred hb)
    exact .head s1 (r2 { fr with defers := [] ++ df.map fun r => ({ target := .collected (E.L r).blk, args := #[] } : Deferred) } cs hm rfl)

theorem run_cell {agg : Bool} {t sz : Nat} {p x : AV} {pv : Value} (S : Sim P T E st w) (hl : ld st agg sz p = some x) (hp : Rep E st.objs.length w p pv)
    (hs : sizeB P t sz = true) (ha : isAggB P t agg = true) (h1 : agg = true ∨ sz = 1) : ∃ v, (do loadVar t (← asAddr pv) : Sem Value).run P w = .ok v w ∧ Rep E st.objs.length w x v := by
  obtain ⟨v, r1, r2⟩ := run_load S hl hp hs ha h1
  refine ⟨v, ?_, r2⟩
  have hp' : ∃ q, pv = .pointer (some q) := by
    cases p <;> simp only [ld, reduceCtorEq] at hl
    · cases hp; exact ⟨_, rfl⟩
    · cases hp; exact ⟨_, rfl⟩
  obtain ⟨q, rfl⟩ := hp'
  rw [← r1]
  simp [Instr.loadAt, Instr.sureAddr, asAddr]

theorem res_list (S : Sim P T E st w) {fr : List AV} {a : Act} (F : RepL E st.objs.length w fr a.tmps.toList) : ∀ (rs : List ResultVar) (xs : List ARes) (vs : List AV), chkRes P rs xs = true → resOf st fr xs = some vs →
    ∃ cvs : List Value, (rs.mapM (m := Sem) fun | .tmp t => pure (a.tmps.getD t undef) | .cell q t => do loadVar t (← asAddr (a.tmps.getD q undef))).run P w = .ok cvs w ∧ RepL E st.objs.length w vs cvs
  | [], [], vs, _, h => by
    simp only [resOf, Option.some.injEq] at h
    subst h
    exact ⟨[], by simp, rfl, by simp⟩
  | [], _ :: _, _, hc, _ => by simp [chkRes] at hc
  | _ :: _, [], _, hc, _ => by simp [chkRes] at hc
  | r :: rs, x :: xs, vs, hc, h => by
    cases r <;> cases x <;> simp only [chkRes, Bool.false_eq_true] at hc
    case tmp.tmp t t' =>
      simp only [Bool.and_eq_true, beq_iff_eq] at hc
      obtain ⟨rfl, hc⟩ := hc
      simp only [resOf] at h
      split at h
      · rename_i us hus
        obtain rfl := Option.some.inj h
        obtain ⟨cvs, r1, r2⟩ := res_list S F rs xs us hc hus
        refine ⟨a.tmps.getD t undef :: cvs, ?_, by simp [r2.len], fun j y u hy hu => ?_⟩
        · rw [List.mapM_cons]
          simp only [Sem.run_bind, Sem.run_pure, Result.andThen_ok, r1]
        · cases j with
          | zero => simp only [List.getElem?_cons_zero, Option.some.injEq] at hy hu; subst hy hu; exact slot_rep F t
          | succ j => exact r2.at_ j y u (by simpa using hy) (by simpa using hu)
      · cases h
    case cell.cell q t q' agg sz =>
      simp only [Bool.and_eq_true, beq_iff_eq, Bool.or_eq_true, decide_eq_true_eq] at hc
      obtain ⟨⟨⟨⟨⟨rfl, h1⟩, h2⟩, h3⟩, h4⟩, hc⟩ := hc
      simp only [resOf] at h
      split at h
      · rename_i v hv
        split at h
        · rename_i us hus
          obtain rfl := Option.some.inj h
          obtain ⟨cv, c1, c2⟩ := run_cell S hv (slot_rep F q) h1 h2 h4
          obtain ⟨cvs, r1, r2⟩ := res_list S F rs xs us hc hus
          refine ⟨cv :: cvs, ?_, by simp [r2.len], fun j y u hy hu => ?_⟩
          · rw [List.mapM_cons]
            rw [Sem.run_bind]
            dsimp only
            rw [c1]
            simp only [Sem.run_bind, Sem.run_pure, Result.andThen_ok, r1]
          · cases j with
            | zero => simp only [List.getElem?_cons_zero, Option.some.injEq] at hy hu; subst hy hu; exact c2
            | succ j => exact r2.at_ j y u (by simpa using hy) (by simpa using hu)
        · cases h
      · cases h

theorem res_sound (S : Sim P T E st w) {fr : List AV} {a : Act} (F : RepL E st.objs.length w fr a.tmps.toList) {fn : Func} {xs : List ARes} {vs : List AV} (hc : chkRes P fn.results.toList xs = true) (h : resOf st fr xs = some vs) :
    ∃ cv, (results fn a.tmps).run P w = .ok cv w ∧ Rep E st.objs.length w (tupOf vs) cv := by
  obtain ⟨cvs, r1, r2⟩ := res_list S F _ _ _ hc h
  have hrun : (results fn a.tmps).run P w = .ok (if h : cvs.toArray.size = 1 then cvs.toArray[0] else .tuple cvs.toArray) w := by
    unfold results
    rw [Array.mapM_eq_mapM_toList]
    rw [← bind_pure_comp, Sem.run_bind, Sem.run_bind]
    have e : ∀ (f g : ResultVar → Sem Value), f = g → ∀ r, (fn.results.toList.mapM g).run P w = r → (fn.results.toList.mapM f).run P w = r := fun f g q r hr => by rw [q]; exact hr
    rw [e _ _ ?_ _ r1]
    · rfl
    · rfl
  refine ⟨_, hrun, ?_⟩
  have hl := r2.len
  cases vs with
  | nil =>
    have : cvs = [] := by cases cvs <;> simp at hl; rfl
    subst this
    exact .tup rfl (by simp)
  | cons v vs =>
    cases cvs with
    | nil => simp at hl
    | cons c cvs =>
      cases vs with
      | nil =>
        have : cvs = [] := by cases cvs <;> simp at hl; rfl
        subst this
        exact r2.at_ 0 v c rfl rfl
      | cons v2 vs =>
        have : ¬ (c :: cvs).toArray.size = 1 := by simp at hl ⊢; intro e; subst e; simp at hl
        rw [dif_neg this]
        exact .tup (by simpa using hl) fun j x u hx hu => r2.at_ j x u hx (by simpa using hu)

theorem ObjRep.shrink {n n1 : Nat} {E1 : Env} {w2 : World} {p : Nat → Prop} {o : Obj} {l : Lay} (h0 : ObjRep P T E n w o l) (h2 : ObjRep P T E1 n1 w2 o l) : ObjRep P T (addF E1 p) n w2 o l := by
  have shr : ∀ {x : AV} {u u0 : Value}, Rep E1 n1 w2 x u → Rep E n w x u0 → Rep (addF E1 p) n w2 x u :=
    fun hx h0 => Rep.shrink (E := E1) (E' := addF E1 p) (n := n1) (w := w2) (fun _ _ => rfl) (fun _ hF => .inl hF) (fun _ _ => rfl) hx h0.ltn
  cases o with
  | dead => trivial
  | dfr => exact h2
  | arr ty sz es =>
    obtain ⟨q1, q2, q3, q4, q5, q6⟩ := h2
    refine ⟨q1, q2, q3, q4, q5, ?_⟩
    by_cases hc : l.cap = 0
    · exact .inl hc
    · obtain ⟨cur, hcur, hs, hx⟩ := q6.resolve_left hc
      obtain ⟨cur0, _, _, hx0⟩ := h0.2.2.2.2.2.resolve_left hc
      refine .inr ⟨cur, hcur, hs, fun i e j x he hj => ?_⟩
      obtain ⟨v, hv, h1, hr⟩ := hx i e j x he hj
      obtain ⟨v0, _, _, hr0⟩ := hx0 i e j x he hj
      exact ⟨v, hv, h1, shr hr hr0⟩
  | loop s p fr ps asg body =>
    obtain ⟨lp, h1, h2, h3, h4, h5, h6, h7⟩ := h2
    obtain ⟨lp0, _, _, _, _, _, _, k7⟩ := h0
    refine ⟨lp, h1, h2, h3, h4, h5, h6, h7.len, fun j x v hx hv => ?_⟩
    obtain ⟨v0, hv0⟩ : ∃ v0, lp0.tmps.toList[j]? = some v0 := ⟨_, List.getElem?_eq_getElem (by rw [← k7.len]; exact lt_of_get hx)⟩
    exact shr (h7.at_ j x v hx hv) (k7.at_ j x v0 hx hv0)
  | mp es =>
    obtain ⟨ents, clock, h1, h2, h3⟩ := h2
    obtain ⟨ents0, clock0, _, k2, k3⟩ := h0
    refine ⟨ents, clock, h1, h2, fun i e x he hx => ?_⟩
    obtain ⟨x0, hx0⟩ : ∃ x0, ents0[i]? = some x0 := ⟨_, Array.getElem?_eq_getElem (by rw [k2]; exact lt_of_get he)⟩
    obtain ⟨a1, a2⟩ := h3 i e x he hx
    obtain ⟨b1, b2⟩ := k3 i e x0 he hx0
    exact ⟨shr a1 b1, shr a2 b2⟩

/-- back to the store from before a call that left it alone -/
theorem sim_back {E1 : Env} {st2 : St} {w2 : World} (S : Sim P T E st w) (S2 : Sim P T E1 st2 w2) (X : Ext E st.objs.length w E1 st2.objs.length w2) (hlow : ∀ r : Nat, r < st.objs.length → st2.objs[r]? = st.objs[r]?) :
    Sim P T (addF E1 (newBlk E1 st.objs.length st2.objs)) st w2 ∧ Ext E st.objs.length w (addF E1 (newBlk E1 st.objs.length st2.objs)) st.objs.length w2 := by
  refine ⟨⟨fun r o ho => ?_, fun r o ho hl hF => ?_, fun r r' o o' ho ho' hl hl' hne => ?_, fun b hF => ?_, S2.glob.mono (fun _ hF => .inl hF) (fun _ _ => rfl), fun b hF hG => hF.elim (fun hF => S2.dis b hF hG) (fun ⟨r', o', h1, h2, h3, h4⟩ => S2.away r' o' h2 h3 (.inr (h4 ▸ hG)))⟩, ⟨Nat.le_refl _, X.L, fun b hF => .inl (X.F b hF), X.G, X.mem, X.os, X.tape, X.output, X.size⟩⟩
  · have hr := lt_of_get ho
    have h0 := S.obj r o ho
    rw [← X.L r hr] at h0
    exact h0.shrink (S2.obj r o (by rw [hlow r hr]; exact ho))
  · have hr := lt_of_get ho
    have ho2 : st2.objs[r]? = some o := by rw [hlow r hr]; exact ho
    rcases hF with (hF | ⟨r', o', h1, h2, h3, h4⟩) | hG
    · exact S2.away r o ho2 hl (.inl hF)
    rotate_left 1
    · exact S2.away r o ho2 hl (.inr hG)
    · exact S2.inj r r' o o' ho2 h2 hl h3 (by omega) h4
  · exact S2.inj r r' o o' (by rw [hlow r (lt_of_get ho)]; exact ho) (by rw [hlow r' (lt_of_get ho')]; exact ho') hl hl' hne
  · rcases hF with (hF | ⟨r', o', h1, h2, h3, h4⟩) | hG
    · exact S2.fro b (.inl hF)
    rotate_left 1
    · exact S2.fro b (.inr hG)
    · rw [h4]
      exact (S2.obj r' o' h2).lt h3

theorem run_callFunc {f : FuncId} {fn : Func} {F : AF} (hfn : P.funcs[f]? = some fn) (hF : chkF P T fn F = true) (args : Array Value) : (callFunc f args).run P w = .ok (.enter f args) w := by
  simp only [chkF, Bool.and_eq_true, bne_iff_ne] at hF
  obtain ⟨⟨⟨h1, h2⟩, h3⟩, h4⟩ := hF
  cases hb : fn.body with
  | none => rw [hb] at h4; simp at h4
  | some c => simp [callFunc, hfn, h3, hb]

/-- a function -/
theorem fn_sound (H : SndO P T O) (HP : OPure T O) (hm : P.follows .mixedOrders = true) {f : FuncId} {fn : Func} {F : AF} (hfn : P.funcs[f]? = some fn) (hF : chkF P T fn F = true) {args : List AV} {v : AV}
    (h : exFn O F args st = some (v, st')) (hr : st.ro ≤ st.objs.length) {cargs : Array Value} (S : Sim P T E st w) (A : RepL E st.objs.length w args cargs.toList) (cs : List Frame) :
    ∃ E' w' cv, Sim P T E' st' w' ∧ Rep E' st'.objs.length w' v cv ∧ Ext E st.objs.length w E' st'.objs.length w' ∧
      ∃ fr, Steps P (lone (Frame.enter P f cargs .normal) cs w) (lone fr cs w') ∧ fr.fn = f ∧ fr.leaving P w' (.returned cv) := by
  have hF' := hF
  simp only [chkF, Bool.and_eq_true, bne_iff_ne, beq_iff_eq] at hF'
  obtain ⟨⟨⟨hnt, hres⟩, _⟩, hbody⟩ := hF'
  cases hbd : fn.body with
  | none => rw [hbd] at hbody; cases hbody
  | some c =>
  rw [hbd] at hbody
  simp only [] at hbody
  unfold exFn at h
  split at h
  · cases h
  rename_i hle
  have hle : args.length ≤ F.ntmps := by omega
  split at h
  · cases h
  · rename_i e fr1 st1 hne hx
    split at h
    case h_2 => cases h
    rename_i vs hvs
    -- the frame
    have hal : args.length = cargs.size := by have := A.len; simpa using this
    have htmps : (Frame.enter P f cargs .normal).tmps = cargs ++ Array.replicate (F.ntmps - args.length) undef := by simp [Frame.enter, hfn, hnt, hal]
    have F0 : RepL E st.objs.length w (args ++ List.replicate (F.ntmps - args.length) .any) (cargs ++ Array.replicate (F.ntmps - args.length) undef).toList := by
      refine ⟨by simp [hal], fun j x u hx hu => ?_⟩
      simp only [Array.toList_append] at hu
      rcases Nat.lt_or_ge j args.length with hj | hj
      · rw [List.getElem?_append_left hj] at hx
        rw [List.getElem?_append_left (by simpa [← hal] using hj)] at hu
        exact A.at_ j x u hx hu
      · rw [List.getElem?_append_right hj] at hx
        obtain ⟨_, rfl⟩ := List.mem_replicate.1 (List.mem_of_getElem? hx)
        exact .any _
    have hst0 : ({ objs := st.objs, ro := if F.pure then st.objs.length else st.ro, df := [] } : St).ro ≤ st.objs.length := by
      simp only []
      split <;> omega
    have S0 : Sim P T E { objs := st.objs, ro := if F.pure then st.objs.length else st.ro, df := [] } w := S.objs rfl
    have kp := (exC_keep H.keep F.body hx hst0).1
    obtain ⟨l, hl, hln, hl2⟩ := kp.df
    simp only [List.append_nil] at hl
    obtain ⟨E1, a1, w1, S1, F1, D1, X1, r1⟩ := code_sound H HP hm (Frame.enter P f cargs .normal) F.body (a := ⟨cargs ++ Array.replicate (F.ntmps - args.length) undef, []⟩) hbody hx hst0 (by intro r hr; cases hr) S0 F0 rfl (by rfl) [] cs
    obtain ⟨w2, S2, X2, r2⟩ := unwind_sound st1.df (by rw [hl]; exact hln) (fun r hr => (hl2 r (by rw [← hl]; exact hr)).2) S1
    have hk2 : ({ st1 with objs := killAll st1.df st1.objs } : St).objs.length = st1.objs.length := killAll_length _ _
    have X12 := X1.trans X2
    have F2 := F1.mono X2.toMono
    rw [← hk2] at F2
    obtain ⟨cv, q1, q2⟩ := res_sound S2 F2 hres hvs
    -- the way
    have way : ∃ fr, Steps P (lone (Frame.enter P f cargs .normal) cs w) (lone fr cs w2) ∧ fr.fn = f ∧ fr.leaving P w2 (.returned cv) := by
      have e0 : Frame.enter P f cargs .normal = on (Frame.enter P f cargs .normal) ⟨cargs ++ Array.replicate (F.ntmps - args.length) undef, []⟩ [.code c] := by
        simp only [on, ← htmps]
        simp [Frame.enter, hfn, hbd]
      have hfin : ∃ t, Steps P (lone (Frame.enter P f cargs .normal) cs w) (lone { on (Frame.enter P f cargs .normal) a1 t with mode := .returning } cs w1) := by
        have := r1
        rw [← e0] at this
        cases e with
        | norm => exact ⟨[], Steps.trans this (.one (st_return rfl (.inl rfl)))⟩
        | ret =>
          obtain ⟨t, ht⟩ := this
          exact ⟨_, ht.trans (.one (st_return rfl (.inr ⟨t, rfl⟩)))⟩
        | exit id => exact (hne id rfl).elim
      obtain ⟨t, ht⟩ := hfin
      have := r2 { on (Frame.enter P f cargs .normal) a1 t with mode := .returning } cs rfl D1
      exact ⟨_, ht.trans this, rfl, rfl, rfl, rfl, fn, hfn, q1⟩
    split at h
    · rename_i hpure
      split at h
      · rename_i u hu
        obtain ⟨rfl, rfl⟩ := Prod.mk.inj (Option.some.inj h)
        have hlow : ∀ r : Nat, r < st.objs.length → ({ st1 with objs := killAll st1.df st1.objs } : St).objs[r]? = st.objs[r]? := by
          intro r hr
          simp only []
          rw [killAll_get _ _ _ (by rw [hl]; intro hmem; have := (hl2 r hmem).1; simp only [] at this; omega)]
          exact kp.low r (by simp only [hpure, if_true]; exact hr)
        rw [← hk2] at X12
        obtain ⟨S3, X3⟩ := sim_back S S2 X12 hlow
        exact ⟨_, w2, cv, S3, hand_rep S2 (by rw [hk2]; exact kp.len) hu q2, X3, way⟩
      · cases h
    · obtain ⟨rfl, rfl⟩ := Prod.mk.inj (Option.some.inj h)
      refine ⟨E1, w2, cv, S2.objs rfl, q2, ?_, way⟩
      rw [← hk2] at X12
      exact X12
  · cases h

end
end Go.Proofs.Ytgabnhmjlhhojaa.A

/- Rounds and loops of the interpreter are the model's; the limit's calls are. -/
namespace Go.Proofs.Ytgabnhmjlhhojaa.A
open Go

section
variable {P : Program} {T : Tab} {O : Orc} {E E' : Env} {st st' : St} {w w' : World}

theorem bind_list {n : Nat} : ∀ (ps : List Nat) (as : List AV) (cas : List Value) {fr : List AV} {ts : Array Value}, RepL E n w as cas → RepL E n w fr ts.toList →
    RepL E n w (bindP fr ps as) ((ps.zip cas).foldl (fun t (p, v) => t.setIfInBounds p v) ts).toList
  | [], as, cas, fr, ts, _, F => by
    have : bindP fr [] as = fr := by cases as <;> rfl
    rw [this]
    exact F
  | p :: ps, [], cas, fr, ts, A, F => by
    have : cas = [] := by have := A.len; cases cas <;> simp at this; rfl
    subst this
    exact F
  | p :: ps, x :: as, cas, fr, ts, A, F => by
    cases cas with
    | nil => have := A.len; simp at this
    | cons c cas =>
      refine bind_list ps as cas ⟨by have := A.len; simpa using this, fun j x u hx hu => A.at_ (j + 1) x u (by simpa using hx) (by simpa using hu)⟩ ?_
      refine ⟨by simp [F.len], fun j y u hy hu => ?_⟩
      rw [List.getElem?_set] at hy
      simp only [Array.getElem?_toList, Array.getElem?_setIfInBounds] at hu
      by_cases e : p = j
      · subst e
        rw [if_pos rfl] at hy hu
        split at hy
        · split at hu
          · obtain rfl := Option.some.inj hy
            obtain rfl := Option.some.inj hu
            exact A.at_ 0 x c rfl rfl
          · cases hu
        · cases hy
      · rw [if_neg e] at hy hu
        exact F.at_ j y u hy (by simpa using hu)

theorem yield_sound (H : SndO P T O) (HP : OPure T O) (hm : P.follows .mixedOrders = true) {r : Nat} {args : List AV} {v : AV} (h : exYield O r args st = some (v, st')) (hr : st.ro ≤ st.objs.length)
    {cargs : Array Value} (S : Sim P T E st w) (A : RepL E st.objs.length w args cargs.toList) (c : Frame) (cs : List Frame) :
    ∃ E' w' cv nx, Sim P T E' st' w' ∧ Rep E' st'.objs.length w' v cv ∧ Ext E st.objs.length w E' st'.objs.length w' ∧ (Instr.yield (E.L r).blk cargs).run P w = .ok nx w ∧ Then P c cs w cv w' nx := by
  unfold exYield at h
  split at h
  case h_2 => cases h
  rename_i fr ps asg body hob
  split at h
  case isFalse => cases h
  rename_i hc
  split at h
  case h_2 => cases h
  rename_i fr1 st1 h1
  split at h
  case h_2 => cases h
  rename_i fr2 ps2 asg2 body2 hob1
  split at h
  case h_2 => cases h
  rename_i e fr3 st3 h3
  split at h
  case h_2 => cases h
  rename_i fr4 ps4 asg4 body4 hob3
  -- the record
  have hrl := lt_of_get hob
  obtain ⟨lp, l1, l2, l3, l4, l5, l6, l7⟩ := S.obj r _ hob
  have hal : args.length = cargs.size := by have := A.len; simpa using this
  have hps : cargs.size = lp.params.size := by rw [← hal, hc.1, ← l4]; simp
  have hy := run_yield (P := P) l1 hps
  have hz : ((lp.params.zip cargs).foldl (fun tmps (t, a) => tmps.setIfInBounds t a) lp.tmps) = (ps.zip cargs.toList).foldl (fun t (p, v) => t.setIfInBounds p v) lp.tmps := by
    rw [← Array.foldl_toList, Array.toList_zip, l4]
  rw [hz] at hy
  have F0 := bind_list ps args cargs.toList A l7
  generalize (ps.zip cargs.toList).foldl (fun t (p, v) => t.setIfInBounds p v) lp.tmps = tmps0 at hy F0
  generalize hbk : (E.L r).blk = blk at *
  have k1 := exC_keep H.keep _ h1 (by exact hr)
  have hd1 : st1.df = [] := k1.2 rfl
  obtain ⟨E1, a1, w1, S1, F1, D1, X1, r1⟩ := code_sound H HP hm (Frame.round blk lp.fn tmps0 lp.assign lp.body .normal) asg (a := ⟨tmps0, []⟩) l5 h1 (by exact hr) (by intro q hq; cases hq) (S.objs rfl) F0 rfl (by rfl) [.beginRound, .code lp.body] (c :: cs)
  have hb1 : (E1.L r).blk = blk := by rw [X1.L r hrl, hbk]
  -- the round begins
  obtain ⟨lp1, m1, m2, m3, m4, m5, m6, m7⟩ := S1.obj r _ hob1
  rw [hb1] at m1
  have hbeg := run_beginRound (P := P) m1 m2
  have hlt1 : blk < w1.heap.size := by rw [← hb1]; exact (S1.obj r _ hob1).lt trivial
  have hbo1 : ∀ q, q ≠ (E1.L r).blk → (w1.putObj blk (.loop { lp1 with state := .busy })).heap[q]? = w1.heap[q]? := fun q hq => World.putObj_heap_other (by rw [← hb1]; exact hq)
  have X1b : Ext E1 st1.objs.length w1 E1 st1.objs.length (w1.putObj blk (.loop { lp1 with state := .busy })) := Ext.set S1 hob1 trivial (by simp) hbo1 rfl rfl rfl
  have S1b := S1.set (w' := w1.putObj blk (.loop { lp1 with state := .busy })) r _ (.loop .busy none fr2 ps2 asg2 body2) hob1 trivial (by simp) hbo1 (.inl trivial)
    ⟨{ lp1 with state := .busy }, by rw [hb1]; exact World.putObj_heap_same hlt1, rfl, m3, m4, m5, m6, m7.mono X1b.toMono⟩
  have hlen1 : (st1.set r (.loop .busy none fr2 ps2 asg2 body2)).objs.length = st1.objs.length := by simp [St.set]
  have hr1 : (st1.set r (.loop .busy none fr2 ps2 asg2 body2)).ro ≤ (st1.set r (.loop .busy none fr2 ps2 asg2 body2)).objs.length := by
    rw [hlen1]
    have e1 : (st1.set r (.loop .busy none fr2 ps2 asg2 body2)).ro = st.ro := k1.1.ro
    have e2 := k1.1.len
    simp only [] at e2
    omega
  have hdf1 : (st1.set r (.loop .busy none fr2 ps2 asg2 body2)).df = [] := hd1
  -- the body
  obtain ⟨E3, a3, w3, S3, F3, D3, X3, r3⟩ := code_sound H HP hm (Frame.round blk lp.fn tmps0 lp.assign lp.body .normal) body (a := a1) l6 h3 hr1 (by intro q hq; rw [hdf1] at hq; cases hq) S1b (by rw [hlen1]; exact F1.mono X1b.toMono) D1 (by rfl) [] (c :: cs)
  rw [hlen1] at X3
  have hb3 : (E3.L r).blk = blk := by
    rw [X3.L r (by have := k1.1.len; simp only [] at this; omega)]
    exact hb1
  have X13 := X1.trans (X1b.trans X3)
  obtain ⟨lp3, n1, n2, n3, n4, n5, n6, n7⟩ := S3.obj r _ hob3
  rw [hb3] at n1
  have hlt3 : blk < w3.heap.size := by rw [← hb3]; exact (S3.obj r _ hob3).lt trivial
  -- out of the round
  have out : ∀ (jump : Option Code) (p : Option AE), pend p jump → (∃ t, Steps P (lone (on (Frame.round blk lp.fn tmps0 lp.assign lp.body .normal) a1 [.code lp.body]) (c :: cs) (w1.putObj blk (.loop { lp1 with state := .busy }))) (lone (on (Frame.round blk lp.fn tmps0 lp.assign lp.body .normal) a3 t) (c :: cs) w3) ∧
        ((t = [] ∧ jump = none) ∨ (∃ k, t = .code .ret :: k ∧ jump = some .ret) ∨ (∃ id k, t = .code (.exit id) :: k ∧ exitTo id k = none ∧ jump = some (.exit id)))) →
      ∃ E' w', Sim P T E' { st3.set r (.loop (if jump.isNone then .ready else .done) p fr4 ps4 asg4 body4) with df := st.df } w' ∧ Ext E st.objs.length w E' st3.objs.length w' ∧
        Then P c cs w (.bool jump.isNone) w' (.round blk lp.fn tmps0 lp.assign lp.body) := by
    intro jump p hp hgo
    have hend := run_endRound (P := P) jump n1
    have hbo3 : ∀ q, q ≠ (E3.L r).blk → (w3.putObj blk (.loop { lp3 with state := if jump.isNone then .ready else .done, pending := jump })).heap[q]? = w3.heap[q]? := fun q hq => World.putObj_heap_other (by rw [← hb3]; exact hq)
    have X4 : Ext E3 st3.objs.length w3 E3 st3.objs.length (w3.putObj blk (.loop { lp3 with state := if jump.isNone then .ready else .done, pending := jump })) := Ext.set S3 hob3 trivial (by simp) hbo3 rfl rfl rfl
    have S4 := S3.set (w' := w3.putObj blk (.loop { lp3 with state := if jump.isNone then .ready else .done, pending := jump })) r _ (.loop (if jump.isNone then .ready else .done) p fr4 ps4 asg4 body4) hob3 trivial (by simp) hbo3 (.inl trivial)
      ⟨{ lp3 with state := if jump.isNone then .ready else .done, pending := jump }, by rw [hb3]; exact World.putObj_heap_same hlt3, rfl, hp, n4, n5, n6, n7.mono X4.toMono⟩
    refine ⟨E3, _, S4.objs rfl, X13.trans X4, ?_⟩
    have e0 : Frame.round blk lp.fn tmps0 lp.assign lp.body .normal = on (Frame.round blk lp.fn tmps0 lp.assign lp.body .normal) ⟨tmps0, []⟩ [.code lp.assign, .beginRound, .code lp.body] := rfl
    have g1 : Steps P (lone (Frame.round blk lp.fn tmps0 lp.assign lp.body .normal) (c :: cs) w) (lone (on (Frame.round blk lp.fn tmps0 lp.assign lp.body .normal) a1 [.beginRound, .code lp.body]) (c :: cs) w1) := r1
    have g2 := st_begin (cs := c :: cs) (b := Frame.round blk lp.fn tmps0 lp.assign lp.body .normal) (a := a1) (k := [.code lp.body]) rfl hbeg
    obtain ⟨t, g3, ht⟩ := hgo
    exact g1.trans (.head g2 (g3.trans (.one (st_leaveRound rfl rfl hend ht))))
  have hlen4 : ∀ o, ({ st3.set r o with df := st.df } : St).objs.length = st3.objs.length := fun o => by simp [St.set]
  cases e with
  | norm =>
    simp only [Option.some.injEq, Prod.mk.injEq] at h
    obtain ⟨rfl, rfl⟩ := h
    obtain ⟨E', w', q1, q2, q3⟩ := out none none trivial ⟨[], r3, .inl ⟨rfl, rfl⟩⟩
    exact ⟨E', w', _, _, q1, .bool true, by rw [hlen4]; exact q2, hy, q3⟩
  | exit id =>
    simp only [Option.some.injEq, Prod.mk.injEq] at h
    obtain ⟨rfl, rfl⟩ := h
    obtain ⟨E', w', q1, q2, q3⟩ := out (some (.exit id)) (some (.exit id)) rfl (by
      obtain ⟨t, t1, t2⟩ := r3
      exact ⟨_, t2, .inr (.inr ⟨id, t, rfl, t1, rfl⟩)⟩)
    exact ⟨E', w', _, _, q1, .bool false, by rw [hlen4]; exact q2, hy, q3⟩
  | ret =>
    simp only [Option.some.injEq, Prod.mk.injEq] at h
    obtain ⟨rfl, rfl⟩ := h
    obtain ⟨E', w', q1, q2, q3⟩ := out (some .ret) (some .ret) trivial (by
      obtain ⟨t, t2⟩ := r3
      exact ⟨_, t2, .inr (.inl ⟨t, rfl, rfl⟩)⟩)
    exact ⟨E', w', _, _, q1, .bool false, by rw [hlen4]; exact q2, hy, q3⟩

theorem elems_flat {v : AV} (h : v.flat = true) (s t : St) : elems s v = elems t v := by
  cases v <;> first | rfl | simp [AV.flat] at h

theorem clone_flat {ty sz bytes : Nat} {args : List AV} {st st' : St} {v : AV} (hf : AV.stillL args = true) (h : exClone ty sz bytes false args st = some (v, st')) : st' = st ∧ ∀ s, exClone ty sz bytes false args s = some (v, s) := by
  match args with
  | [] => simp [exClone] at h
  | _ :: _ :: _ => simp [exClone] at h
  | [x] =>
    simp only [AV.stillL, Bool.and_true] at hf
    have he : ∀ s, elems s x = elems st x := fun s => by
      cases x with
      | fsl sz es => rfl
      | _ => exact elems_flat (by simpa [AV.still] using hf) s st
    simp only [exClone] at h ⊢
    simp only [he]
    split at h
    · obtain ⟨rfl, rfl⟩ := Prod.mk.inj (Option.some.inj h)
      exact ⟨rfl, fun s => rfl⟩
    · split at h
      · rename_i hc
        simp only [cond_false] at h
        split at h
        · rename_i hfl
          obtain ⟨rfl, rfl⟩ := Prod.mk.inj (Option.some.inj h)
          exact ⟨rfl, fun s => by rw [if_pos hc]; simp only [cond_false]; rw [if_pos hfl]⟩
        · cases h
      · cases h
    · cases h

theorem ext_flat {f : Nat} {args : List AV} {st st' : St} {v : AV} (hp : extP f = true) (hf : AV.stillL args = true) (h : ext f args st = some (v, st')) : st' = st ∧ ∀ s, ext f args s = some (v, s) := by
  unfold extP at hp
  first
    | (cases hp; done)
    | (split at hp
       all_goals first | (cases hp; done) | exact clone_flat hf h)

theorem orc_pure (T : Tab) (hx : ∀ f, extP f = true → T f = none) : ∀ k, OPure T (orc T k)
  | 0 => ⟨by intro f F args st v st' hT hp h; simp [orc] at h, by intro f args st v st' hT hp hf h; simp [orc] at h, hx⟩
  | k + 1 => by
    refine ⟨?_, fun f args st v st' hT hp hf h => by
      simp only [orc, hT] at h ⊢
      exact ext_flat hp hf h, hx⟩
    intro f F args st v st' hT hp h
    simp only [orc, hT] at h
    unfold exFn at h
    split at h
    · cases h
    split at h
    · cases h
    · split at h
      · try rw [hp] at h
        try simp only [if_true] at h
        split at h
        · exact (Prod.mk.inj (Option.some.inj h)).2.symm
        · cases h
      · cases h
    · cases h

/-- what functions outside the table give, the model's give -/
def ExtOk (P : Program) (T : Tab) : Prop := ∀ f args (st : St) v st', T f = none → ext f args st = some (v, st') → st.ro ≤ st.objs.length → ∀ (E : Env) (w : World) (cargs : Array Value), Sim P T E st w → RepL E st.objs.length w args cargs.toList →
  ∀ cs, ∃ E' w' cv, Sim P T E' st' w' ∧ Rep E' st'.objs.length w' v cv ∧ Ext E st.objs.length w E' st'.objs.length w' ∧ (callFunc (rl f) cargs).run P w = .ok (.enter (rl f) cargs) w ∧
    ∃ fr, Steps P (lone (Frame.enter P (rl f) cargs .normal) cs w) (lone fr cs w') ∧ fr.fn = rl f ∧ fr.leaving P w' (.returned cv)

/-- every function of the table is the program's, and what lies outside keeps its contract -/
structure TabOk (P : Program) (T : Tab) : Prop where
  tab : ∀ f F, T f = some F → ∃ fn, P.funcs[rl f]? = some fn ∧ chkF P T fn F = true
  ext : ExtOk P T
  exP : ∀ f, extP f = true → T f = none

theorem orc_sound (hT : TabOk P T) (hm : P.follows .mixedOrders = true) : ∀ k, SndO P T (orc T k)
  | 0 => ⟨orc_keep T 0, fun _ _ _ _ _ h => by simp [orc] at h, fun _ _ _ _ _ h => by simp [orc] at h, fun _ _ _ _ _ _ _ h => by simp [orc] at h⟩
  | k + 1 => by
    have H := orc_sound hT hm k
    have HP := orc_pure T hT.exP k
    refine ⟨orc_keep T (k + 1), fun f args st v st' h hr E w cargs S A c cs => ?_, fun r args st v st' h hr E w cargs S A c cs => ?_, fun rd c fr st e fr' st' h hr hd code E w a b hc S F hdf hb => ?_⟩
    · simp only [orc] at h
      split at h
      · rename_i F hF
        obtain ⟨fn, hfn, hch⟩ := hT.tab f F hF
        obtain ⟨E', w', cv, h1, h2, h3, h4⟩ := fn_sound H HP hm hfn hch h hr S A (c :: cs)
        obtain ⟨fr, a1, _, a2⟩ := h4
        exact ⟨E', w', cv, h1, h2, h3, run_callFunc hfn hch cargs, fr, a1, a2⟩
      · rename_i hF
        obtain ⟨E', w', cv, h1, h2, h3, h4, h5⟩ := hT.ext f args st v st' hF h hr E w cargs S A (c :: cs)
        obtain ⟨fr, a1, _, a2⟩ := h5
        exact ⟨E', w', cv, h1, h2, h3, h4, fr, a1, a2⟩
    · exact yield_sound H HP hm h hr S A c cs
    · simp only [orc] at h
      split at h
      · rename_i fr1 st1 h1
        have k1 := exC_keep H.keep c h1 hr
        intro k' cs
        obtain ⟨E1, a1, w1, S1, F1, D1, X1, r1⟩ := code_sound H HP hm b c hc h1 hr hd S F hdf hb (.inLoop code :: k') cs
        obtain ⟨E2, a2, w2, S2, F2, D2, X2, r2⟩ := H.loop _ _ _ _ _ _ _ h (by rw [k1.1.ro]; exact Nat.le_trans hr k1.1.len) (hd.keep k1.1) code E1 w1 a1 b hc S1 F1 D1 hb k' cs
        exact ⟨E2, a2, w2, S2, F2, D2, X1.trans X2, .of_steps ((r1 : Steps P _ _).trans (.one st_inLoop)) r2⟩
      · rename_i hne
        intro k' cs
        obtain ⟨E1, a1, w1, S1, F1, D1, X1, r1⟩ := code_sound H HP hm b c hc h hr hd S F hdf hb (.inLoop code :: k') cs
        refine ⟨E1, a1, w1, S1, F1, D1, X1, ?_⟩
        have := r1
        cases e with
        | norm => exact absurd h (hne _ _)
        | exit id => exact this
        | ret => exact this

/-- what a call of the limit gives, the model's call gives -/
theorem call_sound (hT : TabOk P T) (hm : P.follows .mixedOrders = true) {f : FuncId} {args : List AV} {v : AV} (h : (D T).call f args st = some (v, st')) (hr : st.ro ≤ st.objs.length) {cargs : Array Value}
    (S : Sim P T E st w) (A : RepL E st.objs.length w args cargs.toList) (cs : List Frame) :
    ∃ E' w' cv, Sim P T E' st' w' ∧ Rep E' st'.objs.length w' v cv ∧ Ext E st.objs.length w E' st'.objs.length w' ∧
      ∃ fr, Steps P (lone (Frame.enter P (rl f) cargs .normal) cs w) (lone fr cs w') ∧ fr.fn = rl f ∧ fr.leaving P w' (.returned cv) := by
  obtain ⟨k, hk⟩ := (lim_some (fun k r => (orc_le T k).call _ _ _ r) _).1 h
  cases k with
  | zero => simp [orc] at hk
  | succ k =>
    simp only [orc] at hk
    split at hk
    · rename_i F hF
      obtain ⟨fn, hfn, hch⟩ := hT.tab f F hF
      exact fn_sound (orc_sound hT hm k) (orc_pure T hT.exP k) hm hfn hch hk hr S A cs
    · rename_i hF
      obtain ⟨E', w', cv, h1, h2, h3, _, h5⟩ := hT.ext f args st v st' hF hk hr E w cargs S A cs
      exact ⟨E', w', cv, h1, h2, h3, h5⟩

end
end Go.Proofs.Ytgabnhmjlhhojaa.A
