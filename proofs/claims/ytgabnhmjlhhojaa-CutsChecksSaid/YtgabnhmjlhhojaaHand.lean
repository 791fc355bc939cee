/- Code of the interpreter is the model's. -/
import Derived.Test.YtgabnhmjlhhojaaSchedV
import Derived.RangeFuncRecord
import Derived.Test.YtgabnhmjlhhojaaKeep
namespace Go.Proofs.Ytgabnhmjlhhojaa.A
open Go
set_option linter.unusedSimpArgs false
set_option linter.unusedVariables false

section
variable {P : Program} {T : Tab} {O : Orc} {E : Env} {st st' : St} {w : World}

def Good (P : Program) (T : Tab) (b : Frame) (E : Env) (st : St) (w : World) (a : Act) (items : List Item → List Item) (e : AE) (fr' : List AV) (st' : St) : Prop :=
  ∀ k cs, ∃ E' a' w', Sim P T E' st' w' ∧ RepL E' st'.objs.length w' fr' a'.tmps.toList ∧ DfRel E' st'.df a'.defers ∧ Ext E st.objs.length w E' st'.objs.length w' ∧
    Arr P (lone (on b a (items k)) cs w) b k cs a' w' e

theorem Good.pre {b : Frame} {a : Act} {items items' : List Item → List Item} {e : AE} {fr' : List AV} (h : ∀ k cs, Steps P (lone (on b a (items k)) cs w) (lone (on b a (items' k)) cs w))
    (g : Good P T b E st w a items' e fr' st') : Good P T b E st w a items e fr' st' := by
  intro k cs
  obtain ⟨E', a', w', h1, h2, h3, h4, h5⟩ := g k cs
  exact ⟨E', a', w', h1, h2, h3, h4, .of_steps (h k cs) h5⟩

theorem DfRel.ext {E E' : Env} {n' : Nat} {w w' : World} {df : List Nat} {ds : List Deferred} {st : St} (h : DfRel E df ds) (x : Ext E st.objs.length w E' n' w') (hd : DfOk st) (e : st.df = df) : DfRel E' df ds :=
  h.mono x fun r hr => hd.lt r (by rw [e]; exact hr)

theorem ops_sound (H : SndO P T O) {ops : Array Oper} {xs : List AOp} (hops : ∀ (i : Nat) x, xs[i]? = some x → ∃ o, ops[i]? = some o ∧ chkOper P ops o x = true) (b : Frame) (L : List Nat) (l : List AOp) (hl : L.map (fun (j : Nat) => xs[j]?) = l.map some)
    {fr fr' : List AV} {a : Act} (h : exOps O l fr st = some (fr', st')) (hr : st.ro ≤ st.objs.length) (hd : DfOk st) (S : Sim P T E st w) (F : RepL E st.objs.length w fr a.tmps.toList) (hdf : DfRel E st.df a.defers) :
    Good P T b E st w a (fun k => .inRegion ops L :: k) .norm fr' st' := by
  intro k cs
  obtain ⟨E', a', w', h1, h2, h3, h4, h5⟩ := list_sound H hops b k cs L l hl h hr S F
  have k := exOps_keep H.keep l h hr
  refine ⟨E', a', w', h1, h2, ?_, h4, h5⟩
  rw [h3, k.2.1]
  exact hdf.ext h4 hd rfl

theorem fn_args {n : Nat} {first args captured : List AV} {va vb cargs : Array Value} (hla : first.length = va.size) (hra : ∀ (j : Nat) x v, first[j]? = some x → va[j]? = some v → Rep E n w x v)
    (hlb : captured.length = vb.size) (hrb : ∀ (j : Nat) x v, captured[j]? = some x → vb[j]? = some v → Rep E n w x v) (ha : RepL E n w args cargs.toList) : RepL E n w (first ++ args ++ captured) (va ++ cargs ++ vb).toList := by
  have e1 : first.length = va.toList.length := by simpa using hla
  have e2 := ha.len
  have e0 : cargs.toList.length = cargs.size := Array.length_toList
  refine ⟨by simp [hla, hlb] at *; omega, fun j x u hx hu => ?_⟩
  simp only [Array.toList_append] at hu
  rcases Nat.lt_or_ge j (first ++ args).length with h1 | h1
  · rw [List.getElem?_append_left h1] at hx
    rw [List.getElem?_append_left (by simp at h1 ⊢; omega)] at hu
    rcases Nat.lt_or_ge j first.length with h2 | h2
    · rw [List.getElem?_append_left h2] at hx
      rw [List.getElem?_append_left (by omega)] at hu
      exact hra j x u hx (by simpa using hu)
    · rw [List.getElem?_append_right h2] at hx
      rw [List.getElem?_append_right (by omega), ← e1] at hu
      exact ha.at_ _ x u hx hu
  · rw [List.getElem?_append_right h1] at hx
    rw [List.getElem?_append_right (by simp at h1 ⊢; omega)] at hu
    have e3 : (va.toList ++ cargs.toList).length = (first ++ args).length := by simp at *; omega
    rw [e3] at hu
    exact hrb _ x u hx (by simpa using hu)

/-- a call of a function value that is no loop's body -/
theorem callF_sound (H : SndO P T O) {f v : AV} {args : List AV} (h : callF O f args st = some (v, st')) (hr : st.ro ≤ st.objs.length) (S : Sim P T E st w) {cf : Value} {cargs : Array Value}
    (hf : Rep E st.objs.length w f cf) (ha : RepL E st.objs.length w args cargs.toList) (c : Frame) (cs : List Frame) :
    ∃ E' w' cv g as, Sim P T E' st' w' ∧ Rep E' st'.objs.length w' v cv ∧ Ext E st.objs.length w E' st'.objs.length w' ∧
      (do let d ← Deferred.ofValue cf cargs; invoke d.target d.args : Sem Next).run P w = .ok (.enter g as) w ∧ Then P c cs w cv w' (.enter g as) := by
  cases f <;> simp only [callF, reduceCtorEq] at h
  rename_i fn first captured
  cases fn <;> simp only [reduceCtorEq] at h
  rename_i g
  cases hf with
  | fn hla hra hlb hrb =>
    rename_i va vb
    obtain ⟨E', w', cv, h1, h2, h3, h4, h5⟩ := H.call _ _ _ _ _ h hr E w (va ++ cargs ++ vb) S (fn_args hla hra hlb hrb ha) c cs
    exact ⟨E', w', cv, _, _, h1, h2, h3, by simp only [Deferred.ofValue, Sem.run_bind, Sem.run_pure, Result.andThen_ok, invoke]; exact h4, h5⟩

theorem Sim.objs (S : Sim P T E st w) (h : st'.objs = st.objs) : Sim P T E st' w := by
  refine ⟨?_, ?_, ?_, S.fro, S.glob, S.dis⟩
  · rw [h]; exact S.obj
  · rw [h]; exact S.away
  · rw [h]; exact S.inj

theorem exitTo_block {id : Nat} {k : List Item} : exitTo id (.inBlock id :: k) = some k := by simp [exitTo]
theorem exitTo_block_ne {id j : Nat} {k : List Item} (h : j ≠ id) : exitTo j (.inBlock id :: k) = exitTo j k := by
  simp [exitTo, Ne.symm h]
theorem exitTo_code {j : Nat} {c : Code} {k : List Item} : exitTo j (.code c :: k) = exitTo j k := rfl

theorem code_sound (H : SndO P T O) (HP : OPure T O) (hm : P.follows .mixedOrders = true) (b : Frame) :
    ∀ (c : AC) {code : Code} {rd : Bool} {fr fr' : List AV} {st st' : St} {e : AE} {E : Env} {w : World} {a : Act}, chkC P T code c = true → exC O rd c fr st = some (e, fr', st') → st.ro ≤ st.objs.length → DfOk st →
      Sim P T E st w → RepL E st.objs.length w fr a.tmps.toList → DfRel E st.df a.defers → b.roundOf.isSome = rd → Good P T b E st w a (fun k => .code code :: k) e fr' st'
  | .skip, code, rd, fr, fr', st, st', e, E, w, a, hc, h, hr, hd, S, F, hdf, hb => by
    cases code <;> simp only [chkC, Bool.false_eq_true] at hc
    simp only [exC, Option.some.injEq, Prod.mk.injEq] at h
    obtain ⟨rfl, rfl, rfl⟩ := h
    exact fun k cs => ⟨E, a, w, S, F, hdf, Ext.refl _ _ _, .one st_skip⟩
  | .exit id, code, rd, fr, fr', st, st', e, E, w, a, hc, h, hr, hd, S, F, hdf, hb => by
    cases code <;> simp only [chkC, Bool.false_eq_true, beq_iff_eq] at hc
    subst hc
    simp only [exC, Option.some.injEq, Prod.mk.injEq] at h
    obtain ⟨rfl, rfl, rfl⟩ := h
    exact fun k cs => ⟨E, a, w, S, F, hdf, Ext.refl _ _ _, k, rfl, .refl _ _⟩
  | .ret, code, rd, fr, fr', st, st', e, E, w, a, hc, h, hr, hd, S, F, hdf, hb => by
    cases code <;> simp only [chkC, Bool.false_eq_true] at hc
    simp only [exC, Option.some.injEq, Prod.mk.injEq] at h
    obtain ⟨rfl, rfl, rfl⟩ := h
    exact fun k cs => ⟨E, a, w, S, F, hdf, Ext.refl _ _ _, k, .refl _ _⟩
  | .ops l d, code, rd, fr, fr', st, st', e, E, w, a, hc, h, hr, hd, S, F, hdf, hb => by
    cases code <;> simp only [chkC, Bool.false_eq_true] at hc
    rename_i id ops draw
    simp only [Bool.and_eq_true, beq_iff_eq] at hc
    obtain ⟨⟨rfl, hops⟩, hdr⟩ := hc
    obtain ⟨hlen, hget⟩ := chkOpers_get hops
    rw [Array.length_toList] at hlen
    have hget' : ∀ (i : Nat) x, l[i]? = some x → ∃ o, ops[i]? = some o ∧ chkOper P ops o x = true := fun i x hx => by
      obtain ⟨o, h1, h2⟩ := hget i x hx
      exact ⟨o, by simpa using h1, h2⟩
    cases d with
    | false =>
      simp only [exC] at h
      split at h
      · rename_i fr1 st1 h1
        simp only [Option.some.injEq, Prod.mk.injEq] at h
        obtain ⟨rfl, rfl, rfl⟩ := h
        refine Good.pre (fun k cs => .one st_region) (ops_sound H hget' b (List.range ops.size) l ?_ h1 hr hd S F hdf)
        rw [hlen]
        apply List.ext_getElem?
        intro i
        by_cases hi : i < l.length
        · simp [hi]
        · simp [hi]
      · cases h
    | true =>
      simp only [Bool.not_true, Bool.false_or] at hdr
      simp only [exC] at h
      split at h
      · rename_i fr1 st1 h1
        simp only [Option.some.injEq, Prod.mk.injEq] at h
        obtain ⟨rfl, rfl, rfl⟩ := h
        obtain ⟨l', hl', hx⟩ := draw_ok HP hlen hdr (w.tape w.drawn (.order b.fn id)) h1
        have X : Ext E st.objs.length w E st.objs.length w.drew := Ext.grow S (Nat.le_refl _) (fun _ _ => rfl) rfl rfl rfl
        intro k cs
        obtain ⟨E', a', w', r1, r2, r3, r4, r5⟩ := ops_sound H hget' b _ l' hl' hx hr hd (S.grow (w' := w.drew) (Nat.le_refl _) fun _ _ => rfl) (F.mono X.toMono) hdf k cs
        refine ⟨E', a', w', r1, r2, r3, X.trans r4, .of_steps (.one st_draw) ?_⟩
        rw [hm]
        exact r5
      · cases h
  | .opsW l, code, rd, fr, fr', st, st', e, E, w, a, hc, h, hr, hd, S, F, hdf, hb => by
    cases code <;> simp only [chkC, Bool.false_eq_true] at hc
    rename_i id ops draw
    simp only [Bool.and_eq_true] at hc
    obtain ⟨⟨rfl, hops⟩, hdr⟩ := hc
    obtain ⟨hlen, hget⟩ := chkOpers_get hops
    rw [Array.length_toList] at hlen
    have hget' : ∀ (i : Nat) x, l[i]? = some x → ∃ o, ops[i]? = some o ∧ chkOper P ops o x = true := fun i x hx => by
      obtain ⟨o, h1, h2⟩ := hget i x hx
      exact ⟨o, by simpa using h1, h2⟩
    simp only [exC] at h
    split at h
    · rename_i fr1 st1 h1
      simp only [Option.some.injEq, Prod.mk.injEq] at h
      obtain ⟨rfl, rfl, rfl⟩ := h
      have X : Ext E st.objs.length w E st.objs.length w.drew := Ext.grow S (Nat.le_refl _) (fun _ _ => rfl) rfl rfl rfl
      rcases Bool.or_eq_true_iff.1 hdr with hdr | hdr
      · obtain ⟨l', hl', hx⟩ := drawW_ok HP hlen hdr (w.tape w.drawn (.order b.fn id)) h1
        intro k cs
        obtain ⟨E', a', w', r1, r2, r3, r4, r5⟩ := ops_sound H hget' b _ l' hl' hx hr hd (S.grow (w' := w.drew) (Nat.le_refl _) fun _ _ => rfl) (F.mono X.toMono) hdf k cs
        refine ⟨E', a', w', r1, r2, r3, X.trans r4, .of_steps (.one st_draw) ?_⟩
        rw [hm]
        exact r5
      · intro k cs
        obtain ⟨E', a', w', r1, r2, r3, r4, r5⟩ := drawP_sound H HP hget' hlen hdr (w.tape w.drawn (.order b.fn id)) b k cs h1 hr (S.grow (w' := w.drew) (Nat.le_refl _) fun _ _ => rfl) (F.mono X.toMono)
        have kk := exOps_keep H.keep _ (exW_ops _ h1) hr
        refine ⟨E', a', w', r1, r2, ?_, X.trans r4, .of_steps (.one st_draw) ?_⟩
        · rw [r3, kk.2.1]
          exact hdf.ext (X.trans r4) hd rfl
        · rw [hm]
          exact r5
    · cases h
  | .opsV l, code, rd, fr, fr', st, st', e, E, w, a, hc, h, hr, hd, S, F, hdf, hb => by
    cases code <;> simp only [chkC, Bool.false_eq_true] at hc
    rename_i id ops draw
    simp only [Bool.and_eq_true] at hc
    obtain ⟨⟨rfl, hops⟩, hdr⟩ := hc
    obtain ⟨hlen, hget⟩ := chkOpers_get hops
    rw [Array.length_toList] at hlen
    have hget' : ∀ (i : Nat) x, l[i]? = some x → ∃ o, ops[i]? = some o ∧ chkOper P ops o x = true := fun i x hx => by
      obtain ⟨o, h1, h2⟩ := hget i x hx
      exact ⟨o, by simpa using h1, h2⟩
    simp only [exC] at h
    split at h
    · rename_i fr1 st1 h1
      simp only [Option.some.injEq, Prod.mk.injEq] at h
      obtain ⟨rfl, rfl, rfl⟩ := h
      have X : Ext E st.objs.length w E st.objs.length w.drew := Ext.grow S (Nat.le_refl _) (fun _ _ => rfl) rfl rfl rfl
      intro k cs
      obtain ⟨E', a', w', r1, r2, r3, r4, r5⟩ := drawV_sound H HP hget' hlen hdr (w.tape w.drawn (.order b.fn id)) b k cs h1 hr (S.grow (w' := w.drew) (Nat.le_refl _) fun _ _ => rfl) (F.mono X.toMono)
      have kk := exOps_keep H.keep _ (exV_ops _ h1) hr
      refine ⟨E', a', w', r1, r2, ?_, X.trans r4, .of_steps (.one st_draw) ?_⟩
      · rw [r3, kk.2.1]
        exact hdf.ext (X.trans r4) hd rfl
      · rw [hm]
        exact r5
    · cases h
  | .seq x y, code, rd, fr, fr', st, st', e, E, w, a, hc, h, hr, hd, S, F, hdf, hb => by
    cases code <;> simp only [chkC, Bool.false_eq_true] at hc
    rename_i cx cy
    simp only [Bool.and_eq_true] at hc
    simp only [exC] at h
    split at h
    · rename_i fr1 st1 h1
      have k1 := exC_keep H.keep x h1 hr
      intro k cs
      obtain ⟨E1, a1, w1, S1, F1, D1, X1, r1⟩ := code_sound H HP hm b x hc.1 h1 hr hd S F hdf hb (.code cy :: k) cs
      obtain ⟨E2, a2, w2, S2, F2, D2, X2, r2⟩ := code_sound H HP hm b y hc.2 h (by rw [k1.1.ro]; exact Nat.le_trans hr k1.1.len) (hd.keep k1.1) S1 F1 D1 hb k cs
      exact ⟨E2, a2, w2, S2, F2, D2, X1.trans X2, .of_steps (.head st_seq r1) r2⟩
    · rename_i hn
      intro k cs
      obtain ⟨E1, a1, w1, S1, F1, D1, X1, r1⟩ := code_sound H HP hm b x hc.1 h hr hd S F hdf hb (.code cy :: k) cs
      refine ⟨E1, a1, w1, S1, F1, D1, X1, .of_steps (.one st_seq) ?_⟩
      have := r1
      cases e with
      | norm => exact absurd h (hn _ _)
      | exit id => exact this
      | ret => exact this
  | .cond c x y, code, rd, fr, fr', st, st', e, E, w, a, hc, h, hr, hd, S, F, hdf, hb => by
    cases code <;> simp only [chkC, Bool.false_eq_true] at hc
    rename_i cc cx cy
    simp only [Bool.and_eq_true] at hc
    simp only [exC] at h
    split at h
    · rename_i t ht
      have hev := ev_rep S.glob F hc.1.1
      rw [ht] at hev
      have he := rep_bool hev
      refine Good.pre (fun k cs => .one (st_cond he)) ?_
      cases t with
      | true => exact code_sound H HP hm b x hc.1.2 h hr hd S F hdf hb
      | false => exact code_sound H HP hm b y hc.2 h hr hd S F hdf hb
    · cases h
  | .block id x, code, rd, fr, fr', st, st', e, E, w, a, hc, h, hr, hd, S, F, hdf, hb => by
    cases code <;> simp only [chkC, Bool.false_eq_true] at hc
    rename_i id' cx
    simp only [Bool.and_eq_true, beq_iff_eq] at hc
    obtain ⟨rfl, hc⟩ := hc
    simp only [exC] at h
    refine Good.pre (items' := fun k => .code cx :: .inBlock id' :: k) (fun k cs => .one st_block) ?_
    split at h
    · rename_i j fr1 st1 h1
      have G1 := code_sound H HP hm b x hc h1 hr hd S F hdf hb
      split at h
      · rename_i hj
        subst hj
        simp only [Option.some.injEq, Prod.mk.injEq] at h
        obtain ⟨rfl, rfl, rfl⟩ := h
        intro k cs
        obtain ⟨E1, a1, w1, S1, F1, D1, X1, r1⟩ := G1 (.inBlock j :: k) cs
        refine ⟨E1, a1, w1, S1, F1, D1, X1, ?_⟩
        obtain ⟨t, ht, hs⟩ := r1
        rw [exitTo_block] at ht
        exact hs.trans (.one (st_exit ht))
      · rename_i hj
        simp only [Option.some.injEq, Prod.mk.injEq] at h
        obtain ⟨rfl, rfl, rfl⟩ := h
        intro k cs
        obtain ⟨E1, a1, w1, S1, F1, D1, X1, r1⟩ := G1 (.inBlock id' :: k) cs
        refine ⟨E1, a1, w1, S1, F1, D1, X1, ?_⟩
        obtain ⟨t, ht, hs⟩ := r1
        exact ⟨t, ht.trans (exitTo_block_ne hj), hs⟩
    · rename_i hn
      intro k cs
      obtain ⟨E1, a1, w1, S1, F1, D1, X1, r1⟩ := code_sound H HP hm b x hc h hr hd S F hdf hb (.inBlock id' :: k) cs
      refine ⟨E1, a1, w1, S1, F1, D1, X1, ?_⟩
      have := r1
      cases e with
      | norm => exact Steps.trans this (.one st_inBlock)
      | exit j => exact absurd h (hn _ _ _)
      | ret => exact this
  | .loop x, code, rd, fr, fr', st, st', e, E, w, a, hc, h, hr, hd, S, F, hdf, hb => by
    cases code <;> simp only [chkC, Bool.false_eq_true] at hc
    rename_i cx
    simp only [exC] at h
    refine Good.pre (items' := fun k => .code cx :: .inLoop cx :: k) (fun k cs => .one st_loop) ?_
    exact H.loop _ _ _ _ _ _ _ h hr hd cx E w a b hc S F hdf hb
  | .range f ps asg body, code, rd, fr, fr', st, st', e, E, w, a, hc, h, hr, hd, S, F, hdf, hb => by
    cases code <;> simp only [chkC, Bool.false_eq_true] at hc
    rename_i cf cps ca cb
    simp only [Bool.and_eq_true, beq_iff_eq] at hc
    obtain ⟨⟨⟨hf, rfl⟩, hca⟩, hcb⟩ := hc
    simp only [exC] at h
    cases rd with
    | true => simp at h
    | false =>
      simp only [Bool.false_eq_true, if_false] at h
      have hro : b.roundOf = none := by cases hx : b.roundOf <;> rw [hx] at hb <;> simp at hb <;> rfl
      split at h
      case h_2 => cases h
      rename_i v s hv
      split at h
      case h_2 => cases h
      rename_i s0 p fr1 ps1 asg1 body1 hl
      obtain ⟨hs0, rfl, rfl, rfl⟩ : s0 ≠ .busy ∧ e = p.getD .norm ∧ fr = fr' ∧ st' = s.set (st.objs.length + 1) (.loop .exhausted p fr1 ps1 asg1 body1) := by
        cases s0 <;> simp at h <;> exact ⟨by simp, h.1.symm, h.2.1, h.2.2.symm⟩
      intro k cs
      -- the loop is laid
      have n1 : (st.push .dfr).objs.length = st.objs.length + 1 := by simp [St.push]
      have S1 : Sim P T (updL E st.objs.length ⟨w.heap.size, 0, 0⟩) (st.push .dfr) (w.alloc (.deferred (some []))) :=
        S.push _ _ (by simp) (fun q hq => heap_alloc_old w _ q hq) (fun _ => Nat.le_refl _) (heap_alloc_new w _)
      have X1 := Ext.push (w' := w.alloc (.deferred (some []))) ⟨w.heap.size, 0, 0⟩ S (by simp) (fun q hq => heap_alloc_old w _ q hq) rfl rfl rfl
      generalize hE1 : updL E st.objs.length ⟨w.heap.size, 0, 0⟩ = E1 at S1 X1
      generalize hw1 : w.alloc (.deferred (some [])) = w1 at S1 X1
      have hs1 : w1.heap.size = w.heap.size + 1 := by rw [← hw1]; simp
      have hlp : ObjRep P T (updL E1 (st.push .dfr).objs.length ⟨w1.heap.size, 0, 0⟩) ((st.push .dfr).objs.length + 1) (w1.alloc (.loop { state := .ready, pending := none, fn := b.fn, tmps := a.tmps, params := cps, assign := ca, body := cb, defers := w.heap.size }))
          (.loop .ready none fr cps.toList asg body) ⟨w1.heap.size, 0, 0⟩ := by
        refine ⟨_, heap_alloc_new w1 _, rfl, trivial, rfl, hca, hcb, ?_⟩
        refine (F.mono X1.toMono).mono ?_
        exact ⟨fun r hr => ⟨by omega, updL_lt (by omega)⟩, fun _ hF => hF, fun q hF => heap_alloc_old w1 _ q (S1.fro q (.inl hF))⟩
      have S2 := S1.push _ _ (by simp) (fun q hq => heap_alloc_old w1 _ q hq) (fun _ => Nat.le_refl _) hlp
      have X2 := Ext.push (w' := w1.alloc (.loop { state := .ready, pending := none, fn := b.fn, tmps := a.tmps, params := cps, assign := ca, body := cb, defers := w.heap.size })) ⟨w1.heap.size, 0, 0⟩ S1 (by simp) (fun q hq => heap_alloc_old w1 _ q hq) rfl rfl rfl
      have hLn1 : ((updL E1 (st.push .dfr).objs.length ⟨w1.heap.size, 0, 0⟩).L (st.objs.length + 1)).blk = w.heap.size + 1 := by
        rw [show st.objs.length + 1 = (st.push .dfr).objs.length from n1.symm, updL_eq, hs1]
      have hLn : ((updL E1 (st.push .dfr).objs.length ⟨w1.heap.size, 0, 0⟩).L st.objs.length).blk = w.heap.size := by
        rw [updL_lt (by omega), ← hE1, updL_eq]
      generalize updL E1 (st.push .dfr).objs.length ⟨w1.heap.size, 0, 0⟩ = E2 at S2 X2 hLn1 hLn
      have hrun1 := run_enterLoop_outer (P := P) (w := w) b.fn a.tmps cps ca cb
      rw [hw1] at hrun1
      generalize w1.alloc (.loop { state := .ready, pending := none, fn := b.fn, tmps := a.tmps, params := cps, assign := ca, body := cb, defers := w.heap.size }) = w2 at S2 X2 hrun1
      have X12 := X1.trans (by rw [← n1]; exact X2)
      -- the function is called
      have ho : ({ st with objs := st.objs ++ [Obj.dfr, Obj.loop .ready none fr cps.toList asg body], df := st.objs.length :: st.df } : St).objs = ((st.push .dfr).push (.loop .ready none fr cps.toList asg body)).objs := by simp [St.push]
      have hn2 : ({ st with objs := st.objs ++ [Obj.dfr, Obj.loop .ready none fr cps.toList asg body], df := st.objs.length :: st.df } : St).objs.length = (st.push .dfr).objs.length + 1 := by simp [St.push]
      have S2' := S2.objs ho
      have k3 := callF_keep H.keep hv (by rw [hn2, n1]; exact Nat.le_trans hr (by omega))
      obtain ⟨E3, w3, cv, g, as, S3, R3, X3, run3, th3⟩ := callF_sound H hv (by rw [hn2, n1]; exact Nat.le_trans hr (by omega)) S2' (cargs := #[.func (.yield (w.heap.size + 1)) #[] #[]])
        (by rw [hn2]; exact ev_rep S2'.glob (F.mono X12.toMono) hf)
        (by
          rw [hn2, n1]
          refine ⟨rfl, fun j x u hx hu => ?_⟩
          cases j with
          | zero =>
            simp at hx hu
            subst hx hu
            rw [← hLn1]
            exact .yld (by omega)
          | succ j => simp at hx)
        (on b ⟨a.tmps, [{ target := .collected w.heap.size, args := #[] }] ++ a.defers⟩ (.inRangeFunc (w.heap.size + 1) :: k)) cs
      rw [hn2] at X3
      have X13 := X12.trans X3
      have hL3 : ((E3.L (st.objs.length + 1)).blk) = w.heap.size + 1 := by rw [X3.L _ (by omega)]; exact hLn1
      have hL3' : ((E3.L st.objs.length).blk) = w.heap.size := by rw [X3.L _ (by omega)]; exact hLn
      obtain ⟨lp, hlp1, hlp2, hlp3, hlp4, hlp5, hlp6, hlp7⟩ := S3.obj _ _ hl
      have hend := run_endLoop (P := P) hlp1 (by rw [hlp2]; exact hs0)
      have hlt : (E3.L (st.objs.length + 1)).blk < w3.heap.size := (S3.obj _ _ hl).lt trivial
      have hbo : ∀ q, q ≠ (E3.L (st.objs.length + 1)).blk → (w3.putObj (E3.L (st.objs.length + 1)).blk (.loop { lp with state := .exhausted })).heap[q]? = w3.heap[q]? := fun q hq => World.putObj_heap_other hq
      have m4 : Ext E3 s.objs.length w3 E3 s.objs.length (w3.putObj (E3.L (st.objs.length + 1)).blk (.loop { lp with state := .exhausted })) :=
        Ext.set S3 hl trivial (by simp) hbo rfl rfl rfl
      have S4 := S3.set (w' := w3.putObj (E3.L (st.objs.length + 1)).blk (.loop { lp with state := .exhausted })) (st.objs.length + 1) _ (.loop .exhausted p fr1 ps1 asg1 body1) hl trivial (by simp) hbo (.inl trivial)
        ⟨_, World.putObj_heap_same hlt, rfl, hlp3, hlp4, hlp5, hlp6, hlp7.mono m4.toMono⟩
      have X14 := X13.trans m4
      have hlen4 : (s.set (st.objs.length + 1) (.loop .exhausted p fr1 ps1 asg1 body1)).objs.length = s.objs.length := by simp [St.set]
      refine ⟨E3, ⟨a.tmps, [{ target := .collected w.heap.size, args := #[] }] ++ a.defers⟩, _, S4, by rw [hlen4]; exact F.mono X14.toMono, ?_, by rw [hlen4]; exact X14, ?_⟩
      · have : (s.set (st.objs.length + 1) (.loop .exhausted p fr1 ps1 asg1 body1)).df = st.objs.length :: st.df := by simp only [St.set]; exact k3.2
        rw [this]
        simp only [DfRel, List.map_cons, hL3', List.singleton_append]
        rw [hdf.ext X14 hd rfl]
      · rw [hL3] at hend
        have s1 : step P (lone (on b a (.code (.rangeFunc cf cps ca cb) :: k)) cs w) = .next (lone (Frame.enter P g as .normal) (on b ⟨a.tmps, [{ target := .collected w.heap.size, args := #[] }] ++ a.defers⟩ (.inRangeFunc (w.heap.size + 1) :: k) :: cs) w2) :=
          st_range hro hrun1 (by simpa [resolve, Act.eval] using run3)
        obtain ⟨fr2, t1, t2⟩ := th3
        have s2 := st_ret (cs := cs) (c := on b ⟨a.tmps, [{ target := .collected w.heap.size, args := #[] }] ++ a.defers⟩ (.inRangeFunc (w.heap.size + 1) :: k)) t2
        have s3 := st_endRange (cs := cs) (b := b) (a := ⟨a.tmps, [{ target := .collected w.heap.size, args := #[] }] ++ a.defers⟩) (k := k) hend
        have all := Steps.head s1 (t1.trans (.head s2 (.one s3)))
        rw [hL3]
        refine .of_steps all ?_
        cases p with
        | none =>
          cases hp : lp.pending with
          | some _ => rw [hp] at hlp3; exact hlp3.elim
          | none => exact .refl _ _
        | some pe =>
          cases hp : lp.pending with
          | none => rw [hp] at hlp3; cases pe <;> exact hlp3.elim
          | some pc =>
            rw [hp] at hlp3
            cases pe with
            | norm => exact hlp3.elim
            | exit i =>
              cases pc <;> simp only [pend] at hlp3
              subst hlp3
              exact ⟨k, rfl, .refl _ _⟩
            | ret =>
              cases pc <;> simp only [pend] at hlp3
              exact ⟨k, .refl _ _⟩

end
end Go.Proofs.Ytgabnhmjlhhojaa.A

/- What is handed out of a call that leaves the store alone. -/
namespace Go.Proofs.Ytgabnhmjlhhojaa.A
open Go

section
variable {P : Program} {T : Tab} {O : Orc} {E E' : Env} {st st' : St} {w w' : World}

theorem mapO_spec {α β : Type} {f : α → Option β} : ∀ {l : List α} {l' : List β}, mapO f l = some l' → l'.length = l.length ∧ ∀ (j : Nat) y, l'[j]? = some y → ∃ x, l[j]? = some x ∧ f x = some y
  | [], l', h => by simp [mapO] at h; subst h; simp
  | x :: l, l', h => by
    simp only [mapO] at h
    split at h
    · rename_i y hy
      split at h
      · rename_i ys hys
        obtain rfl := Option.some.inj h
        obtain ⟨h1, h2⟩ := mapO_spec hys
        refine ⟨by simp [h1], fun j z hz => ?_⟩
        cases j with
        | zero => simp at hz; subst hz; exact ⟨x, rfl, hy⟩
        | succ j => obtain ⟨u, a1, a2⟩ := h2 j z (by simpa using hz); exact ⟨u, by simpa using a1, a2⟩
      · cases h
    · cases h

/-- the blocks of what is new -/
def newBlk (E : Env) (n : Nat) (objs : List Obj) (b : Nat) : Prop := ∃ r o, n ≤ r ∧ objs[r]? = some o ∧ live o (E.L r) ∧ b = (E.L r).blk

theorem cell_get {b o : Nat} {cur : Array Value} {ty : TypeId} {fz : Nat × Nat} {v : Value} (h : w.heap[b]? = some (.cells cur ty fz)) (hv : cur[o]? = some v) : w.cell? ⟨b, o, none⟩ = some v := by
  simp [World.cell?, h, hv]

theorem deep_rep {n : Nat} (S : Sim P T E st w) (hn : n ≤ st.objs.length) : ∀ (k : Nat) {v v' : AV} {cv : Value}, deep k n st.objs v = some v' → Rep E st.objs.length w v cv → Rep (addF E (newBlk E n st.objs)) n w v' cv
  | 0, v, v', cv, h, R => by simp [deep] at h
  | k + 1, v, v', cv, h, R => by
    have shr : ∀ {x : AV} {u : Value}, Rep E st.objs.length w x u → x.lt n → Rep (addF E (newBlk E n st.objs)) n w x u :=
      fun hx hlt => Rep.shrink (E := E) (E' := addF E (newBlk E n st.objs)) (n := st.objs.length) (w := w) (fun _ _ => rfl) (fun _ hF => .inl hF) (fun _ _ => rfl) hx hlt
    have flt : (if v.flat = true then some v else none) = some v' → Rep (addF E (newBlk E n st.objs)) n w v' cv := by
      intro hh
      split at hh
      · obtain rfl := Option.some.inj hh
        exact shr R (AV.flat_lt n ‹_›)
      · cases hh
    cases v with
    | own r lo m full =>
      simp only [deep] at h
      split at h
      · cases h
      · rename_i hlt
        split at h
        · rename_i ty sz es ho
          split at h
          · rename_i hc
            split at h
            · rename_i es' hes
              obtain rfl := Option.some.inj h
              obtain ⟨l1, l2⟩ := mapO_spec hes
              cases R with
              | own hr hm h1 h2 ha =>
                rename_i cp a
                have hob := S.obj r _ ho
                obtain ⟨q1, q2, q3, q4, q5, q6⟩ := hob
                have hlen : es'.length = m := by rw [l1]; simp; omega
                by_cases hm0 : m = 0
                · have : es' = [] := List.eq_nil_of_length_eq_zero (by omega)
                  subst this
                  subst hm0
                  exact .sl 0 0 (fun _ _ => undef) (by simp) hm (by simp) (.inl (by simp)) (by simp) (by simp)
                · have hcap : (E.L r).cap ≠ 0 := by omega
                  obtain ⟨cur, hcur, hsz, hget⟩ := q6.resolve_left hcap
                  have ha' := ha.resolve_left (by omega)
                  have hidx : ∀ i e, ((es.drop lo).take m)[i]? = some e → es[lo + i]? = some e := by
                    intro i e he
                    rw [List.getElem?_take] at he
                    split at he
                    · rw [List.getElem?_drop] at he; exact he
                    · cases he
                  have hoff : ∀ i j, lo * (E.L r).sz + i * sz + j = (lo + i) * sz + j := by intro i j; rw [q1, Nat.add_mul]
                  refine .sl (E.L r).blk (lo * (E.L r).sz) (fun i j => cur.getD ((lo + i) * sz + j) undef) hlen.symm hm (fun e he => ?_) (.inr ⟨ha', .inr ⟨r, _, by omega, ho, hcap, rfl⟩⟩) (fun i j hi hj => ?_) fun i e j x he hx => ?_
                  · obtain ⟨i, hi⟩ := List.getElem?_of_mem he
                    obtain ⟨e0, a1, a2⟩ := l2 i e hi
                    rw [(mapO_spec a2).1]
                    exact q5 e0 (List.mem_of_getElem? (hidx i e0 a1))
                  · obtain ⟨e, he⟩ : ∃ e, es'[i]? = some e := ⟨_, List.getElem?_eq_getElem hi⟩
                    obtain ⟨e0, a1, a2⟩ := l2 i e he
                    have he' := hidx i e0 a1
                    have hel := q5 e0 (List.mem_of_getElem? he')
                    obtain ⟨u, hu, h1, _⟩ := hget (lo + i) e0 j _ he' (by rw [List.getElem?_eq_getElem (show j < e0.length by omega)])
                    rw [hoff]
                    have hu' : cur.getD ((lo + i) * sz + j) undef = u := by simp [Array.getD_eq_getD_getElem?, hu]
                    rw [hu']
                    exact ⟨cell_get hcur hu, h1⟩
                  · obtain ⟨e0, a1, a2⟩ := l2 i e he
                    obtain ⟨x0, b1, b2⟩ := (mapO_spec a2).2 j x hx
                    obtain ⟨u, hu, h1, hrep⟩ := hget (lo + i) e0 j _ (hidx i e0 a1) b1
                    have hu' : cur.getD ((lo + i) * sz + j) undef = u := by simp [Array.getD_eq_getD_getElem?, hu]
                    simp only [hu']
                    exact deep_rep S hn k b2 hrep
            · cases h
          · cases h
        · cases h
    | fsl sz es =>
      simp only [deep] at h
      split at h
      · rename_i hf
        obtain rfl := Option.some.inj h
        have R' := shr R (ltLL_iff.2 fun i e j x he hx => AV.flat_lt n (flatLL_iff.1 hf i e j x he hx))
        cases R' with
        | fsl b o c hl hcp hs ha hc h => exact .sl b o c hl (by omega) hs ha hc h
      · cases h
    | _ => exact flt h

theorem hand0_rep {n : Nat} (S : Sim P T E st w) (hn : n ≤ st.objs.length) {v v' : AV} {cv : Value} (h : hand0 n st.objs v = some v') (R : Rep E st.objs.length w v cv) : Rep (addF E (newBlk E n st.objs)) n w v' cv := by
  have shr : ∀ {x : AV} {u : Value}, Rep E st.objs.length w x u → x.lt n → Rep (addF E (newBlk E n st.objs)) n w x u :=
    fun hx hlt => Rep.shrink (E := E) (E' := addF E (newBlk E n st.objs)) (n := st.objs.length) (w := w) (fun _ _ => rfl) (fun _ hF => .inl hF) (fun _ _ => rfl) hx hlt
  have flt : (if v.flat = true then some v else none) = some v' → Rep (addF E (newBlk E n st.objs)) n w v' cv := by
    intro hh
    split at hh
    · obtain rfl := Option.some.inj hh
      exact shr R (AV.flat_lt n ‹_›)
    · cases hh
  cases v with
  | ptr r i off =>
    simp only [hand0] at h
    split at h
    · obtain rfl := Option.some.inj h
      exact shr R ‹_›
    · rename_i hlt
      split at h
      · rename_i ty sz es ho
        split at h
        · rename_i e he
          split at h
          · rename_i hfl
            obtain rfl := Option.some.inj h
            cases R with
            | ptr _ _ o hr hoff =>
              have hob := S.obj r _ ho
              obtain ⟨q1, q2, q3, q4, q5, q6⟩ := hob
              have hi := lt_of_get he
              have hcap : (E.L r).cap ≠ 0 := by omega
              obtain ⟨cur, hcur, hsz, hget⟩ := q6.resolve_left hcap
              have hel : e.length = sz := q5 e (List.mem_of_getElem? he)
              refine .vptr (E.L r).blk o (fun j => cur.getD (o + j) undef) (.inr ⟨r, _, by omega, ho, hcap, rfl⟩) (fun j hj => ?_) fun j x hx => ?_
              · have hj' : off + j < e.length := by simp at hj; omega
                obtain ⟨u, hu, h1, _⟩ := hget i e (off + j) _ he (by rw [List.getElem?_eq_getElem hj'])
                have e1 : o + j = i * sz + (off + j) := by rw [hoff, q1]; omega
                rw [e1] at *
                have hu' : cur.getD (i * sz + (off + j)) undef = u := by simp [Array.getD_eq_getD_getElem?, hu]
                rw [hu']
                exact ⟨cell_get hcur hu, h1⟩
              · have hx' : e[off + j]? = some x := by simpa [List.getElem?_drop] using hx
                obtain ⟨u, hu, h1, hrep⟩ := hget i e (off + j) _ he hx'
                have e1 : o + j = i * sz + (off + j) := by rw [hoff, q1]; omega
                have hu' : cur.getD (o + j) undef = u := by rw [e1]; simp [Array.getD_eq_getD_getElem?, hu]
                rw [hu']
                exact shr hrep (AV.flat_lt n (flatL_iff.1 hfl _ _ hx'))
          · cases h
        · cases h
      · cases h
  | own r lo m full =>
    simp only [hand0] at h
    split at h
    · obtain rfl := Option.some.inj h
      exact shr R ‹_›
    · rename_i hlt
      split at h
      · rename_i ty sz es ho
        split at h
        · rename_i hc
          obtain rfl := Option.some.inj h
          cases R with
          | own hr hm h1 h2 ha =>
            rename_i cp a
            have hob := S.obj r _ ho
            obtain ⟨q1, q2, q3, q4, q5, q6⟩ := hob
            have hlen : ((es.drop lo).take m).length = m := by simp; omega
            by_cases hm0 : m = 0
            · subst hm0
              exact .sl 0 0 (fun _ _ => undef) (by simp) hm (by simp) (.inl (by simp)) (by simp) (by simp)
            · have hcap : (E.L r).cap ≠ 0 := by omega
              obtain ⟨cur, hcur, hsz, hget⟩ := q6.resolve_left hcap
              have ha' := ha.resolve_left (by omega)
              have hidx : ∀ i e, ((es.drop lo).take m)[i]? = some e → es[lo + i]? = some e := by
                intro i e he
                rw [List.getElem?_take] at he
                split at he
                · rw [List.getElem?_drop] at he; exact he
                · cases he
              have hoff : ∀ i j, lo * (E.L r).sz + i * sz + j = (lo + i) * sz + j := by intro i j; rw [q1, Nat.add_mul]
              refine .sl (E.L r).blk (lo * (E.L r).sz) (fun i j => cur.getD ((lo + i) * sz + j) undef) hlen.symm hm (fun e he => ?_) (.inr ⟨ha', .inr ⟨r, _, by omega, ho, hcap, rfl⟩⟩) (fun i j hi hj => ?_) fun i e j x he hx => ?_
              · exact q5 e (List.mem_of_mem_drop (List.mem_of_mem_take he))
              · obtain ⟨e, he⟩ : ∃ e, ((es.drop lo).take m)[i]? = some e := ⟨_, List.getElem?_eq_getElem hi⟩
                have he' := hidx i e he
                have hel := q5 e (List.mem_of_getElem? he')
                obtain ⟨u, hu, h1, _⟩ := hget (lo + i) e j _ he' (by rw [List.getElem?_eq_getElem (show j < e.length by omega)])
                rw [hoff]
                have hu' : cur.getD ((lo + i) * sz + j) undef = u := by simp [Array.getD_eq_getD_getElem?, hu]
                rw [hu']
                exact ⟨cell_get hcur hu, h1⟩
              · obtain ⟨u, hu, h1, hrep⟩ := hget (lo + i) e j _ (hidx i e he) hx
                have hu' : cur.getD ((lo + i) * sz + j) undef = u := by simp [Array.getD_eq_getD_getElem?, hu]
                simp only [hu']
                exact shr hrep (AV.flat_lt n (flatLL_iff.1 hc.2 _ _ _ _ (hidx i e he) hx))
        · exact deep_rep S hn _ h R
      · cases h
  | fsl sz es =>
    simp only [hand0] at h
    split at h
    · rename_i hf
      obtain rfl := Option.some.inj h
      have R' := shr R (ltLL_iff.2 fun i e j x he hx => AV.flat_lt n (flatLL_iff.1 hf i e j x he hx))
      cases R' with
      | fsl b o c hl hcp hs ha hc h => exact .sl b o c hl (by omega) hs ha hc h
    · cases h
  | yld r =>
    simp only [hand0] at h
    split at h
    · obtain rfl := Option.some.inj h
      exact shr R ‹_›
    · cases h
  | mref r =>
    simp only [hand0] at h
    split at h
    · obtain rfl := Option.some.inj h
      exact shr R ‹_›
    · cases h
  | _ => exact flt h

theorem hand1_rep {n : Nat} (S : Sim P T E st w) (hn : n ≤ st.objs.length) {v v' : AV} {cv : Value} (h : hand1 n st.objs v = some v') (R : Rep E st.objs.length w v cv) : Rep (addF E (newBlk E n st.objs)) n w v' cv := by
  cases v with
  | agg cs =>
    simp only [hand1] at h
    split at h
    · rename_i cs' hm
      obtain rfl := Option.some.inj h
      obtain ⟨h1, h2⟩ := mapO_spec hm
      cases R with
      | agg hl hr =>
        refine .agg (by omega) fun j x u hx hu => ?_
        obtain ⟨y, hy, hh⟩ := h2 j x hx
        exact hand0_rep S hn hh (hr j y u hy hu)
    · cases h
  | fn f a b =>
    simp only [hand1] at h
    split at h
    · rename_i a' hma
      split at h
      · rename_i b' hmb
        obtain rfl := Option.some.inj h
        obtain ⟨h1, h2⟩ := mapO_spec hma
        obtain ⟨h3, h4⟩ := mapO_spec hmb
        cases R with
        | fn hla hra hlb hrb =>
          refine .fn (by omega) (fun j x u hx hu => ?_) (by omega) (fun j x u hx hu => ?_)
          · obtain ⟨y, hy, hh⟩ := h2 j x hx
            exact hand0_rep S hn hh (hra j y u hy hu)
          · obtain ⟨y, hy, hh⟩ := h4 j x hx
            exact hand0_rep S hn hh (hrb j y u hy hu)
      · cases h
    · cases h
  | _ => simp only [hand1] at h; exact hand0_rep S hn h R

theorem hand_rep {n : Nat} (S : Sim P T E st w) (hn : n ≤ st.objs.length) {v v' : AV} {cv : Value} (h : hand n st.objs v = some v') (R : Rep E st.objs.length w v cv) : Rep (addF E (newBlk E n st.objs)) n w v' cv := by
  cases v with
  | tup cs =>
    simp only [hand] at h
    split at h
    · rename_i cs' hm
      obtain rfl := Option.some.inj h
      obtain ⟨h1, h2⟩ := mapO_spec hm
      cases R with
      | tup hl hr =>
        refine .tup (by omega) fun j x u hx hu => ?_
        obtain ⟨y, hy, hh⟩ := h2 j x hx
        exact hand1_rep S hn hh (hr j y u hy hu)
    · cases h
  | _ => simp only [hand] at h; exact hand1_rep S hn h R

end
end Go.Proofs.Ytgabnhmjlhhojaa.A
