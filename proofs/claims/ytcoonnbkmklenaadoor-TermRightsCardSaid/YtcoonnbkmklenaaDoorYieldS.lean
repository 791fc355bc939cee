/- Rounds and loops of the interpreter are the model's; the limit's calls are. -/
import Derived.Test.YtcoonnbkmklenaaDoorFnS
namespace Go.Proofs.YtcoonnbkmklenaaDoor.A
open Go

section
variable {P : Program} {T : Tab} {O : Orc} {E E' : Env} {st st' : St} {w w' : World}

theorem bind_list {n : Nat} : ∀ (ps : List Nat) (as : List AV) (cas : List Value) {fr : List AV} {ts : Array Value}, RepL E n w as cas → RepL E n w fr ts.toList →
    RepL E n w (bindP fr ps as) ((ps.zip cas).foldl (fun t (p, v) => t.setIfInBounds p v) ts).toList
  | [], as, cas, fr, ts, _, F => by
    have : bindP fr [] as = fr := by cases as <;> rfl
    rw [this]
    exact F
  | p :: ps, [], cas, fr, ts, A, F => by
    have : cas = [] := by have := A.len; cases cas <;> simp at this; rfl
    subst this
    exact F
  | p :: ps, x :: as, cas, fr, ts, A, F => by
    cases cas with
    | nil => have := A.len; simp at this
    | cons c cas =>
      refine bind_list ps as cas ⟨by have := A.len; simpa using this, fun j x u hx hu => A.at_ (j + 1) x u (by simpa using hx) (by simpa using hu)⟩ ?_
      refine ⟨by simp [F.len], fun j y u hy hu => ?_⟩
      rw [List.getElem?_set] at hy
      simp only [Array.getElem?_toList, Array.getElem?_setIfInBounds] at hu
      by_cases e : p = j
      · subst e
        rw [if_pos rfl] at hy hu
        split at hy
        · split at hu
          · obtain rfl := Option.some.inj hy
            obtain rfl := Option.some.inj hu
            exact A.at_ 0 x c rfl rfl
          · cases hu
        · cases hy
      · rw [if_neg e] at hy hu
        exact F.at_ j y u hy (by simpa using hu)

theorem yield_sound (H : SndO P T O) (HP : OPure T O) (hm : P.follows .mixedOrders = true) {r : Nat} {args : List AV} {v : AV} (h : exYield O r args st = some (v, st')) (hr : st.ro ≤ st.objs.length)
    {cargs : Array Value} (S : Sim P T E st w) (A : RepL E st.objs.length w args cargs.toList) :
    ∃ E' w' cv nx, Sim P T E' st' w' ∧ Rep E' st'.objs.length w' v cv ∧ Ext E st.objs.length w E' st'.objs.length w' ∧ (Instr.yield (E.L r).blk cargs).run P w = .ok nx w ∧ Then P w cv w' nx := by
  unfold exYield at h
  split at h
  case h_2 => cases h
  rename_i fr ps asg body hob
  split at h
  case isFalse => cases h
  rename_i hc
  split at h
  case h_2 => cases h
  rename_i fr1 st1 h1
  split at h
  case h_2 => cases h
  rename_i fr2 ps2 asg2 body2 hob1
  split at h
  case h_2 => cases h
  rename_i e fr3 st3 h3
  split at h
  case h_2 => cases h
  rename_i fr4 ps4 asg4 body4 hob3
  -- the record
  have hrl := lt_of_get hob
  obtain ⟨lp, l1, l2, l3, l4, l5, l6, l7⟩ := S.obj r _ hob
  have hal : args.length = cargs.size := by have := A.len; simpa using this
  have hps : cargs.size = lp.params.size := by rw [← hal, hc.1, ← l4]; simp
  have hy := run_yield (P := P) l1 hps
  have hz : ((lp.params.zip cargs).foldl (fun tmps (t, a) => tmps.setIfInBounds t a) lp.tmps) = (ps.zip cargs.toList).foldl (fun t (p, v) => t.setIfInBounds p v) lp.tmps := by
    rw [← Array.foldl_toList, Array.toList_zip, l4]
  rw [hz] at hy
  have F0 := bind_list ps args cargs.toList A l7
  generalize (ps.zip cargs.toList).foldl (fun t (p, v) => t.setIfInBounds p v) lp.tmps = tmps0 at hy F0
  generalize hbk : (E.L r).blk = blk at *
  have k1 := exC_keep H.keep _ h1 (by exact hr)
  have hd1 : st1.df = [] := k1.2 rfl
  obtain ⟨E1, a1, w1, S1, F1, D1, X1, r1⟩ := code_sound H HP hm (Frame.round blk lp.fn tmps0 lp.assign lp.body .normal) asg (a := ⟨tmps0, []⟩) l5 h1 (by exact hr) (by intro q hq; cases hq) (S.objs rfl) F0 rfl (by rfl)
  have hb1 : (E1.L r).blk = blk := by rw [X1.L r hrl, hbk]
  -- the round begins
  obtain ⟨lp1, m1, m2, m3, m4, m5, m6, m7⟩ := S1.obj r _ hob1
  rw [hb1] at m1
  have hbeg := run_beginRound (P := P) m1 m2
  have hlt1 : blk < w1.heap.size := by rw [← hb1]; exact (S1.obj r _ hob1).lt trivial
  have hbo1 : ∀ q, q ≠ (E1.L r).blk → (w1.putObj blk (.loop { lp1 with state := .busy })).heap[q]? = w1.heap[q]? := fun q hq => World.putObj_heap_other (by rw [← hb1]; exact hq)
  have X1b : Ext E1 st1.objs.length w1 E1 st1.objs.length (w1.putObj blk (.loop { lp1 with state := .busy })) := Ext.set S1 hob1 trivial (by simp) hbo1 rfl rfl rfl
  have S1b := S1.set (w' := w1.putObj blk (.loop { lp1 with state := .busy })) r _ (.loop .busy none fr2 ps2 asg2 body2) hob1 trivial (by simp) hbo1 (.inl trivial)
    ⟨{ lp1 with state := .busy }, by rw [hb1]; exact World.putObj_heap_same hlt1, rfl, m3, m4, m5, m6, m7.mono X1b.toMono⟩
  have hlen1 : (st1.set r (.loop .busy none fr2 ps2 asg2 body2)).objs.length = st1.objs.length := by simp [St.set]
  have hr1 : (st1.set r (.loop .busy none fr2 ps2 asg2 body2)).ro ≤ (st1.set r (.loop .busy none fr2 ps2 asg2 body2)).objs.length := by
    rw [hlen1]
    have e1 : (st1.set r (.loop .busy none fr2 ps2 asg2 body2)).ro = st.ro := k1.1.ro
    have e2 := k1.1.len
    simp only [] at e2
    omega
  have hdf1 : (st1.set r (.loop .busy none fr2 ps2 asg2 body2)).df = [] := hd1
  -- the body
  obtain ⟨E3, a3, w3, S3, F3, D3, X3, r3⟩ := code_sound H HP hm (Frame.round blk lp.fn tmps0 lp.assign lp.body .normal) body (a := a1) l6 h3 hr1 (by intro q hq; rw [hdf1] at hq; cases hq) S1b (by rw [hlen1]; exact F1.mono X1b.toMono) D1 (by rfl)
  rw [hlen1] at X3
  have hb3 : (E3.L r).blk = blk := by
    rw [X3.L r (by have := k1.1.len; simp only [] at this; omega)]
    exact hb1
  have X13 := X1.trans (X1b.trans X3)
  obtain ⟨lp3, n1, n2, n3, n4, n5, n6, n7⟩ := S3.obj r _ hob3
  rw [hb3] at n1
  have hlt3 : blk < w3.heap.size := by rw [← hb3]; exact (S3.obj r _ hob3).lt trivial
  -- out of the round
  have out : ∀ (jump : Option Code) (p : Option AE), pend p jump → (∀ cs, ∃ t, Steps P (lone (on (Frame.round blk lp.fn tmps0 lp.assign lp.body .normal) a1 [.code lp.body]) cs (w1.putObj blk (.loop { lp1 with state := .busy }))) (lone (on (Frame.round blk lp.fn tmps0 lp.assign lp.body .normal) a3 t) cs w3) ∧
        ((t = [] ∧ jump = none) ∨ (∃ k, t = .code .ret :: k ∧ jump = some .ret) ∨ (∃ id k, t = .code (.exit id) :: k ∧ exitTo id k = none ∧ jump = some (.exit id)))) →
      ∃ E' w', Sim P T E' { st3.set r (.loop (if jump.isNone then .ready else .done) p fr4 ps4 asg4 body4) with df := st.df } w' ∧ Ext E st.objs.length w E' st3.objs.length w' ∧
        Then P w (.bool jump.isNone) w' (.round blk lp.fn tmps0 lp.assign lp.body) := by
    intro jump p hp hgo
    have hend := run_endRound (P := P) jump n1
    have hbo3 : ∀ q, q ≠ (E3.L r).blk → (w3.putObj blk (.loop { lp3 with state := if jump.isNone then .ready else .done, pending := jump })).heap[q]? = w3.heap[q]? := fun q hq => World.putObj_heap_other (by rw [← hb3]; exact hq)
    have X4 : Ext E3 st3.objs.length w3 E3 st3.objs.length (w3.putObj blk (.loop { lp3 with state := if jump.isNone then .ready else .done, pending := jump })) := Ext.set S3 hob3 trivial (by simp) hbo3 rfl rfl rfl
    have S4 := S3.set (w' := w3.putObj blk (.loop { lp3 with state := if jump.isNone then .ready else .done, pending := jump })) r _ (.loop (if jump.isNone then .ready else .done) p fr4 ps4 asg4 body4) hob3 trivial (by simp) hbo3 (.inl trivial)
      ⟨{ lp3 with state := if jump.isNone then .ready else .done, pending := jump }, by rw [hb3]; exact World.putObj_heap_same hlt3, rfl, hp, n4, n5, n6, n7.mono X4.toMono⟩
    refine ⟨E3, _, S4.objs rfl, X13.trans X4, fun c cs => ?_⟩
    have e0 : Frame.round blk lp.fn tmps0 lp.assign lp.body .normal = on (Frame.round blk lp.fn tmps0 lp.assign lp.body .normal) ⟨tmps0, []⟩ [.code lp.assign, .beginRound, .code lp.body] := rfl
    have g1 : Steps P (lone (Frame.round blk lp.fn tmps0 lp.assign lp.body .normal) (c :: cs) w) (lone (on (Frame.round blk lp.fn tmps0 lp.assign lp.body .normal) a1 [.beginRound, .code lp.body]) (c :: cs) w1) := r1 [.beginRound, .code lp.body] (c :: cs)
    have g2 := st_begin (cs := c :: cs) (b := Frame.round blk lp.fn tmps0 lp.assign lp.body .normal) (a := a1) (k := [.code lp.body]) rfl hbeg
    obtain ⟨t, g3, ht⟩ := hgo (c :: cs)
    exact g1.trans (.head g2 (g3.trans (.one (st_leaveRound rfl rfl hend ht))))
  have hlen4 : ∀ o, ({ st3.set r o with df := st.df } : St).objs.length = st3.objs.length := fun o => by simp [St.set]
  cases e with
  | norm =>
    simp only [Option.some.injEq, Prod.mk.injEq] at h
    obtain ⟨rfl, rfl⟩ := h
    obtain ⟨E', w', q1, q2, q3⟩ := out none none trivial (fun cs => ⟨[], r3 [] cs, .inl ⟨rfl, rfl⟩⟩)
    exact ⟨E', w', _, _, q1, .bool true, by rw [hlen4]; exact q2, hy, q3⟩
  | exit id =>
    simp only [Option.some.injEq, Prod.mk.injEq] at h
    obtain ⟨rfl, rfl⟩ := h
    obtain ⟨E', w', q1, q2, q3⟩ := out (some (.exit id)) (some (.exit id)) rfl (fun cs => by
      obtain ⟨t, t1, t2⟩ := r3 [] cs
      exact ⟨_, t2, .inr (.inr ⟨id, t, rfl, t1, rfl⟩)⟩)
    exact ⟨E', w', _, _, q1, .bool false, by rw [hlen4]; exact q2, hy, q3⟩
  | ret =>
    simp only [Option.some.injEq, Prod.mk.injEq] at h
    obtain ⟨rfl, rfl⟩ := h
    obtain ⟨E', w', q1, q2, q3⟩ := out (some .ret) (some .ret) trivial (fun cs => by
      obtain ⟨t, t2⟩ := r3 [] cs
      exact ⟨_, t2, .inr (.inl ⟨t, rfl, rfl⟩)⟩)
    exact ⟨E', w', _, _, q1, .bool false, by rw [hlen4]; exact q2, hy, q3⟩

theorem orc_pure (T : Tab) : ∀ k, OPure T (orc T k)
  | 0 => by intro f F args st v st' hT hp h; simp [orc] at h
  | k + 1 => by
    intro f F args st v st' hT hp h
    simp only [orc, hT] at h
    unfold exFn at h
    split at h
    · cases h
    split at h
    · cases h
    · split at h
      · try rw [hp] at h
        try simp only [if_true] at h
        split at h
        · exact (Prod.mk.inj (Option.some.inj h)).2.symm
        · cases h
      · cases h
    · cases h

/-- every function of the table is the program's -/
def TabOk (P : Program) (T : Tab) : Prop := ∀ f F, T f = some F → ∃ fn, P.funcs[f]? = some fn ∧ chkF P T fn F = true

theorem orc_sound (hT : TabOk P T) (hm : P.follows .mixedOrders = true) : ∀ k, SndO P T (orc T k)
  | 0 => ⟨orc_keep T 0, fun _ _ _ _ _ h => by simp [orc] at h, fun _ _ _ _ _ h => by simp [orc] at h, fun _ _ _ _ _ _ _ h => by simp [orc] at h⟩
  | k + 1 => by
    have H := orc_sound hT hm k
    have HP := orc_pure T k
    refine ⟨orc_keep T (k + 1), fun f args st v st' h hr E w cargs S A => ?_, fun r args st v st' h hr E w cargs S A => ?_, fun rd c fr st e fr' st' h hr hd code E w a b hc S F hdf hb => ?_⟩
    · simp only [orc] at h
      split at h
      · rename_i F hF
        obtain ⟨fn, hfn, hch⟩ := hT f F hF
        obtain ⟨E', w', cv, h1, h2, h3, h4⟩ := fn_sound H HP hm hfn hch h hr S A
        exact ⟨E', w', cv, h1, h2, h3, run_callFunc hfn hch cargs, fun cs => by obtain ⟨fr, a1, _, a2⟩ := h4 cs; exact ⟨fr, a1, a2⟩⟩
      · cases h
    · exact yield_sound H HP hm h hr S A
    · simp only [orc] at h
      split at h
      · rename_i fr1 st1 h1
        have k1 := exC_keep H.keep c h1 hr
        obtain ⟨E1, a1, w1, S1, F1, D1, X1, r1⟩ := code_sound H HP hm b c hc h1 hr hd S F hdf hb
        obtain ⟨E2, a2, w2, S2, F2, D2, X2, r2⟩ := H.loop _ _ _ _ _ _ _ h (by rw [k1.1.ro]; exact Nat.le_trans hr k1.1.len) (hd.keep k1.1) code E1 w1 a1 b hc S1 F1 D1 hb
        refine ⟨E2, a2, w2, S2, F2, D2, X1.trans X2, fun k' cs => .of_steps ((r1 (.inLoop code :: k') cs : Steps P _ _).trans (.one st_inLoop)) (r2 k' cs)⟩
      · rename_i hne
        obtain ⟨E1, a1, w1, S1, F1, D1, X1, r1⟩ := code_sound H HP hm b c hc h hr hd S F hdf hb
        refine ⟨E1, a1, w1, S1, F1, D1, X1, fun k' cs => ?_⟩
        have := r1 (.inLoop code :: k') cs
        cases e with
        | norm => exact absurd h (hne _ _)
        | exit id => exact this
        | ret => exact this

/-- what a call of the limit gives, the model's call gives -/
theorem call_sound (hT : TabOk P T) (hm : P.follows .mixedOrders = true) {f : FuncId} {args : List AV} {v : AV} (h : (D T).call f args st = some (v, st')) (hr : st.ro ≤ st.objs.length) {cargs : Array Value}
    (S : Sim P T E st w) (A : RepL E st.objs.length w args cargs.toList) :
    ∃ E' w' cv, Sim P T E' st' w' ∧ Rep E' st'.objs.length w' v cv ∧ Ext E st.objs.length w E' st'.objs.length w' ∧
      ∀ cs, ∃ fr, Steps P (lone (Frame.enter P f cargs .normal) cs w) (lone fr cs w') ∧ fr.fn = f ∧ fr.leaving P w' (.returned cv) := by
  obtain ⟨k, hk⟩ := (lim_some (fun k r => (orc_le T k).call _ _ _ r) _).1 h
  cases k with
  | zero => simp [orc] at hk
  | succ k =>
    simp only [orc] at hk
    split at hk
    · rename_i F hF
      obtain ⟨fn, hfn, hch⟩ := hT f F hF
      exact fn_sound (orc_sound hT hm k) (orc_pure T k) hm hfn hch hk hr S A
    · cases hk

end
end Go.Proofs.YtcoonnbkmklenaaDoor.A
