/- The limit of the abstract interpreter's runs (no count of steps is left), and the equations by which it is computed. -/
import Derived.Test.YtgabnhmjlhhojaaAbs
namespace Go.Proofs.Ytgabnhmjlhhojaa.A
open Go
set_option linter.unusedSimpArgs false
set_option linter.unusedVariables false

open Classical in
noncomputable def lim {α : Type} (g : Nat → Option α) : Option α := if h : ∃ k r, g k = some r then some (Classical.choose (Classical.choose_spec h)) else none

theorem lim_some {α : Type} {g : Nat → Option α} (hm : ∀ k r, g k = some r → g (k + 1) = some r) (r : α) : lim g = some r ↔ ∃ k, g k = some r := by
  have up : ∀ k d r, g k = some r → g (k + d) = some r := by
    intro k d r h
    induction d with
    | zero => exact h
    | succ d ih => exact hm _ _ ih
  have one : ∀ k k' r r', g k = some r → g k' = some r' → r = r' := by
    intro k k' r r' h h'
    have a := up k k' r h
    have b := up k' k r' h'
    rw [Nat.add_comm] at b
    rw [a] at b
    exact Option.some.inj b
  unfold lim
  by_cases h : ∃ k r, g k = some r
  · rw [dif_pos h]
    have hc := Classical.choose_spec (Classical.choose_spec h)
    constructor
    · intro e
      exact ⟨_, by rw [← e]; exact hc⟩
    · rintro ⟨k, hk⟩
      rw [one _ _ _ _ hc hk]
  · rw [dif_neg h]
    constructor
    · intro e; cases e
    · rintro ⟨k, hk⟩; exact absurd ⟨k, r, hk⟩ h

structure Le (O O' : Orc) : Prop where
  call : ∀ f a s r, O.call f a s = some r → O'.call f a s = some r
  yield : ∀ f a s r, O.yield f a s = some r → O'.yield f a s = some r
  loop : ∀ d c f s r, O.loop d c f s = some r → O'.loop d c f s = some r

noncomputable def D (T : Tab) : Orc where
  call f a s := lim fun k => (orc T k).call f a s
  yield f a s := lim fun k => (orc T k).yield f a s
  loop d c f s := lim fun k => (orc T k).loop d c f s

/-- monotone, and of the limit: found at some step already -/
structure Cts {α : Type} (T : Tab) (G : Orc → Option α) : Prop where
  mono : ∀ O O', Le O O' → ∀ r, G O = some r → G O' = some r
  fin : ∀ r, G (D T) = some r → (∀ k, Le (orc T k) (orc T (k + 1))) → ∃ k, G (orc T k) = some r

theorem up_le {T : Tab} (h : ∀ k, Le (orc T k) (orc T (k + 1))) (k d : Nat) : Le (orc T k) (orc T (k + d)) := by
  induction d with
  | zero => exact ⟨fun _ _ _ _ h => h, fun _ _ _ _ h => h, fun _ _ _ _ _ h => h⟩
  | succ d ih => exact ⟨fun _ _ _ _ e => (h _).call _ _ _ _ (ih.call _ _ _ _ e), fun _ _ _ _ e => (h _).yield _ _ _ _ (ih.yield _ _ _ _ e), fun _ _ _ _ _ e => (h _).loop _ _ _ _ _ (ih.loop _ _ _ _ _ e)⟩

theorem Cts.const {α : Type} {T : Tab} (x : Option α) : Cts T (fun _ => x) := ⟨fun _ _ _ _ h => h, fun _ h _ => ⟨0, h⟩⟩

theorem Cts.bind {α β : Type} {T : Tab} {G : Orc → Option α} {H : α → Orc → Option β} (hG : Cts T G) (hH : ∀ x, Cts T (H x)) : Cts T (fun O => (G O).bind fun x => H x O) := by
  constructor
  · intro O O' h r e
    obtain ⟨x, hx, hr⟩ := Option.bind_eq_some_iff.1 e
    exact Option.bind_eq_some_iff.2 ⟨x, hG.mono O O' h x hx, (hH x).mono O O' h r hr⟩
  · intro r e hk
    obtain ⟨x, hx, hr⟩ := Option.bind_eq_some_iff.1 e
    obtain ⟨k, h1⟩ := hG.fin x hx hk
    obtain ⟨k', h2⟩ := (hH x).fin r hr hk
    refine ⟨k + k', Option.bind_eq_some_iff.2 ⟨x, hG.mono _ _ (up_le hk k k') x h1, ?_⟩⟩
    have := (hH x).mono _ _ (up_le hk k' k) r h2
    rwa [Nat.add_comm] at this

theorem Cts.call (T : Tab) (f : Nat) (a : List AV) (s : St) : Cts T (fun O => O.call f a s) :=
  ⟨fun _ _ h r e => h.call f a s r e, fun r e hk => (lim_some (fun k r => (hk k).call f a s r) r).1 e⟩
theorem Cts.yield (T : Tab) (f : Nat) (a : List AV) (s : St) : Cts T (fun O => O.yield f a s) :=
  ⟨fun _ _ h r e => h.yield f a s r e, fun r e hk => (lim_some (fun k r => (hk k).yield f a s r) r).1 e⟩
theorem Cts.loop (T : Tab) (d : Bool) (c : AC) (f : List AV) (s : St) : Cts T (fun O => O.loop d c f s) :=
  ⟨fun _ _ h r e => h.loop d c f s r e, fun r e hk => (lim_some (fun k r => (hk k).loop d c f s r) r).1 e⟩

theorem Cts.congr {α : Type} {T : Tab} {G G' : Orc → Option α} (h : Cts T G') (e : ∀ O, G O = G' O) : Cts T G := by
  rw [show G = G' from funext e]; exact h

theorem Cts.callV (T : Tab) (f : AV) (a : List AV) (s : St) : Cts T (fun O => callV O f a s) := by
  unfold A.callV
  split
  · exact Cts.call T _ _ _
  · exact Cts.yield T _ _ _
  · exact Cts.const _

theorem Cts.callF (T : Tab) (f : AV) (a : List AV) (s : St) : Cts T (fun O => callF O f a s) := by
  unfold A.callF
  split
  · exact Cts.call T _ _ _
  · exact Cts.const _

theorem Cts.exOp (T : Tab) (fr : List AV) (st : St) (o : AO) : Cts T (fun O => exOp O fr st o) := by
  cases o with
  | call f args => exact Cts.call T _ _ _
  | callv f args => exact Cts.callV T _ _ _
  | _ => exact Cts.const _

theorem Cts.exStep (T : Tab) (o : AOp) (fr : List AV) (st : St) : Cts T (fun O => exStep O o fr st) := by
  unfold A.exStep
  have h := Cts.bind (Cts.exOp T fr st o.op) (fun x => Cts.const (T := T) (some (put fr o.dst x.1, x.2)))
  have h' : Cts T (fun O => match A.exOp O fr st o.op with | some (v, st') => some (put fr o.dst v, st') | none => none) :=
    h.congr fun O => by cases A.exOp O fr st o.op <;> rfl
  split
  · exact h'
  · split
    · rename_i b _
      cases b == _
      · exact Cts.const _
      · exact h'
    · exact Cts.const _

theorem Cts.exOps (T : Tab) (l : List AOp) : ∀ (fr : List AV) (st : St), Cts T (fun O => exOps O l fr st) := by
  induction l with
  | nil => exact fun fr st => Cts.const _
  | cons o l ih =>
    intro fr st
    refine (Cts.bind (Cts.exStep T o fr st) (fun x => ih x.1 x.2)).congr fun O => ?_
    simp only [A.exOps]
    cases A.exStep O o fr st <;> rfl

theorem Cts.exDraw (T : Tab) (l : List AOp) : ∀ (ts : List (Nat × Nat × Nat × Nat)) (fr : List AV) (st : St), Cts T (fun O => exDraw O l ts fr st) := by
  induction l with
  | nil => exact fun ts fr st => Cts.const _
  | cons o l ih =>
    intro ts fr st
    refine (Cts.bind (Cts.exStep T o fr st) (fun x => ih (target fr o.op ++ ts) x.1 x.2)).congr fun O => ?_
    simp only [A.exDraw]
    cases A.exStep O o fr st <;> rfl

theorem Cts.exW (T : Tab) (l : List AOp) : ∀ (ws : List Wt) (fr : List AV) (st : St), Cts T (fun O => exW O l ws fr st) := by
  induction l with
  | nil => exact fun ws fr st => Cts.const _
  | cons o l ih =>
    intro ws fr st
    refine (Cts.bind (H := fun x O => if (effB o.op && !wsOk x.2 ws) = true then none else A.exW O l (entry o fr st ++ ws) x.1 x.2) (Cts.exStep T o fr st) (fun x => ?_)).congr fun O => ?_
    · by_cases hc : (effB o.op && !wsOk x.2 ws) = true
      · simp only [hc, if_true]; exact Cts.const none
      · simp only [hc, if_false]; exact ih (entry o fr st ++ ws) x.1 x.2
    · simp only [A.exW]
      cases A.exStep O o fr st <;> rfl

theorem Cts.exV (T : Tab) (n0 : Nat) (l : List AOp) : ∀ (ws : List Wt) (fr : List AV) (st : St), Cts T (fun O => exV O n0 l ws fr st) := by
  induction l with
  | nil => exact fun ws fr st => Cts.const _
  | cons o l ih =>
    intro ws fr st
    refine (Cts.bind (H := fun x O => if ((loudV o.op && !wsOk x.2 ws) || !oldOk n0 o fr) = true then none else A.exV O n0 l (entry o fr st ++ ws) x.1 x.2) (Cts.exStep T o fr st) (fun x => ?_)).congr fun O => ?_
    · by_cases hc : ((loudV o.op && !wsOk x.2 ws) || !oldOk n0 o fr) = true
      · simp only [hc, if_true]; exact Cts.const none
      · simp only [hc, if_false]; exact ih (entry o fr st ++ ws) x.1 x.2
    · simp only [A.exV]
      cases A.exStep O o fr st <;> rfl

theorem Cts.exC (T : Tab) (rd : Bool) (c : AC) : ∀ (fr : List AV) (st : St), Cts T (fun O => exC O rd c fr st) := by
  induction c with
  | skip => exact fun _ _ => Cts.const _
  | exit id => exact fun _ _ => Cts.const _
  | ret => exact fun _ _ => Cts.const _
  | ops l d =>
    intro fr st
    cases d with
    | false => exact (Cts.bind (Cts.exOps T l fr st) (fun x => Cts.const (some (AE.norm, x.1, x.2)))).congr fun O => by simp only [A.exC]; cases A.exOps O l fr st <;> rfl
    | true => exact (Cts.bind (Cts.exDraw T l [] fr st) (fun x => Cts.const (some (AE.norm, x.1, x.2)))).congr fun O => by simp only [A.exC]; cases A.exDraw O l [] fr st <;> rfl
  | opsW l =>
    intro fr st
    exact (Cts.bind (Cts.exW T l [] fr st) (fun x => Cts.const (some (AE.norm, x.1, x.2)))).congr fun O => by simp only [A.exC]; cases A.exW O l [] fr st <;> rfl
  | opsV l =>
    intro fr st
    exact (Cts.bind (Cts.exV T st.objs.length l [] fr st) (fun x => Cts.const (some (AE.norm, x.1, x.2)))).congr fun O => by simp only [A.exC]; cases A.exV O st.objs.length l [] fr st <;> rfl
  | seq a b iha ihb =>
    intro fr st
    refine (Cts.bind (G := fun O => A.exC O rd a fr st) (H := fun x O => match x with | (.norm, fr', st') => A.exC O rd b fr' st' | r => some r) (iha fr st) (fun x => ?_)).congr fun O => ?_
    · obtain ⟨e, fr', st'⟩ := x
      cases e with
      | norm => exact ihb fr' st'
      | exit id => exact Cts.const _
      | ret => exact Cts.const _
    · simp only [A.exC]
      rcases A.exC O rd a fr st with _ | ⟨e, fr', st'⟩
      · rfl
      · cases e <;> rfl
  | cond c a b iha ihb =>
    intro fr st
    simp only [A.exC]
    split
    · rename_i t _
      cases t
      · exact ihb fr st
      · exact iha fr st
    · exact Cts.const _
  | block id c ih =>
    intro fr st
    refine (Cts.bind (ih fr st) (fun x => Cts.const (match x with | (.exit j, fr', st') => (if j = id then some (.norm, fr', st') else some (.exit j, fr', st')) | r => some r))).congr fun O => ?_
    simp only [A.exC]
    rcases A.exC O rd c fr st with _ | ⟨e, fr', st'⟩
    · rfl
    · cases e <;> rfl
  | loop c ih => exact fun fr st => Cts.loop T rd c fr st
  | range f ps asg body _ _ =>
    intro fr st
    simp only [A.exC]
    cases rd with
    | true => exact Cts.const _
    | false =>
      refine (Cts.bind (Cts.callF T (ev fr f) [.yld (st.objs.length + 1)] { st with objs := st.objs ++ [.dfr, .loop .ready none fr ps asg body], df := st.objs.length :: st.df }) (fun x => Cts.const
        (match x.2.objs[st.objs.length + 1]? with
        | some (.loop s p fr' ps' asg' body') =>
          match s with
          | .busy => none
          | _ => some (p.getD .norm, fr, x.2.set (st.objs.length + 1) (.loop .exhausted p fr' ps' asg' body'))
        | _ => none))).congr fun O => ?_
      simp only [Bool.false_eq_true, if_false]
      rcases A.callF O (ev fr f) [.yld (st.objs.length + 1)] { st with objs := st.objs ++ [.dfr, .loop .ready none fr ps asg body], df := st.objs.length :: st.df } with _ | ⟨v, st'⟩
      · rfl
      · rfl

theorem Cts.exFn (T : Tab) (F : AF) (args : List AV) (st : St) : Cts T (fun O => exFn O F args st) := by
  unfold A.exFn
  split
  · exact Cts.const _
  · refine (Cts.bind (Cts.exC T false F.body (args ++ List.replicate (F.ntmps - args.length) .any) { objs := st.objs, ro := if F.pure then st.objs.length else st.ro, df := [] }) (fun x => Cts.const (match x with
      | (.exit _, _, _) => none
      | (_, fr, st') =>
        match resOf { st' with objs := killAll st'.df st'.objs } fr F.results with
        | some vs =>
          if F.pure then (match hand st.objs.length (killAll st'.df st'.objs) (tupOf vs) with | some v => some (v, st) | none => none)
          else some (tupOf vs, { objs := killAll st'.df st'.objs, ro := st.ro, df := st.df })
        | none => none))).congr fun O => ?_
    generalize A.exC O false F.body (args ++ List.replicate (F.ntmps - args.length) AV.any) _ = z
    rcases z with _ | ⟨e, fr', st'⟩
    · rfl
    · cases e <;> rfl

theorem Cts.exYield (T : Tab) (r : Nat) (args : List AV) (st : St) : Cts T (fun O => exYield O r args st) := by
  unfold A.exYield
  split
  · rename_i fr ps asg body _
    split
    · refine (Cts.bind (Cts.exC T true asg (bindP fr ps args) { st with df := [] }) (H := fun x O => match x with
        | (.norm, fr1, st1) =>
          match st1.objs[r]? with
          | some (.loop .ready none fr2 ps2 asg2 body2) =>
            match A.exC O true body fr1 (st1.set r (.loop .busy none fr2 ps2 asg2 body2)) with
            | some (e, _, st3) =>
              match st3.objs[r]? with
              | some (.loop .busy none fr4 ps4 asg4 body4) =>
                match e with
                | .norm => some (.bool true, { st3.set r (.loop .ready none fr4 ps4 asg4 body4) with df := st.df })
                | e => some (.bool false, { st3.set r (.loop .done (some e) fr4 ps4 asg4 body4) with df := st.df })
              | _ => none
            | none => none
          | _ => none
        | _ => none) (fun x => ?_)).congr fun O => ?_
      · obtain ⟨e, fr1, st1⟩ := x
        cases e with
        | exit id => exact Cts.const _
        | ret => exact Cts.const _
        | norm =>
          dsimp only
          split
          · rename_i fr2 ps2 asg2 body2 _
            refine (Cts.bind (Cts.exC T true body fr1 (st1.set r (.loop .busy none fr2 ps2 asg2 body2))) (fun x => Cts.const (match x.2.2.objs[r]? with
              | some (.loop .busy none fr4 ps4 asg4 body4) =>
                match x.1 with
                | .norm => some (AV.bool true, { x.2.2.set r (.loop .ready none fr4 ps4 asg4 body4) with df := st.df })
                | e => some (.bool false, { x.2.2.set r (.loop .done (some e) fr4 ps4 asg4 body4) with df := st.df })
              | _ => none))).congr fun O => ?_
            rcases A.exC O true body fr1 _ with _ | ⟨e, fr', st'⟩
            · rfl
            · rfl
          · exact Cts.const _
      · rcases A.exC O true asg (bindP fr ps args) { st with df := [] } with _ | ⟨e, fr', st'⟩
        · rfl
        · cases e <;> rfl
    · exact Cts.const _
  · exact Cts.const _

theorem orc_le (T : Tab) : ∀ k, Le (orc T k) (orc T (k + 1)) := by
  intro k
  induction k with
  | zero => exact ⟨fun _ _ _ _ h => by simp [orc] at h, fun _ _ _ _ h => by simp [orc] at h, fun _ _ _ _ _ h => by simp [orc] at h⟩
  | succ k ih =>
    refine ⟨fun f a s r h => ?_, fun f a s r h => (Cts.exYield T f a s).mono _ _ ih r h, fun d c f s r h => ?_⟩
    · simp only [orc] at h ⊢
      cases hf : T f with
      | none => rw [hf] at h; simpa using h
      | some F => rw [hf] at h; exact (Cts.exFn T F a s).mono _ _ ih r h
    · have key : ∀ O O' : Orc, Le O O' → ∀ r, (match A.exC O d c f s with | some (.norm, fr', st') => O.loop d c fr' st' | r => r) = some r →
          (match A.exC O' d c f s with | some (.norm, fr', st') => O'.loop d c fr' st' | r => r) = some r := by
        intro O O' hO r h
        rcases hc : A.exC O d c f s with _ | ⟨e, fr', st'⟩
        · rw [hc] at h; cases h
        · rw [(Cts.exC T d c f s).mono O O' hO _ hc]
          rw [hc] at h
          cases e with
          | norm => exact hO.loop d c fr' st' r h
          | exit id => exact h
          | ret => exact h
      exact key _ _ ih r h

theorem D_le (T : Tab) (k : Nat) : Le (orc T k) (D T) :=
  ⟨fun f a s r h => (lim_some (fun k r => (orc_le T k).call f a s r) r).2 ⟨k, h⟩, fun f a s r h => (lim_some (fun k r => (orc_le T k).yield f a s r) r).2 ⟨k, h⟩,
   fun d c f s r h => (lim_some (fun k r => (orc_le T k).loop d c f s r) r).2 ⟨k, h⟩⟩

theorem opt_ext {α : Type} {a b : Option α} (h1 : ∀ r, a = some r → b = some r) (h2 : ∀ r, b = some r → a = some r) : a = b := by
  cases a with
  | none => cases b with
    | none => rfl
    | some r => exact h2 r rfl
  | some r => exact (h1 r rfl).symm

theorem D_call (T : Tab) (f : Nat) (F : AF) (hF : T f = some F) (a : List AV) (s : St) : (D T).call f a s = exFn (D T) F a s := by
  refine opt_ext (fun r h => ?_) (fun r h => ?_)
  · obtain ⟨k, hk⟩ := (lim_some (fun k r => (orc_le T k).call f a s r) r).1 h
    cases k with
    | zero => simp [orc] at hk
    | succ k => simp only [orc, hF] at hk; exact (Cts.exFn T F a s).mono _ _ (D_le T k) r hk
  · obtain ⟨k, hk⟩ := (Cts.exFn T F a s).fin r h (orc_le T)
    refine (D_le T (k + 1)).call f a s r ?_
    simp only [orc, hF]; exact hk

theorem D_ext (T : Tab) (f : Nat) (hF : T f = none) (a : List AV) (s : St) : (D T).call f a s = ext f a s := by
  refine opt_ext (fun r h => ?_) (fun r h => ?_)
  · obtain ⟨k, hk⟩ := (lim_some (fun k r => (orc_le T k).call f a s r) r).1 h
    cases k with
    | zero => simp [orc] at hk
    | succ k => simpa only [orc, hF] using hk
  · refine (D_le T 1).call f a s r ?_
    simp only [orc, hF]; exact h

theorem D_yield (T : Tab) (f : Nat) (a : List AV) (s : St) : (D T).yield f a s = exYield (D T) f a s := by
  refine opt_ext (fun r h => ?_) (fun r h => ?_)
  · obtain ⟨k, hk⟩ := (lim_some (fun k r => (orc_le T k).yield f a s r) r).1 h
    cases k with
    | zero => simp [orc] at hk
    | succ k => exact (Cts.exYield T f a s).mono _ _ (D_le T k) r hk
  · obtain ⟨k, hk⟩ := (Cts.exYield T f a s).fin r h (orc_le T)
    exact (D_le T (k + 1)).yield f a s r hk

theorem D_loop (T : Tab) (d : Bool) (c : AC) (f : List AV) (s : St) : (D T).loop d c f s = match exC (D T) d c f s with
    | some (.norm, fr', st') => (D T).loop d c fr' st'
    | r => r := by
  refine opt_ext (fun r h => ?_) (fun r h => ?_)
  · obtain ⟨k, hk⟩ := (lim_some (fun k r => (orc_le T k).loop d c f s r) r).1 h
    cases k with
    | zero => simp [orc] at hk
    | succ k =>
      simp only [orc] at hk
      rcases hc : exC (orc T k) d c f s with _ | ⟨e, fr', st'⟩
      · rw [hc] at hk; cases hk
      · rw [(Cts.exC T d c f s).mono _ _ (D_le T k) _ hc]
        rw [hc] at hk
        cases e with
        | norm => exact (D_le T k).loop d c fr' st' r hk
        | exit id => exact hk
        | ret => exact hk
  · rcases hc : exC (D T) d c f s with _ | ⟨e, fr', st'⟩
    · rw [hc] at h; cases h
    · rw [hc] at h
      obtain ⟨k, hk⟩ := (Cts.exC T d c f s).fin _ hc (orc_le T)
      cases e with
      | norm =>
        obtain ⟨k', hk'⟩ := (lim_some (fun k r => (orc_le T k).loop d c fr' st' r) r).1 h
        refine (D_le T (k + k' + 1)).loop d c f s r ?_
        simp only [orc]
        rw [(Cts.exC T d c f s).mono _ _ (up_le (orc_le T) k k') _ hk]
        have := (up_le (orc_le T) k' k).loop d c fr' st' r hk'
        rwa [Nat.add_comm] at this
      | exit id =>
        refine (D_le T (k + 1)).loop d c f s r ?_
        simp only [orc]; rw [hk]; exact h
      | ret =>
        refine (D_le T (k + 1)).loop d c f s r ?_
        simp only [orc]; rw [hk]; exact h

end Go.Proofs.Ytgabnhmjlhhojaa.A

/- What a run leaves as it was in the store. -/
namespace Go.Proofs.Ytgabnhmjlhhojaa.A
open Go

structure Keep (st st' : St) : Prop where
  ro : st'.ro = st.ro
  len : st.objs.length ≤ st'.objs.length
  low : ∀ r : Nat, r < st.ro → st'.objs[r]? = st.objs[r]?
  dfr : ∀ r : Nat, st.objs[r]? = some Obj.dfr → st'.objs[r]? = some Obj.dfr
  df : ∃ l : List Nat, st'.df = l ++ st.df ∧ l.Nodup ∧ ∀ r ∈ l, st.objs.length ≤ r ∧ st'.objs[r]? = some Obj.dfr

variable {st st' st'' : St}

theorem Keep.refl (st : St) : Keep st st := ⟨rfl, Nat.le_refl _, fun _ _ => rfl, fun _ h => h, [], rfl, .nil, by simp⟩
theorem Keep.trans (h : Keep st st') (k : Keep st' st'') : Keep st st'' := by
  obtain ⟨l, hl, hn, hl2⟩ := h.df
  obtain ⟨m, hm, hn', hm2⟩ := k.df
  refine ⟨k.ro.trans h.ro, Nat.le_trans h.len k.len, fun r hr => (k.low r (by rw [h.ro]; exact hr)).trans (h.low r hr), fun r hr => k.dfr r (h.dfr r hr), m ++ l, by rw [hm, hl, List.append_assoc], List.nodup_append.2 ⟨hn', hn, fun a ha b hb => ?_⟩, fun r hr => ?_⟩
  · have h1 := (hm2 a ha).1
    have h2 := (hl2 b hb).2
    have h3 : b < st'.objs.length := (List.getElem?_eq_some_iff.1 h2).1
    omega
  rcases List.mem_append.1 hr with h' | h'
  · exact ⟨Nat.le_trans h.len (hm2 r h').1, (hm2 r h').2⟩
  · exact ⟨(hl2 r h').1, k.dfr r (hl2 r h').2⟩

theorem Keep.push (o : Obj) (hr : st.ro ≤ st.objs.length) : Keep st (st.push o) := by
  refine ⟨rfl, by simp [St.push], fun r hlt => ?_, fun r h => ?_, [], rfl, .nil, by simp⟩
  · simp only [St.push]; rw [List.getElem?_append_left (by omega)]
  · have hlt : r < st.objs.length := by
      rcases Nat.lt_or_ge r st.objs.length with h' | h'
      · exact h'
      · simp [List.getElem?_eq_none h'] at h
    simp only [St.push]; rw [List.getElem?_append_left hlt]; exact h

theorem Keep.set {r : Nat} {o o' : Obj} (hr : st.ro ≤ r) (ho : st.objs[r]? = some o) (hd : o ≠ .dfr) : Keep st (st.set r o') := by
  refine ⟨rfl, by simp [St.set], fun q hlt => ?_, fun q h => ?_, [], rfl, .nil, by simp⟩
  · simp only [St.set, List.getElem?_set]; rw [if_neg (by omega)]
  · have : r ≠ q := by rintro rfl; rw [ho] at h; exact hd (Option.some.inj h)
    simp only [St.set, List.getElem?_set]; rw [if_neg this]; exact h

theorem arr?_get {r : Nat} {x : Nat × Nat × List (List AV)} (h : st.arr? r = some x) : st.objs[r]? = some (.arr x.1 x.2.1 x.2.2) := by
  unfold St.arr? at h
  split at h
  · rename_i e; obtain rfl := Option.some.inj h; exact e
  · cases h

theorem map?_get {r : Nat} {es : List (AV × AV)} (h : st.map? r = some es) : st.objs[r]? = some (.mp es) := by
  unfold St.map? at h
  split at h
  · rename_i e; obtain rfl := Option.some.inj h; exact e
  · cases h

structure OKeep (O : Orc) : Prop where
  call : ∀ f a s v s', O.call f a s = some (v, s') → s.ro ≤ s.objs.length → Keep s s' ∧ s'.df = s.df
  yield : ∀ f a s v s', O.yield f a s = some (v, s') → s.ro ≤ s.objs.length → Keep s s' ∧ s'.df = s.df
  loop : ∀ d c fr s e fr' s', O.loop d c fr s = some (e, fr', s') → s.ro ≤ s.objs.length → Keep s s' ∧ (d = true → s'.df = s.df)

variable {O : Orc} (K : OKeep O)
include K

theorem callV_keep {f : AV} {a : List AV} {v : AV} (h : callV O f a st = some (v, st')) (hr : st.ro ≤ st.objs.length) : Keep st st' ∧ st'.df = st.df := by
  unfold callV at h
  split at h
  · exact K.call _ _ _ _ _ h hr
  · exact K.yield _ _ _ _ _ h hr
  · cases h

theorem callF_keep {f : AV} {a : List AV} {v : AV} (h : callF O f a st = some (v, st')) (hr : st.ro ≤ st.objs.length) : Keep st st' ∧ st'.df = st.df := by
  unfold callF at h
  split at h
  · exact K.call _ _ _ _ _ h hr
  · cases h

theorem exOp_keep {fr : List AV} {x : AO} {v : AV} (h : exOp O fr st x = some (v, st')) (hr : st.ro ≤ st.objs.length) : Keep st st' ∧ st'.df = st.df := by
  have same : st' = st → Keep st st' ∧ st'.df = st.df := by rintro rfl; exact ⟨Keep.refl _, rfl⟩
  have hopt : ∀ o : Option AV, opt st o = some (v, st') → Keep st st' ∧ st'.df = st.df := by
    intro o h
    unfold opt at h
    split at h
    · simp at h; exact same h.2.symm
    · cases h
  cases x with
  | alloc ty z => simp [exOp] at h; obtain ⟨_, rfl⟩ := h; exact ⟨Keep.push _ hr, rfl⟩
  | box ty x =>
    simp only [exOp] at h
    split at h
    · simp at h; obtain ⟨_, rfl⟩ := h; exact ⟨Keep.push _ hr, rfl⟩
    · cases h
  | load agg sz a => exact hopt _ h
  | mkmap => simp [exOp] at h; obtain ⟨_, rfl⟩ := h; exact ⟨Keep.push _ hr, rfl⟩
  | mapset s m k v =>
    simp only [exOp, mset] at h
    split at h
    · split at h
      · rename_i es ha
        split at h
        · rename_i hro
          split at h
          · simp at h; obtain ⟨_, rfl⟩ := h; exact ⟨Keep.set hro (map?_get ha) (by simp), rfl⟩
          · cases h
        · cases h
      · cases h
    · cases h
  | mapget s ok agg z m k => exact hopt _ h
  | add64 x y c => exact hopt _ h
  | bin op x y => exact hopt _ h
  | sh l x y =>
    simp only [exOp] at h
    split at h
    · exact hopt _ h
    · cases h
  | idxA sz x i => exact hopt _ h
  | idxV sz x i => exact hopt _ h
  | idxArrA n sz x i => exact hopt _ h
  | slice sz x lo hi mx => exact hopt _ h
  | sliceS x lo hi => exact hopt _ h
  | move x => simp [exOp] at h; exact same h.2.symm
  | mkfn f a b => simp [exOp] at h; exact same h.2.symm
  | store sz a v =>
    simp only [exOp] at h
    split at h
    · rename_i s hs
      obtain ⟨rfl, rfl⟩ : _ ∧ _ := by simpa using h
      unfold sto at hs
      split at hs
      · split at hs
        · rename_i ty s' es hr'
          split at hs
          · split at hs
            · rename_i hc
              obtain rfl := Option.some.inj hs
              exact ⟨Keep.set hc.2.2.2 (arr?_get hr') (by simp), rfl⟩
            · cases hs
          · cases hs
        · cases hs
      · cases hs
    · cases h
  | append ty sz b s x =>
    simp only [exOp, app] at h
    split at h
    · cases h
    · split at h
      · cases h
      · split at h
        · split at h
          · exact same (Prod.mk.inj (Option.some.inj h)).2.symm
          · split at h
            · simp at h; obtain ⟨_, rfl⟩ := h; exact ⟨Keep.push _ hr, rfl⟩
            · cases h
        · split at h
          · rename_i r _ _ _ _ _ ha
            split at h
            · rename_i hc
              obtain ⟨_, rfl⟩ : _ ∧ _ := by simpa using h
              exact ⟨(Keep.set hc.2.2.2.2.1 (arr?_get ha) (by simp)).trans (Keep.push _ (by simp [St.set]; exact hr)), rfl⟩
            · cases h
          · cases h
        · split at h
          · split at h
            · simp at h; obtain ⟨_, rfl⟩ := h; exact ⟨Keep.push _ hr, rfl⟩
            · cases h
          · cases h
        · cases h
  | call f l => exact K.call _ _ _ _ _ h hr
  | callv f l => exact callV_keep K h hr
  | field agg off sz x =>
    simp only [exOp] at h
    split at h
    · split at h
      · exact hopt _ h
      · cases h
    · cases h
  | extract x i =>
    simp only [exOp] at h
    split at h
    · split at h
      · simp at h; exact same h.2.symm
      · cases h
    · cases h
  | buildSl sz z n ps =>
    simp only [exOp] at h
    split at h
    · split at h
      · simp at h; exact same h.2.symm
      · cases h
    · cases h
  | _ =>
    simp only [exOp] at h
    repeat' split at h
    all_goals first
      | (simp at h; exact same h.2.symm)
      | (cases h; done)

theorem exStep_keep {o : AOp} {fr fr' : List AV} (h : exStep O o fr st = some (fr', st')) (hr : st.ro ≤ st.objs.length) : Keep st st' ∧ st'.df = st.df ∧ fr'.length = fr.length := by
  have hp : ∀ (d : Option Nat) (v : AV), (put fr d v).length = fr.length := by intro d v; cases d <;> simp [put]
  have key : (match exOp O fr st o.op with | some (v, st') => some (put fr o.dst v, st') | none => none) = some (fr', st') → Keep st st' ∧ st'.df = st.df ∧ fr'.length = fr.length := by
    intro h
    split at h
    · rename_i v s hx
      obtain ⟨rfl, rfl⟩ : _ ∧ _ := by simpa using h
      have := exOp_keep K hx hr
      exact ⟨this.1, this.2, hp _ _⟩
    · cases h
  obtain ⟨dst, op, guard⟩ := o
  cases guard with
  | none => exact key h
  | some g =>
    obtain ⟨j, want⟩ := g
    simp only [exStep] at h
    split at h
    · rename_i b _
      cases hb : b == some want with
      | true => rw [hb] at h; exact key h
      | false =>
        rw [hb] at h
        obtain ⟨rfl, rfl⟩ : _ ∧ _ := by simpa using h
        exact ⟨Keep.refl _, rfl, hp _ _⟩
    · cases h

theorem exOps_keep (l : List AOp) : ∀ {fr fr' : List AV} {st st' : St}, exOps O l fr st = some (fr', st') → st.ro ≤ st.objs.length → Keep st st' ∧ st'.df = st.df ∧ fr'.length = fr.length := by
  induction l with
  | nil => intro fr fr' st st' h _; simp [exOps] at h; obtain ⟨rfl, rfl⟩ := h; exact ⟨Keep.refl _, rfl, rfl⟩
  | cons o l ih =>
    intro fr fr' st st' h hr
    simp only [exOps] at h
    split at h
    · rename_i fr1 st1 h1
      obtain ⟨k1, d1, l1⟩ := exStep_keep K h1 hr
      obtain ⟨k2, d2, l2⟩ := ih h (by rw [k1.ro]; exact Nat.le_trans hr k1.len)
      exact ⟨k1.trans k2, d2.trans d1, l2.trans l1⟩
    · cases h

omit K in
theorem draw_ops (l : List AOp) : ∀ {ts : List (Nat × Nat × Nat × Nat)} {fr fr' : List AV} {st st' : St}, exDraw O l ts fr st = some (fr', st') → exOps O l fr st = some (fr', st') := by
  induction l with
  | nil => intro ts fr fr' st st' h; simp only [exDraw] at h; split at h <;> simp_all [exOps]
  | cons o l ih =>
    intro ts fr fr' st st' h
    simp only [exDraw] at h
    simp only [exOps]
    split at h
    · exact ih h
    · cases h

omit K in
theorem exW_ops (l : List AOp) : ∀ {ws : List Wt} {fr fr' : List AV} {st st' : St}, exW O l ws fr st = some (fr', st') → exOps O l fr st = some (fr', st') := by
  induction l with
  | nil => intro ws fr fr' st st' h; exact h
  | cons o l ih =>
    intro ws fr fr' st st' h
    simp only [exW] at h
    simp only [exOps]
    split at h
    · split at h
      · cases h
      · exact ih h
    · cases h

omit K in
theorem exV_ops {n0 : Nat} (l : List AOp) : ∀ {ws : List Wt} {fr fr' : List AV} {st st' : St}, exV O n0 l ws fr st = some (fr', st') → exOps O l fr st = some (fr', st') := by
  induction l with
  | nil => intro ws fr fr' st st' h; exact h
  | cons o l ih =>
    intro ws fr fr' st st' h
    simp only [exV] at h
    simp only [exOps]
    split at h
    · split at h
      · cases h
      · exact ih h
    · cases h

theorem exC_keep (c : AC) : ∀ {rd : Bool} {fr fr' : List AV} {st st' : St} {e : AE}, exC O rd c fr st = some (e, fr', st') → st.ro ≤ st.objs.length → Keep st st' ∧ (rd = true → st'.df = st.df) := by
  induction c with
  | skip => intro rd fr fr' st st' e h _; simp [exC] at h; obtain ⟨rfl, rfl, rfl⟩ := h; exact ⟨Keep.refl _, fun _ => rfl⟩
  | exit id => intro rd fr fr' st st' e h _; simp [exC] at h; obtain ⟨rfl, rfl, rfl⟩ := h; exact ⟨Keep.refl _, fun _ => rfl⟩
  | ret => intro rd fr fr' st st' e h _; simp [exC] at h; obtain ⟨rfl, rfl, rfl⟩ := h; exact ⟨Keep.refl _, fun _ => rfl⟩
  | ops l d =>
    intro rd fr fr' st st' e h hr
    cases d with
    | false =>
      simp only [exC] at h
      split at h
      · rename_i fr1 st1 h1
        simp at h; obtain ⟨rfl, rfl, rfl⟩ := h
        obtain ⟨k, d, _⟩ := exOps_keep K l h1 hr
        exact ⟨k, fun _ => d⟩
      · cases h
    | true =>
      simp only [exC] at h
      split at h
      · rename_i fr1 st1 h1
        simp at h; obtain ⟨rfl, rfl, rfl⟩ := h
        obtain ⟨k, d, _⟩ := exOps_keep K l (draw_ops l h1) hr
        exact ⟨k, fun _ => d⟩
      · cases h
  | opsW l =>
    intro rd fr fr' st st' e h hr
    simp only [exC] at h
    split at h
    · rename_i fr1 st1 h1
      simp at h; obtain ⟨rfl, rfl, rfl⟩ := h
      obtain ⟨k, d, _⟩ := exOps_keep K l (exW_ops l h1) hr
      exact ⟨k, fun _ => d⟩
    · cases h
  | opsV l =>
    intro rd fr fr' st st' e h hr
    simp only [exC] at h
    split at h
    · rename_i fr1 st1 h1
      simp at h; obtain ⟨rfl, rfl, rfl⟩ := h
      obtain ⟨k, d, _⟩ := exOps_keep K l (exV_ops l h1) hr
      exact ⟨k, fun _ => d⟩
    · cases h
  | seq a b iha ihb =>
    intro rd fr fr' st st' e h hr
    simp only [exC] at h
    split at h
    · rename_i fr1 st1 h1
      obtain ⟨k1, d1⟩ := iha h1 hr
      obtain ⟨k2, d2⟩ := ihb h (by rw [k1.ro]; exact Nat.le_trans hr k1.len)
      exact ⟨k1.trans k2, fun hrd => (d2 hrd).trans (d1 hrd)⟩
    · exact iha h hr
  | cond c a b iha ihb =>
    intro rd fr fr' st st' e h hr
    simp only [exC] at h
    split at h
    · rename_i t _
      cases t
      · exact ihb h hr
      · exact iha h hr
    · cases h
  | block id c ih =>
    intro rd fr fr' st st' e h hr
    simp only [exC] at h
    split at h
    · rename_i j fr1 st1 h1
      have := ih h1 hr
      split at h <;> (simp at h; obtain ⟨rfl, rfl, rfl⟩ := h; exact this)
    · exact ih h hr
  | loop c ih => intro rd fr fr' st st' e h hr; exact K.loop _ _ _ _ _ _ _ h hr
  | range f ps asg body _ _ =>
    intro rd fr fr' st st' e h hr
    simp only [exC] at h
    cases rd with
    | true => simp at h
    | false =>
      simp only [Bool.false_eq_true, if_false] at h
      split at h
      · rename_i v s hv
        split at h
        · rename_i s0 p fr1 ps1 asg1 body1 hl
          have k0 : Keep st { st with objs := st.objs ++ [.dfr, .loop .ready none fr ps asg body], df := st.objs.length :: st.df } := by
            refine ⟨rfl, by simp, fun r hlt => List.getElem?_append_left (by omega), fun r h => ?_, [st.objs.length], rfl, by simp, fun r hr => ?_⟩
            · have hlt : r < st.objs.length := by
                rcases Nat.lt_or_ge r st.objs.length with h' | h'
                · exact h'
                · simp [List.getElem?_eq_none h'] at h
              rw [List.getElem?_append_left hlt]; exact h
            · simp at hr; subst hr; simp
          obtain ⟨k1, d1⟩ := callF_keep K hv (by simp; omega)
          have k2 : Keep s (s.set (st.objs.length + 1) (.loop .exhausted p fr1 ps1 asg1 body1)) := Keep.set (by rw [k1.ro]; exact Nat.le_trans hr (by omega)) hl (by simp)
          have fin : st' = s.set (st.objs.length + 1) (.loop .exhausted p fr1 ps1 asg1 body1) := by
            split at h
            · cases h
            · simp at h; exact h.2.2.symm
          rw [fin]
          exact ⟨(k0.trans k1).trans k2, fun h => by cases h⟩
        · cases h
      · cases h

end Go.Proofs.Ytgabnhmjlhhojaa.A

/- The limit's calls keep what they must. -/
namespace Go.Proofs.Ytgabnhmjlhhojaa.A
open Go

theorem killAll_length : ∀ (l : List Nat) (o : List Obj), (killAll l o).length = o.length
  | [], _ => rfl
  | r :: l, o => by rw [killAll, killAll_length l]; simp

theorem killAll_get : ∀ (l : List Nat) (o : List Obj) (q : Nat), q ∉ l → (killAll l o)[q]? = o[q]?
  | [], _, _, _ => rfl
  | r :: l, o, q, h => by
    simp only [List.mem_cons, not_or] at h
    rw [killAll, killAll_get l _ _ h.2, List.getElem?_set_ne (Ne.symm h.1)]

theorem exFn_keep {O : Orc} (K : OKeep O) {F : AF} {args : List AV} {st st' : St} {v : AV} (h : exFn O F args st = some (v, st')) (hr : st.ro ≤ st.objs.length) : Keep st st' ∧ st'.df = st.df := by
  unfold exFn at h
  split at h
  · cases h
  split at h
  · cases h
  · rename_i e fr s hne hx
    split at h
    · rename_i vs hvs
      split at h
      · split at h
        · obtain ⟨_, rfl⟩ := Prod.mk.inj (Option.some.inj h)
          exact ⟨.refl _, rfl⟩
        · cases h
      · rename_i hp
        obtain ⟨_, rfl⟩ := Prod.mk.inj (Option.some.inj h)
        have k := (exC_keep K F.body hx (by split <;> simp_all)).1
        obtain ⟨l, hl, hn, hl2⟩ := k.df
        simp only [List.append_nil] at hl
        simp only [Bool.not_eq_true] at hp
        refine ⟨⟨rfl, by simp only [killAll_length]; exact k.len, fun q hq => ?_, fun q hq => ?_, [], rfl, .nil, by simp⟩, rfl⟩
        · have := k.low q (by simp [hp]; exact hq)
          simp only [] at this ⊢
          rw [killAll_get _ _ _ (by rw [hl]; intro hm; have := (hl2 q hm).1; simp only [] at this; omega)]
          exact this
        · have := k.dfr q hq
          simp only [] at this ⊢
          rw [killAll_get _ _ _ (by rw [hl]; intro hm; have h1 := (hl2 q hm).1; have h2 : q < st.objs.length := (List.getElem?_eq_some_iff.1 hq).1; simp only [] at h1; omega)]
          exact this
    · cases h
  · cases h

theorem exYield_keep {O : Orc} (K : OKeep O) {r : Nat} {args : List AV} {st st' : St} {v : AV} (h : exYield O r args st = some (v, st')) (hr : st.ro ≤ st.objs.length) : Keep st st' ∧ st'.df = st.df := by
  unfold exYield at h
  split at h
  case h_2 => cases h
  rename_i fr ps asg body hob
  split at h
  case isFalse => cases h
  rename_i hc
  split at h
  case h_2 => cases h
  rename_i fr1 st1 h1
  split at h
  case h_2 => cases h
  rename_i fr2 ps2 asg2 body2 hob1
  split at h
  case h_2 => cases h
  rename_i e fr3 st3 h3
  split at h
  case h_2 => cases h
  rename_i fr4 ps4 asg4 body4 hob3
  have k1 := exC_keep K _ h1 (by exact hr)
  have kb : Keep st1 (st1.set r (.loop .busy none fr2 ps2 asg2 body2)) := Keep.set (by rw [k1.1.ro]; exact hc.2) hob1 (by simp)
  have k3 := exC_keep K _ h3 (by have := k1.1.len; have := k1.1.ro; simp [St.set] at *; omega)
  have e0 : ∀ o', st3.objs[r]? = some o' → o' ≠ .dfr → ∀ o : Obj, Keep st { st3.set r o with df := st.df } := by
    intro o' ho' hd o
    have kc : Keep st3 (st3.set r o) := Keep.set (by rw [k3.1.ro]; have := k1.1.ro; simp [St.set] at *; omega) ho' hd
    have all := ((k1.1.trans kb).trans k3.1).trans kc
    exact ⟨all.ro, all.len, all.low, all.dfr, [], rfl, .nil, by simp⟩
  split at h
  · obtain ⟨_, rfl⟩ := Prod.mk.inj (Option.some.inj h)
    exact ⟨e0 _ hob3 (by simp) _, rfl⟩
  · obtain ⟨_, rfl⟩ := Prod.mk.inj (Option.some.inj h)
    exact ⟨e0 _ hob3 (by simp) _, rfl⟩

theorem exSort_keep {α : Type} {get : List (List AV) → Option (List α)} {mk : α → AV} {lt : α → α → Bool} {a : List AV} {s s' : St} {v : AV} (h : exSort get mk lt a s = some (v, s')) (_ : s.ro ≤ s.objs.length) : Keep s s' ∧ s'.df = s.df := by
  unfold exSort at h
  split at h
  · cases h; exact ⟨Keep.refl _, rfl⟩
  · cases h; exact ⟨Keep.refl _, rfl⟩
  · split at h
    · rename_i ha
      split at h
      · rename_i hc
        split at h
        · cases h; exact ⟨Keep.set hc.2.2.2.1 (arr?_get ha) (by simp), rfl⟩
        · cases h
      · cases h
    · cases h
  · cases h

theorem exComp_keep {α : Type} {get : List (List AV) → Option (List α)} {mk : α → AV} {z : α} {eq : α → α → Bool} {a : List AV} {s s' : St} {v : AV} (h : exComp get mk z eq a s = some (v, s')) (_ : s.ro ≤ s.objs.length) : Keep s s' ∧ s'.df = s.df := by
  unfold exComp at h
  split at h
  · cases h; exact ⟨Keep.refl _, rfl⟩
  · cases h; exact ⟨Keep.refl _, rfl⟩
  · split at h
    · rename_i ha
      split at h
      · rename_i hc
        split at h
        · cases h; exact ⟨Keep.set hc.2.2.2.1 (arr?_get ha) (by simp), rfl⟩
        · cases h
      · cases h
    · cases h
  · cases h

theorem exClone_keep {ty sz bytes : Nat} {ow : Bool} {a : List AV} {s s' : St} {v : AV} (h : exClone ty sz bytes ow a s = some (v, s')) (hr : s.ro ≤ s.objs.length) : Keep s s' ∧ s'.df = s.df := by
  unfold exClone at h
  split at h
  · split at h
    · cases h; exact ⟨Keep.refl _, rfl⟩
    · split at h
      · cases ow with
        | true =>
          simp only [cond_true, Option.some.injEq, Prod.mk.injEq] at h
          obtain ⟨_, rfl⟩ := h
          exact ⟨Keep.push _ hr, rfl⟩
        | false =>
          simp only [cond_false] at h
          split at h
          · cases h; exact ⟨Keep.refl _, rfl⟩
          · cases h
      · cases h
    · cases h
  · cases h

theorem ext_keep {f : Nat} {a : List AV} {s s' : St} {v : AV} (h : ext f a s = some (v, s')) (hr : s.ro ≤ s.objs.length) : Keep s s' ∧ s'.df = s.df := by
  first
    | cases h
    | (unfold ext at h
       split at h
       all_goals first | exact exClone_keep h hr | exact exSort_keep h hr | exact exComp_keep h hr | cases h)

theorem orc_keep (T : Tab) : ∀ k, OKeep (orc T k)
  | 0 => ⟨fun _ _ _ _ _ h => by simp [orc] at h, fun _ _ _ _ _ h => by simp [orc] at h, fun _ _ _ _ _ _ _ h => by simp [orc] at h⟩
  | k + 1 => by
    have K := orc_keep T k
    refine ⟨fun f a s v s' h hr => ?_, fun f a s v s' h hr => ?_, fun d c fr s e fr' s' h hr => ?_⟩
    · simp only [orc] at h
      split at h
      · exact exFn_keep K h hr
      · exact ext_keep h hr
    · exact exYield_keep K h hr
    · simp only [orc] at h
      split at h
      · rename_i fr1 s1 h1
        have k1 := exC_keep K _ h1 hr
        have k2 := K.loop _ _ _ _ _ _ _ h (by rw [k1.1.ro]; exact Nat.le_trans hr k1.1.len)
        exact ⟨k1.1.trans k2.1, fun hd => (k2.2 hd).trans (k1.2 hd)⟩
      · exact exC_keep K _ h hr

mutual
theorem beq_refl : ∀ a : AV, AV.beq a a = true
  | .any => by simp [AV.beq]
  | .bool _ => by simp [AV.beq]
  | .int .. => by simp [AV.beq]
  | .str _ => by simp [AV.beq]
  | .nilf => by simp [AV.beq]
  | .nilp => by simp [AV.beq]
  | .nils => by simp [AV.beq]
  | .emps => by simp [AV.beq]
  | .ptr .. => by simp [AV.beq]
  | .own .. => by simp [AV.beq]
  | .yld _ => by simp [AV.beq]
  | .mref _ => by simp [AV.beq]
  | .vptr l => by simp [AV.beq, beqL_refl l]
  | .agg l => by simp [AV.beq, beqL_refl l]
  | .tup l => by simp [AV.beq, beqL_refl l]
  | .sl _ l => by simp [AV.beq, beqLL_refl l]
  | .fsl _ l => by simp [AV.beq, beqLL_refl l]
  | .fn _ a b => by simp [AV.beq, beqL_refl a, beqL_refl b]
theorem beqL_refl : ∀ a : List AV, AV.beqL a a = true
  | [] => by simp [AV.beqL]
  | a :: l => by simp [AV.beqL, beq_refl a, beqL_refl l]
theorem beqLL_refl : ∀ a : List (List AV), AV.beqLL a a = true
  | [] => by simp [AV.beqLL]
  | a :: l => by simp [AV.beqLL, beqL_refl a, beqLL_refl l]
end

end Go.Proofs.Ytgabnhmjlhhojaa.A
