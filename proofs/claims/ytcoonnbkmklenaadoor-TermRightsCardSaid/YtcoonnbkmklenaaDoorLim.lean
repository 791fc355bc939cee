/- The limit of the abstract interpreter's runs (no count of steps is left), and the equations by which it is computed. -/
import Derived.Test.YtcoonnbkmklenaaDoorAbs
namespace Go.Proofs.YtcoonnbkmklenaaDoor.A
open Go

open Classical in
noncomputable def lim {α : Type} (g : Nat → Option α) : Option α := if h : ∃ k r, g k = some r then some (Classical.choose (Classical.choose_spec h)) else none

theorem lim_some {α : Type} {g : Nat → Option α} (hm : ∀ k r, g k = some r → g (k + 1) = some r) (r : α) : lim g = some r ↔ ∃ k, g k = some r := by
  have up : ∀ k d r, g k = some r → g (k + d) = some r := by
    intro k d r h
    induction d with
    | zero => exact h
    | succ d ih => exact hm _ _ ih
  have one : ∀ k k' r r', g k = some r → g k' = some r' → r = r' := by
    intro k k' r r' h h'
    have a := up k k' r h
    have b := up k' k r' h'
    rw [Nat.add_comm] at b
    rw [a] at b
    exact Option.some.inj b
  unfold lim
  by_cases h : ∃ k r, g k = some r
  · rw [dif_pos h]
    have hc := Classical.choose_spec (Classical.choose_spec h)
    constructor
    · intro e
      exact ⟨_, by rw [← e]; exact hc⟩
    · rintro ⟨k, hk⟩
      rw [one _ _ _ _ hc hk]
  · rw [dif_neg h]
    constructor
    · intro e; cases e
    · rintro ⟨k, hk⟩; exact absurd ⟨k, r, hk⟩ h

structure Le (O O' : Orc) : Prop where
  call : ∀ f a s r, O.call f a s = some r → O'.call f a s = some r
  yield : ∀ f a s r, O.yield f a s = some r → O'.yield f a s = some r
  loop : ∀ d c f s r, O.loop d c f s = some r → O'.loop d c f s = some r

noncomputable def D (T : Tab) : Orc where
  call f a s := lim fun k => (orc T k).call f a s
  yield f a s := lim fun k => (orc T k).yield f a s
  loop d c f s := lim fun k => (orc T k).loop d c f s

/-- monotone, and of the limit: found at some step already -/
structure Cts {α : Type} (T : Tab) (G : Orc → Option α) : Prop where
  mono : ∀ O O', Le O O' → ∀ r, G O = some r → G O' = some r
  fin : ∀ r, G (D T) = some r → (∀ k, Le (orc T k) (orc T (k + 1))) → ∃ k, G (orc T k) = some r

theorem up_le {T : Tab} (h : ∀ k, Le (orc T k) (orc T (k + 1))) (k d : Nat) : Le (orc T k) (orc T (k + d)) := by
  induction d with
  | zero => exact ⟨fun _ _ _ _ h => h, fun _ _ _ _ h => h, fun _ _ _ _ _ h => h⟩
  | succ d ih => exact ⟨fun _ _ _ _ e => (h _).call _ _ _ _ (ih.call _ _ _ _ e), fun _ _ _ _ e => (h _).yield _ _ _ _ (ih.yield _ _ _ _ e), fun _ _ _ _ _ e => (h _).loop _ _ _ _ _ (ih.loop _ _ _ _ _ e)⟩

theorem Cts.const {α : Type} {T : Tab} (x : Option α) : Cts T (fun _ => x) := ⟨fun _ _ _ _ h => h, fun _ h _ => ⟨0, h⟩⟩

theorem Cts.bind {α β : Type} {T : Tab} {G : Orc → Option α} {H : α → Orc → Option β} (hG : Cts T G) (hH : ∀ x, Cts T (H x)) : Cts T (fun O => (G O).bind fun x => H x O) := by
  constructor
  · intro O O' h r e
    obtain ⟨x, hx, hr⟩ := Option.bind_eq_some_iff.1 e
    exact Option.bind_eq_some_iff.2 ⟨x, hG.mono O O' h x hx, (hH x).mono O O' h r hr⟩
  · intro r e hk
    obtain ⟨x, hx, hr⟩ := Option.bind_eq_some_iff.1 e
    obtain ⟨k, h1⟩ := hG.fin x hx hk
    obtain ⟨k', h2⟩ := (hH x).fin r hr hk
    refine ⟨k + k', Option.bind_eq_some_iff.2 ⟨x, hG.mono _ _ (up_le hk k k') x h1, ?_⟩⟩
    have := (hH x).mono _ _ (up_le hk k' k) r h2
    rwa [Nat.add_comm] at this

theorem Cts.call (T : Tab) (f : Nat) (a : List AV) (s : St) : Cts T (fun O => O.call f a s) :=
  ⟨fun _ _ h r e => h.call f a s r e, fun r e hk => (lim_some (fun k r => (hk k).call f a s r) r).1 e⟩
theorem Cts.yield (T : Tab) (f : Nat) (a : List AV) (s : St) : Cts T (fun O => O.yield f a s) :=
  ⟨fun _ _ h r e => h.yield f a s r e, fun r e hk => (lim_some (fun k r => (hk k).yield f a s r) r).1 e⟩
theorem Cts.loop (T : Tab) (d : Bool) (c : AC) (f : List AV) (s : St) : Cts T (fun O => O.loop d c f s) :=
  ⟨fun _ _ h r e => h.loop d c f s r e, fun r e hk => (lim_some (fun k r => (hk k).loop d c f s r) r).1 e⟩

theorem Cts.congr {α : Type} {T : Tab} {G G' : Orc → Option α} (h : Cts T G') (e : ∀ O, G O = G' O) : Cts T G := by
  rw [show G = G' from funext e]; exact h

theorem Cts.callV (T : Tab) (f : AV) (a : List AV) (s : St) : Cts T (fun O => callV O f a s) := by
  unfold A.callV
  split
  · exact Cts.call T _ _ _
  · exact Cts.yield T _ _ _
  · exact Cts.const _

theorem Cts.callF (T : Tab) (f : AV) (a : List AV) (s : St) : Cts T (fun O => callF O f a s) := by
  unfold A.callF
  split
  · exact Cts.call T _ _ _
  · exact Cts.const _

theorem Cts.exOp (T : Tab) (fr : List AV) (st : St) (o : AO) : Cts T (fun O => exOp O fr st o) := by
  cases o with
  | call f args => exact Cts.call T _ _ _
  | callv f args => exact Cts.callV T _ _ _
  | _ => exact Cts.const _

theorem Cts.exStep (T : Tab) (o : AOp) (fr : List AV) (st : St) : Cts T (fun O => exStep O o fr st) := by
  unfold A.exStep
  have h := Cts.bind (Cts.exOp T fr st o.op) (fun x => Cts.const (T := T) (some (put fr o.dst x.1, x.2)))
  have h' : Cts T (fun O => match A.exOp O fr st o.op with | some (v, st') => some (put fr o.dst v, st') | none => none) :=
    h.congr fun O => by cases A.exOp O fr st o.op <;> rfl
  split
  · exact h'
  · split
    · rename_i b _
      cases b == _
      · exact Cts.const _
      · exact h'
    · exact Cts.const _

theorem Cts.exOps (T : Tab) (l : List AOp) : ∀ (fr : List AV) (st : St), Cts T (fun O => exOps O l fr st) := by
  induction l with
  | nil => exact fun fr st => Cts.const _
  | cons o l ih =>
    intro fr st
    refine (Cts.bind (Cts.exStep T o fr st) (fun x => ih x.1 x.2)).congr fun O => ?_
    simp only [A.exOps]
    cases A.exStep O o fr st <;> rfl

theorem Cts.exDraw (T : Tab) (l : List AOp) : ∀ (ts : List (Nat × Nat × Nat × Nat)) (fr : List AV) (st : St), Cts T (fun O => exDraw O l ts fr st) := by
  induction l with
  | nil => exact fun ts fr st => Cts.const _
  | cons o l ih =>
    intro ts fr st
    refine (Cts.bind (Cts.exStep T o fr st) (fun x => ih (target fr o.op ++ ts) x.1 x.2)).congr fun O => ?_
    simp only [A.exDraw]
    cases A.exStep O o fr st <;> rfl

theorem Cts.exC (T : Tab) (rd : Bool) (c : AC) : ∀ (fr : List AV) (st : St), Cts T (fun O => exC O rd c fr st) := by
  induction c with
  | skip => exact fun _ _ => Cts.const _
  | exit id => exact fun _ _ => Cts.const _
  | ret => exact fun _ _ => Cts.const _
  | ops l d =>
    intro fr st
    cases d with
    | false => exact (Cts.bind (Cts.exOps T l fr st) (fun x => Cts.const (some (AE.norm, x.1, x.2)))).congr fun O => by simp only [A.exC]; cases A.exOps O l fr st <;> rfl
    | true => exact (Cts.bind (Cts.exDraw T l [] fr st) (fun x => Cts.const (some (AE.norm, x.1, x.2)))).congr fun O => by simp only [A.exC]; cases A.exDraw O l [] fr st <;> rfl
  | seq a b iha ihb =>
    intro fr st
    refine (Cts.bind (G := fun O => A.exC O rd a fr st) (H := fun x O => match x with | (.norm, fr', st') => A.exC O rd b fr' st' | r => some r) (iha fr st) (fun x => ?_)).congr fun O => ?_
    · obtain ⟨e, fr', st'⟩ := x
      cases e with
      | norm => exact ihb fr' st'
      | exit id => exact Cts.const _
      | ret => exact Cts.const _
    · simp only [A.exC]
      rcases A.exC O rd a fr st with _ | ⟨e, fr', st'⟩
      · rfl
      · cases e <;> rfl
  | cond c a b iha ihb =>
    intro fr st
    simp only [A.exC]
    split
    · rename_i t _
      cases t
      · exact ihb fr st
      · exact iha fr st
    · exact Cts.const _
  | block id c ih =>
    intro fr st
    refine (Cts.bind (ih fr st) (fun x => Cts.const (match x with | (.exit j, fr', st') => (if j = id then some (.norm, fr', st') else some (.exit j, fr', st')) | r => some r))).congr fun O => ?_
    simp only [A.exC]
    rcases A.exC O rd c fr st with _ | ⟨e, fr', st'⟩
    · rfl
    · cases e <;> rfl
  | loop c ih => exact fun fr st => Cts.loop T rd c fr st
  | range f ps asg body _ _ =>
    intro fr st
    simp only [A.exC]
    cases rd with
    | true => exact Cts.const _
    | false =>
      refine (Cts.bind (Cts.callF T (ev fr f) [.yld (st.objs.length + 1)] { st with objs := st.objs ++ [.dfr, .loop .ready none fr ps asg body], df := st.objs.length :: st.df }) (fun x => Cts.const
        (match x.2.objs[st.objs.length + 1]? with
        | some (.loop s p fr' ps' asg' body') =>
          match s with
          | .busy => none
          | _ => some (p.getD .norm, fr, x.2.set (st.objs.length + 1) (.loop .exhausted p fr' ps' asg' body'))
        | _ => none))).congr fun O => ?_
      simp only [Bool.false_eq_true, if_false]
      rcases A.callF O (ev fr f) [.yld (st.objs.length + 1)] { st with objs := st.objs ++ [.dfr, .loop .ready none fr ps asg body], df := st.objs.length :: st.df } with _ | ⟨v, st'⟩
      · rfl
      · rfl

theorem Cts.exFn (T : Tab) (F : AF) (args : List AV) (st : St) : Cts T (fun O => exFn O F args st) := by
  unfold A.exFn
  split
  · exact Cts.const _
  · refine (Cts.bind (Cts.exC T false F.body (args ++ List.replicate (F.ntmps - args.length) .any) { objs := st.objs, ro := if F.pure then st.objs.length else st.ro, df := [] }) (fun x => Cts.const (match x with
      | (.exit _, _, _) => none
      | (_, fr, st') =>
        match resOf { st' with objs := killAll st'.df st'.objs } fr F.results with
        | some vs =>
          if F.pure then (match hand st.objs.length (killAll st'.df st'.objs) (tupOf vs) with | some v => some (v, st) | none => none)
          else some (tupOf vs, { objs := killAll st'.df st'.objs, ro := st.ro, df := st.df })
        | none => none))).congr fun O => ?_
    generalize A.exC O false F.body (args ++ List.replicate (F.ntmps - args.length) AV.any) _ = z
    rcases z with _ | ⟨e, fr', st'⟩
    · rfl
    · cases e <;> rfl

theorem Cts.exYield (T : Tab) (r : Nat) (args : List AV) (st : St) : Cts T (fun O => exYield O r args st) := by
  unfold A.exYield
  split
  · rename_i fr ps asg body _
    split
    · refine (Cts.bind (Cts.exC T true asg (bindP fr ps args) { st with df := [] }) (H := fun x O => match x with
        | (.norm, fr1, st1) =>
          match st1.objs[r]? with
          | some (.loop .ready none fr2 ps2 asg2 body2) =>
            match A.exC O true body fr1 (st1.set r (.loop .busy none fr2 ps2 asg2 body2)) with
            | some (e, _, st3) =>
              match st3.objs[r]? with
              | some (.loop .busy none fr4 ps4 asg4 body4) =>
                match e with
                | .norm => some (.bool true, { st3.set r (.loop .ready none fr4 ps4 asg4 body4) with df := st.df })
                | e => some (.bool false, { st3.set r (.loop .done (some e) fr4 ps4 asg4 body4) with df := st.df })
              | _ => none
            | none => none
          | _ => none
        | _ => none) (fun x => ?_)).congr fun O => ?_
      · obtain ⟨e, fr1, st1⟩ := x
        cases e with
        | exit id => exact Cts.const _
        | ret => exact Cts.const _
        | norm =>
          dsimp only
          split
          · rename_i fr2 ps2 asg2 body2 _
            refine (Cts.bind (Cts.exC T true body fr1 (st1.set r (.loop .busy none fr2 ps2 asg2 body2))) (fun x => Cts.const (match x.2.2.objs[r]? with
              | some (.loop .busy none fr4 ps4 asg4 body4) =>
                match x.1 with
                | .norm => some (AV.bool true, { x.2.2.set r (.loop .ready none fr4 ps4 asg4 body4) with df := st.df })
                | e => some (.bool false, { x.2.2.set r (.loop .done (some e) fr4 ps4 asg4 body4) with df := st.df })
              | _ => none))).congr fun O => ?_
            rcases A.exC O true body fr1 _ with _ | ⟨e, fr', st'⟩
            · rfl
            · rfl
          · exact Cts.const _
      · rcases A.exC O true asg (bindP fr ps args) { st with df := [] } with _ | ⟨e, fr', st'⟩
        · rfl
        · cases e <;> rfl
    · exact Cts.const _
  · exact Cts.const _

theorem orc_le (T : Tab) : ∀ k, Le (orc T k) (orc T (k + 1)) := by
  intro k
  induction k with
  | zero => exact ⟨fun _ _ _ _ h => by simp [orc] at h, fun _ _ _ _ h => by simp [orc] at h, fun _ _ _ _ _ h => by simp [orc] at h⟩
  | succ k ih =>
    refine ⟨fun f a s r h => ?_, fun f a s r h => (Cts.exYield T f a s).mono _ _ ih r h, fun d c f s r h => ?_⟩
    · simp only [orc] at h ⊢
      cases hf : T f with
      | none => rw [hf] at h; exact h
      | some F => rw [hf] at h; exact (Cts.exFn T F a s).mono _ _ ih r h
    · have key : ∀ O O' : Orc, Le O O' → ∀ r, (match A.exC O d c f s with | some (.norm, fr', st') => O.loop d c fr' st' | r => r) = some r →
          (match A.exC O' d c f s with | some (.norm, fr', st') => O'.loop d c fr' st' | r => r) = some r := by
        intro O O' hO r h
        rcases hc : A.exC O d c f s with _ | ⟨e, fr', st'⟩
        · rw [hc] at h; cases h
        · rw [(Cts.exC T d c f s).mono O O' hO _ hc]
          rw [hc] at h
          cases e with
          | norm => exact hO.loop d c fr' st' r h
          | exit id => exact h
          | ret => exact h
      exact key _ _ ih r h

theorem D_le (T : Tab) (k : Nat) : Le (orc T k) (D T) :=
  ⟨fun f a s r h => (lim_some (fun k r => (orc_le T k).call f a s r) r).2 ⟨k, h⟩, fun f a s r h => (lim_some (fun k r => (orc_le T k).yield f a s r) r).2 ⟨k, h⟩,
   fun d c f s r h => (lim_some (fun k r => (orc_le T k).loop d c f s r) r).2 ⟨k, h⟩⟩

theorem opt_ext {α : Type} {a b : Option α} (h1 : ∀ r, a = some r → b = some r) (h2 : ∀ r, b = some r → a = some r) : a = b := by
  cases a with
  | none => cases b with
    | none => rfl
    | some r => exact h2 r rfl
  | some r => exact (h1 r rfl).symm

theorem D_call (T : Tab) (f : Nat) (F : AF) (hF : T f = some F) (a : List AV) (s : St) : (D T).call f a s = exFn (D T) F a s := by
  refine opt_ext (fun r h => ?_) (fun r h => ?_)
  · obtain ⟨k, hk⟩ := (lim_some (fun k r => (orc_le T k).call f a s r) r).1 h
    cases k with
    | zero => simp [orc] at hk
    | succ k => simp only [orc, hF] at hk; exact (Cts.exFn T F a s).mono _ _ (D_le T k) r hk
  · obtain ⟨k, hk⟩ := (Cts.exFn T F a s).fin r h (orc_le T)
    refine (D_le T (k + 1)).call f a s r ?_
    simp only [orc, hF]; exact hk

theorem D_yield (T : Tab) (f : Nat) (a : List AV) (s : St) : (D T).yield f a s = exYield (D T) f a s := by
  refine opt_ext (fun r h => ?_) (fun r h => ?_)
  · obtain ⟨k, hk⟩ := (lim_some (fun k r => (orc_le T k).yield f a s r) r).1 h
    cases k with
    | zero => simp [orc] at hk
    | succ k => exact (Cts.exYield T f a s).mono _ _ (D_le T k) r hk
  · obtain ⟨k, hk⟩ := (Cts.exYield T f a s).fin r h (orc_le T)
    exact (D_le T (k + 1)).yield f a s r hk

theorem D_loop (T : Tab) (d : Bool) (c : AC) (f : List AV) (s : St) : (D T).loop d c f s = match exC (D T) d c f s with
    | some (.norm, fr', st') => (D T).loop d c fr' st'
    | r => r := by
  refine opt_ext (fun r h => ?_) (fun r h => ?_)
  · obtain ⟨k, hk⟩ := (lim_some (fun k r => (orc_le T k).loop d c f s r) r).1 h
    cases k with
    | zero => simp [orc] at hk
    | succ k =>
      simp only [orc] at hk
      rcases hc : exC (orc T k) d c f s with _ | ⟨e, fr', st'⟩
      · rw [hc] at hk; cases hk
      · rw [(Cts.exC T d c f s).mono _ _ (D_le T k) _ hc]
        rw [hc] at hk
        cases e with
        | norm => exact (D_le T k).loop d c fr' st' r hk
        | exit id => exact hk
        | ret => exact hk
  · rcases hc : exC (D T) d c f s with _ | ⟨e, fr', st'⟩
    · rw [hc] at h; cases h
    · rw [hc] at h
      obtain ⟨k, hk⟩ := (Cts.exC T d c f s).fin _ hc (orc_le T)
      cases e with
      | norm =>
        obtain ⟨k', hk'⟩ := (lim_some (fun k r => (orc_le T k).loop d c fr' st' r) r).1 h
        refine (D_le T (k + k' + 1)).loop d c f s r ?_
        simp only [orc]
        rw [(Cts.exC T d c f s).mono _ _ (up_le (orc_le T) k k') _ hk]
        have := (up_le (orc_le T) k' k).loop d c fr' st' r hk'
        rwa [Nat.add_comm] at this
      | exit id =>
        refine (D_le T (k + 1)).loop d c f s r ?_
        simp only [orc]; rw [hk]; exact h
      | ret =>
        refine (D_le T (k + 1)).loop d c f s r ?_
        simp only [orc]; rw [hk]; exact h

end Go.Proofs.YtcoonnbkmklenaaDoor.A
