/- Loops by an invariant, rounds of a loop over a function, and lookups in a store that is known from its beginning. -/
import Derived.Test.YtcoonnbkmklenaaDoorWp2
namespace Go.Proofs.YtcoonnbkmklenaaDoor.A
open Go

/-- a loop whose invariant is kept, and whose measure falls -/
theorem loop_inv {σ : Type} {T : Tab} {rd : Bool} {c c' : AC} (hc : c = c') {Q : AE → List AV → St → Prop} (μ : σ → Nat) (I : σ → List AV → St → Prop)
    (h : ∀ s fr st, I s fr st → run (D T) rd (fun e fr' st' => match e with
      | .norm => ∃ s', μ s' < μ s ∧ I s' fr' st'
      | .exit id => Q (.exit id) fr' st'
      | .ret => Q .ret fr' st') [.c c'] .norm fr st) (s : σ) {fr : List AV} {st : St} (hi : I s fr st) :
    ∃ e fr' st', (D T).loop rd c fr st = some (e, fr', st') ∧ Q e fr' st' := by
  subst hc
  have key : ∀ (n : Nat) s fr st, μ s = n → I s fr st → ∃ e fr' st', (D T).loop rd c fr st = some (e, fr', st') ∧ Q e fr' st' := by
    intro n
    induction n using Nat.strongRecOn with
    | ind n ih =>
      intro s fr st hn hi
      have := h s fr st hi
      rw [run_one] at this
      obtain ⟨e, fr', st', he, hq⟩ := kC_get c (Q := _) this
      rw [D_loop, he]
      cases e with
      | norm =>
        obtain ⟨s', hlt, hi'⟩ := hq
        exact ih (μ s') (by omega) s' fr' st' rfl hi'
      | exit id => exact ⟨_, _, _, rfl, hq⟩
      | ret => exact ⟨_, _, _, rfl, hq⟩
  exact key _ s fr st rfl hi

/-- one round of a loop over a function -/
theorem yield_of {T : Tab} {r : Nat} {args fr : List AV} {ps : List Nat} {asg body : AC} {st : St} {R : AV → St → Prop}
    (h0 : st.objs[r]? = some (.loop .ready none fr ps asg body)) (ha : args.length = ps.length) (hr : st.ro ≤ r)
    (h : run (D T) true (fun e fr1 st1 => e = .norm ∧ match st1.objs[r]? with
      | some (.loop .ready none fr2 ps2 asg2 body2) => run (D T) true (yend r st.df R) [.c body] .norm fr1 (st1.set r (.loop .busy none fr2 ps2 asg2 body2))
      | _ => False) [.c asg] .norm (bindP fr ps args) { st with df := [] }) :
    ∃ v s, (D T).yield r args st = some (v, s) ∧ R v s := by
  rw [run_one] at h
  obtain ⟨e, fr1, st1, he, rfl, hq⟩ := kC_get asg (Q := _) h
  rw [D_yield]
  unfold exYield
  rw [h0]
  dsimp only
  rw [if_pos ⟨ha, hr⟩, he]
  simp only [] at hq ⊢
  split at hq
  · rename_i fr2 ps2 asg2 body2 h1
    rw [h1]
    dsimp only
    rw [run_one] at hq
    obtain ⟨e, fr3, st3, he3, hq⟩ := kC_get body (Q := _) hq
    rw [he3]
    dsimp only
    unfold yend at hq
    cases e with
    | norm =>
      simp only [] at hq ⊢
      split at hq
      · rename_i h3
        rw [h3]
        exact ⟨_, _, rfl, hq⟩
      · exact hq.elim
    | exit id =>
      simp only [] at hq ⊢
      split at hq
      · rename_i h3
        rw [h3]
        exact ⟨_, _, rfl, hq⟩
      · exact hq.elim
    | ret =>
      simp only [] at hq ⊢
      split at hq
      · rename_i h3
        rw [h3]
        exact ⟨_, _, rfl, hq⟩
      · exact hq.elim
  · exact hq.elim

theorem kStep_mono {O : Orc} {o : AOp} {fr : List AV} {st : St} {K K' : List AV → St → Prop} (h : kStep O o fr st K) (hk : ∀ f s, K f s → K' f s) : kStep O o fr st K' := by
  unfold kStep at *
  split at h
  · exact kOp_mono h fun v s h => hk _ _ h
  · split at h
    · split at h
      · rename_i hx
        rw [if_pos hx]
        exact kOp_mono h fun v s h => hk _ _ h
      · rename_i hx
        rw [if_neg hx]
        exact hk _ _ h
    · exact h.elim

/-- one round of a loop over a function, by its texts -/
theorem yield_step {T : Tab} {r : Nat} {args fr : List AV} {ps : List Nat} {asg body asg' body' : AC} {st : St} {R : AV → St → Prop} (hA : asg = asg') (hB : body = body')
    (h0 : st.objs[r]? = some (.loop .ready none fr ps asg body)) (ha : args.length = ps.length) (hr : st.ro ≤ r)
    (h : run (D T) true (fun e fr1 st1 => e = .norm ∧ st1.objs[r]? = some (.loop .ready none fr ps asg body) ∧
      run (D T) true (yend r st.df R) [.c body'] .norm fr1 (st1.set r (.loop .busy none fr ps asg body))) [.c asg'] .norm (bindP fr ps args) { st with df := [] }) :
    ∃ v s, (D T).yield r args st = some (v, s) ∧ R v s := by
  subst hA hB
  refine yield_of h0 ha hr ?_
  rw [run_one] at h ⊢
  have mono : ∀ (c : AC) {fr : List AV} {st : St} {Q Q' : AE → List AV → St → Prop}, kC (D T) true c fr st Q → (∀ e f s, Q e f s → Q' e f s) → kC (D T) true c fr st Q' := by
    intro c
    induction c with
    | skip => exact fun h k => k _ _ _ h
    | exit id => exact fun h k => k _ _ _ h
    | ret => exact fun h k => k _ _ _ h
    | ops l d =>
      intro fr st Q Q' h k
      have ops : ∀ (l : List AOp) {fr : List AV} {st : St} {K K' : List AV → St → Prop}, kOps (D T) l fr st K → (∀ f s, K f s → K' f s) → kOps (D T) l fr st K' := by
        intro l
        induction l with
        | nil => exact fun h k => k _ _ h
        | cons o l ih =>
          intro fr st K K' h k
          exact kStep_mono h fun f s h => ih h k
      have draw : ∀ (l : List AOp) {ts : List (Nat × Nat × Nat × Nat)} {fr : List AV} {st : St} {K K' : List AV → St → Prop}, kDraw (D T) l ts fr st K → (∀ f s, K f s → K' f s) → kDraw (D T) l ts fr st K' := by
        intro l
        induction l with
        | nil => exact fun h k => ⟨h.1, k _ _ h.2⟩
        | cons o l ih =>
          intro ts fr st K K' h k
          exact kStep_mono h fun f s h => ih h k
      cases d with
      | false => exact ops l h fun f s h => k _ _ _ h
      | true => exact draw l h fun f s h => k _ _ _ h
    | seq a b iha ihb =>
      intro fr st Q Q' h k
      refine iha h fun e f s h => ?_
      cases e with
      | norm => exact ihb h k
      | exit id => exact k _ _ _ h
      | ret => exact k _ _ _ h
    | cond c a b iha ihb =>
      intro fr st Q Q' h k
      simp only [kC] at h ⊢
      split at h
      · rename_i t ht
        cases t
        · simp only [Bool.false_eq_true, if_false] at h ⊢
          exact ihb h k
        · simp only [if_true] at h ⊢
          exact iha h k
      · exact h.elim
    | block id c ih =>
      intro fr st Q Q' h k
      refine ih h fun e f s h => ?_
      cases e with
      | norm => exact k _ _ _ h
      | exit j =>
        by_cases hj : j = id
        · simp only [hj, if_true] at h ⊢
          exact k _ _ _ h
        · simp only [hj, if_false] at h ⊢
          exact k _ _ _ h
      | ret => exact k _ _ _ h
    | loop c ih =>
      rintro fr st Q Q' ⟨e, f, s, h1, h2⟩ k
      exact ⟨e, f, s, h1, k _ _ _ h2⟩
    | range f ps asg body _ _ =>
      rintro fr st Q Q' ⟨h, _⟩ k
      cases h
  refine mono _ h fun e f s hq => ?_
  obtain ⟨h1, h2, h3⟩ := hq
  refine ⟨h1, ?_⟩
  rw [h2]
  exact h3

theorem get_base0 {α : Type} (l m : List α) : (l ++ m)[l.length]? = m[0]? := by
  rw [List.getElem?_append_right (Nat.le_refl _)]; simp
theorem get_base {α : Type} (l m : List α) (k : Nat) : (l ++ m)[l.length + k]? = m[k]? := by
  rw [List.getElem?_append_right (by omega)]; simp
theorem set_base0 {α : Type} (l m : List α) (o : α) : (l ++ m).set l.length o = l ++ m.set 0 o := by
  rw [List.set_append_right _ _ (by omega)]; simp
theorem set_base {α : Type} (l m : List α) (k : Nat) (o : α) : (l ++ m).set (l.length + k) o = l ++ m.set k o := by
  rw [List.set_append_right _ _ (by omega)]; simp

/-- a call, its frame known by its slots, what it gives by a condition -/
theorem call_for {T : Tab} {f n : Nat} {rs : List ARes} {c : AC} {p : Bool} (hF : T f = some ⟨n, rs, c, p⟩) {args : List AV} {st : St} {R : AV → St → Prop} (hn : args.length ≤ n)
    (h : ∀ fr : List AV, fr.length = n → (∀ (j : Nat) x, args[j]? = some x → slot fr j = x) →
      run (D T) false (fin rs p st R) [.c c] .norm fr { objs := st.objs, ro := if p = true then st.objs.length else st.ro, df := [] }) :
    ∃ v s, (D T).call f args st = some (v, s) ∧ R v s := by
  refine call_of hF hn (h _ (by simp; omega) fun j x hx => ?_)
  have hj : j < args.length := (List.getElem?_eq_some_iff.1 hx).1
  exact slot_of (by rw [List.getElem?_append_left hj]; exact hx)

@[simp] theorem slot_set_same {fr : List AV} {d : Nat} {v : AV} (h : d < fr.length) : slot (fr.set d v) d = v := slot_same h
@[simp] theorem slot_set_other {fr : List AV} {d e : Nat} {v : AV} (h : d ≠ e) : slot (fr.set d v) e = slot fr e := slot_other h

/-- facts for a loop over a list's numbers -/
theorem idx_end {α : Type} {l pre : List α} (e : l = pre ++ []) : ¬ ((pre.length : Int) < (l.length : Int)) := by subst e; simp
theorem idx_at {α : Type} {l pre rest : List α} {x : α} (e : l = pre ++ x :: rest) : (pre.length : Int) < (l.length : Int) ∧ l[pre.length]? = some x ∧ pre.length < l.length := by
  subst e
  refine ⟨by simp; omega, by simp, by simp⟩
theorem idx_next {α : Type} {l pre rest : List α} {x : α} (e : l = pre ++ x :: rest) (hl : l.length ≤ 9223372036854775807) : IntKind.i64.wrap ((pre.length : Int) + 1) = ((pre ++ [x]).length : Int) := by
  subst e
  simp only [List.length_append, List.length_cons] at hl
  simp [IntKind.wrap, IntKind.signed, IntKind.bits]
  omega

/-! readings, each for what it reads (for texts that hide the general ones: -ld -idxA -lenOf -elems -canA -app -hand) -/
section
variable (st : St) (agg full : Bool) (sz s r i off lo n : Nat) (k : IntKind) (x : Int) (cs : List AV) (es : List (List AV))
@[simp] theorem ld_ptr : ld st agg sz (.ptr r i off) = match st.arr? r with
    | some (_, _, es) => match es[i]? with
      | some e => if off + sz ≤ e.length then val agg ((e.drop off).take sz) else none
      | none => none
    | none => none := rfl
@[simp] theorem ld_vptr : ld st agg sz (.vptr cs) = if sz ≤ cs.length then val agg (cs.take sz) else none := rfl
@[simp] theorem idxA_sl : idxA st sz (.sl s es) (.int k x) = if inB x es.length = true ∧ s = sz then some (.vptr (es.getD x.toNat [])) else none := rfl
@[simp] theorem idxA_fsl : idxA st sz (.fsl s es) (.int k x) = if inB x es.length = true ∧ s = sz then some (.vptr (es.getD x.toNat [])) else none := rfl
@[simp] theorem idxA_own : idxA st sz (.own r lo n full) (.int k x) = match st.arr? r with
    | some (_, s, es) => if inB x n = true ∧ s = sz ∧ lo + n ≤ es.length then some (.ptr r (lo + x.toNat) 0) else none
    | none => none := rfl
@[simp] theorem lenOf_sl : lenOf (.sl s es) = some es.length := rfl
@[simp] theorem lenOf_fsl : lenOf (.fsl s es) = some es.length := rfl
@[simp] theorem lenOf_own : lenOf (.own r lo n full) = some n := rfl
@[simp] theorem elems_sl : elems st (.sl s es) = some (s, es) := rfl
@[simp] theorem elems_fsl : elems st (.fsl s es) = some (s, es) := rfl
@[simp] theorem canA_agg : canA (.agg cs) = .agg (canL cs) := rfl
@[simp] theorem canA_sl : canA (.sl s es) = .sl s es := rfl
@[simp] theorem canA_fsl : canA (.fsl s es) = .fsl s es := rfl
@[simp] theorem canA_own : canA (.own r lo n full) = .own r lo n full := rfl
@[simp] theorem canA_ptr : canA (.ptr r lo n) = .ptr r lo n := rfl
@[simp] theorem canA_vptr : canA (.vptr cs) = .vptr cs := rfl
@[simp] theorem canA_int : canA (.int k x) = .int k x := rfl
@[simp] theorem canA_bool : canA (.bool full) = .bool full := rfl
@[simp] theorem canA_str (b : ByteArray) : canA (.str b) = .str b := rfl
@[simp] theorem canA_fn (f : Fn) (a b : List AV) : canA (.fn f a b) = .fn f a b := rfl
@[simp] theorem canA_yld : canA (.yld r) = .yld r := rfl
@[simp] theorem canA_nilf : canA .nilf = .nilf := rfl
@[simp] theorem canA_nilp : canA .nilp = .nilp := rfl
@[simp] theorem hand_bool (o : List Obj) : hand n o (.bool full) = some (.bool full) := rfl
@[simp] theorem hand_int (o : List Obj) : hand n o (.int k x) = some (.int k x) := rfl
@[simp] theorem hand_str (o : List Obj) (b : ByteArray) : hand n o (.str b) = some (.str b) := rfl
@[simp] theorem hand_agg (o : List Obj) : hand n o (.agg cs) = match mapO (hand0 n o) cs with | some cs' => some (.agg cs') | none => none := rfl
@[simp] theorem hand_tup (o : List Obj) : hand n o (.tup cs) = match mapO (hand1 n o) cs with | some cs' => some (.tup cs') | none => none := rfl
@[simp] theorem hand_fn (o : List Obj) (f : Fn) (a b : List AV) : hand n o (.fn f a b) = match mapO (hand0 n o) a with
    | some a' => match mapO (hand0 n o) b with | some b' => some (.fn f a' b') | none => none
    | none => none := rfl
@[simp] theorem hand_sl (o : List Obj) : hand n o (.sl s es) = if (AV.sl s es).flat = true then some (.sl s es) else none := rfl
@[simp] theorem hand_fsl (o : List Obj) : hand n o (.fsl s es) = if AV.flatLL es = true then some (.sl s es) else none := rfl
end

/-- lookups in a store that is known by its lookups -/
theorem getO_last {α : Type} {l : List α} {i : Nat} {x : α} (h : i = l.length) : (l ++ [x])[i]? = some x := by subst h; simp
theorem getO_set {α : Type} {l : List α} {i : Nat} {x : α} (h : i < l.length) : (l.set i x)[i]? = some x := by simp [h]
theorem setO_last {α : Type} {l : List α} {i : Nat} {x y : α} (h : i = l.length) : (l ++ [x]).set i y = l ++ [y] := by subst h; simp

/-! lists that grow -/

/-- the value of a slice that grows -/
def Gr (lo ty sz : Nat) (o : List Obj) (v : AV) (es : List (List AV)) : Prop :=
  v = .fsl sz es ∨ ∃ r, lo ≤ r ∧ v = .own r 0 es.length false ∧ o[r]? = some (.arr ty sz es)

theorem lt_of_getO {α : Type} {l : List α} {r : Nat} {x : α} (h : l[r]? = some x) : r < l.length := (List.getElem?_eq_some_iff.1 h).1
theorem getO_push {α : Type} {l : List α} {r : Nat} {x : α} (h : l[r]? = some x) (m : List α) : (l ++ m)[r]? = some x := by
  rw [List.getElem?_append_left (lt_of_getO h)]; exact h

theorem Gr.push {lo ty sz : Nat} {o : List Obj} {v : AV} {es : List (List AV)} (h : Gr lo ty sz o v es) (m : List Obj) : Gr lo ty sz (o ++ m) v es := by
  rcases h with h | ⟨r, h1, h2, h3⟩
  · exact .inl h
  · exact .inr ⟨r, h1, h2, getO_push h3 m⟩

theorem Gr.set {lo ty sz : Nat} {o : List Obj} {v : AV} {es : List (List AV)} (h : Gr lo ty sz o v es) {i : Nat} (hi : i < lo) (x : Obj) : Gr lo ty sz (o.set i x) v es := by
  rcases h with h | ⟨r, h1, h2, h3⟩
  · exact .inl h
  · exact .inr ⟨r, h1, h2, by rw [List.getElem?_set_ne (by omega)]; exact h3⟩

theorem Gr.le {lo lo' ty sz : Nat} {o : List Obj} {v : AV} {es : List (List AV)} (h : Gr lo ty sz o v es) (hl : lo' ≤ lo) : Gr lo' ty sz o v es := by
  rcases h with h | ⟨r, h1, h2, h3⟩
  · exact .inl h
  · exact .inr ⟨r, by omega, h2, h3⟩

theorem Gr.not {lo ty sz : Nat} {o : List Obj} {v : AV} {es : List (List AV)} (h : Gr lo ty sz o v es) {i : Nat} (hi : i < lo) (n : Nat) (f : Bool) : v ≠ .own i 0 n f := by
  rcases h with rfl | ⟨r, h1, rfl, h3⟩
  · simp
  · simp; omega

theorem Gr.lt {lo ty sz : Nat} {o : List Obj} {v : AV} {es : List (List AV)} (h : Gr lo ty sz o v es) {i : Nat} (hi : o.length ≤ i) (n : Nat) (f : Bool) : v ≠ .own i 0 n f := by
  rcases h with rfl | ⟨r, h1, rfl, h3⟩
  · simp
  · have := lt_of_getO h3
    simp; omega

theorem app_get' {o : List Obj} {lo ty sz bytes ro : Nat} {df : List Nat} {v : AV} {es : List (List AV)} (h : Gr lo ty sz o v es) (hro : ro ≤ lo)
    {x : AV} {xs : List (List AV)} (hx : elems ⟨o, ro, df⟩ x = some (sz, xs)) (hne : v = .fsl sz es → es = [] ∨ xs ≠ []) (hr : room (es.length + xs.length) bytes = true) :
    ∃ o', app ⟨o, ro, df⟩ ty sz bytes v x = some (.own o.length 0 (es.length + xs.length) false, ⟨o', ro, df⟩) ∧ o'.length = o.length + 1 ∧ o'[o.length]? = some (.arr ty sz (es ++ xs)) ∧
      ∀ i y, o[i]? = some y → (∀ n f, v ≠ .own i 0 n f) → o'[i]? = some y := by
  rcases h with rfl | ⟨r, h1, rfl, h3⟩
  · have hne := hne rfl
    exact ⟨o ++ [.arr ty sz (es ++ xs)], by unfold app; rw [hx]; simp [hr, hne, -elems], by simp, by simp, fun i y hy _ => getO_push hy _⟩
  · exact ⟨o.set r .dead ++ [.arr ty sz (es ++ xs)], by unfold app; rw [hx]; simp [h3, hr, show ro ≤ r by omega, -elems], by simp, by rw [show o.length = (o.set r .dead).length by simp]; simp,
      fun i y hy hv => getO_push (by rw [List.getElem?_set_ne (fun e => hv es.length false (by rw [e]))]; exact hy) _⟩

theorem app_get {o : List Obj} {lo ty sz bytes ro : Nat} {df : List Nat} {v : AV} {es : List (List AV)} (h : Gr lo ty sz o v es) (hro : ro ≤ lo)
    {x : AV} {xs : List (List AV)} (hx : elems ⟨o, ro, df⟩ x = some (sz, xs)) (hne : es = [] ∨ xs ≠ []) (hr : room (es.length + xs.length) bytes = true) :
    ∃ o', app ⟨o, ro, df⟩ ty sz bytes v x = some (.own o.length 0 (es.length + xs.length) false, ⟨o', ro, df⟩) ∧ o'.length = o.length + 1 ∧ o'[o.length]? = some (.arr ty sz (es ++ xs)) ∧
      ∀ i y, o[i]? = some y → (∀ n f, v ≠ .own i 0 n f) → o'[i]? = some y := app_get' h hro hx (fun _ => hne) hr

theorem gr_new {lo ty sz : Nat} {o o' : List Obj} {es : List (List AV)} {n : Nat} (h : o'[o.length]? = some (.arr ty sz es)) (hlo : lo ≤ o.length) (hn : n = es.length) : Gr lo ty sz o' (.own o.length 0 n false) es := by
  subst hn; exact .inr ⟨_, hlo, rfl, h⟩

theorem gr_hand {lo ty sz n : Nat} {o : List Obj} {v : AV} {es : List (List AV)} (h : Gr lo ty sz o v es) (hn : n ≤ lo) (hf : AV.flatLL es = true) : hand n o v = some (.sl sz es) := by
  rcases h with rfl | ⟨r, h1, rfl, h3⟩
  · simp [hf]
  · simp [show ¬ r < n by omega, h3, hf]

theorem gr_elems {lo ty sz : Nat} {o : List Obj} {v : AV} {es : List (List AV)} (h : Gr lo ty sz o v es) (ro : Nat) (df : List Nat) : elems ⟨o, ro, df⟩ v = some (sz, es) := by
  rcases h with rfl | ⟨r, h1, rfl, h3⟩
  · rfl
  · simp [h3]

/-- a slice whose elements can be read -/
structure Ls (o : List Obj) (sz : Nat) (v : AV) (es : List (List AV)) : Prop where
  len : lenOf v = some es.length
  can : canA v = v
  get : ∀ (m : List Obj) (ro : Nat) (df : List Nat) (i : Nat) e, es[i]? = some e → e.length = sz → ∃ p, idxA ⟨o ++ m, ro, df⟩ sz v (.int .i64 i) = some p ∧ ∀ agg, ld ⟨o ++ m, ro, df⟩ agg sz p = val agg e

theorem take_len {α : Type} {l : List α} {n : Nat} (h : l.length = n) : l.take n = l := by subst h; simp

theorem ls_sl {o : List Obj} {sz : Nat} (es : List (List AV)) : Ls o sz (.sl sz es) es := by
  refine ⟨rfl, rfl, fun m ro df i e he hl => ?_⟩
  have := lt_of_getO he
  refine ⟨.vptr e, by simp [idxA, inB, show (i : Int) < es.length by omega, List.getD_eq_getElem?_getD, he], fun agg => by simp [ld, hl, take_len hl]⟩

theorem ls_fsl {o : List Obj} {sz : Nat} (es : List (List AV)) : Ls o sz (.fsl sz es) es := by
  refine ⟨rfl, rfl, fun m ro df i e he hl => ?_⟩
  have := lt_of_getO he
  refine ⟨.vptr e, by simp [idxA, inB, show (i : Int) < es.length by omega, List.getD_eq_getElem?_getD, he], fun agg => by simp [ld, hl, take_len hl]⟩

theorem gr_ls {lo ty sz : Nat} {o : List Obj} {v : AV} {es : List (List AV)} (h : Gr lo ty sz o v es) : Ls o sz v es := by
  rcases h with rfl | ⟨r, h1, rfl, h3⟩
  · exact ls_fsl es
  · refine ⟨rfl, rfl, fun m ro df i e he hl => ?_⟩
    have := lt_of_getO he
    have hr := lt_of_getO h3
    have h4 : (o ++ m)[r]? = some (.arr ty sz es) := getO_push h3 m
    refine ⟨.ptr r i 0, by simp [idxA, inB, show (i : Int) < es.length by omega, h4], fun agg => by simp [ld, h4, he, hl, take_len hl]⟩

end Go.Proofs.YtcoonnbkmklenaaDoor.A
