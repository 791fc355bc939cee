/- Readings with sizes: no text, and no slice, takes more than the reach of memory. -/
import Derived.Test.YtgabnhmjlhhojaaRead
namespace Go.Proofs.Ytgabnhmjlhhojaa.A
open Go Go.ChangeShapes Go.WideShapes Go.RowKit
set_option linter.unusedSimpArgs false
set_option linter.unusedVariables false

def mxB : Nat := 140737488355328

/-- no piece is too large -/
def Wok {H : Type} (P : Program) (t : TypeId) (d : DataW H) : Prop := (d.weights P t).all (· ≤ reachBytes) = true

section
variable {P : Program} {H : Type} {enc : TypeId × Value → H}

theorem Wok_all {e : TypeId} : ∀ {l : List (DataW H)}, (DataW.weightsAll P e l).all (· ≤ reachBytes) = true → ∀ d ∈ l, Wok P e d
  | d :: l, h, x, hx => by
    simp only [DataW.weightsAll, List.all_append, Bool.and_eq_true] at h
    rcases List.mem_cons.1 hx with rfl | hx
    · exact h.1
    · exact Wok_all h.2 x hx

theorem Wok_slice {tL e : TypeId} (hL : P.underlying tL = some (.slice e)) (hb : 0 < P.bytesOf e) {elems spare : List (DataW H)} (h : Wok P tL (.slice elems spare)) : elems.length ≤ mxB ∧ ∀ d ∈ elems, Wok P e d := by
  unfold Wok at h
  simp only [DataW.weights, hL, List.all_cons, List.all_append, Bool.and_eq_true, decide_eq_true_eq] at h
  refine ⟨?_, Wok_all h.2.1⟩
  have h1 : elems.length ≤ (elems.length + spare.length) * P.bytesOf e := Nat.le_trans (Nat.le_add_right _ _) (Nat.le_mul_of_pos_right _ hb)
  have h2 := h.1
  unfold reachBytes at h2
  unfold mxB
  omega

theorem Wok_each : ∀ {ts : List TypeId} {ds : List (DataW H)}, (DataW.weightsEach P ts ds).all (· ≤ reachBytes) = true → ∀ (j : Nat) t d, ts[j]? = some t → ds[j]? = some d → Wok P t d
  | t :: ts, d :: ds, h, j, t', d', ht, hd => by
    simp only [DataW.weightsEach, List.all_append, Bool.and_eq_true] at h
    cases j with
    | zero => simp at ht hd; subst ht; subst hd; exact h.1
    | succ j => exact Wok_each h.2 j t' d' (by simpa using ht) (by simpa using hd)
  | [], _, _, j, _, _, ht, _ => by simp at ht
  | _ :: _, [], _, j, _, _, _, hd => by simp at hd

theorem Wok_struct {t : TypeId} {fs : Array Field} (hs : P.underlying t = some (.struct fs)) {parts : List (DataW H)} (h : Wok P t (.agg parts)) : ∀ (j : Nat) (f : Field), fs[j]? = some f → ∀ d, parts[j]? = some d → Wok P f.type d := by
  intro j f hf d hd
  unfold Wok at h
  simp only [DataW.weights, hs] at h
  exact Wok_each h j f.type d (by simp [hf]) hd

/-- a slice whose elements are read -/
theorem read_sliceW {α : Type} [Inhabited α] {f : α → List AV} {ok : α → Prop} {tL e : TypeId} {sz : Nat} (hL : P.underlying tL = some (.slice e)) (hsz : P.cellsOf e = sz) (h0 : 0 < sz) {W : World} {fuel : Nat} {cs : List Value} {x : DataW H × List MemPlace}
    (hb : 0 < P.bytesOf e)
    (h : DataW.trod enc P W 0 (fun _ => true) true fuel tL cs = some x) (hw : Wok P tL x.1)
    (ih : ∀ n, n + 1 = fuel → ∀ cs' y, DataW.trod enc P W 0 (fun _ => true) true n e cs' = some y → Wok P e y.1 → ∃ t, RepL (env0 W) 0 W (f t) cs' ∧ ok t ∧ (f t).length = sz ∧ ∀ v ∈ cs', v.oneCell' = true) :
    ∃ (c : Value) (l : List α), cs = [c] ∧ Rep (env0 W) 0 W (.sl sz (l.map f)) c ∧ (∀ t ∈ l, ok t) ∧ l.length ≤ mxB ∧ c.oneCell' = true := by
  rcases DataW.trod_slice hL h with ⟨rfl, _⟩ | ⟨a, len, cap, elems, rest, n, hn, rfl, hx, _, hl, hm, hlen, hel, _, _⟩
  · exact ⟨_, [], rfl, .sl 0 0 (fun _ _ => undef) rfl (Nat.le_refl _) (by simp) (.inl rfl) (by simp) (by simp), by simp, by simp, rfl⟩
  · rw [hx] at hw
    obtain ⟨w1, w2⟩ := Wok_slice hL hb hw
    have one : ∀ i, i < len → ∃ t : α, ok t ∧ (f t).length = sz ∧ ∃ cs', RepL (env0 W) 0 W (f t) cs' ∧ cs'.length = sz ∧ (∀ v ∈ cs', v.oneCell' = true) ∧ ∀ j, j < sz → W.cell? (a.add (i * sz + j)) = cs'[j]? := by
      intro i hi
      have := hel i hi
      rw [List.getElem?_eq_getElem (by omega)] at this
      obtain ⟨cs', h1, h2⟩ := Option.bind_eq_some_iff.1 this
      obtain ⟨t, t1, t2, t3, t4⟩ := ih n hn.symm cs' _ h2 (w2 _ (List.mem_map_of_mem (List.getElem_mem _)))
      rw [hsz] at h1
      obtain ⟨_, q1, q2⟩ := World.cells?_some h1
      exact ⟨t, t2, t3, cs', t1, q1, t4, fun j hj => by rw [← Deep.add_add]; exact q2 j hj⟩
    obtain ⟨g, hg⟩ := Deep.choose_lt (n := len) (p := fun i t => ok t ∧ (f t).length = sz ∧ ∃ cs', RepL (env0 W) 0 W (f t) cs' ∧ cs'.length = sz ∧ (∀ v ∈ cs', v.oneCell' = true) ∧ ∀ j, j < sz → W.cell? (a.add (i * sz + j)) = cs'[j]?) one
    have hget : ∀ (i : Nat) e, (((List.range len).map g).map f)[i]? = some e → i < len ∧ e = f (g i) := by
      intro i e he
      have hi := lt_of_get he
      simp at hi
      simp [hi] at he
      exact ⟨hi, he.symm⟩
    refine ⟨_, (List.range len).map g, rfl, ?_, ?_, by simp only [List.length_map, List.length_range]; rw [List.length_map] at w1; omega, rfl⟩
    · by_cases hz : len = 0
      · subst hz
        exact .sl 0 0 (fun _ _ => undef) (by simp) hl (by simp) (.inl (by simp)) (by simp) (by simp)
      · obtain ⟨_, _, cs0, _, l0, _, c0⟩ := hg 0 (by omega)
        have hc0 := c0 0 h0
        rw [List.getElem?_eq_getElem (by omega)] at hc0
        have hsp : a.spot = none := by
          have := World.cell?_spot hc0
          simpa [Addr.add] using this
        have hfr := cell_fro hc0
        obtain ⟨b, o, sp⟩ := a
        simp only at hsp
        subst hsp
        have hadd : ∀ k, (⟨b, o, none⟩ : Addr).add k = ⟨b, o + k, none⟩ := fun k => Addr.add_lit ..
        rw [hadd] at hfr
        refine .sl b o (fun i j => (W.cell? ⟨b, o + i * sz + j, none⟩).getD undef) (by simp) hl (fun e he => ?_) (.inr ⟨rfl, hfr⟩) (fun i j hi hj => ?_) fun i e j y he hj => ?_
        · obtain ⟨i, hi, rfl⟩ := List.mem_iff_getElem.1 he
          obtain ⟨h1, h2⟩ := hget i _ (List.getElem?_eq_getElem hi)
          rw [h2]
          exact (hg i h1).2.1
        · have hi' : i < len := by simpa using hi
          obtain ⟨_, _, cs', _, l1, o1, c1⟩ := hg i hi'
          have := c1 j hj
          rw [List.getElem?_eq_getElem (by omega), hadd, ← Nat.add_assoc] at this
          simp only [this]
          exact ⟨rfl, o1 _ (List.getElem_mem _)⟩
        · obtain ⟨h1, rfl⟩ := hget i e he
          obtain ⟨_, t3, cs', r1, l1, o1, c1⟩ := hg i h1
          have hj' : j < sz := by rw [← t3]; exact lt_of_get hj
          have := c1 j hj'
          rw [List.getElem?_eq_getElem (by omega), hadd, ← Nat.add_assoc] at this
          simp only [this]
          exact r1.at_ j y _ hj (by rw [List.getElem?_eq_getElem (by omega)]; rfl)
    · intro t ht
      obtain ⟨i, hi, rfl⟩ := List.mem_map.1 ht
      exact (hg i (by simpa using hi)).1


/-- what a reading at some depth gives, with sizes -/
def RdW (P : Program) (k : Nat) (t : TypeId) (sz : Nat) (R : List AV → Prop) : Prop :=
  ∀ (H : Type) (enc : TypeId × Value → H) (W : World) (cs : List Value) (x : DataW H × List MemPlace), DataW.trod enc P W 0 (fun _ => true) true k t cs = some x → Wok P t x.1 →
    ∃ avs, R avs ∧ RepL (env0 W) 0 W avs cs ∧ avs.length = sz ∧ ∀ v ∈ cs, v.oneCell' = true

def RStrB (a : List AV) : Prop := ∃ s, a = [.str s] ∧ s.size ≤ mxB
def RSlB (sz : Nat) (R : List AV → Prop) (a : List AV) : Prop := ∃ es, a = [.sl sz es] ∧ (∀ e ∈ es, R e ∧ e.length = sz) ∧ es.length ≤ mxB

end
section
variable {P : Program} {t tL e : TypeId} {k sz : Nat} {R R' : List AV → Prop}
theorem RdAt.w (h : RdAt P k t sz R) : RdW P k t sz R := fun H enc W cs x hx _ => h H enc W cs x hx
theorem RdW.imp (h : RdW P k t sz R) (hi : ∀ a, R a → R' a) : RdW P k t sz R' := fun H enc W cs x hx hw => by
  obtain ⟨a, h1, h2⟩ := h H enc W cs x hx hw
  exact ⟨a, hi a h1, h2⟩

theorem rdw_str (ht : P.underlying t = some .string) : RdW P k t 1 RStrB := fun H enc W cs x hx hw => by
  obtain ⟨s, rfl, he, h1⟩ := DataW.trod_string ht hx
  rw [he] at hw
  simp only [Wok, DataW.weights, List.all_cons, List.all_nil, Bool.and_true, decide_eq_true_eq] at hw
  have hs : s.size ≤ mxB := by
    have : s.data.toList.length = s.size := Array.length_toList
    unfold reachBytes at hw
    unfold mxB
    omega
  exact ⟨_, ⟨s, rfl, hs⟩, ⟨rfl, fun j y v hy hv => by cases j with | zero => simp at hy hv; subst hy hv; exact .str _ | succ j => simp at hy⟩, rfl, by simp [Value.oneCell']⟩

theorem rdw_slice (hL : P.underlying tL = some (.slice e)) (hsz : P.cellsOf e = sz) (h0 : 0 < sz) (hb : 0 < P.bytesOf e) (h : ∀ n, n + 1 = k → RdW P n e sz R) : RdW P k tL 1 (RSlB sz R) := fun H enc W cs x hx hw => by
  obtain ⟨c, l, rfl, r1, r2, r3, r4⟩ := read_sliceW (α := List AV) (f := id) (ok := fun a => R a ∧ a.length = sz) hL hsz h0 hb hx hw fun n hn cs' y hy hwy => by
    obtain ⟨a, a1, a2, a3, a4⟩ := h n hn H enc W cs' y hy hwy
    exact ⟨a, a2, ⟨a1, a3⟩, a3, a4⟩
  rw [List.map_id] at r1
  exact ⟨_, ⟨l, rfl, r2, r3⟩, ⟨rfl, fun j y v hy hv => by cases j with | zero => simp at hy hv; subst hy hv; exact r1 | succ j => simp at hy⟩, rfl, by simpa using r4⟩

theorem rdw_struct (fs : List (TypeId × Nat × (List AV → Prop))) {flds : Array Field} (hs : P.underlying t = some (.struct flds)) (hf : flds.toList.map (fun f => (f.type, f.offset)) = offs 0 fs) (hc : ∀ f ∈ fs, P.cellsOf f.1 = f.2.1) (hsz : P.cellsOf t = total fs)
    (h : ∀ n, n + 1 = k → ∀ f ∈ fs, RdW P n f.1 f.2.1 f.2.2) : RdW P k t (total fs) (RCat (fs.map (·.2.2))) := fun H enc W cs x hx hw => by
  obtain ⟨xs, n, hn, hxe, hl, hxs, hg⟩ := DataW.trod_struct hs hx
  rw [hxe] at hw
  have wj := Wok_struct hs hw
  rw [hsz] at hl
  have key : ∀ (l : List (TypeId × Nat × (List AV → Prop))) (o j : Nat), (flds.toList.drop j).map (fun f => (f.type, f.offset)) = offs o l → (∀ f ∈ l, P.cellsOf f.1 = f.2.1 ∧ RdW P n f.1 f.2.1 f.2.2) → o + total l = cs.length →
      ∃ avs, RCat (l.map (·.2.2)) avs ∧ RepL (env0 W) 0 W avs (cs.drop o) ∧ avs.length = total l ∧ ∀ v ∈ cs.drop o, v.oneCell' = true := by
    intro l
    induction l with
    | nil =>
      intro o j _ _ ho
      have : cs.drop o = [] := List.drop_eq_nil_of_le (by simp [total] at ho; omega)
      rw [this]
      exact ⟨[], rfl, ⟨rfl, by simp⟩, rfl, by simp⟩
    | cons f l ih =>
      intro o j hoff hall ho
      simp only [offs, total] at hoff ho
      obtain ⟨fd, rest, e1, e2, e3⟩ := List.map_eq_cons_iff.1 hoff
      have hj : flds[j]? = some fd := by
        have : (flds.toList.drop j)[0]? = some fd := by rw [e1]; rfl
        simpa using this
      have hdrop : flds.toList.drop (j + 1) = rest := by
        have : (flds.toList.drop j).drop 1 = rest := by rw [e1]; rfl
        rwa [List.drop_drop] at this
      simp only [Prod.mk.injEq] at e2
      obtain ⟨h1, h2⟩ := hall f (List.mem_cons_self ..)
      have hx' := hg j fd hj
      rw [e2.1, e2.2, h1] at hx'
      have hjs : j < xs.length := by
        have := (Array.getElem?_eq_some_iff.1 hj).1
        omega
      rw [List.getElem?_eq_getElem hjs] at hx'
      obtain ⟨b, b1, b2, b3, b4⟩ := h2 H enc W _ _ hx' (by
        have := wj j fd hj (xs[j].1) (by rw [List.getElem?_map, List.getElem?_eq_getElem hjs]; rfl)
        rwa [e2.1] at this)
      obtain ⟨c, c1, c2, c3, c4⟩ := ih (o + f.2.1) (j + 1) (by rw [hdrop]; exact e3) (fun g hg => hall g (List.mem_cons_of_mem _ hg)) (by omega)
      have split : cs.drop o = (cs.drop o).take f.2.1 ++ cs.drop (o + f.2.1) := by rw [← List.drop_drop, List.take_append_drop]
      refine ⟨b ++ c, ⟨b, c, rfl, b1, c1⟩, by rw [split]; exact b2.cat c2, by simp [total, b3, c3], fun v hv => ?_⟩
      rw [split] at hv
      rcases List.mem_append.1 hv with hv | hv
      · exact b4 v hv
      · exact c4 v hv
  obtain ⟨a, a1, a2, a3, a4⟩ := key fs 0 0 (by simpa using hf) (fun f hf => ⟨hc f hf, h n hn.symm f hf⟩) (by omega)
  exact ⟨a, a1, by simpa using a2, a3, by simpa using a4⟩


def ArgRdW (P : Program) (t : TypeId) (A : AV → Prop) : Prop :=
  ∀ (H : Type) (enc : TypeId × Value → H) (W : World) (base : Nat) (v : Value) (d : DataW H) (ps : List MemPlace), Value.okWide P W .any base t v → DataW.Trod enc P W 0 (fun _ => true) true t v d ps → Wok P t d → ∃ a, A a ∧ Rep (env0 W) 0 W a v

theorem ArgRd.w {A : AV → Prop} (h : ArgRd P t A) : ArgRdW P t A := fun H enc W base v d ps h1 h2 _ => h H enc W base v d ps h1 h2
theorem ArgRdW.imp {A B : AV → Prop} (h : ArgRdW P t A) (hi : ∀ a, A a → B a) : ArgRdW P t B := fun H enc W base v d ps h1 h2 hw => by
  obtain ⟨a, ha, hr⟩ := h H enc W base v d ps h1 h2 hw
  exact ⟨a, hi a ha, hr⟩

theorem argw_struct {flds : Array Field} (hs : P.underlying t = some (.struct flds)) (h : ∀ k, RdW P k t sz R) : ArgRdW P t (fun a => ∃ avs, a = .agg avs ∧ R avs) := fun H enc W base v d ps hv ht hw => by
  unfold Value.okWide at hv
  rw [hs] at hv
  obtain ⟨cs, rfl, _⟩ := hv
  obtain ⟨n, hn⟩ := ht
  obtain ⟨avs, h1, h2, _, _⟩ := h n H enc W _ _ hn hw
  refine ⟨_, ⟨avs, rfl, h1⟩, .agg (by have := h2.len; simpa [Value.cells] using this) fun j x u hx hu => h2.at_ j x u hx (by simpa [Value.cells] using hu)⟩

theorem argw_one {u : TypeDesc} (hu : P.underlying t = some u) (hp : plainT u = true) (h : ∀ k, RdW P k t 1 R) : ArgRdW P t (fun a => R [a]) := fun H enc W base v d ps hv ht hw => by
  obtain ⟨n, hn⟩ := ht
  obtain ⟨avs, h1, h2, h3, _⟩ := h n H enc W _ _ hn hw
  obtain ⟨a, rfl⟩ : ∃ a, avs = [a] := List.length_eq_one_iff.1 h3
  have hc : v.cells = #[v] := by
    unfold Value.okWide at hv
    rw [hu] at hv
    cases u <;> simp only [plainT, Bool.false_eq_true] at hp <;> simp only [Cell.okWide, Cell.ok, hu] at hv <;> cases v <;> first | rfl | exact hv.elim
  rw [hc] at h2
  exact ⟨a, h1, h2.at_ 0 a v rfl rfl⟩

end

section
variable {P : Program}

/-- as many data as types -/
theorem open_args' {H : Type} {enc : TypeId × Value → H} {W : World} : ∀ {ts : List TypeId} {vs : List Value} {ds : List (DataW H)} {p : List MemPlace}, DataW.TrodAll enc P W 0 (fun _ => true) true ts vs ds p → True ∧ ds.length = ts.length ∧ True
  | [], vs, ds, p, hA => by
    obtain ⟨rfl, rfl, rfl⟩ := trodAll_nil hA
    exact ⟨trivial, rfl, trivial⟩
  | t :: ts, vs, ds, p, hA => by
    obtain ⟨v0, vs0, d0, ds0, p0, q0, rfl, rfl, rfl, h0, r0⟩ := trodAll_cons hA
    have := (open_args' r0).2.1
    exact ⟨trivial, by simp [this], trivial⟩

/-- arguments, one by one -/
theorem open_argsW {H : Type} {enc : TypeId × Value → H} {W : World} {base : Nat} : ∀ (ps : List (TypeId × (AV → Prop))) {vs : List Value} {ds : List (DataW H)} {p : List MemPlace}, (∀ q ∈ ps, ArgRdW P q.1 q.2) →
    (∀ (j : Nat) t v, (ps.map (·.1))[j]? = some t → vs[j]? = some v → Value.okWide P W .any base t v) → DataW.TrodAll enc P W 0 (fun _ => true) true (ps.map (·.1)) vs ds p → (∀ (j : Nat) t d, (ps.map (·.1))[j]? = some t → ds[j]? = some d → Wok P t d) →
    ∃ avs : List AV, Fits ps avs ∧ ds.length = ps.length ∧ RepL (env0 W) 0 W avs vs
  | [], vs, ds, p, _, _, hA, _ => by
    obtain ⟨rfl, rfl, rfl⟩ := trodAll_nil hA
    exact ⟨[], trivial, rfl, rfl, by simp⟩
  | q :: ps, vs, ds, p, hr, hval, hA, hw => by
    rw [List.map_cons] at hA
    obtain ⟨v0, vs0, d0, ds0, p0, q0, rfl, rfl, rfl, h0, r0⟩ := trodAll_cons hA
    obtain ⟨a, oa, ra⟩ := hr q (List.mem_cons_self ..) H enc W base v0 d0 p0 (hval 0 q.1 v0 rfl rfl) h0 (hw 0 q.1 d0 rfl rfl)
    obtain ⟨avs, l1, l2, l3⟩ := open_argsW ps (fun q hq => hr q (List.mem_cons_of_mem _ hq)) (fun j t v ht hv => hval (j + 1) t v (by simpa using ht) (by simpa using hv)) r0 (fun j t d ht hd => hw (j + 1) t d (by simpa using ht) (by simpa using hd))
    refine ⟨a :: avs, ⟨oa, l1⟩, by simp [l2], by simp [l3.len], fun j x u hx hu => ?_⟩
    cases j with
    | zero => simp at hx hu; subst hx hu; exact ra
    | succ j => exact l3.at_ j x u (by simpa using hx) (by simpa using hu)

/-- a law over such arguments, its function answering true at each of them -/
theorem contract_argsW {T : Tab} {f : FuncId} {fn : Func} {s : ChangeSpec} {tb : TypeId} (hT : TabOk P T) (hm : P.follows .mixedOrders = true) (hl : laidOutB P = true) (ps : List (TypeId × (AV → Prop))) (hps : ∀ q ∈ ps, ArgRdW P q.1 q.2) (hrd : ∀ q ∈ ps, P.readableRec q.1 = true ∧ q.1 < P.types.size)
    (hp : fn.params = (ps.map (·.1)).toArray) (hr : fn.resultTypes = #[tb]) (htb : P.underlying tb = some .bool) (hv : s.vars = [])
    (hs : ∀ (H : Type) (ds : List (DataW H)), ds.length = ps.length → s.fn H ds = { results := [.lit (.bool true)], args := ds })
    (law : ∀ avs : List AV, Fits ps avs → ∃ st', (D T).call f avs st0 = some (.bool true, st'))
    (H : Type) (enc : TypeId × Value → H) (W : World) (base : Nat) (args : Array Value) (ds gs : List (DataW H)) (before : List MemPlace)
    (hval : ∀ (j : Nat) t v, fn.params[j]? = some t → args[j]? = some v → Value.okWide P W .any base t v)
    (hW : DataW.Whole enc P fn.params.toList s.vars false W args.toList ds gs before) {sp : OpenSpec} (hsp : sp.vars = []) (hvt : sp.bare.plain.varTypes P = []) (hS : sizedMet enc P fn sp false W args) (hG : GlobOk (env0 W) W) (hrl : rl f = f := by rfl) :
    Calls P f args W fun e W' => ∃ v, e = .returned v ∧ s.post enc P fn false true false false W args v W' := by
  have hW' := hW
  obtain ⟨p, q, hA, hV, rfl, _, _⟩ := hW
  rw [hv] at hV
  obtain ⟨rfl, rfl⟩ := trodVars_none hV
  obtain ⟨_, ds2, gs2, bf2, ⟨p2, q2, hA2, hV2, _, _, _⟩, hwt⟩ := hS
  rw [hp] at hA hA2
  obtain ⟨_, l3, _⟩ := open_args' hA
  rw [hsp] at hV2
  obtain ⟨rfl, rfl⟩ := trodVars_none hV2
  obtain ⟨avs, l1, _, R⟩ := open_argsW ps hps (fun j t v ht hv => hval j t v (by rw [hp]; simpa using ht) (by simpa using hv)) hA2 (by
    rw [hvt, List.append_nil, List.append_nil, hp] at hwt
    exact Wok_each hwt)
  obtain ⟨st', hl'⟩ := law avs l1
  refine (calls_true hT hm hG hl' R hrl).mono fun e W' ⟨he, hb⟩ => ?_
  subst he
  exact ⟨_, rfl, post_below hl hv hr htb (by
    intro t ht
    rw [hp] at ht
    have ht' : t ∈ ps.map (·.1) := by simpa [-List.mem_map] using ht
    obtain ⟨q, hq, rfl⟩ := List.mem_map.1 ht'
    exact hrd q hq) (by rw [List.append_nil]; exact hs H ds (by simpa using l3)) hW' hb⟩


end
end Go.Proofs.Ytgabnhmjlhhojaa.A
