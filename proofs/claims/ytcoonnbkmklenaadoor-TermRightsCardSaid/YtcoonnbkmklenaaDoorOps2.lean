/- Append. -/
import Derived.Test.YtcoonnbkmklenaaDoorOps
namespace Go.Proofs.YtcoonnbkmklenaaDoor.A
open Go

section
variable {P : Program} {T : Tab} {E E' : Env} {st st' : St} {w w' : World} {n : Nat}

theorem mul_split {k m sz : Nat} (hs : 0 < sz) (h : k < m * sz) : k / sz < m ∧ k % sz < sz ∧ k = (k / sz) * sz + k % sz := by
  refine ⟨Nat.div_lt_of_lt_mul (by rwa [Nat.mul_comm]), Nat.mod_lt _ hs, ?_⟩
  rw [Nat.mul_comm]; exact (Nat.div_add_mod k sz).symm

theorem idx_lt {i j m sz : Nat} (hi : i < m) (hj : j < sz) : i * sz + j < m * sz := by
  have : (i + 1) * sz ≤ m * sz := Nat.mul_le_mul_right _ hi
  rw [Nat.add_mul, Nat.one_mul] at this
  omega

/-- elements that lie somewhere -/
structure Lie (E : Env) (n : Nat) (w : World) (sz : Nat) (xs : List (List AV)) (b o : Nat) (news : List Value) : Prop where
  len : news.length = xs.length * sz
  each : ∀ e ∈ xs, e.length = sz
  cell : ∀ (j : Nat) u, news[j]? = some u → w.cell? ⟨b, o + j, none⟩ = some u
  one : ∀ u ∈ news, u.oneCell' = true
  rep : ∀ (i : Nat) e (j : Nat) x, xs[i]? = some e → e[j]? = some x → ∃ u, news[i * sz + j]? = some u ∧ Rep E n w x u

theorem Lie.of {sz : Nat} {xs : List (List AV)} {b o : Nat} (hs : 0 < sz) (he : ∀ e ∈ xs, e.length = sz)
    (h : ∀ (i : Nat) e (j : Nat) x, xs[i]? = some e → e[j]? = some x → ∃ u, w.cell? ⟨b, o + i * sz + j, none⟩ = some u ∧ u.oneCell' = true ∧ Rep E n w x u) : ∃ news, Lie E n w sz xs b o news := by
  have key : ∀ k, k < xs.length * sz → ∃ u, w.cell? ⟨b, o + k, none⟩ = some u ∧ u.oneCell' = true ∧ ∀ x, (∃ e, xs[k / sz]? = some e ∧ e[k % sz]? = some x) → Rep E n w x u := by
    intro k hk
    obtain ⟨h1, h2, h3⟩ := mul_split hs hk
    have hel : xs[k / sz].length = sz := he _ (List.getElem_mem h1)
    obtain ⟨u, a1, a2, a3⟩ := h (k / sz) xs[k / sz] (k % sz) (xs[k / sz]'h1)[k % sz] (by simp [h1]) (by simp [show k % sz < xs[k / sz].length by omega])
    refine ⟨u, ?_, a2, ?_⟩
    · have : o + k / sz * sz + k % sz = o + k := by omega
      rw [← this]; exact a1
    · rintro x ⟨e, e1, e2⟩
      have : xs[k / sz] = e := by simpa [h1] using e1
      subst this
      have : xs[k / sz][k % sz]'(by omega) = x := by simpa [show k % sz < xs[k / sz].length by omega] using e2
      rw [← this]; exact a3
  let f : Nat → Value := fun k => if h : k < xs.length * sz then Classical.choose (key k h) else .nilFunc
  have hf : ∀ k (h : k < xs.length * sz), w.cell? ⟨b, o + k, none⟩ = some (f k) ∧ (f k).oneCell' = true ∧ ∀ x, (∃ e, xs[k / sz]? = some e ∧ e[k % sz]? = some x) → Rep E n w x (f k) := by
    intro k h
    have := Classical.choose_spec (key k h)
    simpa only [f, dif_pos h] using this
  refine ⟨(List.range (xs.length * sz)).map f, ⟨by simp, he, fun j u hu => ?_, fun u hu => ?_, fun i e j x h1 h2 => ?_⟩⟩
  · have hj := lt_of_get hu
    simp at hj
    have : u = f j := by simp [hj] at hu; exact hu.symm
    rw [this]; exact (hf j hj).1
  · obtain ⟨k, hk, rfl⟩ := List.mem_map.1 hu
    exact (hf k (by simpa using hk)).2.1
  · have hi := lt_of_get h1
    have hj : j < sz := by have := lt_of_get h2; rw [he e (List.mem_of_getElem? h1)] at this; exact this
    have hk := idx_lt hi hj
    refine ⟨f (i * sz + j), by simp [hk], (hf _ hk).2.2 x ⟨e, ?_, ?_⟩⟩
    · rw [Nat.mul_comm, Nat.mul_add_div hs, Nat.div_eq_of_lt hj]; simpa using h1
    · rw [Nat.mul_comm, Nat.mul_add_mod, Nat.mod_eq_of_lt hj]; exact h2

theorem Lie.nil (sz b o : Nat) : Lie E n w sz [] b o [] := ⟨by simp, by simp, by simp, by simp, by simp⟩

/-- where a slice's elements lie -/
theorem elems_lie (S : Sim P T E st w) {x : AV} {xv : Value} (hx : Rep E st.objs.length w x xv) {sx : Nat} {xs : List (List AV)} (he : elems st x = some (sx, xs)) {sz : Nat} (hsz : 0 < sz)
    (hs : sx = sz ∨ xs = []) : ∃ ax cx b o news, xv = .slice ax xs.length cx ∧ xs.length ≤ cx ∧ (xs = [] ∨ ax = some ⟨b, o, none⟩) ∧ Lie E st.objs.length w sz xs b o news := by
  have gen : ∀ (b o : Nat) (c : Nat → Nat → Value) (ax : Option Addr) (cx : Nat), xv = .slice ax xs.length cx → xs.length ≤ cx → (∀ e ∈ xs, e.length = sx) → (xs = [] ∨ (ax = some ⟨b, o, none⟩ ∧ E.F b)) →
      (∀ i j, i < xs.length → j < sx → w.cell? ⟨b, o + i * sx + j, none⟩ = some (c i j) ∧ (c i j).oneCell' = true) →
      (∀ i e j x, xs[i]? = some e → e[j]? = some x → Rep E st.objs.length w x (c i j)) →
      ∃ ax cx b o news, xv = .slice ax xs.length cx ∧ xs.length ≤ cx ∧ (xs = [] ∨ ax = some ⟨b, o, none⟩) ∧ Lie E st.objs.length w sz xs b o news := by
    intro b o c ax cx hv hcx hes ha hc hr
    by_cases hn : xs = []
    · subst hn
      exact ⟨ax, cx, b, o, [], hv, hcx, .inl rfl, Lie.nil _ _ _⟩
    · obtain rfl := hs.resolve_right hn
      obtain ⟨news, hl⟩ := Lie.of (E := E) (n := st.objs.length) (w := w) (b := b) (o := o) hsz hes fun i e j x h1 h2 =>
        have hi := lt_of_get h1
        have hj : j < sx := by have := lt_of_get h2; rw [hes e (List.mem_of_getElem? h1)] at this; exact this
        ⟨c i j, (hc i j hi hj).1, (hc i j hi hj).2, hr i e j x h1 h2⟩
      exact ⟨ax, cx, b, o, news, hv, hcx, ha.imp id (·.1), hl⟩
  unfold elems at he
  split at he
  · obtain ⟨rfl, rfl⟩ : _ ∧ _ := by simpa using he
    cases hx with
    | sl b o c hl hcp hs' ha hc h => subst hl; exact gen b o c _ _ rfl hcp hs' ha hc h
  · obtain ⟨rfl, rfl⟩ : _ ∧ _ := by simpa using he
    cases hx with
    | fsl b o c hl hcp hs' ha hc h => subst hl; exact gen b o c _ _ rfl (by omega) hs' ha hc h
  · rename_i r lo m full
    split at he
    · rename_i ty s es hr
      split at he
      · rename_i hle
        obtain ⟨rfl, rfl⟩ : _ ∧ _ := by simpa using he
        cases hx with
        | own hr' hm h1 h2 ha =>
          rename_i cp a
          have hlen : ((es.drop lo).take m).length = m := by simp; omega
          obtain ⟨q1, q2, q3, q4, q5, q6⟩ := S.obj r _ (arr_get hr)
          by_cases hm0 : m = 0
          · subst hm0
            exact ⟨a, cp, 0, 0, [], by simp, by simp, .inl (by simp), by simpa using Lie.nil (E := E) (n := st.objs.length) (w := w) sz 0 0⟩
          · have hne : (es.drop lo).take m ≠ [] := by intro h0; rw [h0] at hlen; simp at hlen; omega
            obtain rfl := hs.resolve_right hne
            have hcap : (E.L r).cap ≠ 0 := by omega
            obtain ⟨cur, k1, k2, k3⟩ := q6.resolve_left hcap
            have hcp : cp ≠ 0 := by omega
            obtain ⟨news, hl⟩ := Lie.of (E := E) (n := st.objs.length) (w := w) (b := (E.L r).blk) (o := lo * s) (xs := (es.drop lo).take m) hsz
              (fun e he' => q5 e (List.mem_of_mem_drop (List.mem_of_mem_take he'))) fun i e j x h1 h2 => by
                have hi := lt_of_get h1
                have he' : es[lo + i]? = some e := by
                  rw [List.getElem?_take] at h1
                  split at h1
                  · simpa using h1
                  · cases h1
                obtain ⟨v, hv, ho1, hrp⟩ := k3 (lo + i) e j x he' h2
                refine ⟨v, ?_, ho1, hrp⟩
                have : lo * s + i * s + j = (lo + i) * s + j := by rw [Nat.add_mul]
                simp [World.cell?, k1, this, hv]
            refine ⟨a, cp, (E.L r).blk, lo * s, news, by rw [hlen], by rw [hlen]; exact hm, .inr ?_, hl⟩
            rw [q1] at ha
            exact ha.resolve_left hcp
      · cases he
    · cases he
  · cases he

/-- the type facts of an append -/
structure AppT (P : Program) (t e sz bytes : Nat) : Prop where
  und : P.underlying t = some (.slice e)
  pos : 0 < sz
  info : ∃ i z, P.info? e = some i ∧ i.size = sz ∧ i.bytes = bytes ∧ i.zero = some z ∧ z.cells.size = sz

theorem room_le {n bytes : Nat} (h : room n bytes = true) : n * bytes ≤ 140737488355328 ∧ n ≤ 4611686018427387904 := by
  simpa [room, Bool.and_eq_true, decide_eq_true_eq] using h

theorem new_arr {E : Env} {st : St} {w : World} (S : Sim P T E st w) {ty sz cap : Nat} {zs : List (List AV)} (hsz : 0 < sz) (cur : Array Value) (hc : cur.size = cap * sz) (hle : zs.length ≤ cap) (hmax : cap ≤ maxLen)
    (he : ∀ e ∈ zs, e.length = sz) (hr : ∀ (i : Nat) e (j : Nat) x, zs[i]? = some e → e[j]? = some x → ∃ v, cur[i * sz + j]? = some v ∧ v.oneCell' = true ∧ Rep E st.objs.length w x v) :
    Sim P T (updL E st.objs.length ⟨w.heap.size, cap, sz⟩) (st.push (.arr ty sz zs)) (w.drew.alloc (.cells cur ty)) ∧
      Ext E st.objs.length w (updL E st.objs.length ⟨w.heap.size, cap, sz⟩) (st.objs.length + 1) (w.drew.alloc (.cells cur ty)) := by
  have hb : ∀ b, b < w.heap.size → (w.drew.alloc (.cells cur ty)).heap[b]? = w.heap[b]? := fun b hb => heap_alloc_old w.drew _ b hb
  have hx := Ext.push (w' := w.drew.alloc (.cells cur ty)) ⟨w.heap.size, cap, sz⟩ S (by simp) hb rfl rfl rfl
  refine ⟨S.push _ _ (by simp) hb (fun _ => Nat.le_refl _) ⟨rfl, hle, hmax, hsz, he, .inr ⟨cur, heap_alloc_new w.drew _, hc, fun i e j x h1 h2 => ?_⟩⟩, hx⟩
  obtain ⟨v, a1, a2, a3⟩ := hr i e j x h1 h2
  exact ⟨v, a1, a2, a3.mono hx.toMono⟩

theorem lie_app {sz : Nat} {es xs : List (List AV)} {b o b' o' : Nat} {olds news : List Value} (h1 : Lie E n w sz es b o olds) (h2 : Lie E n w sz xs b' o' news) {rest : List Value} :
    ∀ (i : Nat) e (j : Nat) x, (es ++ xs)[i]? = some e → e[j]? = some x → ∃ v, (olds ++ news ++ rest)[i * sz + j]? = some v ∧ v.oneCell' = true ∧ Rep E n w x v := by
  intro i e j x he hx
  rw [List.append_assoc]
  rcases Nat.lt_or_ge i es.length with hi | hi
  · rw [List.getElem?_append_left hi] at he
    obtain ⟨u, hu, hr⟩ := h1.rep i e j x he hx
    exact ⟨u, by rw [List.getElem?_append_left (lt_of_get hu)]; exact hu, h1.one u (List.mem_of_getElem? hu), hr⟩
  · rw [List.getElem?_append_right hi] at he
    obtain ⟨u, hu, hr⟩ := h2.rep _ e j x he hx
    refine ⟨u, ?_, h2.one u (List.mem_of_getElem? hu), hr⟩
    have hk : i * sz = olds.length + (i - es.length) * sz := by rw [h1.len, ← Nat.add_mul]; congr 1; omega
    rw [hk, Nat.add_assoc, List.getElem?_append_right (by omega)]
    have : olds.length + ((i - es.length) * sz + j) - olds.length = (i - es.length) * sz + j := by omega
    rw [this, List.getElem?_append_left (lt_of_get hu)]
    exact hu

/-- append where a new array is made -/
theorem append_grow {E : Env} {st0 st : St} {w : World} (S : Sim P T E st w) (hst : st0.objs.length = st.objs.length) {t t0 e sz bytes : Nat} (A : AppT P t e sz bytes) {es xs : List (List AV)} {b o b' o' cap cx : Nat} {olds news : List Value} {base ax : Option Addr}
    (h1 : Lie E st.objs.length w sz es b o olds) (h2 : Lie E st.objs.length w sz xs b' o' news) (hb : es = [] ∨ base = some ⟨b, o, none⟩) (hnil : base = none → cap = 0) (ha : ax = some ⟨b', o', none⟩)
    (hg : cap < es.length + xs.length) (hroom : room (es.length + xs.length) bytes = true) (hle : es.length ≤ cap) :
    ∃ v w' E', (Builtin.append_ #[t, t] t0 #[.slice base es.length cap, .slice ax xs.length cx]).run P w = .ok v w' ∧
      Rep E' (st.objs.length + 1) w' (.own st0.objs.length 0 (es.length + xs.length) false) v ∧ Sim P T E' (st.push (.arr e sz (es ++ xs))) w' ∧ Ext E st.objs.length w E' (st.objs.length + 1) w' := by
  obtain ⟨r1, r2⟩ := room_le hroom
  obtain ⟨i, z, hi, rfl, rfl, hz, hzs⟩ := A.info
  have h63 : es.length + xs.length ≤ maxLen := by simp only [maxLen]; omega
  have hge := grownCap_ge w (es.length + xs.length) cap e
  have hcm := grownCap_le_maxLen w (es.length + xs.length) cap e h63
  have hlz : (Builtin.zeroCells z.cells (grownCap w (es.length + xs.length) cap e - (es.length + xs.length))).toList.length = (grownCap w (es.length + xs.length) cap e - (es.length + xs.length)) * i.size := by
    rw [Array.length_toList, size_zeroCells, hzs]
  have fin : ∀ (c : Nat) (hc : c = grownCap w (es.length + xs.length) cap e) (cur : Array Value), cur.toList = olds ++ news ++ (Builtin.zeroCells z.cells (c - (es.length + xs.length))).toList →
      Rep (updL E st.objs.length ⟨w.heap.size, c, i.size⟩) (st.objs.length + 1) (w.drew.alloc (.cells cur e)) (.own st0.objs.length 0 (es.length + xs.length) false) (.slice (some ⟨w.heap.size, 0, none⟩) (es.length + xs.length) c) ∧
      Sim P T (updL E st.objs.length ⟨w.heap.size, c, i.size⟩) (st.push (.arr e i.size (es ++ xs))) (w.drew.alloc (.cells cur e)) ∧ Ext E st.objs.length w (updL E st.objs.length ⟨w.heap.size, c, i.size⟩) (st.objs.length + 1) (w.drew.alloc (.cells cur e)) := by
    rintro c rfl cur hcur
    have hsize : cur.size = grownCap w (es.length + xs.length) cap e * i.size := by
      rw [← Array.length_toList, hcur, List.length_append, List.length_append, h1.len, h2.len, hlz, ← Nat.add_mul, ← Nat.add_mul]
      congr 1; omega
    obtain ⟨g1, g2⟩ := new_arr (ty := e) (zs := es ++ xs) S A.pos cur hsize (by simp; omega) hcm
      (fun e' he' => (List.mem_append.1 he').elim (h1.each e') (h2.each e')) (fun i' e' j x q1 q2 => by
        obtain ⟨v, v1, v2, v3⟩ := lie_app (rest := (Builtin.zeroCells z.cells (grownCap w (es.length + xs.length) cap e - (es.length + xs.length))).toList) h1 h2 i' e' j x q1 q2
        exact ⟨v, by rw [← Array.getElem?_toList, hcur]; exact v1, v2, v3⟩)
    refine ⟨?_, g1, g2⟩
    rw [hst]
    refine .own (by omega) hge (by simp) (by simp [updL_eq]) (.inr ?_)
    simp [updL_eq]
  subst ha
  rcases base with _ | ba
  · have hc0 := hnil rfl
    have he0 : es = [] := List.eq_nil_of_length_eq_zero (by omega)
    subst hc0 he0
    have ho : olds = [] := List.eq_nil_of_length_eq_zero (by simpa using h1.len)
    subst ho
    have hr := run_append_nil (P := P) w t t0 e i z A.und hi hz ⟨b', o', none⟩ xs.length cx news h2.len (fun j v hv => by rw [Addr.add_lit]; exact h2.cell j v hv) (by simpa using hg) (by simp at r2; omega) (by simp at r1; omega)
    obtain ⟨f1, f2, f3⟩ := fin (grownCap w xs.length 0 e) (by simp) (news.toArray ++ Builtin.zeroCells z.cells (grownCap w xs.length 0 e - xs.length)) (by simp)
    refine ⟨_, _, _, by simpa using hr, by simpa using f1, f2, f3⟩
  · have hr := run_append_grow (P := P) w t t0 e i z A.und hi hz ba es.length cap olds h1.len (fun j v hv => by
        rcases hb with rfl | hb
        · have : olds = [] := List.eq_nil_of_length_eq_zero (by simpa using h1.len)
          subst this; simp at hv
        · cases hb; rw [Addr.add_lit]; exact h1.cell j v hv) ⟨b', o', none⟩ xs.length cx news h2.len (fun j v hv => by rw [Addr.add_lit]; exact h2.cell j v hv) hg (by omega)
        (growslice_fits hg r1)
    obtain ⟨f1, f2, f3⟩ := fin _ rfl (olds.toArray ++ news.toArray ++ Builtin.zeroCells z.cells (grownCap w (es.length + xs.length) cap e - (es.length + xs.length))) (by simp)
    exact ⟨_, _, _, hr, f1, f2, f3⟩

theorem run_append_none {t t0 e sz bytes : Nat} (A : AppT P t e sz bytes) {base ax : Option Addr} {n cap cx : Nat} (hle : n ≤ cap) :
    (Builtin.append_ #[t, t] t0 #[.slice base n cap, .slice ax 0 cx]).run P w = .ok (.slice base n cap) w := by
  obtain ⟨i, z, hi, rfl, rfl, hz, hzs⟩ := A.info
  have hf : (Builtin.firstCells i.size 0 (.slice ax 0 cx)).run P w = .ok #[] w := by
    cases ax <;> simp [Builtin.firstCells, loadCells, loadCellsFrom]
  cases base <;> simp [Builtin.append_, run_underlying A.und, Go.sizeOf, typeInfo, hi, Builtin.lenOf, hle, hf, storeCells]

end
end Go.Proofs.YtcoonnbkmklenaaDoor.A
