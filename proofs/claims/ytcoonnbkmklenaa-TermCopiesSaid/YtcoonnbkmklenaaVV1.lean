/- Terms in memory of their own: what they are, and when two terms are the same. -/
import Derived.Test.YtcoonnbkmklenaaVS4T
import Derived.Test.YtcoonnbkmklenaaVGx0
namespace Go.Proofs.Ytcoonnbkmklenaa.A
open Go
set_option maxRecDepth 10000
set_option linter.unusedSimpArgs false
attribute [-simp] List.all_eq_true put slot_def ld idxA lenOf elems canA app hand

/-- a slice in memory of its own, or none -/
def Gn (ty sz : Nat) (o : List Obj) (A : Nat → Prop) (v : AV) (es : List (List AV)) : Prop :=
  ((v = .fsl sz [] ∨ v = .sl sz []) ∧ es = []) ∨ ∃ r, A r ∧ v = .own r 0 es.length false ∧ o[r]? = some (.arr ty sz es)

theorem Gn.ls {ty sz : Nat} {o : List Obj} {A : Nat → Prop} {v : AV} {es : List (List AV)} (h : Gn ty sz o A v es) : Ls o sz v es := by
  rcases h with ⟨rfl | rfl, rfl⟩ | ⟨r, _, rfl, h⟩
  · exact ls_fsl []
  · exact ls_sl []
  · exact gr_ls (lo := 0) (.inr ⟨r, by omega, rfl, h⟩)

theorem Gn.mono {ty sz : Nat} {o o' : List Obj} {A A' : Nat → Prop} {v : AV} {es : List (List AV)} (h : Gn ty sz o A v es) (k : ∀ r x, A r → o[r]? = some x → A' r ∧ o'[r]? = some x) : Gn ty sz o' A' v es := by
  rcases h with h | ⟨r, h1, rfl, h2⟩
  · exact .inl h
  · exact .inr ⟨r, (k r _ h1 h2).1, rfl, (k r _ h1 h2).2⟩

theorem Gn.can {ty sz : Nat} {o : List Obj} {A : Nat → Prop} {v : AV} {es : List (List AV)} (h : Gn ty sz o A v es) : Gn ty sz o A (can1 v) es := by
  rcases h with ⟨rfl | rfl, rfl⟩ | ⟨r, h1, rfl, h2⟩
  · exact .inl ⟨.inr rfl, rfl⟩
  · exact .inl ⟨.inr rfl, rfl⟩
  · exact .inr ⟨r, h1, rfl, h2⟩

theorem Gn.one {ty sz : Nat} {o : List Obj} {A : Nat → Prop} {v : AV} {es : List (List AV)} (h : Gn ty sz o A v es) : AV.one v = true := by
  rcases h with ⟨rfl | rfl, rfl⟩ | ⟨r, h1, rfl, h2⟩ <;> rfl

mutual
/-- a term's cells, its Args in memory of its own -/
def RT (o : List Obj) (A : Nat → Prop) : Tm → List AV → Prop
  | .mk a s b l, cs => ∃ v es, cs = [.int .i64 a, .str s, .int .i64 b, v] ∧ Gn 24 4 o A v es ∧ RE o A l es
def RE (o : List Obj) (A : Nat → Prop) : List Tm → List (List AV) → Prop
  | [], es => es = []
  | t :: l, es => ∃ e es', es = e :: es' ∧ RT o A t e ∧ RE o A l es'
end

mutual
theorem RT.mono {o o' : List Obj} {A A' : Nat → Prop} (k : ∀ r x, A r → o[r]? = some x → A' r ∧ o'[r]? = some x) : ∀ (t : Tm) (cs : List AV), RT o A t cs → RT o' A' t cs
  | .mk a s b l, cs, h => by
    simp only [RT] at h ⊢
    obtain ⟨v, es, h1, h2, h3⟩ := h
    exact ⟨v, es, h1, h2.mono k, RE.mono k l es h3⟩
theorem RE.mono {o o' : List Obj} {A A' : Nat → Prop} (k : ∀ r x, A r → o[r]? = some x → A' r ∧ o'[r]? = some x) : ∀ (l : List Tm) (es : List (List AV)), RE o A l es → RE o' A' l es
  | [], es, h => by simpa only [RE] using h
  | t :: l, es, h => by
    simp only [RE] at h ⊢
    obtain ⟨e, es', h1, h2, h3⟩ := h
    exact ⟨e, es', h1, RT.mono k t e h2, RE.mono k l es' h3⟩
end

theorem RT.can {o : List Obj} {A : Nat → Prop} {t : Tm} {cs : List AV} (h : RT o A t cs) : RT o A t (canL cs) := by
  obtain ⟨a, s, b, l⟩ := t
  simp only [RT] at h ⊢
  obtain ⟨v, es, rfl, h2, h3⟩ := h
  exact ⟨can1 v, es, rfl, h2.can, h3⟩

theorem RT.len {o : List Obj} {A : Nat → Prop} {t : Tm} {cs : List AV} (h : RT o A t cs) : cs.length = 4 ∧ cs.all AV.one = true := by
  obtain ⟨a, s, b, l⟩ := t
  simp only [RT] at h
  obtain ⟨v, es, rfl, h2, h3⟩ := h
  exact ⟨rfl, by simp [h2.one, List.all_eq_true]⟩

theorem RE.len {o : List Obj} {A : Nat → Prop} : ∀ {l : List Tm} {es : List (List AV)}, RE o A l es → es.length = l.length
  | [], es, h => by simp only [RE] at h; simp [h]
  | t :: l, es, h => by
    simp only [RE] at h
    obtain ⟨e, es', rfl, _, h3⟩ := h
    simp [RE.len h3]

theorem RE.get {o : List Obj} {A : Nat → Prop} : ∀ {l : List Tm} {es : List (List AV)}, RE o A l es → ∀ (i : Nat) e t, es[i]? = some e → l[i]? = some t → RT o A t e
  | [], es, h, i, e, t, _, h2 => by simp at h2
  | u :: l, es, h, i, e, t, h1, h2 => by
    simp only [RE] at h
    obtain ⟨e', es', rfl, k2, h3⟩ := h
    cases i with
    | zero =>
      simp at h1 h2
      subst h1; subst h2
      exact k2
    | succ i => exact RE.get h3 i e t (by simpa using h1) (by simpa using h2)

theorem RE.snoc {o : List Obj} {A : Nat → Prop} : ∀ {l : List Tm} {es : List (List AV)} {t : Tm} {e : List AV}, RE o A l es → RT o A t e → RE o A (l ++ [t]) (es ++ [e])
  | [], es, t, e, h, k => by
    simp only [RE] at h
    subst h
    simp [RE, k]
  | u :: l, es, t, e, h, k => by
    simp only [RE] at h
    obtain ⟨e', es', rfl, k2, h3⟩ := h
    simp only [List.cons_append, RE]
    exact ⟨e', es' ++ [e], rfl, k2, RE.snoc h3 k⟩

theorem tsr_eq (l k : List Tm) (es : List (List AV)) {o : List Obj} {v w : AV} (L : Ls o 4 v es) (K : Ls o 4 w (k.map Tm.cells)) (hes : es.length = l.length) (h4 : ∀ e ∈ es, e.length = 4) (hl : l.length ≤ maxLen)
    (ih : ∀ (i : Nat) e t u, es[i]? = some e → l[i]? = some t → k[i]? = some u → (D T).call 15 [.agg (canL e), u.av] ⟨o, o.length, []⟩ = some (.bool (tmEq t u), ⟨o, o.length, []⟩)) (ro : Nat) (df : List Nat) :
    (D T).call 18 [v, w] ⟨o, ro, df⟩ = some (.bool (l.length == k.length && tsEq l k), ⟨o, ro, df⟩) := by
  have hmx : l.length ≤ 9223372036854775807 := Nat.le_trans hl (by decide)
  have h1 := L.len
  rw [hes] at h1
  have h2 := K.len
  have g1 := fun (i : Nat) e (h : es[i]? = some e) => L.get [] o.length [] i e h (h4 e (List.mem_of_getElem? h))
  have g2 := fun (i : Nat) u (h : k[i]? = some u) => K.get [] o.length [] i u.cells (by simp [h]) (cells_length u)
  simp only [Tm.av, List.length_map, List.append_nil] at h1 h2 g1 g2 ih
  apply call_by (by exact rfl : T 18 = some _) (by simp)
  intro fr hfr hsl
  have s0 := hsl 0 _ rfl
  have s1 := hsl 1 _ rfl
  by_cases hlk : l.length = k.length
  · simp -implicitDefEqProofs [hfr, s0, s1, h1, h2, hlk]
    apply loop_inv L18_0.eq_1 (fun s : List Tm × List Tm => s.1.length) (fun s fr st => ∃ pre pre', l = pre ++ s.1 ∧ k = pre' ++ s.2 ∧ pre.length = pre'.length ∧ fr.length = 27 ∧ slot fr 0 = v ∧ slot fr 1 = w ∧ slot fr 5 = .int .i64 (pre.length : Int) ∧
      st = ⟨o, o.length, []⟩ ∧ tsEq l k = tsEq s.1 s.2) ?_ (l, k) ⟨[], [], rfl, rfl, rfl, by simp [hfr], by simp [hfr, s0], by simp [hfr, s1], by simp [hfr], rfl, rfl⟩
    rintro ⟨rest, rest'⟩ fr _ ⟨pre, pre', e, e', hp, hfr, q0, q1, q5, rfl, hin⟩
    simp only at e e' hin
    cases rest with
    | nil =>
      have hlt := idx_end e
      cases rest' with
      | nil => simp -implicitDefEqProofs [hfr, q0, q1, q5, hlt, h1, h2, hin, tsEq]
      | cons u rest' => simp [e, e'] at hlk; omega
    | cons t rest =>
      cases rest' with
      | nil => simp [e, e'] at hlk; omega
      | cons u rest' =>
        obtain ⟨hlt, hg, hltN⟩ := idx_at e
        obtain ⟨hlt', hg', _⟩ := idx_at e'
        rw [← hp] at hlt' hg'
        have hw := idx_next e hmx
        obtain ⟨ce, hce⟩ : ∃ ce, es[pre.length]? = some ce := ⟨_, List.getElem?_eq_getElem (by omega)⟩
        obtain ⟨p, p1, p2⟩ := g1 _ _ hce
        obtain ⟨p', p3, p4⟩ := g2 _ _ hg'
        have hu := ih _ _ _ _ hce hg hg'
        simp only [tsEq] at hin
        cases h : tmEq t u with
        | true =>
          simp -implicitDefEqProofs [hfr, q0, q1, q5, hlt, hlt', h1, h2, p1, p2, p3, p4, hu, h, hw]
          exact ⟨rest, by simp, rest', pre ++ [t], by simp [e], pre' ++ [u], by simp [e'], by simp [hp], by simp, by simpa [h] using hin⟩
        | false =>
          simp -implicitDefEqProofs [hfr, q0, q1, q5, hlt, hlt', h1, h2, p1, p2, p3, p4, hu, h, hw]
          simp [hin, h]
  · have hne : ¬ ((l.length : Int) = (k.length : Int)) := by omega
    simp -implicitDefEqProofs [hfr, s0, s1, h1, h2, hlk, hne]

theorem RE.four {o : List Obj} {A : Nat → Prop} {l : List Tm} {es : List (List AV)} (h : RE o A l es) : ∀ e ∈ es, e.length = 4 := by
  intro e he
  obtain ⟨i, hi⟩ := List.getElem?_of_mem he
  have hl := h.len
  have hil : i < l.length := by have := lt_of_getO hi; omega
  exact (h.get i e _ hi (List.getElem?_eq_getElem hil)).len.1

theorem tmr_eq : ∀ (t : Tm), t.ok → ∀ (u : Tm), u.ok → ∀ (o : List Obj) (A : Nat → Prop) (cs : List AV) (ro : Nat) (df : List Nat), RT o A t cs → (D T).call 15 [.agg cs, u.av] ⟨o, ro, df⟩ = some (.bool (tmEq t u), ⟨o, ro, df⟩)
  | .mk a s b l, hok, .mk a' s' b' l', hok', o, A, cs, ro, df, R => by
    simp only [Tm.ok] at hok hok'
    have hl := okL_iff.1 hok.2.2.2.2
    have hl' := okL_iff.1 hok'.2.2.2.2
    simp only [RT] at R
    obtain ⟨v, es, rfl, G, E⟩ := R
    have hone := G.one
    have Lv := G.ls
    have hcan := Lv.can
    obtain ⟨m, hm⟩ : ∃ m, m = [Obj.arr 24 4 [[.int .i64 a, .str s, .int .i64 b, v]], Obj.arr 24 4 [[.int .i64 a', .str s', .int .i64 b', .sl 4 (l'.map Tm.cells)]]] := ⟨_, rfl⟩
    have G2 : Gn 24 4 (o ++ m) A v es := G.mono fun r x hA hx => ⟨hA, getO_push hx _⟩
    have E2 : RE (o ++ m) A l es := RE.mono (fun r x hA hx => ⟨hA, getO_push hx _⟩) l es E
    have hts := tsr_eq l l' es G2.ls (ls_sl _) E.len E.four hok.2.2.2.1 (fun i e t u h1 h2 h3 => tmr_eq t (hl t (List.mem_of_getElem? h2)) u (hl' u (List.mem_of_getElem? h3)) (o ++ m) A (canL e) _ [] (E2.get i e t h1 h2).can) o.length []
    subst hm
    apply call_by (by exact rfl : T 15 = some _) (by simp)
    intro fr hfr hsl
    have s0 := hsl 0 _ rfl
    have s1 := hsl 1 _ rfl
    simp only [Tm.av, Tm.cells_mk] at s0 s1
    by_cases h1 : a = a'
    · subst h1
      cases h2 : bytesEq s s' with
      | true =>
        by_cases h3 : b = b'
        · subst h3
          simp -implicitDefEqProofs [hfr, s0, s1, Tm.av, Tm.cells_mk, get_base0, get_base, h2, hts, tmEq, hone, hcan]
        · have h4 : (b == b') = false := by simpa using h3
          simp -implicitDefEqProofs [hfr, s0, s1, Tm.av, Tm.cells_mk, get_base0, get_base, h2, h3, h4, hts, tmEq, hone, hcan]
      | false => simp -implicitDefEqProofs [hfr, s0, s1, Tm.av, Tm.cells_mk, get_base0, get_base, h2, hts, tmEq, hone, hcan]
    · have h4 : (a == a') = false := by simpa using h1
      simp -implicitDefEqProofs [hfr, s0, s1, Tm.av, Tm.cells_mk, get_base0, get_base, h1, h4, hts, tmEq, hone, hcan]
termination_by t => SizeOf.sizeOf t
decreasing_by
  have := List.sizeOf_lt_of_mem (List.mem_of_getElem? h2)
  simp
  omega

end Go.Proofs.Ytcoonnbkmklenaa.A
