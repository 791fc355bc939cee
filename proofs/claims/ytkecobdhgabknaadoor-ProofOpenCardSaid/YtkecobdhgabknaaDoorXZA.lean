/- Proofs whose parts lie in own memory, all apart from each other: what they read as, and what a part put at a way changes. -/
import Derived.Test.YtkecobdhgabknaaDoorXA
namespace Go.Proofs.YtkecobdhgabknaaDoor.A
open Go
set_option maxRecDepth 10000
set_option linter.unusedSimpArgs false
set_option linter.unusedVariables false
attribute [-simp] List.all_eq_true put slot_def ld idxA lenOf elems canA app hand

/-- a proof's cells, but for its parts -/
def Pf.front : Pf → List AV
  | .mk r h n v b t c les chs cu _ => [.int .i64 r, .str h, .str n, .str v, .bool b] ++ t.cells ++ c.cells ++ [.sl 8 (les.map Lm.cells), .sl 2 (chs.map Ch.cells)] ++ cu.cells
def Pf.put (p : Pf) (l : List Pf) : Pf :=
  match p with
  | .mk r h n v b t c les chs cu _ => .mk r h n v b t c les chs cu l
theorem cells_front : ∀ p : Pf, p.cells = p.front ++ [.sl 24 (p.subs.map Pf.cells)]
  | .mk r h n v b t c les chs cu ps => by rw [Pf.cells_mk]; simp [Pf.front, Pf.subs, cellsPf_map]
theorem front_put (p : Pf) (l : List Pf) : (p.put l).front = p.front := by cases p; rfl
theorem subs_put (p : Pf) (l : List Pf) : (p.put l).subs = l := by cases p; rfl
theorem front_flat (p : Pf) : AV.flatL p.front = true := by
  have h := pflat p
  rw [cells_front, flatL_app, Bool.and_eq_true] at h
  exact h.1
theorem front_len (p : Pf) : p.front.length = 23 := by
  have h := plen p
  rw [cells_front] at h
  simp at h
  exact h

mutual
/-- a proof's cells, its parts in own memory, in the objects from one to another -/
def OwnP (o : List Obj) : Pf → Nat → Nat → List AV → Prop
  | .mk r h n v b t c les chs cu ps, lo, hi, cs => lo ≤ hi ∧ ∃ sv, cs = (Pf.mk r h n v b t c les chs cu ps).front ++ [sv] ∧
      ((ps = [] ∧ (sv = .sl 24 [] ∨ sv = .fsl 24 [])) ∨ ∃ q es, sv = .own q 0 ps.length false ∧ o[q]? = some (.arr 42 24 es) ∧ lo ≤ q ∧ q < hi ∧ OwnL o ps lo q es)
def OwnL (o : List Obj) : List Pf → Nat → Nat → List (List AV) → Prop
  | [], lo, hi, es => es = [] ∧ lo ≤ hi
  | p :: ps, lo, hi, es => ∃ e es' a b, es = e :: es' ∧ lo ≤ a ∧ b ≤ hi ∧ OwnP o p a b e ∧ OwnL o ps b hi es'
end
mutual
/-- what cells of a proof read as, in a store -/
def RdP (n : Nat) (o : List Obj) : Pf → List AV → Prop
  | .mk r h nw v b t c les chs cu ps, cs => ∃ sv, cs = (Pf.mk r h nw v b t c les chs cu ps).front ++ [sv] ∧
      ((ps = [] ∧ (sv = .sl 24 [] ∨ sv = .fsl 24 [])) ∨ ∃ q es, sv = .own q 0 ps.length false ∧ n ≤ q ∧ o[q]? = some (.arr 42 24 es) ∧ RdL n o ps es)
def RdL (n : Nat) (o : List Obj) : List Pf → List (List AV) → Prop
  | [], es => es = []
  | p :: ps, es => ∃ e es', es = e :: es' ∧ RdP n o p e ∧ RdL n o ps es'
end

theorem OwnP.le {o : List Obj} : ∀ {p : Pf} {lo hi : Nat} {cs : List AV}, OwnP o p lo hi cs → lo ≤ hi
  | .mk .., _, _, _, h => by rw [OwnP] at h; exact h.1
theorem OwnL.le {o : List Obj} : ∀ {ps : List Pf} {lo hi : Nat} {es : List (List AV)}, OwnL o ps lo hi es → lo ≤ hi
  | [], _, _, _, h => by rw [OwnL] at h; exact h.2
  | p :: ps, lo, hi, es, h => by
    rw [OwnL] at h
    obtain ⟨e, es', a, b, _, h1, h2, h3, h4⟩ := h
    have := h3.le
    omega
theorem OwnL.len {o : List Obj} : ∀ {ps : List Pf} {lo hi : Nat} {es : List (List AV)}, OwnL o ps lo hi es → es.length = ps.length
  | [], _, _, _, h => by rw [OwnL] at h; rw [h.1]; rfl
  | p :: ps, lo, hi, es, h => by
    rw [OwnL] at h
    obtain ⟨e, es', a, b, rfl, _, _, _, h4⟩ := h
    simp [h4.len]

mutual
theorem OwnP.keep {o o' : List Obj} : ∀ {p : Pf} {lo hi lo' hi' : Nat} {cs : List AV}, OwnP o p lo hi cs → (∀ i, lo ≤ i → i < hi → o'[i]? = o[i]?) → lo' ≤ lo → hi ≤ hi' → OwnP o' p lo' hi' cs
  | .mk r h n v b t c les chs cu ps, lo, hi, lo', hi', cs, H, k, h1, h2 => by
    rw [OwnP] at H ⊢
    obtain ⟨hle, sv, e, H⟩ := H
    refine ⟨by omega, sv, e, ?_⟩
    rcases H with H | ⟨q, es, e1, e2, e3, e4, e5⟩
    · exact .inl H
    · exact .inr ⟨q, es, e1, by rw [k q e3 e4]; exact e2, by omega, by omega, e5.keep (fun i i1 i2 => k i i1 (by omega)) h1 (Nat.le_refl _)⟩
theorem OwnL.keep {o o' : List Obj} : ∀ {ps : List Pf} {lo hi lo' hi' : Nat} {es : List (List AV)}, OwnL o ps lo hi es → (∀ i, lo ≤ i → i < hi → o'[i]? = o[i]?) → lo' ≤ lo → hi ≤ hi' → OwnL o' ps lo' hi' es
  | [], lo, hi, lo', hi', es, H, k, h1, h2 => by rw [OwnL] at H ⊢; exact ⟨H.1, by omega⟩
  | p :: ps, lo, hi, lo', hi', es, H, k, h1, h2 => by
    rw [OwnL] at H ⊢
    obtain ⟨e, es', a, b, rfl, g1, g2, g3, g4⟩ := H
    have := g3.le
    exact ⟨e, es', a, b, rfl, by omega, by omega, g3.keep (fun i i1 i2 => k i (by omega) (by omega)) (Nat.le_refl _) (Nat.le_refl _), g4.keep (fun i i1 i2 => k i (by omega) (by omega)) (Nat.le_refl _) h2⟩
end
mutual
theorem OwnP.rd {o : List Obj} {n : Nat} : ∀ {p : Pf} {lo hi : Nat} {cs : List AV}, OwnP o p lo hi cs → n ≤ lo → RdP n o p cs
  | .mk r h nw v b t c les chs cu ps, lo, hi, cs, H, hn => by
    rw [OwnP] at H
    rw [RdP]
    obtain ⟨hle, sv, e, H⟩ := H
    refine ⟨sv, e, ?_⟩
    rcases H with H | ⟨q, es, e1, e2, e3, e4, e5⟩
    · exact .inl H
    · exact .inr ⟨q, es, e1, by omega, e2, e5.rd hn⟩
theorem OwnL.rd {o : List Obj} {n : Nat} : ∀ {ps : List Pf} {lo hi : Nat} {es : List (List AV)}, OwnL o ps lo hi es → n ≤ lo → RdL n o ps es
  | [], lo, hi, es, H, hn => by rw [OwnL] at H; rw [RdL]; exact H.1
  | p :: ps, lo, hi, es, H, hn => by
    rw [OwnL] at H
    rw [RdL]
    obtain ⟨e, es', a, b, rfl, g1, g2, g3, g4⟩ := H
    have := g3.le
    exact ⟨e, es', rfl, g3.rd (by omega), g4.rd (by omega)⟩
end

theorem OwnL.snoc {o : List Obj} {p : Pf} {e : List AV} {a b : Nat} : ∀ {ps : List Pf} {lo m : Nat} {es : List (List AV)}, OwnL o ps lo m es → m ≤ a → OwnP o p a b e → OwnL o (ps ++ [p]) lo b (es ++ [e])
  | [], lo, m, es, H, h1, h2 => by
    rw [OwnL] at H
    obtain ⟨rfl, hl⟩ := H
    simp only [List.nil_append]
    rw [OwnL]
    exact ⟨e, [], a, b, rfl, by omega, Nat.le_refl _, h2, by rw [OwnL]; exact ⟨rfl, Nat.le_refl _⟩⟩
  | x :: ps, lo, m, es, H, h1, h2 => by
    rw [OwnL] at H
    obtain ⟨e', es', a', b', rfl, g1, g2, g3, g4⟩ := H
    have := h2.le
    have := g4.le
    simp only [List.cons_append]
    rw [OwnL]
    exact ⟨e', es' ++ [e], a', b', rfl, g1, by omega, g3, g4.snoc h1 h2⟩

/-- a part of some, and how the others read when it is changed -/
theorem OwnL.at {o : List Obj} {n : Nat} : ∀ {ps : List Pf} {lo hi : Nat} {es : List (List AV)}, OwnL o ps lo hi es → n ≤ lo → ∀ {k : Nat} {s : Pf}, ps[k]? = some s →
    ∃ c a b, es[k]? = some c ∧ lo ≤ a ∧ b ≤ hi ∧ OwnP o s a b c ∧ ∀ (o' : List Obj) (s' : Pf) (c' : List AV), (∀ i, i < a ∨ b ≤ i → lo ≤ i → i < hi → o'[i]? = o[i]?) → RdP n o' s' c' → RdL n o' (ps.set k s') (es.set k c')
  | [], _, _, _, _, _, k, s, hs => by simp at hs
  | p :: ps, lo, hi, es, H, hn, k, s, hs => by
    rw [OwnL] at H
    obtain ⟨e, es', a, b, rfl, g1, g2, g3, g4⟩ := H
    have l1 := g3.le
    have l2 := g4.le
    cases k with
    | zero =>
      obtain rfl : p = s := by simpa using hs
      refine ⟨e, a, b, rfl, g1, g2, g3, fun o' s' c' k hr => ?_⟩
      simp only [List.set_cons_zero]
      rw [RdL]
      exact ⟨c', es', rfl, hr, (g4.keep (o' := o') (fun i i1 i2 => k i (.inr i1) (by omega) i2) (Nat.le_refl _) (Nat.le_refl _)).rd (by omega)⟩
    | succ k =>
      obtain ⟨c, a2, b2, r1, r2, r3, r4, r5⟩ := g4.at (n := n) (by omega) (k := k) (s := s) (by simpa using hs)
      have l3 := r4.le
      refine ⟨c, a2, b2, by simpa using r1, by omega, r3, r4, fun o' s' c' k' hr => ?_⟩
      simp only [List.set_cons_succ]
      rw [RdL]
      exact ⟨e, es'.set k c', rfl, (g3.keep (o' := o') (fun i i1 i2 => k' i (.inl (by omega)) (by omega) (by omega)) (Nat.le_refl _) (Nat.le_refl _)).rd (by omega), r5 o' s' c' (fun i i1 i2 i3 => k' i i1 (by omega) i3) hr⟩

theorem mapO_app {α β : Type} {f : α → Option β} : ∀ {l k : List α} {l' k' : List β}, mapO f l = some l' → mapO f k = some k' → mapO f (l ++ k) = some (l' ++ k')
  | [], k, l', k', h, g => by simp only [mapO, Option.some.injEq] at h; subst h; simpa using g
  | x :: l, k, l', k', h, g => by
    simp only [List.cons_append, mapO] at h ⊢
    cases hx : f x with
    | none => rw [hx] at h; cases h
    | some y =>
      rw [hx] at h
      simp only at h ⊢
      cases hl : mapO f l with
      | none => rw [hl] at h; cases h
      | some ys =>
        rw [hl] at h
        simp only [Option.some.injEq] at h
        subst h
        rw [mapO_app hl g]
        rfl
theorem mapO_flat {f : AV → Option AV} (hf : ∀ v, v.flat = true → f v = some v) : ∀ {l : List AV}, AV.flatL l = true → mapO f l = some l
  | [], _ => rfl
  | v :: l, h => by
    simp only [AV.flatL, Bool.and_eq_true] at h
    simp only [mapO, hf v h.1, mapO_flat hf h.2]
theorem deep_flat (k n : Nat) (o : List Obj) (v : AV) (h : v.flat = true) : deep (k + 1) n o v = some v := by
  cases v with
  | own => simp [AV.flat] at h
  | fsl => simp [AV.flat] at h
  | _ => simp only [deep]; rw [if_pos h]
theorem hand0_flat (n : Nat) (o : List Obj) (v : AV) (h : v.flat = true) : hand0 n o v = some v := by
  cases v with
  | own => simp [AV.flat] at h
  | fsl => simp [AV.flat] at h
  | ptr => simp [AV.flat] at h
  | yld => simp [AV.flat] at h
  | _ => simp only [hand0]; rw [if_pos h]

mutual
theorem RdP.deep {n : Nat} {o : List Obj} : ∀ {p : Pf} {cs : List AV} {k : Nat}, RdP n o p cs → dP p ≤ k → mapO (Go.Proofs.YtkecobdhgabknaaDoor.A.deep k n o) cs = some p.cells
  | .mk r h nw v b t c les chs cu ps, cs, k, H, hk => by
    have hd0 := dPL_pos ps
    simp only [dP] at hk
    rw [RdP] at H
    obtain ⟨sv, rfl, H⟩ := H
    obtain ⟨k, rfl⟩ : ∃ m, k = m + 1 := ⟨k - 1, by omega⟩
    rw [cells_front (.mk r h nw v b t c les chs cu ps)]
    refine mapO_app (mapO_flat (deep_flat k n o) (front_flat _)) ?_
    simp only [Pf.subs]
    rcases H with ⟨rfl, rfl | rfl⟩ | ⟨q, es, rfl, e2, e3, e4⟩
    · rfl
    · rfl
    · have hes := e4.deep (k := k) (by omega)
      have hl := e4.len
      simp only [mapO, Go.Proofs.YtkecobdhgabknaaDoor.A.deep, if_neg (show ¬ q < n by omega), e3, List.drop_zero, Nat.zero_add, ← hl, List.take_length, Nat.le_refl, if_true, hes]
theorem RdL.deep {n : Nat} {o : List Obj} : ∀ {ps : List Pf} {es : List (List AV)} {k : Nat}, RdL n o ps es → dPL ps ≤ k → mapO (mapO (Go.Proofs.YtkecobdhgabknaaDoor.A.deep k n o)) es = some (ps.map Pf.cells)
  | [], es, k, H, hk => by rw [RdL] at H; subst H; rfl
  | p :: ps, es, k, H, hk => by
    rw [RdL] at H
    obtain ⟨e, es', rfl, g1, g2⟩ := H
    simp only [dPL] at hk
    have a1 := g1.deep (k := k) (by split at hk <;> omega)
    have a2 := g2.deep (k := k) (by split at hk <;> omega)
    simp only [mapO, a1, a2, List.map_cons]
theorem RdL.len {n : Nat} {o : List Obj} : ∀ {ps : List Pf} {es : List (List AV)}, RdL n o ps es → es.length = ps.length
  | [], es, H => by rw [RdL] at H; subst H; rfl
  | p :: ps, es, H => by
    rw [RdL] at H
    obtain ⟨e, es', rfl, g1, g2⟩ := H
    simp [g2.len]
end
mutual
theorem RdP.flat {n : Nat} {o : List Obj} : ∀ {p : Pf} {cs : List AV}, RdP n o p cs → AV.flatL cs = true → cs = p.cells
  | .mk r h nw v b t c les chs cu ps, cs, H, hf => by
    rw [RdP] at H
    obtain ⟨sv, rfl, H⟩ := H
    rw [cells_front (.mk r h nw v b t c les chs cu ps)]
    rw [flatL_app, Bool.and_eq_true] at hf
    rcases H with ⟨rfl, rfl | rfl⟩ | ⟨q, es, rfl, e2, e3, e4⟩
    · rfl
    · simp [AV.flatL, AV.flat] at hf
    · simp [AV.flatL, AV.flat] at hf
theorem RdL.flat {n : Nat} {o : List Obj} : ∀ {ps : List Pf} {es : List (List AV)}, RdL n o ps es → AV.flatLL es = true → es = ps.map Pf.cells
  | [], es, H, hf => by rw [RdL] at H; subst H; rfl
  | p :: ps, es, H, hf => by
    rw [RdL] at H
    obtain ⟨e, es', rfl, g1, g2⟩ := H
    simp only [AV.flatLL, Bool.and_eq_true] at hf
    rw [g1.flat hf.1, g2.flat hf.2]
    rfl
end
theorem deep_own {n q ty : Nat} {o : List Obj} {es es' : List (List AV)} (h1 : ¬ q < n) (h2 : o[q]? = some (.arr ty 24 es)) (k : Nat) (h3 : mapO (mapO (Go.Proofs.YtkecobdhgabknaaDoor.A.deep k n o)) es = some es') : Go.Proofs.YtkecobdhgabknaaDoor.A.deep (k + 1) n o (.own q 0 es.length false) = some (.sl 24 es') := by
  simp only [Go.Proofs.YtkecobdhgabknaaDoor.A.deep, if_neg h1, h2, List.drop_zero, Nat.zero_add, List.take_length, Nat.le_refl, if_true, h3]
/-- handed out, it is the proof by value -/
theorem RdP.out {n : Nat} {o : List Obj} : ∀ {p : Pf} {cs : List AV}, RdP n o p cs → dP p ≤ 90000 → mapO (hand0 n o) cs = some p.cells
  | .mk r h nw v b t c les chs cu ps, cs, H, hk => by
    have hd0 := dPL_pos ps
    simp only [dP] at hk
    rw [RdP] at H
    obtain ⟨sv, rfl, H⟩ := H
    rw [cells_front (.mk r h nw v b t c les chs cu ps)]
    refine mapO_app (mapO_flat (hand0_flat n o) (front_flat _)) ?_
    simp only [Pf.subs]
    rcases H with ⟨rfl, rfl | rfl⟩ | ⟨q, es, rfl, e2, e3, e4⟩
    · rfl
    · rfl
    · have hes := e4.deep (k := 99999) (by omega)
      have hl := e4.len
      simp only [mapO, hand0, if_neg (show ¬ q < n by omega), e3, List.drop_zero, Nat.zero_add, ← hl, List.take_length, Nat.le_refl, true_and]
      by_cases hf : AV.flatLL es = true
      · rw [if_pos hf, e4.flat hf]
      · rw [if_neg hf, deep_own (show ¬ q < n by omega) e3 99999 hes]

/-- a proof with another one at a way -/
def putP : Pf → List Int → Pf → Option Pf
  | _, [], q => some q
  | p, i :: w, q => if i < 0 then none else match p.subs[i.toNat]? with
    | some s => (match putP s w q with | some s' => some (p.put (p.subs.set i.toNat s')) | none => none)
    | none => none
theorem putP_at : ∀ (w : List Int) (p q : Pf), (putP p w q).isSome = (atP p w).isSome
  | [], _, _ => rfl
  | i :: w, p, q => by
    simp only [putP, atP]
    by_cases hi : i < 0
    · rw [if_pos hi, if_pos hi]
    · rw [if_neg hi, if_neg hi]
      cases hs : p.subs[i.toNat]? with
      | none => rfl
      | some s =>
        have := putP_at w s q
        simp only
        rw [← this]
        cases putP s w q <;> rfl

/-- where a part lies, and what all reads as when another stands there -/
structure Hole (n : Nat) (o : List Obj) (rb : Nat) (b i lo hi : Nat) (es : List (List AV)) (f : Pf → Pf) : Prop where
  arr : o[b]? = some (.arr 42 24 es)
  off : b < lo ∨ hi ≤ b
  all : ∀ (o' : List Obj) (s : Pf) (c : List AV), (∀ j, (j < lo ∨ hi ≤ j) → j ≠ b → j < o.length → o'[j]? = o[j]?) → o'[b]? = some (.arr 42 24 (es.set i c)) → RdP n o' s c →
    ∃ c0, o'[rb]? = some (.arr 42 24 [c0]) ∧ RdP n o' (f s) c0

theorem hole_root {n rb lo hi : Nat} {o : List Obj} {cs : List AV} (h : o[rb]? = some (.arr 42 24 [cs])) (hb : rb < lo ∨ hi ≤ rb) : Hole n o rb rb 0 lo hi [cs] id :=
  ⟨h, hb, fun o' s c k h1 h2 => ⟨c, by simpa using h1, h2⟩⟩

theorem hole_step {n rb b i lo hi : Nat} {o : List Obj} {es : List (List AV)} {f : Pf → Pf} {cs : List AV} {p s : Pf} {k : Nat} (H : Hole n o rb b i lo hi es f) (hi1 : es[i]? = some cs) (hP : OwnP o p lo hi cs) (hn : n ≤ lo) (hs : p.subs[k]? = some s) (hlo : hi ≤ o.length) :
    ∃ q es' c lo' hi', cs = p.front ++ [.own q 0 p.subs.length false] ∧ es'.length = p.subs.length ∧ es'[k]? = some c ∧ OwnP o s lo' hi' c ∧ n ≤ lo' ∧ hi' ≤ o.length ∧ n ≤ q ∧ Hole n o rb q k lo' hi' es' (fun x => f (p.put (p.subs.set k x))) := by
  obtain ⟨r, h, nw, v, b0, t, c0, les, chs, cu, ps⟩ := p
  simp only [Pf.subs] at hs
  have hP' := hP
  rw [OwnP] at hP
  obtain ⟨hle, sv, e, hP⟩ := hP
  rcases hP with ⟨rfl, _⟩ | ⟨q, es', rfl, e2, e3, e4, e5⟩
  · simp at hs
  obtain ⟨c, a, b1, r1, r2, r3, r4, r5⟩ := e5.at hn hs
  have l1 := r4.le
  have l2 := e5.le
  refine ⟨q, es', c, a, b1, e, e5.len, r1, r4, by omega, by omega, by omega, ⟨e2, by omega, fun o' x c' k1 k2 k3 => ?_⟩⟩
  have hb := H.arr
  have hbo := H.off
  refine H.all o' _ cs (fun j j1 j2 j3 => k1 j (by omega) (by omega) j3) ?_ ?_
  · have hbl : b < o.length := lt_of_getO hb
    rw [k1 b (by omega) (by omega) hbl, hb]
    have : es.set i cs = es := by
      apply List.ext_getElem?
      intro j
      by_cases hj : i = j
      · subst hj; rw [List.getElem?_set_self (lt_of_getO hi1)]; exact hi1.symm
      · rw [List.getElem?_set_ne hj]
    rw [this]
  · simp only [Pf.put, Pf.subs]
    rw [RdP]
    refine ⟨.own q 0 ps.length false, by rw [e]; rfl, .inr ⟨q, es'.set k c', by simp, by omega, k2, ?_⟩⟩
    exact r5 o' x c' (fun j j1 j2 j3 => k1 j (by omega) (by omega) (by omega)) k3

end Go.Proofs.YtkecobdhgabknaaDoor.A
