/- Claims: the names of variables that the program finds. -/
import Derived.Test.YtpenaaljaahanaaE1
namespace Go.Proofs.Ytpenaaljaahanaa.A
open Go
set_option maxRecDepth 10000
set_option linter.unusedSimpArgs false
attribute [-simp] List.all_eq_true put slot_def ld idxA lenOf elems canA app hand

/-- a slice that grows, and is the literal only while it is empty -/
structure Gx (ty sz lo : Nat) (o : List Obj) (v : AV) (es : List (List AV)) : Prop where
  G : Gr lo ty sz o v es
  nil : v = .fsl sz es → es = []

theorem Gx.off {ty sz lo : Nat} {o : List Obj} {v : AV} {es : List (List AV)} (h : Gx ty sz lo o v es) {i : Nat} {x : Obj} (hx : o[i]? = some x) (hne : ∀ es, x ≠ .arr ty sz es) (n : Nat) (f : Bool) : v ≠ .own i 0 n f := by
  rcases h.G with rfl | ⟨r, h1, rfl, h3⟩
  · simp
  · rintro e
    obtain ⟨rfl, _⟩ : r = i ∧ _ := by simpa using e
    rw [h3] at hx
    exact hne _ (Option.some.inj hx).symm

theorem Gx.app {ty sz lo ro bytes : Nat} {o : List Obj} {v : AV} {es : List (List AV)} (h : Gx ty sz lo o v es) (hro : ro ≤ lo) (hlo : lo ≤ o.length) {df : List Nat} {x : AV} {xs : List (List AV)}
    (hx : elems ⟨o, ro, df⟩ x = some (sz, xs)) (hr : room (es.length + xs.length) bytes = true) :
    ∃ o', app ⟨o, ro, df⟩ ty sz bytes v x = some (.own o.length 0 (es.length + xs.length) false, ⟨o', ro, df⟩) ∧ o'.length = o.length + 1 ∧
      Gx ty sz lo o' (.own o.length 0 (es.length + xs.length) false) (es ++ xs) ∧ (∀ (i : Nat) (y : Obj), o[i]? = some y → (∀ es, y ≠ .arr ty sz es) → o'[i]? = some y) ∧ (∀ i, i < lo → o'[i]? = o[i]?) ∧
      o'[o.length]? = some (.arr ty sz (es ++ xs)) := by
  obtain ⟨o', a1, a2, a3, a4⟩ := app_get' (bytes := bytes) (df := df) h.G hro hx (fun hv => .inl (h.nil hv)) hr
  exact ⟨o', a1, a2, ⟨gr_new a3 hlo (by simp), by simp⟩, fun i y hy hne => a4 i y hy (h.off hy hne), fun i hi => by rw [a4 i _ (List.getElem?_eq_getElem (by omega)) (h.G.not hi), List.getElem?_eq_getElem], a3⟩

theorem Gx.push {ty sz lo : Nat} {o : List Obj} {v : AV} {es : List (List AV)} (h : Gx ty sz lo o v es) (m : List Obj) : Gx ty sz lo (o ++ m) v es := ⟨h.G.push m, h.nil⟩
theorem Gx.set {ty sz lo : Nat} {o : List Obj} {v : AV} {es : List (List AV)} (h : Gx ty sz lo o v es) {i : Nat} {x y : Obj} (hx : o[i]? = some x) (hne : ∀ es, x ≠ .arr ty sz es) : Gx ty sz lo (o.set i y) v es := by
  refine ⟨?_, h.nil⟩
  rcases h.G with rfl | ⟨r, h1, rfl, h3⟩
  · exact .inl rfl
  · refine .inr ⟨r, h1, rfl, ?_⟩
    rw [List.getElem?_set_ne]
    · exact h3
    · rintro rfl
      exact h.off hx hne _ _ rfl

structure CY (o0 : List Obj) (tot : Nat) (W : List Tm) (rest : List Cl) (o : List Obj) (bx : List (Nat × List AV)) (v : AV) (out : List Tm) : Prop where
  hp : W = out ++ rest.flatMap Cl.terms
  lo : o0.length + 1 ≤ o.length
  c : o[o0.length]? = some (.arr 22 1 [[v]])
  G : Gx 56 4 (o0.length + 1) o v (out.map Tm.cells)
  hl : out.length + (rest.flatMap Cl.terms).length ≤ tot
  hb : ∀ i c, (i, c) ∈ bx → o0.length + 1 ≤ i ∧ o[i]? = some (.arr 25 5 [c])
  low : ∀ j, j < o0.length → o[j]? = o0[j]?

theorem CY.push {o0 : List Obj} {tot : Nat} {W : List Tm} {rest : List Cl} {o : List Obj} {bx : List (Nat × List AV)} {v : AV} {out : List Tm} (h : CY o0 tot W rest o bx v out) (c : List AV) :
    CY o0 tot W rest (o ++ [.arr 25 5 [c]]) ((o.length, c) :: bx) v out := by
  have hlo := h.lo
  refine ⟨h.hp, by simp; omega, getO_push h.c _, h.G.push _, h.hl, fun i c' hi => ?_, fun j hj => by rw [List.getElem?_append_left (by omega)]; exact h.low j hj⟩
  rcases List.mem_cons.1 hi with hi | hi
  · simp only [Prod.mk.injEq] at hi
    obtain ⟨rfl, rfl⟩ := hi
    exact ⟨hlo, by simp⟩
  · exact ⟨(h.hb i c' hi).1, getO_push (h.hb i c' hi).2 _⟩

theorem CY.pop {o0 : List Obj} {tot : Nat} {W : List Tm} {rest : List Cl} {o : List Obj} {bx : List (Nat × List AV)} {v : AV} {out : List Tm} {p : Nat × List AV} (h : CY o0 tot W rest o (p :: bx) v out) : CY o0 tot W rest o bx v out :=
  ⟨h.hp, h.lo, h.c, h.G, h.hl, fun i c hi => h.hb i c (List.mem_cons_of_mem _ hi), h.low⟩

theorem cnames1 {o0 : List Obj} {tot : Nat} {W : List Tm} (htot : tot ≤ 4294967295) (t : Cl) (l : List Cl) (o : List Obj) (bx : List (Nat × List AV)) (df : List Nat) (h : ∃ v out, CY o0 tot W (t :: l) o bx v out) :
    ∃ v o', (D T).call 57 [t.av, .ptr o0.length 0 0] ⟨o, o0.length, df⟩ = some (v, ⟨o', o0.length, df⟩) ∧ ∃ v out, CY o0 tot W l o' bx v out := by
  obtain ⟨v, out, h⟩ := h
  obtain ⟨a, s, u, ts, cs⟩ := t
  have hlo := h.lo
  have hp := h.hp
  have hl := h.hl
  simp only [List.flatMap_cons, Cl.terms] at hp hl
  simp only [List.length_append] at hl
  obtain ⟨o3, a1, a2, G3, a4, a5, _⟩ := (h.G.push [Obj.arr 25 5 [(Cl.mk a s u ts cs).cells]]).app (ro := o0.length) (bytes := 56) (df := []) (by omega) (by simp; omega) (x := .sl 4 (ts.map Tm.cells)) (elems_sl _ _ _) (room_ofN (by simp; omega) (by simp; omega))
  have b1 := a4 _ _ (getO_push h.c _) (by simp)
  simp only [Cl.cells_mk, List.length_append, List.length_cons, List.length_nil, Nat.zero_add, List.length_map] at a1 a2 G3
  suffices hh : ∃ v st', (D T).call 57 [(Cl.mk a s u ts cs).av, .ptr o0.length 0 0] ⟨o, o0.length, df⟩ = some (v, st') ∧ (fun v st' => ∃ o', st' = ⟨o', o0.length, df⟩ ∧ ∃ v out, CY o0 tot W l o' bx v out) v st' by
    obtain ⟨v, _, h1, o', rfl, h2⟩ := hh
    exact ⟨v, o', h1, h2⟩
  apply call_for (by exact rfl : T 57 = some _) (by simp)
  intro fr hfr hsl
  have s0 := hsl 0 _ rfl
  have s1 := hsl 1 _ rfl
  simp only [Cl.av, Cl.cells_mk] at s0
  have l1 : o0.length < o.length := by omega
  have l2 : o0.length < o3.length := by omega
  have c1 := h.c
  simp -implicitDefEqProofs [hfr, s0, s1, getO_last, setO_last, getO_set, List.getElem?_append_left, -getElem?_pos, List.getElem?_cons_zero, l1, l2, c1, a1, a2, b1]
  refine ⟨_, out ++ ts, by simpa using hp, by simp; omega, getO_set l2, ?_, by rw [List.length_append]; omega, fun i c hi => ⟨(h.hb i c hi).1, ?_⟩, fun j hj => ?_⟩
  · rw [List.map_append]; exact G3.set b1 (by simp)
  · have := (h.hb i c hi).1
    rw [List.getElem?_set_ne (by omega)]
    exact a4 _ _ (getO_push (h.hb i c hi).2 _) (by simp)
  · rw [List.getElem?_set_ne (by omega), a5 j (by omega), List.getElem?_append_left (by omega)]
    exact h.low j hj

structure NC (o0 : List Obj) (tot : Nat) (v0 : AV) (l : List Cl) (rest : List Cl) (fr : List AV) (st : St) (pre : List Cl) (o : List Obj) (v : AV) (out : List Tm) : Prop where
  e : l = pre ++ rest
  fl : fr.length = 18
  q3 : slot fr 3 = .ptr o0.length 0 0
  q6 : slot fr 6 = v0
  q7 : slot fr 7 = .int .i64 (l.length : Int)
  q8 : slot fr 8 = .int .i64 (pre.length : Int)
  st_ : st = ⟨o, o0.length, []⟩
  Y : CY o0 tot (allTs l) (partsL rest) o [] v out

theorem len_allL : ∀ l : List Tm, l.length ≤ (allL l).length
  | [] => Nat.le_refl _
  | t :: l => by
    have := len_allL l
    have h : 1 ≤ t.all.length := by cases t; simp [Tm.all]
    simp only [allL, List.length_append, List.length_cons]
    omega

theorem cnames_eq (l : List Cl) (hl : ∀ t ∈ l, t.ok) (hts : ∀ t ∈ allTs l, t.ok) (hn : (allL (allTs l)).length ≤ 4294967295) (hlen : l.length ≤ 4294967296) (o0 : List Obj) (ro : Nat) (df : List Nat) (v0 : AV) (L : Lz o0 5 v0 (l.map Cl.cells)) :
    (D T).call 31 [v0] ⟨o0, ro, df⟩ = some (.sl 1 (strA (rising (varsOf (allL (allTs l))))), ⟨o0, ro, df⟩) := by
  have hL := L.len
  simp only [List.length_map] at hL
  have hmx : l.length ≤ 9223372036854775807 := by omega
  have htl := len_allL (allTs l)
  apply call_by (by exact rfl : T 31 = some _) (by simp)
  intro fr hfr hsl
  have s0 := hsl 0 _ rfl
  simp -implicitDefEqProofs [hfr, s0, hL]
  apply loop_inv L31_0.eq_1 List.length (fun (rest : List Cl) fr st => ∃ pre o v out, NC o0 (allTs l).length v0 l rest fr st pre o v out) ?_ l
    ⟨[], _, .fsl 4 [], [], rfl, by simp [hfr], by simp [hfr], by simp [hfr, s0], by simp [hfr], by simp [hfr], rfl, by simp [allTs], by simp, by simp, ⟨.inl rfl, fun _ => rfl⟩, by simp [allTs], by simp, fun j hj => by rw [List.getElem?_append_left hj]⟩
  rintro rest fr _ ⟨pre, o, v, out, e, hfr, q3, q6, q7, q8, rfl, Y⟩
  have hlo := Y.lo
  have l0 : o0.length < o.length := by omega
  have c1 := Y.c
  cases rest with
  | nil =>
    have hlt := idx_end e
    have hp := Y.hp
    simp only [partsL, List.flatMap_nil, List.append_nil] at hp
    rw [← hp] at Y
    have hnm := namesv_eq (allTs l) hts hn (by omega) o o0.length [] v (Lz.ls (gr_ls Y.G.G))
    have hcv : canA v = v := (gr_ls Y.G.G).can
    simp -implicitDefEqProofs [hfr, q3, q6, q7, q8, hlt, c1, hnm, hcv, -getElem?_pos, List.getElem?_cons_zero, hand, hand1, hand0]
  | cons t rest =>
    obtain ⟨hlt, hg, _⟩ := idx_at e
    have hw := idx_next e hmx
    obtain ⟨p, g1, g2⟩ := L.get o o0.length [] pre.length t.cells Y.low (by simp [hg]) (by cases t; simp [Cl.cells_mk])
    have g3 := g2 true
    simp only [val, if_true] at g3
    have l1 : o0.length ≤ o.length := by omega
    simp only [partsL] at Y
    obtain ⟨o2, hwk, v2, out2, Y2⟩ := cwalk_eq (ro := o0.length) (g := 57) (cap := [.ptr o0.length 0 0]) (fun rest2 o2 bx => ∃ v out, CY o0 (allTs l).length (allTs l) rest2 o2 bx v out)
      (fun l o x h => by obtain ⟨_, _, h⟩ := h; have := h.lo; omega)
      (fun l o x c h => by obtain ⟨v, out, h⟩ := h; exact ⟨v, out, h.push c⟩)
      (fun l o x i c h hi => by obtain ⟨_, _, h⟩ := h; exact (h.hb i c hi).2)
      (fun l o x p h => by obtain ⟨v, out, h⟩ := h; exact ⟨v, out, h.pop⟩)
      (fun t l o bx df _ h => cnames1 (by omega) t l o bx df h)
      t (hl t (by rw [e]; simp)) (partsL rest) (o ++ [.arr 25 5 [t.cells]]) [] [] ⟨v, out, (Y.push t.cells).pop⟩
    simp only [Cl.av] at hwk
    simp -implicitDefEqProofs [hfr, q3, q6, q7, q8, hlt, g1, g3, l1, setO_last, getO_last, hwk, hw, -getElem?_pos, List.getElem?_cons_zero]
    exact ⟨rest, by omega, pre ++ [t], o2, v2, out2, NC.mk (by simp [e]) (by simp [hfr]) (by simp [hfr, q3]) (by simp [hfr, q6]) (by simp [hfr, q7]) (by simp [hfr, hw]) rfl Y2⟩

end Go.Proofs.Ytpenaaljaahanaa.A
