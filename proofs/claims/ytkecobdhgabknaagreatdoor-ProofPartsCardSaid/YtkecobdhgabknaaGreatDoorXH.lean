/- The names of variables: the program's. -/
import Derived.Test.YtkecobdhgabknaaGreatDoorGx0
import Derived.Test.YtkecobdhgabknaaGreatDoorExtS
namespace Go.Proofs.YtkecobdhgabknaaGreatDoor.A
open Go
set_option maxRecDepth 10000
set_option linter.unusedSimpArgs false
attribute [-simp] List.all_eq_true put slot_def ld idxA lenOf elems canA app hand

theorem strs_get : ∀ l : List ByteArray, strsOf (strA l) = some l
  | [] => rfl
  | x :: l => by have := strs_get l; simp only [strA] at this; simp [strA, strsOf, this]

theorem sort_call {r ro ty : Nat} {o : List Obj} {df : List Nat} {l : List ByteArray} (h : o[r]? = some (.arr ty 1 (strA l))) (hro : ro ≤ r) (hl : l.length < 4611686018427387904) (f : Bool) :
    (D T).call 31 [.own r 0 l.length f] ⟨o, ro, df⟩ = some (.tup [], ⟨o.set r (.arr ty 1 (strA (isort bytesLt l))), ro, df⟩) := by
  rw [D_ext _ _ (by rfl)]
  simp only [ext, exSort, St.arr?, h, strA_len, hro, hl, and_self, if_true, strs_get]
  rfl

theorem comp_call {r ro ty : Nat} {o : List Obj} {df : List Nat} {l : List ByteArray} (h : o[r]? = some (.arr ty 1 (strA l))) (hro : ro ≤ r) (hl : l.length < 4611686018427387904) :
    (D T).call 32 [.own r 0 l.length false] ⟨o, ro, df⟩ =
      some (.own r 0 (dedup bytesEq l).length false, ⟨o.set r (.arr ty 1 (strA (dedup bytesEq l ++ List.replicate (l.length - (dedup bytesEq l).length) ⟨#[]⟩))), ro, df⟩) := by
  rw [D_ext _ _ (by rfl)]
  simp only [ext, exComp, St.arr?, h, strA_len, hro, hl, and_self, if_true, strs_get]
  rfl

theorem sort_nil (st : St) : (D T).call 31 [.fsl 1 []] st = some (.tup [], st) := by
  rw [D_ext _ _ (by rfl)]; rfl
theorem comp_nil (st : St) : (D T).call 32 [.fsl 1 []] st = some (.fsl 1 [], st) := by
  rw [D_ext _ _ (by rfl)]; rfl

theorem isort_len {α : Type} (lt : α → α → Bool) (l : List α) : (isort lt l).length = l.length := isort_length lt l

/-- sorted, each once -/
def rising (l : List ByteArray) : List ByteArray := dedup bytesEq (isort bytesLt l)

/-- a slice of strings that grows, and is the literal only while it is empty -/
structure Gs (lo : Nat) (o : List Obj) (v : AV) (l : List ByteArray) : Prop where
  G : Gr lo 9 1 o v (strA l)
  nil : v = .fsl 1 (strA l) → l = []

theorem Gs.off {lo : Nat} {o : List Obj} {v : AV} {l : List ByteArray} (h : Gs lo o v l) {i : Nat} {x : Obj} (hx : o[i]? = some x) (hne : ∀ es, x ≠ .arr 9 1 es) (n : Nat) (f : Bool) : v ≠ .own i 0 n f := by
  rcases h.G with rfl | ⟨r, h1, rfl, h3⟩
  · simp
  · rintro e
    obtain ⟨rfl, _⟩ : r = i ∧ _ := by simpa using e
    rw [h3] at hx
    exact hne _ (Option.some.inj hx).symm

theorem Gs.app {lo ro : Nat} {o : List Obj} {v : AV} {l : List ByteArray} (h : Gs lo o v l) (hro : ro ≤ lo) (hlo : lo ≤ o.length) (s : ByteArray) (hn : l.length + 1 ≤ 4294967296) (df : List Nat) :
    ∃ o', app ⟨o, ro, df⟩ 9 1 16 v (.fsl 1 [[.str s]]) = some (.own o.length 0 (l.length + 1) false, ⟨o', ro, df⟩) ∧ o'.length = o.length + 1 ∧
      Gs lo o' (.own o.length 0 (l.length + 1) false) (l ++ [s]) ∧ (∀ (i : Nat) (y : Obj), o[i]? = some y → (∀ es, y ≠ .arr 9 1 es) → o'[i]? = some y) ∧ ∀ i, i < lo → o'[i]? = o[i]? := by
  obtain ⟨o', a1, a2, a3, a4⟩ := app_get (bytes := 16) (df := df) h.G hro (elems_fsl _ 1 [[.str s]]) (.inr (by simp)) (room_ofN (by simp; omega) (by simp; omega))
  simp only [strA_len, List.length_cons, List.length_nil, Nat.zero_add] at a1
  refine ⟨o', a1, a2, ⟨gr_new (by rw [a3]; simp [strA]) hlo (by simp), by simp⟩, fun i y hy hne => a4 i y hy (h.off hy hne), fun i hi => by rw [a4 i _ (List.getElem?_eq_getElem (by omega)) (h.G.not hi), List.getElem?_eq_getElem]⟩

theorem Gs.push {lo : Nat} {o : List Obj} {v : AV} {l : List ByteArray} (h : Gs lo o v l) (m : List Obj) : Gs lo (o ++ m) v l := ⟨h.G.push m, h.nil⟩
theorem Gs.set {lo : Nat} {o : List Obj} {v : AV} {l : List ByteArray} (h : Gs lo o v l) {i : Nat} {x y : Obj} (hx : o[i]? = some x) (hne : ∀ es, x ≠ .arr 9 1 es) : Gs lo (o.set i y) v l := by
  refine ⟨?_, h.nil⟩
  rcases h.G with rfl | ⟨r, h1, rfl, h3⟩
  · exact .inl rfl
  · refine .inr ⟨r, h1, rfl, ?_⟩
    rw [List.getElem?_set_ne]
    · exact h3
    · rintro rfl
      exact h.off hx hne _ _ rfl

theorem Gs.kill {lo : Nat} {v : AV} {l : List ByteArray} : ∀ (df : List Nat) {o : List Obj}, Gs lo o v l → (∀ d ∈ df, o[d]? = some Obj.dfr) → df.Nodup → Gs lo (killAll df o) v l
  | [], _, h, _, _ => h
  | d :: df, o, h, hd, hn => by
    have hn' := List.nodup_cons.1 hn
    refine Gs.kill df (h.set (hd d (List.mem_cons_self ..)) (by simp)) (fun e he => ?_) hn'.2
    rw [List.getElem?_set_ne (by rintro rfl; exact hn'.1 he)]
    exact hd e (List.mem_cons_of_mem _ he)

/-- a slice whose elements lie in memory that does not change -/
structure Lz (o0 : List Obj) (sz : Nat) (v : AV) (es : List (List AV)) : Prop where
  len : lenOf v = some es.length
  can : canA v = v
  get : ∀ (o : List Obj) (ro : Nat) (df : List Nat) (i : Nat) e, (∀ j, j < o0.length → o[j]? = o0[j]?) → es[i]? = some e → e.length = sz → ∃ p, idxA ⟨o, ro, df⟩ sz v (.int .i64 i) = some p ∧ ∀ agg, ld ⟨o, ro, df⟩ agg sz p = val agg e

theorem Lz.ls {o0 : List Obj} {sz : Nat} {v : AV} {es : List (List AV)} (L : Ls o0 sz v es)   : Lz o0 sz v es := by
  refine ⟨L.len, L.can, fun o ro df i e hlow he hl => ?_⟩
  by_cases hlt : o0.length ≤ o.length
  · have : o = o0 ++ o.drop o0.length := by
      apply List.ext_getElem?
      intro j
      rcases Nat.lt_or_ge j o0.length with hj | hj
      · rw [List.getElem?_append_left hj, hlow j hj]
      · rw [List.getElem?_append_right hj, List.getElem?_drop]; congr 1; omega
    rw [this]
    exact L.get _ ro df i e he hl
  · exfalso
    have := hlow o.length (by omega)
    rw [List.getElem?_eq_none (Nat.le_refl _), List.getElem?_eq_getElem (by omega)] at this
    cases this

/-- the end of a function that sorts what it has gathered -/
theorem Gs.done {lo ro : Nat} {o : List Obj} {v : AV} {l : List ByteArray} (h : Gs lo o v l) (hro : ro ≤ lo) (hl : l.length ≤ 4294967296) (df : List Nat) (hd : ∀ d ∈ df, o[d]? = some Obj.dfr) :
    ∃ o1 v2 o2, (D T).call 31 [v] ⟨o, ro, df⟩ = some (.tup [], ⟨o1, ro, df⟩) ∧ (∀ (i : Nat) (y : Obj), o[i]? = some y → (∀ es, y ≠ .arr 9 1 es) → o1[i]? = some y) ∧
      (D T).call 32 [v] ⟨o1, ro, df⟩ = some (v2, ⟨o2, ro, df⟩) ∧ hand ro (killAll df o2) v2 = some (.sl 1 (strA (rising l))) := by
  rcases h.G with rfl | ⟨r, h1, rfl, h3⟩
  · obtain rfl := h.nil rfl
    exact ⟨o, _, o, sort_nil _, fun i y hy _ => hy, comp_nil _, by simp [strA, rising, isort, dedup, hand, hand1, hand0]⟩
  · have hr := lt_of_getO h3
    have hc := comp_call (ro := ro) (df := df) (l := isort bytesLt l) (getO_set (x := Obj.arr 9 1 (strA (isort bytesLt l))) hr) (by omega) (by rw [isort_len]; omega)
    have e0 : (strA l).length = (isort bytesLt l).length := by rw [strA_len, isort_len]
    refine ⟨_, _, _, by rw [strA_len]; exact sort_call h3 (by omega) (by omega) false, fun i y hy hne => ?_, by rw [e0]; exact hc, ?_⟩
    · rw [List.getElem?_set_ne]
      · exact hy
      · rintro rfl
        rw [h3] at hy
        exact hne _ (Option.some.inj hy).symm
    · have hk : r ∉ df := fun hm => by have := hd r hm; rw [h3] at this; cases this
      have e : (killAll df ((o.set r (.arr 9 1 (strA (isort bytesLt l)))).set r (.arr 9 1 (strA (dedup bytesEq (isort bytesLt l) ++ List.replicate ((isort bytesLt l).length - (dedup bytesEq (isort bytesLt l)).length) ⟨#[]⟩)))))[r]? =
          some (.arr 9 1 (strA (dedup bytesEq (isort bytesLt l) ++ List.replicate ((isort bytesLt l).length - (dedup bytesEq (isort bytesLt l)).length) ⟨#[]⟩))) := by
        rw [killAll_get _ _ _ hk, getO_set (by simpa using hr)]
      simp only [hand, hand1, hand0, if_neg (show ¬ r < ro by omega), e, strA_flat, List.drop_zero]
      rw [if_pos (by simp), strA_app, List.take_left' (by simp)]
      rfl

end Go.Proofs.YtkecobdhgabknaaGreatDoor.A
/- The facts that a proof takes in: the program's function. -/
namespace Go.Proofs.YtkecobdhgabknaaGreatDoor.A
open Go
set_option maxRecDepth 10000
set_option linter.unusedSimpArgs false
set_option linter.unusedVariables false
attribute [-simp] List.all_eq_true put slot_def ld idxA lenOf elems canA app hand slc

/-- a list of strings: the literal, or an own array -/
def Lt (ro : Nat) (o : List Obj) (v : AV) (l : List ByteArray) : Prop := (v = .fsl 1 [] ∧ l = []) ∨ ∃ q, v = .own q 0 l.length false ∧ o[q]? = some (.arr 9 1 (strA l)) ∧ ro ≤ q
theorem Lt.push {ro : Nat} {o : List Obj} {v : AV} {l : List ByteArray} (h : Lt ro o v l) (m : List Obj) : Lt ro (o ++ m) v l := by
  rcases h with ⟨rfl, rfl⟩ | ⟨q, rfl, hq, hr⟩
  · exact .inl ⟨rfl, rfl⟩
  · exact .inr ⟨q, rfl, getO_push hq _, hr⟩
theorem Lt.gs {ro : Nat} {o : List Obj} {v : AV} {l : List ByteArray} (h : Lt ro o v l) : Gs ro o v l := by
  rcases h with ⟨rfl, rfl⟩ | ⟨q, rfl, hq, hr⟩
  · exact ⟨.inl rfl, fun _ => rfl⟩
  · refine ⟨.inr ⟨q, hr, by rw [strA_len], hq⟩, fun e => by cases e⟩

def Pf.hyp : Pf → ByteArray
  | .mk _ h _ _ _ _ _ _ _ _ _ => h
/-- one more fact, at a part that takes one -/
def fStep (p : Pf) (_ : List Int) (l : List ByteArray) : List ByteArray := if p.rule = 24 then l ++ [p.hyp] else l

/-- a string put behind -/
theorem lt_put {ro : Nat} {o : List Obj} {v : AV} {l : List ByteArray} (h : Lt ro o v l) (hl : l.length ≤ 1000000) (w : ByteArray) : ∃ o', app ⟨o, ro, []⟩ 9 1 16 v (.fsl 1 [[.str w]]) = some (.own o.length 0 (l.length + 1) false, ⟨o', ro, []⟩) ∧ o'.length = o.length + 1 ∧
    o'[o.length]? = some (.arr 9 1 (strA (l ++ [w]))) ∧ ∀ (i : Nat) y, o[i]? = some y → (∀ es, y ≠ .arr 9 1 es) → o'[i]? = some y := by
  have e1 : strA (l ++ [w]) = strA l ++ [[.str w]] := strA_app l [w]
  have hn := strA_len l
  rw [e1]
  rcases h with ⟨rfl, rfl⟩ | ⟨q, rfl, hq, hr⟩
  · refine ⟨o ++ [.arr 9 1 [[.str w]]], by simp [app, elems, room], by simp, by simp [strA], fun i y hy _ => getO_push hy _⟩
  · have hlt := lt_of_getO hq
    generalize strA l = I at *
    have hrm : room (l.length + 1) 16 = true := by simp [room]; omega
    refine ⟨o.set q .dead ++ [.arr 9 1 (I ++ [[.str w]])], ?_, by simp, ?_, fun i y hy hne => ?_⟩
    · simp [app, elems, St.arr?, hq, hr, hrm, ← hn]
      rw [hn]; exact hrm
    · rw [List.getElem?_append_right (by simp)]; simp
    · have hi : q ≠ i := by
        rintro rfl
        rw [hq] at hy
        exact hne _ (Option.some.inj hy).symm
      exact getO_push (by rw [List.getElem?_set_ne hi]; exact hy) _

theorem facts1_go (bb ro : Nat) (h1 : ro ≤ bb) (x : Pf) (hx : x.ok) (v V : AV) (w : List Int) (o : List Obj) (l : List ByteArray) (hv : Wz bb o v w) (hb : o[bb]? = some (.arr 53 1 [[V]])) (hV : Lt ro o V l) (hl : l.length ≤ 1000000) :
    ∃ o' V', (D T).call 30 [x.av, v, .ptr bb 0 0] ⟨o, ro, []⟩ = some (.bool true, ⟨o', ro, []⟩) ∧ o'[bb]? = some (.arr 53 1 [[V']]) ∧ Lt ro o' V' (fStep x w l) ∧ o.length ≤ o'.length ∧ ∀ (i : Nat) y, i ≠ bb → o[i]? = some y → (¬ ∃ es, y = .arr 9 1 es) → o'[i]? = some y := by
  suffices h : ∃ v' st', (D T).call 30 [x.av, v, .ptr bb 0 0] ⟨o, ro, []⟩ = some (v', st') ∧ (fun v' st' => ∃ o' V', v' = .bool true ∧ st' = ⟨o', ro, []⟩ ∧ o'[bb]? = some (.arr 53 1 [[V']]) ∧ Lt ro o' V' (fStep x w l) ∧ o.length ≤ o'.length ∧ ∀ (i : Nat) y, i ≠ bb → o[i]? = some y → (¬ ∃ es, y = .arr 9 1 es) → o'[i]? = some y) v' st' by
    obtain ⟨_, _, g1, o', V', rfl, rfl, g2⟩ := h
    exact ⟨o', V', g1, g2⟩
  obtain ⟨r, h, nw, v0, b, t, c, les, chs, cu, ps⟩ := x
  obtain ⟨t0, t1, t2, t3⟩ := t
  obtain ⟨c0, c1, c2, c3, c4⟩ := c
  obtain ⟨kd, fr0, by0, dv, kk, ms, cs⟩ := cu
  clear hx
  have l1 := lt_of_getO hb
  have l3 : ro ≤ o.length := by omega
  have hcan := hv.wy.can
  obtain ⟨X, hX⟩ : ∃ X, X = Obj.arr 42 24 [[.int .i64 r, .str h, .str nw, .str v0, .bool b, .int .i64 t0, .str t1, .int .i64 t2, .sl 4 (t3.map Tm.cells), .int .i64 c0, .str c1, .str c2, .sl 4 (c3.map Tm.cells), .sl 5 (c4.map Cl.cells), .sl 8 (les.map Lm.cells), .sl 2 (chs.map Ch.cells),
    .int .i64 kd, .sl 1 (intA fr0), .sl 1 (intA by0), .int .i64 dv, .int .i64 kk, .sl 2 (moA ms), .sl 7 (cs.map Cu.cells), .sl 24 (ps.map Pf.cells)]] := ⟨_, rfl⟩
  obtain ⟨o', a1, a2, a3, a4⟩ := lt_put (hV.push [X]) hl h
  have hb' : o'[bb]? = some (.arr 53 1 [[V]]) := a4 bb _ (getO_push hb _) (fun es h => by cases h)
  apply call_for (by exact rfl : T 30 = some _) (by simp)
  intro fr hfr hsl
  have s0 := hsl 0 _ rfl
  have s1 := hsl 1 _ rfl
  have s2 := hsl 2 _ rfl
  simp only [Pf.av, Pf.cells_all] at s0
  subst hX
  have l5 := lt_of_getO hb'
  by_cases z : r = 24
  · subst z
    simp -implicitDefEqProofs [hfr, s0, s1, s2, l1, l3, h1, hcan, getO_last, setO_last, List.getElem?_append_left, hb, a1, hb', l5, -getElem?_pos, List.getElem?_cons_zero]
    have e : fStep (Pf.mk 24 h nw v0 b (Tm.mk t0 t1 t2 t3) (Cl.mk c0 c1 c2 c3 c4) les chs (Cu.mk kd fr0 by0 dv kk ms cs) ps) w l = l ++ [h] := rfl
    rw [e]
    simp only [List.length_append, List.length_cons, List.length_nil, Nat.zero_add] at a2 a3
    refine ⟨.inr ⟨o.length + 1, by simp, ?_, by omega⟩, by omega, fun i y hi hy ho => ?_⟩
    · rw [List.getElem?_set_ne (by omega)]; exact a3
    · rw [List.getElem?_set_ne (Ne.symm hi)]; exact a4 i y (getO_push hy _) ho
  · have z' : (r == 24) = false := by simpa using z
    simp -implicitDefEqProofs [hfr, s0, s1, s2, l1, l3, h1, hcan, getO_last, setO_last, List.getElem?_append_left, hb, z, z', fStep, Pf.rule, -getElem?_pos, List.getElem?_cons_zero]
    exact ⟨hV.push _, fun i y hi hy ho => getO_push hy _⟩

theorem stepFacts (bb ro : Nat) (h1 : ro ≤ bb) : StepG 30 [.ptr bb 0 0] ro bb
    (fun o l => ∃ V, o[bb]? = some (.arr 53 1 [[V]]) ∧ Lt ro o V l) (fun l k => l.length + k ≤ 1000000) fStep (fun y => ∃ es, y = .arr 9 1 es) where
  bP := fun _ ⟨_, h⟩ => by cases h
  bI := fun _ ⟨_, h⟩ => by cases h
  lo := fun o z ⟨V, h, _⟩ => by have := lt_of_getO h; omega
  more := fun o m z ⟨V, h, hl⟩ => ⟨V, getO_push h _, hl.push _⟩
  go := fun x hx v w o l k hv hw ⟨V, hb, hV⟩ hk hl => by
    obtain ⟨o', V', e, g1, g2, g3, g4⟩ := facts1_go bb ro h1 x hx v V w o l hv hb hV (by omega)
    refine ⟨o', e, ⟨V', g1, g2⟩, ?_, g3, g4⟩
    unfold fStep
    split
    · simp only [List.length_append, List.length_cons, List.length_nil]; omega
    · omega

mutual
/-- the names of the facts, in order -/
def fN : Pf → List ByteArray
  | .mk r h _ _ _ _ _ _ _ _ l => (if r = 24 then [h] else []) ++ fNL l
def fNL : List Pf → List ByteArray
  | [] => []
  | c :: l => fN c ++ fNL l
end
mutual
theorem fN_len : ∀ (p : Pf), ((fN p).length : Int) ≤ psz p
  | .mk r _ _ _ _ _ _ _ _ _ l => by
    have := fNL_len l
    simp only [fN, psz, List.length_append]
    split <;> simp <;> omega
theorem fNL_len : ∀ (l : List Pf), ((fNL l).length : Int) ≤ pszL l
  | [] => by simp [fNL, pszL]
  | c :: l => by
    have h1 := fN_len c
    have h2 := fNL_len l
    simp only [fNL, pszL, List.length_append]
    omega
end
mutual
theorem wg_fN : ∀ (p : Pf) (w : List Int) (l : List ByteArray), wg fStep p w l = l ++ fN p
  | .mk r h nw v b t c les chs cu ps, w, l => by
    rw [wg, wgL_fN ps, fN]
    by_cases hr : r = 24 <;> simp [fStep, Pf.rule, Pf.hyp, hr]
theorem wgL_fN : ∀ (ps : List Pf) (i : Int) (w : List Int) (l : List ByteArray), wgL fStep ps i w l = l ++ fNL ps
  | [], _, _, _ => by simp [wgL, fNL]
  | c :: ps, i, w, l => by
    rw [wgL, wgL_fN ps, wg_fN c, fNL]
    simp
end

theorem pFacts_eq (p : Pf) (hp : p.ok) (hs : psz p ≤ 100000) (o : List Obj) (ro : Nat) (df : List Nat) : (D T).call 15 [p.av] ⟨o, ro, df⟩ = some (.sl 1 (strA (rising (fN p))), ⟨o, ro, df⟩) := by
  have x1 := p_take p
  have x2 := p_can p
  have x3 := plen p
  have x4 := p_one p
  have hdp := dP_psz p
  obtain ⟨o', e, ⟨V, g1, hV⟩, g2, g3, g4⟩ := walkG (stepFacts (o.length + 1) o.length (by omega)) p hp (.fsl 1 []) [] (o ++ [Obj.arr 42 24 [p.cells], Obj.arr 53 1 [[.fsl 1 []]]]) [] (psz p) []
    (.inl ⟨rfl, rfl⟩) (by simp; omega) ⟨.fsl 1 [], by simp [get_base], .inl ⟨rfl, rfl⟩⟩ (by omega) (by simp; omega)
  rw [wg_fN, List.nil_append] at hV
  have j1 := lt_of_getO g1
  have hfl := fN_len p
  obtain ⟨o1, V2, o2, c1, c2, c3, c4⟩ := hV.gs.done (Nat.le_refl _) (by omega) [] (by simp)
  have g5 := c2 _ _ g1 (fun es h => by cases h)
  have j5 := lt_of_getO g5
  have hcV : canA V = V := (gr_ls hV.gs.G).can
  simp only [killAll, List.foldl_nil] at c4
  simp only [Pf.av] at e
  apply call_by (by exact rfl : T 15 = some _) (by simp)
  intro fr hfr hsl
  have s0 := hsl 0 _ rfl
  simp only [Pf.av] at s0
  simp -implicitDefEqProofs [hfr, s0, get_base0, get_base, set_base0, set_base, e, g1, j1, g5, j5, c1, c3, c4, hcV, x1, x2, x3, x4, -getElem?_pos, List.getElem?_cons_zero, List.getElem?_cons_succ]

end Go.Proofs.YtkecobdhgabknaaGreatDoor.A
