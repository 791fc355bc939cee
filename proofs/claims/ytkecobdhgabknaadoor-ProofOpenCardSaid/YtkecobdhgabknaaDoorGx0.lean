/- How large and how deep a proof is: the program's functions and the document's. -/
import Derived.Test.YtkecobdhgabknaaDoorX3
import Derived.Test.YtkecobdhgabknaaDoorWp
namespace Go.Proofs.YtkecobdhgabknaaDoor.A
open Go
set_option maxRecDepth 10000
set_option linter.unusedSimpArgs false
set_option linter.unusedVariables false
attribute [-simp] List.all_eq_true put slot_def ld idxA lenOf elems canA app hand

theorem pset (cs : List AV) (t : Pf) (h : cs.length = 24) : setMany cs 0 t.cells = t.cells := set_all _ _ (by rw [h, plen])

mutual
/-- how deep, up to some -/
def dq : Pf → Int → Int
  | .mk _ _ _ _ _ _ _ _ _ _ l, m => if m ≤ 1 then 1 else dqL l m 0 + 1
def dqL : List Pf → Int → Int → Int
  | [], _, n => n
  | t :: l, m, n => dqL l m (if n < dq t (m - 1) then dq t (m - 1) else n)
end
mutual
/-- how deep -/
def dP : Pf → Int
  | .mk _ _ _ _ _ _ _ _ _ _ l => 1 + dPL l
def dPL : List Pf → Int
  | [] => 0
  | t :: l => if dPL l < dP t then dP t else dPL l
end
mutual
theorem dP_pos : ∀ t : Pf, 1 ≤ dP t
  | .mk _ _ _ _ _ _ _ _ _ _ l => by have := dPL_pos l; simp only [dP]; omega
theorem dPL_pos : ∀ l : List Pf, 0 ≤ dPL l
  | [] => by simp [dPL]
  | t :: l => by have := dP_pos t; have := dPL_pos l; simp only [dPL]; split <;> omega
end
mutual
theorem dq_min : ∀ (t : Pf) (m : Int), 1 ≤ m → dq t m = min (dP t) m
  | .mk _ _ _ _ _ _ _ _ _ _ l, m, h => by
    have h1 := dPL_pos l
    simp only [dq, dP]
    by_cases hm : m ≤ 1
    · rw [if_pos hm]; omega
    · rw [if_neg hm, dqL_min l m 0 (by omega) (by omega) (by omega)]; omega
theorem dqL_min : ∀ (l : List Pf) (m n : Int), 2 ≤ m → 0 ≤ n → n ≤ m - 1 → dqL l m n = min (max n (dPL l)) (m - 1)
  | [], m, n, h, h0, h1 => by simp only [dqL, dPL]; omega
  | t :: l, m, n, h, h0, h1 => by
    have hd := dq_min t (m - 1) (by omega)
    have hp := dP_pos t
    have hl := dPL_pos l
    simp only [dqL, dPL]
    rw [dqL_min l m _ h (by split <;> omega) (by split <;> omega)]
    split <;> split <;> omega
end

mutual
/-- how many parts -/
def psz : Pf → Int
  | .mk _ _ _ _ _ _ _ _ _ _ l => 1 + pszL l
def pszL : List Pf → Int
  | [] => 0
  | t :: l => psz t + pszL l
end
mutual
theorem psz_pos : ∀ t : Pf, 1 ≤ psz t
  | .mk _ _ _ _ _ _ _ _ _ _ l => by have := pszL_pos l; simp only [psz]; omega
theorem pszL_pos : ∀ l : List Pf, 0 ≤ pszL l
  | [] => by simp [pszL]
  | t :: l => by have := psz_pos t; have := pszL_pos l; simp only [pszL]; omega
end
mutual
def pt : Pf → Int → Int
  | .mk _ _ _ _ _ _ _ _ _ _ l, m => ptL l m 1
def ptL : List Pf → Int → Int → Int
  | [], _, n => n
  | c :: l, m, n => if n ≤ m then ptL l m (n + pt c (m - n)) else n
end
mutual
theorem pt_le : ∀ (t : Pf) (m : Int), 0 ≤ m → 1 ≤ pt t m ∧ pt t m ≤ m + 1
  | .mk _ _ _ _ _ _ _ _ _ _ l, m, h => by
    have := ptL_le l m 1 (by omega) (by omega)
    simpa [pt] using this
theorem ptL_le : ∀ (l : List Pf) (m n : Int), 1 ≤ n → n ≤ m + 1 → 1 ≤ ptL l m n ∧ ptL l m n ≤ m + 1
  | [], m, n, h1, h2 => by simp [ptL]; omega
  | t :: l, m, n, h1, h2 => by
    simp only [ptL]
    split
    · have := pt_le t (m - n) (by omega)
      exact ptL_le l m _ (by omega) (by omega)
    · exact ⟨h1, h2⟩
end
mutual
theorem pt_min : ∀ (c : Pf) (m : Int), 0 ≤ m → min (pt c m) (m + 1) = min (psz c) (m + 1)
  | .mk _ _ _ _ _ _ _ _ _ _ l, m, h => by
    have h3 := ptL_min l m 1 (by omega) (by omega)
    simp only [pt, psz]
    omega
theorem ptL_min : ∀ (l : List Pf) (m n : Int), 1 ≤ n → n ≤ m + 1 → min (ptL l m n) (m + 1) = min (n + pszL l) (m + 1)
  | [], m, n, h1, h2 => by simp [ptL, pszL]
  | c :: l, m, n, h1, h2 => by
    have hp := psz_pos c
    have hl := pszL_pos l
    simp only [ptL, pszL]
    by_cases hn : n ≤ m
    · rw [if_pos hn]
      have h3 := pt_min c (m - n) (by omega)
      have h4 := pt_le c (m - n) (by omega)
      have h5 := ptL_min l m (n + pt c (m - n)) (by omega) (by omega)
      omega
    · rw [if_neg hn]
      omega
end

theorem deep38_eq : ∀ (p : Pf), p.ok → ∀ (m : Int), 1 ≤ m → m ≤ 100 → ∀ (o : List Obj) (ro : Nat) (df : List Nat), (D T).call 37 [p.av, .int .i64 m] ⟨o, ro, df⟩ = some (.int .i64 (dq p m), ⟨o, ro, df⟩)
  | .mk r h nw v b t c les chs cu ps, hok, m, h1, h2, o, ro, df => by
    simp only [Pf.ok] at hok
    obtain ⟨_, _, _, _, _, _, _, _, _, kps, ops⟩ := hok
    have hl := okPf_iff.1 ops
    unfold mxB at kps
    have mx : ps.length ≤ 9223372036854775807 := by omega
    have ih := fun x (hx : x ∈ ps) m k1 k2 o ro df => deep38_eq x (hl x hx) m k1 k2 o ro df
    have hE : dq (.mk r h nw v b t c les chs cu ps) m = if m ≤ 1 then 1 else dqL ps m 0 + 1 := rfl
    generalize dq (.mk r h nw v b t c les chs cu ps) m = R at *
    obtain ⟨t0, t1, t2, t3⟩ := t
    obtain ⟨c0, c1, c2, c3, c4⟩ := c
    obtain ⟨kd, fr0, by0, dv, kk, ms, cs⟩ := cu
    simp only [Pf.av] at ih
    apply call_by (by exact rfl : T 37 = some _) (by simp)
    intro fr hfr hsl
    have s0 := hsl 0 _ rfl
    have s1 := hsl 1 _ rfl
    simp only [Pf.av, Pf.cells_all] at s0
    obtain ⟨X, hX⟩ : ∃ X, X = Obj.arr 42 24 [[.int .i64 r, .str h, .str nw, .str v, .bool b, .int .i64 t0, .str t1, .int .i64 t2, .sl 4 (t3.map Tm.cells), .int .i64 c0, .str c1, .str c2, .sl 4 (c3.map Tm.cells), .sl 5 (c4.map Cl.cells), .sl 8 (les.map Lm.cells), .sl 2 (chs.map Ch.cells),
      .int .i64 kd, .sl 1 (intA fr0), .sl 1 (intA by0), .int .i64 dv, .int .i64 kk, .sl 2 (moA ms), .sl 7 (cs.map Cu.cells), .sl 24 (ps.map Pf.cells)]] := ⟨_, rfl⟩
    simp -implicitDefEqProofs [hfr, s0, s1, get_base0]
    rw [← hX]
    by_cases hm : m ≤ 1
    · rw [if_pos hm] at hE
      have hm2 : ¬ 1 < m := by omega
      apply loop_inv L37_0.eq_1 List.length (fun (rest : List Pf) fr st => ∃ pre o', ps = pre ++ rest ∧ fr.length = 26 ∧ slot fr 1 = .int .i64 m ∧ slot fr 5 = .int .i64 1 ∧ slot fr 9 = .sl 24 (ps.map Pf.cells) ∧ slot fr 10 = .int .i64 (ps.length : Int) ∧ slot fr 11 = .int .i64 (pre.length : Int) ∧
        st = ⟨o', o.length, []⟩ ∧ o.length ≤ o'.length) ?_ ps ⟨[], _, rfl, by simp [hfr], by simp [hfr, s1], by simp [hfr], by simp [hfr], by simp [hfr], by simp [hfr], rfl, by simp⟩
      rintro rest fr _ ⟨pre, o', e, hfr, q1, q5, q9, q10, q11, rfl, hlo⟩
      cases rest with
      | nil =>
        have hlt := idx_end e
        simp -implicitDefEqProofs [hfr, q1, q5, q9, q10, q11, hlt, hE]
      | cons x rest =>
        obtain ⟨hlt, hg, hpl⟩ := idx_at e
        have hw := idx_next e mx
        have x1 := p_take x
        have x2 := p_can x
        have x3 := plen x
        have x4 := p_one x
        have x5 := pset
        simp -implicitDefEqProofs [hfr, q1, q5, q9, q10, q11, hlt, hg, hpl, hw, hm2, x1, x2, x3, x4, x5, setO_last, getO_last, hlo, -List.getElem_map, -getElem?_pos, List.getElem?_cons_zero]
        exact ⟨rest, by simp, pre ++ [x], by simp [e], by simp, by omega⟩
    · rw [if_neg hm] at hE
      have hm2 : 1 < m := by omega
      have w0 : IntKind.i64.wrap (m - 1) = m - 1 := wrap_id (by omega) (by omega)
      apply loop_inv L37_0.eq_1 List.length (fun (rest : List Pf) fr st => ∃ pre n o', ps = pre ++ rest ∧ fr.length = 26 ∧ slot fr 1 = .int .i64 m ∧ slot fr 5 = .int .i64 (1 + n) ∧ slot fr 9 = .sl 24 (ps.map Pf.cells) ∧ slot fr 10 = .int .i64 (ps.length : Int) ∧ slot fr 11 = .int .i64 (pre.length : Int) ∧
        st = ⟨o', o.length, []⟩ ∧ o.length ≤ o'.length ∧ R = dqL rest m n + 1) ?_ ps ⟨[], 0, _, rfl, by simp [hfr], by simp [hfr, s1], by simp [hfr], by simp [hfr], by simp [hfr], by simp [hfr], rfl, by simp, hE⟩
      rintro rest fr _ ⟨pre, n, o', e, hfr, q1, q5, q9, q10, q11, rfl, hlo, hn⟩
      cases rest with
      | nil =>
        have hlt := idx_end e
        simp only [dqL] at hn
        rw [Int.add_comm] at hn
        simp -implicitDefEqProofs [hfr, q1, q5, q9, q10, q11, hlt, hn]
      | cons x rest =>
        obtain ⟨hlt, hg, hpl⟩ := idx_at e
        have hw := idx_next e mx
        have hc := ih x (by simp [e]) (m - 1) (by omega) (by omega)
        have hpd := dq_min x (m - 1) (by omega)
        have hpos := dP_pos x
        have w1 : IntKind.i64.wrap (1 + dq x (m - 1)) = 1 + dq x (m - 1) := wrap_id (by omega) (by omega)
        have x1 := p_take x
        have x2 := p_can x
        have x3 := plen x
        have x4 := p_one x
        have x5 := pset
        simp only [dqL] at hn
        by_cases hb : n < dq x (m - 1)
        · simp only [if_pos hb] at hn
          simp -implicitDefEqProofs [hfr, q1, q5, q9, q10, q11, hlt, hg, hpl, hw, w0, w1, hc, hb, hm2, x1, x2, x3, x4, x5, setO_last, getO_last, hlo, -List.getElem_map, -getElem?_pos, List.getElem?_cons_zero]
          exact ⟨rest, by simp, pre ++ [x], by simp [e], by simp, by omega, hn⟩
        · simp only [if_neg hb] at hn
          simp -implicitDefEqProofs [hfr, q1, q5, q9, q10, q11, hlt, hg, hpl, hw, w0, w1, hc, hb, hm2, x1, x2, x3, x4, x5, setO_last, getO_last, hlo, -List.getElem_map, -getElem?_pos, List.getElem?_cons_zero]
          exact ⟨rest, by simp, pre ++ [x], by simp [e], by simp, by omega, hn⟩
termination_by t => SizeOf.sizeOf t
decreasing_by
  have := List.sizeOf_lt_of_mem hx
  simp
  omega

theorem pDepth_eq (p : Pf) (hp : p.ok) (o : List Obj) (ro : Nat) (df : List Nat) : (D T).call 15 [p.av] ⟨o, ro, df⟩ = some (.int .i64 (min (dP p) 65), ⟨o, ro, df⟩) := by
  have h := fun o ro df => deep38_eq p hp 65 (by omega) (by omega) o ro df
  rw [dq_min p 65 (by omega)] at h
  have x1 := p_take p
  have x2 := p_can p
  have x3 := plen p
  have x4 := p_one p
  simp only [Pf.av] at h
  apply call_by (by exact rfl : T 15 = some _) (by simp)
  intro fr hfr hsl
  have s0 := hsl 0 _ rfl
  simp only [Pf.av] at s0
  simp -implicitDefEqProofs [hfr, s0, get_base0, h, x1, x2, x3, x4]

end Go.Proofs.YtkecobdhgabknaaDoor.A
/- Slices that grow, in a store where all else is kept. -/
namespace Go.Proofs.YtkecobdhgabknaaDoor.A
open Go
set_option maxRecDepth 10000
set_option linter.unusedSimpArgs false
attribute [-simp] List.all_eq_true put slot_def ld idxA lenOf elems canA app hand

/-- a slice that grows, and is the literal only while it is empty -/
structure Gx (ty sz lo : Nat) (o : List Obj) (v : AV) (es : List (List AV)) : Prop where
  G : Gr lo ty sz o v es
  nil : v = .fsl sz es → es = []

theorem Gx.off {ty sz lo : Nat} {o : List Obj} {v : AV} {es : List (List AV)} (h : Gx ty sz lo o v es) {i : Nat} {x : Obj} (hx : o[i]? = some x) (hne : ∀ es, x ≠ .arr ty sz es) (n : Nat) (f : Bool) : v ≠ .own i 0 n f := by
  rcases h.G with rfl | ⟨r, h1, rfl, h3⟩
  · simp
  · rintro e
    obtain ⟨rfl, _⟩ : r = i ∧ _ := by simpa using e
    rw [h3] at hx
    exact hne _ (Option.some.inj hx).symm

theorem Gx.app {ty sz lo ro bytes : Nat} {o : List Obj} {v : AV} {es : List (List AV)} (h : Gx ty sz lo o v es) (hro : ro ≤ lo) (hlo : lo ≤ o.length) {df : List Nat} {x : AV} {xs : List (List AV)}
    (hx : elems ⟨o, ro, df⟩ x = some (sz, xs)) (hr : room (es.length + xs.length) bytes = true) :
    ∃ o', app ⟨o, ro, df⟩ ty sz bytes v x = some (.own o.length 0 (es.length + xs.length) false, ⟨o', ro, df⟩) ∧ o'.length = o.length + 1 ∧
      Gx ty sz lo o' (.own o.length 0 (es.length + xs.length) false) (es ++ xs) ∧ (∀ (i : Nat) (y : Obj), o[i]? = some y → (∀ es, y ≠ .arr ty sz es) → o'[i]? = some y) ∧ (∀ i, i < lo → o'[i]? = o[i]?) ∧
      o'[o.length]? = some (.arr ty sz (es ++ xs)) := by
  obtain ⟨o', a1, a2, a3, a4⟩ := app_get' (bytes := bytes) (df := df) h.G hro hx (fun hv => .inl (h.nil hv)) hr
  exact ⟨o', a1, a2, ⟨gr_new a3 hlo (by simp), by simp⟩, fun i y hy hne => a4 i y hy (h.off hy hne), fun i hi => by rw [a4 i _ (List.getElem?_eq_getElem (by omega)) (h.G.not hi), List.getElem?_eq_getElem], a3⟩

theorem Gx.push {ty sz lo : Nat} {o : List Obj} {v : AV} {es : List (List AV)} (h : Gx ty sz lo o v es) (m : List Obj) : Gx ty sz lo (o ++ m) v es := ⟨h.G.push m, h.nil⟩
theorem Gx.set {ty sz lo : Nat} {o : List Obj} {v : AV} {es : List (List AV)} (h : Gx ty sz lo o v es) {i : Nat} {x y : Obj} (hx : o[i]? = some x) (hne : ∀ es, x ≠ .arr ty sz es) : Gx ty sz lo (o.set i y) v es := by
  refine ⟨?_, h.nil⟩
  rcases h.G with rfl | ⟨r, h1, rfl, h3⟩
  · exact .inl rfl
  · refine .inr ⟨r, h1, rfl, ?_⟩
    rw [List.getElem?_set_ne]
    · exact h3
    · rintro rfl
      exact h.off hx hne _ _ rfl

/-- a slice that grew, all else kept -/
structure Gw (ty sz lo : Nat) (o : List Obj) (v : AV) (o' : List Obj) (v' : AV) (es : List (List AV)) : Prop where
  G : Gx ty sz lo o' v' es
  le : o.length ≤ o'.length
  keep : ∀ i, i < o.length → (∀ n f, v ≠ .own i 0 n f) → o'[i]? = o[i]? ∧ ∀ n f, v' ≠ .own i 0 n f

theorem Gx.ref {ty sz lo : Nat} {o : List Obj} {v : AV} {es : List (List AV)} (h : Gx ty sz lo o v es) (m : List Obj) : Gw ty sz lo o v (o ++ m) v es :=
  ⟨h.push m, by simp, fun i hi hv => ⟨List.getElem?_append_left hi, hv⟩⟩

theorem Gw.trans {ty sz lo : Nat} {o o1 o2 : List Obj} {v v1 v2 : AV} {es es2 : List (List AV)} (h : Gw ty sz lo o v o1 v1 es) (k : Gw ty sz lo o1 v1 o2 v2 es2) : Gw ty sz lo o v o2 v2 es2 :=
  ⟨k.G, Nat.le_trans h.le k.le, fun i hi hv => by
    obtain ⟨a, b⟩ := h.keep i hi hv
    obtain ⟨c, d⟩ := k.keep i (Nat.lt_of_lt_of_le hi h.le) b
    exact ⟨by rw [c, a], d⟩⟩

theorem gx_appw {ty sz lo ro bytes : Nat} {o : List Obj} {v : AV} {es : List (List AV)} (h : Gx ty sz lo o v es) (hro : ro ≤ lo) (hlo : lo ≤ o.length) {df : List Nat} {x : AV} {xs : List (List AV)}
    (hx : elems ⟨o, ro, df⟩ x = some (sz, xs)) (hr : room (es.length + xs.length) bytes = true) :
    ∃ o', app ⟨o, ro, df⟩ ty sz bytes v x = some (.own o.length 0 (es.length + xs.length) false, ⟨o', ro, df⟩) ∧ o'.length = o.length + 1 ∧ Gw ty sz lo o v o' (.own o.length 0 (es.length + xs.length) false) (es ++ xs) := by
  obtain ⟨o', a1, a2, a3, a4⟩ := app_get' (bytes := bytes) (df := df) h.G hro hx (fun hv => .inl (h.nil hv)) hr
  refine ⟨o', a1, a2, ⟨gr_new a3 hlo (by simp), by simp⟩, by omega, fun i hi hv => ⟨?_, fun n f => by simp; omega⟩⟩
  rw [List.getElem?_eq_getElem hi]
  exact a4 i _ (List.getElem?_eq_getElem hi) hv


theorem Gx.agree {ty sz lo : Nat} {o o' : List Obj} {v : AV} {es : List (List AV)} (h : Gx ty sz lo o v es) (k : ∀ i, i < o.length → o'[i]? = o[i]?) : Gx ty sz lo o' v es := by
  refine ⟨?_, h.nil⟩
  rcases h.G with rfl | ⟨r, h1, rfl, h3⟩
  · exact .inl rfl
  · exact .inr ⟨r, h1, rfl, by rw [k r (lt_of_getO h3)]; exact h3⟩

theorem Gx.not {ty sz lo : Nat} {o : List Obj} {v : AV} {es : List (List AV)} (h : Gx ty sz lo o v es) {i : Nat} (hi : i < lo) (n : Nat) (f : Bool) : v ≠ .own i 0 n f := h.G.not hi n f
theorem Gx.lt {ty sz lo : Nat} {o : List Obj} {v : AV} {es : List (List AV)} (h : Gx ty sz lo o v es) {i : Nat} (hi : o.length ≤ i) (n : Nat) (f : Bool) : v ≠ .own i 0 n f := h.G.lt hi n f

theorem hand0_int (n : Nat) (o : List Obj) (k : IntKind) (x : Int) : hand0 n o (.int k x) = some (.int k x) := rfl
theorem hand0_str (n : Nat) (o : List Obj) (x : ByteArray) : hand0 n o (.str x) = some (.str x) := rfl
theorem hand0_bool (n : Nat) (o : List Obj) (x : Bool) : hand0 n o (.bool x) = some (.bool x) := rfl
theorem gx_hand0 {ty sz lo n : Nat} {o : List Obj} {v : AV} {es : List (List AV)} (G : Gx ty sz lo o v es) (h : n ≤ lo) (hf : AV.flatLL es = true) : hand0 n o v = some (.sl sz es) := by
  rcases G.G with rfl | ⟨r, r1, rfl, r2⟩
  · simp [hf]
  · have : ¬ r < n := by omega
    simp [r2, this, hf]

theorem gx_apart {ty sz lo ty' sz' r : Nat} {o : List Obj} {v : AV} {es es' : List (List AV)} (G : Gx ty sz lo o v es) (h : o[r]? = some (.arr ty' sz' es')) (hne : ty ≠ ty') (n : Nat) (f : Bool) : v ≠ .own r 0 n f := by
  rcases G.G with rfl | ⟨r', _, rfl, h3⟩
  · simp
  · intro e
    simp only [AV.own.injEq] at e
    rw [← e.1, h3] at h
    simp only [Option.some.injEq, Obj.arr.injEq] at h
    exact hne h.1

/-- a slice that grew, kept while another grows beside it -/
theorem gx_beside {ty sz lo ty' sz' : Nat} {o o3 : List Obj} {v w v' : AV} {es es' es3 : List (List AV)} (Gt : Gx ty' sz' lo o w es') (G : Gx ty sz lo o v es) (hne : ty ≠ ty') (W : Gw ty sz lo o v o3 v' es3) {i : Nat} (hi : i < lo) (X : Obj) : Gx ty' sz' lo (o3.set i X) w es' := by
  refine ⟨?_, Gt.nil⟩
  rcases Gt.G with hv | ⟨r, r1, hv, r2⟩
  · exact .inl hv
  · exact .inr ⟨r, r1, hv, by rw [List.getElem?_set_ne (by omega), (W.keep r (lt_of_getO r2) (gx_apart G r2 hne)).1]; exact r2⟩

theorem room_of0 {n b : Nat} (h : n * b ≤ 140737488355328) (h2 : n ≤ 4611686018427387904) : room n b = true := by simp [room, h, h2]

end Go.Proofs.YtkecobdhgabknaaDoor.A
