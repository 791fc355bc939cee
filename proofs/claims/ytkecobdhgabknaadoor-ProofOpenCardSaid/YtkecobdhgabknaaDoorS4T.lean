/- What the functions that measure terms give. -/
import Derived.Test.YtkecobdhgabknaaDoorWp
import Derived.Test.YtkecobdhgabknaaDoorRead
import Derived.Test.YtkecobdhgabknaaDoorCode
namespace Go.Proofs.YtkecobdhgabknaaDoor.A
open Go
set_option maxRecDepth 10000
set_option linter.unusedSimpArgs false

theorem Tm.cells_mk (a : Int) (s : ByteArray) (b : Int) (l : List Tm) : (Tm.mk a s b l).cells = [.int .i64 a, .str s, .int .i64 b, .sl 4 (l.map Tm.cells)] := by
  simp [Tm.cells, cellsL_map]

theorem wrap_id {x : Int} (h1 : -9223372036854775808 ≤ x) (h2 : x ≤ 9223372036854775807) : IntKind.i64.wrap x = x := by
  simp [IntKind.wrap, IntKind.signed, IntKind.bits]
  omega

mutual
/-- the parts, up to some -/
def sz : Tm → Int → Int
  | .mk _ _ _ l, m => szL l m 1
def szL : List Tm → Int → Int → Int
  | [], _, n => n
  | t :: l, m, n => if n ≤ m then szL l m (n + sz t (m - n)) else n
end

theorem szL_out : ∀ (l : List Tm) (m n : Int), ¬ n ≤ m → szL l m n = n
  | [], _, _, _ => rfl
  | t :: l, m, n, h => by simp [szL, h]

mutual
theorem sz_le : ∀ (t : Tm) (m : Int), 0 ≤ m → 1 ≤ sz t m ∧ sz t m ≤ m + 1
  | .mk _ _ _ l, m, h => by
    have := szL_le l m 1 (by omega) (by omega)
    simpa [sz] using this
theorem szL_le : ∀ (l : List Tm) (m n : Int), 1 ≤ n → n ≤ m + 1 → 1 ≤ szL l m n ∧ szL l m n ≤ m + 1
  | [], m, n, h1, h2 => by simp [szL]; omega
  | t :: l, m, n, h1, h2 => by
    simp only [szL]
    split
    · have := sz_le t (m - n) (by omega)
      exact szL_le l m _ (by omega) (by omega)
    · exact ⟨h1, h2⟩
end

theorem take_cells (t : Tm) : List.take 4 t.cells = t.cells := by cases t; simp [Tm.cells_mk]
theorem canL_cells (t : Tm) : canL t.cells = t.cells := by cases t; simp [Tm.cells_mk]

theorem all_one (t : Tm) : t.cells.all AV.one = true := by cases t; simp [Tm.cells_mk]
theorem set_cells (t : Tm) (a b c d : AV) : setMany [a, b, c, d] 0 t.cells = t.cells := by cases t; simp [Tm.cells_mk]
attribute [-simp] List.all_eq_true
attribute [simp] take_cells canL_cells cells_length all_one set_cells

theorem loopSz (a b : Int) (nm : ByteArray) (l : List Tm) (m : Int) (hm : 0 ≤ m) (hm' : m ≤ 4611686018427387904) (hl : l.length ≤ maxLen) (st : St) (Q : AE → List AV → St → Prop) :
    ∀ (rest pre : List Tm) (n : Int), l = pre ++ rest → 1 ≤ n → n ≤ m + 1 → (∀ t ∈ rest, ∀ m st, 0 ≤ m → m ≤ 4611686018427387904 → (D T).call 66 [t.av, .int .i64 m] st = some (.int .i64 (sz t m), st)) →
      ∀ j0 j3 j4 j7 j8 j9 j10 j11 j12 j13 j14 j15 j16 j17 j18 j19 j20 j21 j22 j23 j24 j25 j26 j27 j28 j29 j30 : AV, (∀ j0 j3 j4 j6 j7 j8 j9 j10 j11 j12 j13 j14 j15 j16 j17 j18 j19 j20 j21 j22 j23 j24 j25 j26 j27 j28 j29 j30 : AV, Q (.exit 0) [j0, .int .i64 m, .ptr st.objs.length 0 0, j3, j4, .int .i64 (szL rest m n), j6, j7, j8, j9, j10, j11, j12, j13, j14, j15, j16, j17, j18, j19, j20, j21, j22, j23, j24, j25, j26, j27, j28, j29, j30] { objs := st.objs ++ [Obj.arr 24 4 [[.int .i64 a, .str nm, .int .i64 b, .sl 4 (l.map Tm.cells)]]], ro := st.objs.length, df := [] }) →
      ∃ e fr' st', (D T).loop false L66_0 [j0, .int .i64 m, .ptr st.objs.length 0 0, j3, j4, .int .i64 n, .int .i64 (pre.length : Int), j7, j8, j9, j10, j11, j12, j13, j14, j15, j16, j17, j18, j19, j20, j21, j22, j23, j24, j25, j26, j27, j28, j29, j30] { objs := st.objs ++ [Obj.arr 24 4 [[.int .i64 a, .str nm, .int .i64 b, .sl 4 (l.map Tm.cells)]]], ro := st.objs.length, df := [] } = some (e, fr', st') ∧ Q e fr' st'
  | [], pre, n, e, h1, h2, ih => by
    intros
    rename_i hq
    have hlt : ¬ ((pre.length : Int) < (l.length : Int)) := by subst e; simp
    apply loop_step L66_0.eq_1
    simp -implicitDefEqProofs [hlt]
    exact hq ..
  | t :: rest, pre, n, e, h1, h2, ih => by
    intros
    rename_i hq
    have hlt : ((pre.length : Int) < (l.length : Int)) := by subst e; simp; omega
    have hget : l[pre.length]? = some t := by subst e; simp
    have hmx : l.length ≤ 9223372036854775807 := Nat.le_trans hl (by decide)
    have hpl : pre.length < l.length := by omega
    by_cases hnm : n ≤ m
    · have ih' := fun st => ih t (List.mem_cons_self ..) (m - n) st (by omega) (by omega)
      simp only [Tm.av] at ih'
      have hs := sz_le t (m - n) (by omega)
      apply loop_step L66_0.eq_1
      simp -implicitDefEqProofs [hlt, hget, hnm, take_cells, canL_cells, cells_length, wrap_id (show -9223372036854775808 ≤ m - n by omega) (by omega), ih', wrap_id (show -9223372036854775808 ≤ n + sz t (m - n) by omega) (by omega),
        wrap_id (show -9223372036854775808 ≤ (pre.length : Int) + 1 by omega) (by omega)]
      rw [show ((pre.length : Int) + 1) = ((pre ++ [t]).length : Int) by simp]
      apply loopSz a b nm l m hm hm' hl st Q rest (pre ++ [t]) (n + sz t (m - n)) (by simp [e]) (by omega) (by omega) (fun t' ht' => ih t' (List.mem_cons_of_mem _ ht'))
      intros
      simp only [szL, if_pos hnm] at hq
      exact hq ..
    · apply loop_step L66_0.eq_1
      simp -implicitDefEqProofs [hlt, hget, hnm]
      simp only [szL, if_neg hnm] at hq
      exact hq ..

theorem size_eq : ∀ (t : Tm), t.ok → ∀ (m : Int) (st : St), 0 ≤ m → m ≤ 4611686018427387904 → (D T).call 66 [t.av, .int .i64 m] st = some (.int .i64 (sz t m), st)
  | .mk a nm b l, hok, m, st, hm, hm' => by
    simp only [Tm.ok] at hok
    have hl := okL_iff.1 hok.2.2.2.2
    apply call_eq (by exact rfl : T 66 = some _) (by simp)
    simp -implicitDefEqProofs [Tm.av, Tm.cells_mk]
    apply loopSz a b nm l m hm hm' hok.2.2.2.1 st _ l [] 1 rfl (by omega) (by omega) (fun t ht => size_eq t (hl t ht))
    intros
    simp -implicitDefEqProofs [sz]
termination_by t => SizeOf.sizeOf t
decreasing_by
  have := List.sizeOf_lt_of_mem ht
  simp
  omega

/-! comparing -/

mutual
def tmEq : Tm → Tm → Bool
  | .mk a s b l, .mk a' s' b' l' => a == a' && bytesEq s s' && b == b' && (l.length == l'.length && tsEq l l')
def tsEq : List Tm → List Tm → Bool
  | t :: l, u :: k => tmEq t u && tsEq l k
  | _, _ => true
end

mutual
/-- all parts, each ahead of its Args -/
def Tm.all : Tm → List Tm
  | .mk a s b l => .mk a s b l :: allL l
def allL : List Tm → List Tm
  | [] => []
  | t :: l => t.all ++ allL l
end

mutual
theorem all_ok : ∀ t : Tm, t.ok → ∀ x ∈ t.all, x.ok
  | .mk a s b l, h, x, hx => by
    simp only [Tm.all, List.mem_cons] at hx
    rcases hx with rfl | hx
    · exact h
    · simp only [Tm.ok] at h
      exact allL_ok l (okL_iff.1 h.2.2.2.2) x hx
theorem allL_ok : ∀ l : List Tm, (∀ t ∈ l, t.ok) → ∀ x ∈ allL l, x.ok
  | [], _, x, hx => by simp [allL] at hx
  | t :: l, h, x, hx => by
    simp only [allL, List.mem_append] at hx
    rcases hx with hx | hx
    · exact all_ok t (h t (List.mem_cons_self ..)) x hx
    · exact allL_ok l (fun u hu => h u (List.mem_cons_of_mem _ hu)) x hx
end

theorem mem_allV : ∀ {l : List Tm} {t : Tm}, t ∈ l → t.all.length ≤ (allL l).length
  | u :: l, t, h => by
    simp only [allL, List.length_append]
    rcases List.mem_cons.1 h with rfl | h
    · omega
    · have := mem_allV h
      omega
theorem le_allV : ∀ l : List Tm, l.length ≤ (allL l).length
  | [] => Nat.le_refl _
  | .mk a s b k :: l => by
    have := le_allV l
    simp only [allL, Tm.all, List.length_append, List.length_cons]
    omega

end Go.Proofs.YtkecobdhgabknaaDoor.A
/- A term holds no reference into the store. -/
namespace Go.Proofs.YtkecobdhgabknaaDoor.A
open Go

mutual
theorem flat_cells : ∀ t : Tm, AV.flatL t.cells = true
  | .mk a s b l => by
    have := flat_list l
    simp [Tm.cells_mk, AV.flatL, AV.flat, this]
theorem flat_list : ∀ l : List Tm, AV.flatLL (l.map Tm.cells) = true
  | [] => rfl
  | t :: l => by simp [AV.flatLL, flat_cells t, flat_list l]
end
attribute [simp] flat_cells flat_list

end Go.Proofs.YtkecobdhgabknaaDoor.A
/- When two terms, and two lists of terms, are the same: what the document's functions give. -/
namespace Go.Proofs.YtkecobdhgabknaaDoor.A
open Go
set_option maxRecDepth 10000
set_option linter.unusedSimpArgs false
attribute [-simp] List.all_eq_true put slot_def ld idxA lenOf elems canA app hand

theorem tsv_eq (l k : List Tm) {o : List Obj} {v w : AV} (L : Ls o 4 v (l.map Tm.cells)) (K : Ls o 4 w (k.map Tm.cells)) (hl : l.length ≤ maxLen)
    (ih : ∀ t ∈ l, ∀ u ∈ k, ∀ st, (D T).call 62 [t.av, u.av] st = some (.bool (tmEq t u), st)) (ro : Nat) (df : List Nat) :
    (D T).call 78 [v, w] ⟨o, ro, df⟩ = some (.bool (l.length == k.length && tsEq l k), ⟨o, ro, df⟩) := by
  have hmx : l.length ≤ 9223372036854775807 := Nat.le_trans hl (by decide)
  have h1 := L.len
  have h2 := K.len
  have g1 := fun (i : Nat) u (h : l[i]? = some u) => L.get [] o.length [] i u.cells (by simp [h]) (cells_length u)
  have g2 := fun (i : Nat) u (h : k[i]? = some u) => K.get [] o.length [] i u.cells (by simp [h]) (cells_length u)
  simp only [Tm.av, List.length_map, List.append_nil] at h1 h2 g1 g2 ih
  apply call_by (by exact rfl : T 78 = some _) (by simp)
  intro fr hfr hsl
  have s0 := hsl 0 _ rfl
  have s1 := hsl 1 _ rfl
  by_cases hlk : l.length = k.length
  · simp -implicitDefEqProofs [hfr, s0, s1, h1, h2, hlk]
    apply loop_inv L78_0.eq_1 (fun s : List Tm × List Tm => s.1.length) (fun s fr st => ∃ pre pre', l = pre ++ s.1 ∧ k = pre' ++ s.2 ∧ pre.length = pre'.length ∧ fr.length = 27 ∧ slot fr 0 = v ∧ slot fr 1 = w ∧ slot fr 5 = .int .i64 (pre.length : Int) ∧
      st = ⟨o, o.length, []⟩ ∧ tsEq l k = tsEq s.1 s.2) ?_ (l, k) ⟨[], [], rfl, rfl, rfl, by simp [hfr], by simp [hfr, s0], by simp [hfr, s1], by simp [hfr], rfl, rfl⟩
    rintro ⟨rest, rest'⟩ fr _ ⟨pre, pre', e, e', hp, hfr, q0, q1, q5, rfl, hin⟩
    simp only at e e' hin
    cases rest with
    | nil =>
      have hlt := idx_end e
      cases rest' with
      | nil => simp -implicitDefEqProofs [hfr, q0, q1, q5, hlt, h1, h2, hin, tsEq]
      | cons u rest' => simp [e, e'] at hlk; omega
    | cons t rest =>
      cases rest' with
      | nil => simp [e, e'] at hlk; omega
      | cons u rest' =>
        obtain ⟨hlt, hg, _⟩ := idx_at e
        obtain ⟨hlt', hg', _⟩ := idx_at e'
        rw [← hp] at hlt' hg'
        have hw := idx_next e hmx
        obtain ⟨p, p1, p2⟩ := g1 _ _ hg
        obtain ⟨p', p3, p4⟩ := g2 _ _ hg'
        have hu := ih t (by simp [e]) u (by simp [e'])
        simp only [tsEq] at hin
        cases h : tmEq t u with
        | true =>
          simp -implicitDefEqProofs [hfr, q0, q1, q5, hlt, hlt', h1, h2, p1, p2, p3, p4, hu, h, hw]
          exact ⟨rest, by simp, rest', pre ++ [t], by simp [e], pre' ++ [u], by simp [e'], by simp [hp], by simp, by simpa [h] using hin⟩
        | false =>
          simp -implicitDefEqProofs [hfr, q0, q1, q5, hlt, hlt', h1, h2, p1, p2, p3, p4, hu, h, hw]
          simp [hin, h]
  · have hne : ¬ ((l.length : Int) = (k.length : Int)) := by omega
    simp -implicitDefEqProofs [hfr, s0, s1, h1, h2, hlk, hne]

theorem ts_eq (l k : List Tm) (hl : l.length ≤ maxLen) (ih : ∀ t ∈ l, ∀ u ∈ k, ∀ st, (D T).call 62 [t.av, u.av] st = some (.bool (tmEq t u), st)) (st : St) :
    (D T).call 78 [.sl 4 (l.map Tm.cells), .sl 4 (k.map Tm.cells)] st = some (.bool (l.length == k.length && tsEq l k), st) :=
  tsv_eq l k (ls_sl _) (ls_sl _) hl ih st.ro st.df

theorem tm_eq : ∀ (t : Tm), t.ok → ∀ (u : Tm), u.ok → ∀ (st : St), (D T).call 62 [t.av, u.av] st = some (.bool (tmEq t u), st)
  | .mk a s b l, hok, .mk a' s' b' l', hok', st => by
    simp only [Tm.ok] at hok hok'
    have hl := okL_iff.1 hok.2.2.2.2
    have hl' := okL_iff.1 hok'.2.2.2.2
    have hts := ts_eq l l' hok.2.2.2.1 (fun t ht u hu st => tm_eq t (hl t ht) u (hl' u hu) st)
    apply call_by (by exact rfl : T 62 = some _) (by simp)
    intro fr hfr hsl
    have s0 := hsl 0 _ rfl
    have s1 := hsl 1 _ rfl
    simp only [Tm.av, Tm.cells_mk] at s0 s1
    by_cases h1 : a = a'
    · cases h2 : bytesEq s s' with
      | true =>
        by_cases h3 : b = b'
        · simp -implicitDefEqProofs [hfr, s0, s1, Tm.av, Tm.cells_mk, get_base0, get_base, h1, h2, h3, hts, tmEq]
        · have h4 : (b == b') = false := by simpa using h3
          simp -implicitDefEqProofs [hfr, s0, s1, Tm.av, Tm.cells_mk, get_base0, get_base, h1, h2, h3, h4, hts, tmEq]
      | false => simp -implicitDefEqProofs [hfr, s0, s1, Tm.av, Tm.cells_mk, get_base0, get_base, h1, h2, hts, tmEq]
    · have h4 : (a == a') = false := by simpa using h1
      simp -implicitDefEqProofs [hfr, s0, s1, Tm.av, Tm.cells_mk, get_base0, get_base, h1, h4, hts, tmEq]
termination_by t => SizeOf.sizeOf t
decreasing_by
  have := List.sizeOf_lt_of_mem ht
  simp
  omega

end Go.Proofs.YtkecobdhgabknaaDoor.A
