/- When two terms, and two lists of terms, are the same: what the document's functions give. -/
import Derived.Test.YtcfhomdkchhigaaDoorS1A
import Derived.Test.YtcfhomdkchhigaaDoorWp
import Derived.Test.YtcfhomdkchhigaaDoorFlat
namespace Go.Proofs.YtcfhomdkchhigaaDoor.A
open Go
set_option maxRecDepth 10000
set_option linter.unusedSimpArgs false
attribute [-simp] List.all_eq_true put slot_def ld idxA lenOf elems canA app hand

theorem tsv_eq (l k : List Tm) {o : List Obj} {v w : AV} (L : Ls o 4 v (l.map Tm.cells)) (K : Ls o 4 w (k.map Tm.cells)) (hl : l.length ≤ maxLen)
    (ih : ∀ t ∈ l, ∀ u ∈ k, ∀ st, (D T).call 62 [t.av, u.av] st = some (.bool (tmEq t u), st)) (ro : Nat) (df : List Nat) :
    (D T).call 78 [v, w] ⟨o, ro, df⟩ = some (.bool (l.length == k.length && tsEq l k), ⟨o, ro, df⟩) := by
  have hmx : l.length ≤ 9223372036854775807 := Nat.le_trans hl (by decide)
  have h1 := L.len
  have h2 := K.len
  have g1 := fun (i : Nat) u (h : l[i]? = some u) => L.get [] o.length [] i u.cells (by simp [h]) (cells_length u)
  have g2 := fun (i : Nat) u (h : k[i]? = some u) => K.get [] o.length [] i u.cells (by simp [h]) (cells_length u)
  simp only [Tm.av, List.length_map, List.append_nil] at h1 h2 g1 g2 ih
  apply call_by (by exact rfl : T 78 = some _) (by simp)
  intro fr hfr hsl
  have s0 := hsl 0 _ rfl
  have s1 := hsl 1 _ rfl
  by_cases hlk : l.length = k.length
  · simp -implicitDefEqProofs [hfr, s0, s1, h1, h2, hlk]
    apply loop_inv L78_0.eq_1 (fun s : List Tm × List Tm => s.1.length) (fun s fr st => ∃ pre pre', l = pre ++ s.1 ∧ k = pre' ++ s.2 ∧ pre.length = pre'.length ∧ fr.length = 27 ∧ slot fr 0 = v ∧ slot fr 1 = w ∧ slot fr 5 = .int .i64 (pre.length : Int) ∧
      st = ⟨o, o.length, []⟩ ∧ tsEq l k = tsEq s.1 s.2) ?_ (l, k) ⟨[], [], rfl, rfl, rfl, by simp [hfr], by simp [hfr, s0], by simp [hfr, s1], by simp [hfr], rfl, rfl⟩
    rintro ⟨rest, rest'⟩ fr _ ⟨pre, pre', e, e', hp, hfr, q0, q1, q5, rfl, hin⟩
    simp only at e e' hin
    cases rest with
    | nil =>
      have hlt := idx_end e
      cases rest' with
      | nil => simp -implicitDefEqProofs [hfr, q0, q1, q5, hlt, h1, h2, hin, tsEq]
      | cons u rest' => simp [e, e'] at hlk; omega
    | cons t rest =>
      cases rest' with
      | nil => simp [e, e'] at hlk; omega
      | cons u rest' =>
        obtain ⟨hlt, hg, _⟩ := idx_at e
        obtain ⟨hlt', hg', _⟩ := idx_at e'
        rw [← hp] at hlt' hg'
        have hw := idx_next e hmx
        obtain ⟨p, p1, p2⟩ := g1 _ _ hg
        obtain ⟨p', p3, p4⟩ := g2 _ _ hg'
        have hu := ih t (by simp [e]) u (by simp [e'])
        simp only [tsEq] at hin
        cases h : tmEq t u with
        | true =>
          simp -implicitDefEqProofs [hfr, q0, q1, q5, hlt, hlt', h1, h2, p1, p2, p3, p4, hu, h, hw]
          exact ⟨rest, by simp, rest', pre ++ [t], by simp [e], pre' ++ [u], by simp [e'], by simp [hp], by simp, by simpa [h] using hin⟩
        | false =>
          simp -implicitDefEqProofs [hfr, q0, q1, q5, hlt, hlt', h1, h2, p1, p2, p3, p4, hu, h, hw]
          simp [hin, h]
  · have hne : ¬ ((l.length : Int) = (k.length : Int)) := by omega
    simp -implicitDefEqProofs [hfr, s0, s1, h1, h2, hlk, hne]

theorem ts_eq (l k : List Tm) (hl : l.length ≤ maxLen) (ih : ∀ t ∈ l, ∀ u ∈ k, ∀ st, (D T).call 62 [t.av, u.av] st = some (.bool (tmEq t u), st)) (st : St) :
    (D T).call 78 [.sl 4 (l.map Tm.cells), .sl 4 (k.map Tm.cells)] st = some (.bool (l.length == k.length && tsEq l k), st) :=
  tsv_eq l k (ls_sl _) (ls_sl _) hl ih st.ro st.df

theorem tm_eq : ∀ (t : Tm), t.ok → ∀ (u : Tm), u.ok → ∀ (st : St), (D T).call 62 [t.av, u.av] st = some (.bool (tmEq t u), st)
  | .mk a s b l, hok, .mk a' s' b' l', hok', st => by
    simp only [Tm.ok] at hok hok'
    have hl := okL_iff.1 hok.2.2.2.2
    have hl' := okL_iff.1 hok'.2.2.2.2
    have hts := ts_eq l l' hok.2.2.2.1 (fun t ht u hu st => tm_eq t (hl t ht) u (hl' u hu) st)
    apply call_by (by exact rfl : T 62 = some _) (by simp)
    intro fr hfr hsl
    have s0 := hsl 0 _ rfl
    have s1 := hsl 1 _ rfl
    simp only [Tm.av, Tm.cells_mk] at s0 s1
    by_cases h1 : a = a'
    · cases h2 : bytesEq s s' with
      | true =>
        by_cases h3 : b = b'
        · simp -implicitDefEqProofs [hfr, s0, s1, Tm.av, Tm.cells_mk, get_base0, get_base, h1, h2, h3, hts, tmEq]
        · have h4 : (b == b') = false := by simpa using h3
          simp -implicitDefEqProofs [hfr, s0, s1, Tm.av, Tm.cells_mk, get_base0, get_base, h1, h2, h3, h4, hts, tmEq]
      | false => simp -implicitDefEqProofs [hfr, s0, s1, Tm.av, Tm.cells_mk, get_base0, get_base, h1, h2, hts, tmEq]
    · have h4 : (a == a') = false := by simpa using h1
      simp -implicitDefEqProofs [hfr, s0, s1, Tm.av, Tm.cells_mk, get_base0, get_base, h1, h4, hts, tmEq]
termination_by t => SizeOf.sizeOf t
decreasing_by
  have := List.sizeOf_lt_of_mem ht
  simp
  omega

end Go.Proofs.YtcfhomdkchhigaaDoor.A
