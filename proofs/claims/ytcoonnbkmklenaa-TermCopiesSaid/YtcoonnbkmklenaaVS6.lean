/- Walking over all parts of a term. -/
import Derived.Test.YtcoonnbkmklenaaVS2
import Derived.Test.YtcoonnbkmklenaaVWp
import Derived.Test.YtcoonnbkmklenaaVFlat
namespace Go.Proofs.Ytcoonnbkmklenaa.A
open Go
set_option maxRecDepth 10000
set_option linter.unusedSimpArgs false
attribute [-simp] List.all_eq_true put slot_def

mutual
/-- all parts, each ahead of its Args -/
def Tm.all : Tm → List Tm
  | .mk a s b l => .mk a s b l :: allL l
def allL : List Tm → List Tm
  | [] => []
  | t :: l => t.all ++ allL l
end

mutual
theorem all_ok : ∀ t : Tm, t.ok → ∀ x ∈ t.all, x.ok
  | .mk a s b l, h, x, hx => by
    simp only [Tm.all, List.mem_cons] at hx
    rcases hx with rfl | hx
    · exact h
    · simp only [Tm.ok] at h
      exact allL_ok l (okL_iff.1 h.2.2.2.2) x hx
theorem allL_ok : ∀ l : List Tm, (∀ t ∈ l, t.ok) → ∀ x ∈ allL l, x.ok
  | [], _, x, hx => by simp [allL] at hx
  | t :: l, h, x, hx => by
    simp only [allL, List.mem_append] at hx
    rcases hx with hx | hx
    · exact all_ok t (h t (List.mem_cons_self ..)) x hx
    · exact allL_ok l (fun u hu => h u (List.mem_cons_of_mem _ hu)) x hx
end

theorem walk_eq {ro r : Nat} (Y : List Tm → List Obj → List (Nat × List AV) → Prop) (Dn : List Obj → Prop)
    (hro : ∀ l o x, Y l o x → ro ≤ o.length)
    (hpush : ∀ l o x c, Y l o x → Y l (o ++ [.arr 24 4 [c]]) ((o.length, c) :: x))
    (hget : ∀ l o x i c, Y l o x → (i, c) ∈ x → o[i]? = some (.arr 24 4 [c]))
    (hpop : ∀ l o x p, Y l o (p :: x) → Y l o x)
    (hy : ∀ t l o x df, t.ok → Y (t :: l) o x → ∃ b o', (D T).yield r [t.av] ⟨o, ro, df⟩ = some (.bool b, ⟨o', ro, df⟩) ∧ (b = true → Y l o' x) ∧ (b = false → Dn o')) :
    ∀ (t : Tm), t.ok → ∀ l o x df, Y (t.all ++ l) o x → ∃ b o', (D T).call 53 [t.av, .yld r] ⟨o, ro, df⟩ = some (.bool b, ⟨o', ro, df⟩) ∧ (b = true → Y l o' x) ∧ (b = false → Dn o')
  | .mk a s b ts, hok, l, o, x, df, hY => by
    have hok' := hok
    simp only [Tm.ok] at hok
    have hts := okL_iff.1 hok.2.2.2.2
    have hmx : ts.length ≤ 9223372036854775807 := Nat.le_trans hok.2.2.2.1 (by decide)
    have ih := fun t (ht : t ∈ ts) => walk_eq Y Dn hro hpush hget hpop hy t (hts t ht)
    simp only [Tm.all, List.cons_append] at hY
    have p1 := hpush _ _ _ (Tm.mk a s b ts).cells hY
    obtain ⟨b0, o1, e1, y1, d1⟩ := hy _ _ _ _ [] hok' p1
    simp only [Tm.av, Tm.cells_mk] at e1
    suffices h : ∃ v st', (D T).call 53 [(Tm.mk a s b ts).av, .yld r] ⟨o, ro, df⟩ = some (v, st') ∧ (fun v st' => ∃ b o', v = .bool b ∧ st' = ⟨o', ro, df⟩ ∧ (b = true → Y l o' x) ∧ (b = false → Dn o')) v st' by
      obtain ⟨_, _, h1, b, o', rfl, rfl, h2, h3⟩ := h
      exact ⟨b, o', h1, h2, h3⟩
    apply call_for (by exact rfl : T 53 = some _) (by simp)
    intro fr hfr hsl
    have s0 := hsl 0 _ rfl
    have s1 := hsl 1 _ rfl
    simp only [Tm.av, Tm.cells_mk] at s0
    cases b0 with
    | false =>
      simp -implicitDefEqProofs [hfr, s0, s1, e1]
      exact d1 rfl
    | true =>
      have y1 := y1 rfl
      have g1 := hget _ _ _ _ _ y1 (List.mem_cons_self ..)
      simp only [Tm.cells_mk] at g1
      simp -implicitDefEqProofs [hfr, s0, s1, e1, g1]
      apply loop_inv L53_0.eq_1 List.length (fun (rest : List Tm) fr st => ∃ pre o', ts = pre ++ rest ∧ fr.length = 23 ∧ slot fr 1 = .yld r ∧ slot fr 12 = .sl 4 (ts.map Tm.cells) ∧ slot fr 13 = .int .i64 (ts.length : Int) ∧
        slot fr 14 = .int .i64 (pre.length : Int) ∧ st = ⟨o', ro, []⟩ ∧ Y (allL rest ++ l) o' ((o.length, (Tm.mk a s b ts).cells) :: x)) ?_ ts ⟨[], o1, rfl, by simp [hfr], by simp [hfr, s1], by simp [hfr], by simp [hfr], by simp [hfr], rfl, y1⟩
      rintro rest fr _ ⟨pre, o', e, hfr, q1, q12, q13, q14, rfl, hY⟩
      cases rest with
      | nil =>
        have hlt := idx_end e
        simp -implicitDefEqProofs [hfr, q1, q12, q13, q14, hlt]
        exact hpop _ _ _ _ hY
      | cons t rest =>
        obtain ⟨hlt, hg, _⟩ := idx_at e
        have hw := idx_next e hmx
        simp only [allL, List.append_assoc] at hY
        have p2 := hpush _ _ _ t.cells hY
        obtain ⟨b2, o2, e2, y2, d2⟩ := ih t (by simp [e]) _ _ _ [] p2
        simp only [Tm.av] at e2
        have hro' := hro _ _ _ hY
        cases b2 with
        | false =>
          simp -implicitDefEqProofs [hfr, q1, q12, q13, q14, hlt, hg, set_base0, hro', e2]
          exact d2 rfl
        | true =>
          simp -implicitDefEqProofs [hfr, q1, q12, q13, q14, hlt, hg, set_base0, hro', e2, hw]
          exact ⟨rest, by simp, pre ++ [t], by simp [e], by simp, hpop _ _ _ _ (y2 rfl)⟩
termination_by t => SizeOf.sizeOf t
decreasing_by
  have := List.sizeOf_lt_of_mem ht
  simp
  omega

theorem all1_eq {t : Tm} {r : Nat} {o o' : List Obj} {ro : Nat} {b : Bool} (h : (D T).call 53 [t.av, .yld r] ⟨o, ro, []⟩ = some (.bool b, ⟨o', ro, []⟩)) (df : List Nat) :
    (D T).call 52 [.yld r, .vptr t.cells] ⟨o, ro, df⟩ = some (.tup [], ⟨o', ro, df⟩) := by
  simp only [Tm.av] at h
  apply call_by (by exact rfl : T 52 = some _) (by simp)
  intro fr hfr hsl
  have s0 := hsl 0 _ rfl
  have s1 := hsl 1 _ rfl
  simp -implicitDefEqProofs [hfr, s0, s1, h]

theorem all_eq (t : Tm) (st : St) : (D T).call 39 [t.av] st = some (.fn (.func 52) [] [.vptr t.cells], st) := by
  apply call_by (by exact rfl : T 39 = some _) (by simp)
  intro fr hfr hsl
  have s0 := hsl 0 _ rfl
  simp only [Tm.av] at s0
  simp -implicitDefEqProofs [hfr, s0]

end Go.Proofs.Ytcoonnbkmklenaa.A
