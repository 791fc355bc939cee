/- Claims: all parts, walked; the names of variables that the program finds. -/
import Derived.Test.YtpenaaljaahanaaC6
import Derived.Test.YtpenaaljaahanaaN6
namespace Go.Proofs.Ytpenaaljaahanaa.A
open Go
set_option maxRecDepth 10000
set_option linter.unusedSimpArgs false
attribute [-simp] List.all_eq_true put slot_def ld idxA lenOf elems canA app hand

mutual
def Cl.parts : Cl → List Cl
  | .mk a s u ts cs => .mk a s u ts cs :: partsL cs
def partsL : List Cl → List Cl
  | [] => []
  | c :: l => c.parts ++ partsL l
end

def Cl.terms : Cl → List Tm
  | .mk _ _ _ ts _ => ts
/-- the terms of all parts -/
def allTs (l : List Cl) : List Tm := (partsL l).flatMap Cl.terms

theorem partsL_app : ∀ (l k : List Cl), partsL (l ++ k) = partsL l ++ partsL k
  | [], k => rfl
  | t :: l, k => by simp [partsL, partsL_app l k]

theorem cwalk_eq {ro g : Nat} {cap : List AV} (Y : List Cl → List Obj → List (Nat × List AV) → Prop)
    (hro : ∀ l o x, Y l o x → ro ≤ o.length)
    (hpush : ∀ l o x c, Y l o x → Y l (o ++ [.arr 25 5 [c]]) ((o.length, c) :: x))
    (hget : ∀ l o x i c, Y l o x → (i, c) ∈ x → o[i]? = some (.arr 25 5 [c]))
    (hpop : ∀ l o x p, Y l o (p :: x) → Y l o x)
    (hy : ∀ t l o x df, t.ok → Y (t :: l) o x → ∃ v o', (D T).call g (t.av :: cap) ⟨o, ro, df⟩ = some (v, ⟨o', ro, df⟩) ∧ Y l o' x) :
    ∀ (t : Cl), t.ok → ∀ l o x df, Y (t.parts ++ l) o x → ∃ o', (D T).call 56 [t.av, .fn (.func g) [] cap] ⟨o, ro, df⟩ = some (.tup [], ⟨o', ro, df⟩) ∧ Y l o' x
  | .mk a s u ts cs, hok, l, o, x, df, hY => by
    have hok' := hok
    simp only [Cl.ok] at hok
    have hts := okC_iff.1 hok.2.2.2.2.2.2
    have hmx : cs.length ≤ 9223372036854775807 := Nat.le_trans hok.2.2.2.2.2.1 (by decide)
    have ih := fun t (ht : t ∈ cs) => cwalk_eq Y hro hpush hget hpop hy t (hts t ht)
    simp only [Cl.parts, List.cons_append] at hY
    have p1 := hpush _ _ _ (Cl.mk a s u ts cs).cells hY
    obtain ⟨v1, o1, e1, y1⟩ := hy _ _ _ _ [] hok' p1
    simp only [Cl.av, Cl.cells_mk] at e1
    suffices h : ∃ v st', (D T).call 56 [(Cl.mk a s u ts cs).av, .fn (.func g) [] cap] ⟨o, ro, df⟩ = some (v, st') ∧ (fun v st' => ∃ o', v = .tup [] ∧ st' = ⟨o', ro, df⟩ ∧ Y l o' x) v st' by
      obtain ⟨_, _, h1, o', rfl, rfl, h2⟩ := h
      exact ⟨o', h1, h2⟩
    apply call_for (by exact rfl : T 56 = some _) (by simp)
    intro fr hfr hsl
    have s0 := hsl 0 _ rfl
    have s1 := hsl 1 _ rfl
    simp only [Cl.av, Cl.cells_mk] at s0
    have g1 := hget _ _ _ _ _ y1 (List.mem_cons_self ..)
    simp only [Cl.cells_mk] at g1
    simp -implicitDefEqProofs [hfr, s0, s1, e1, g1]
    apply loop_inv L56_0.eq_1 List.length (fun (rest : List Cl) fr st => ∃ pre o', cs = pre ++ rest ∧ fr.length = 20 ∧ slot fr 1 = .fn (.func g) [] cap ∧ slot fr 10 = .sl 5 (cs.map Cl.cells) ∧ slot fr 11 = .int .i64 (cs.length : Int) ∧
      slot fr 12 = .int .i64 (pre.length : Int) ∧ st = ⟨o', ro, []⟩ ∧ Y (partsL rest ++ l) o' ((o.length, (Cl.mk a s u ts cs).cells) :: x)) ?_ cs ⟨[], o1, rfl, by simp [hfr], by simp [hfr, s1], by simp [hfr], by simp [hfr], by simp [hfr], rfl, y1⟩
    rintro rest fr _ ⟨pre, o', e, hfr, q1, q10, q11, q12, rfl, hY⟩
    cases rest with
    | nil =>
      have hlt := idx_end e
      simp -implicitDefEqProofs [hfr, q1, q10, q11, q12, hlt]
      exact hpop _ _ _ _ hY
    | cons t rest =>
      obtain ⟨hlt, hg, _⟩ := idx_at e
      have hw := idx_next e hmx
      simp only [partsL, List.append_assoc] at hY
      have p2 := hpush _ _ _ t.cells hY
      obtain ⟨o2, e2, y2⟩ := ih t (by simp [e]) _ _ _ [] p2
      simp only [Cl.av] at e2
      have hro' := hro _ _ _ hY
      simp -implicitDefEqProofs [hfr, q1, q10, q11, q12, hlt, hg, set_base0, hro', e2, hw]
      exact ⟨rest, by simp, pre ++ [t], by simp [e], by simp, hpop _ _ _ _ y2⟩
termination_by t => SizeOf.sizeOf t
decreasing_by
  have := List.sizeOf_lt_of_mem ht
  simp
  omega

end Go.Proofs.Ytpenaaljaahanaa.A
