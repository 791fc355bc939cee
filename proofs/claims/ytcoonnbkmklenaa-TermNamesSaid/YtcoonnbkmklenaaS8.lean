/- All parts of a term, and each once: the document's, the program's; whether one is among them. -/
import Derived.Test.YtcoonnbkmklenaaS7
namespace Go.Proofs.Ytcoonnbkmklenaa.A
open Go
set_option maxRecDepth 10000
set_option linter.unusedSimpArgs false
attribute [-simp] List.all_eq_true put slot_def ld idxA lenOf elems canA app hand

theorem all_ne (t : Tm) : t.all.map Tm.cells ≠ [] := by cases t; simp [Tm.all]

theorem allL_app : ∀ (l k : List Tm), allL (l ++ k) = allL l ++ allL k
  | [], k => rfl
  | t :: l, k => by simp [allL, allL_app l k]

theorem rall_eq : ∀ (t : Tm), t.ok → t.all.length ≤ 4294967296 → ∀ (st : St), (D T).call 38 [t.av] st = some (.sl 4 (t.all.map Tm.cells), st)
  | .mk a s b l, hok, hn, ⟨o0, ro, df⟩ => by
    simp only [Tm.ok] at hok
    have hts := okL_iff.1 hok.2.2.2.2
    have hmx : l.length ≤ 9223372036854775807 := Nat.le_trans hok.2.2.2.1 (by decide)
    simp only [Tm.all, List.length_cons] at hn
    have ih := fun t (ht : t ∈ l) h => rall_eq t (hts t ht) h
    apply call_by (by exact rfl : T 38 = some _) (by simp)
    intro fr hfr hsl
    have s0 := hsl 0 _ rfl
    simp only [Tm.av, Tm.cells_mk] at s0
    simp -implicitDefEqProofs [hfr, s0]
    apply loop_inv L38_0.eq_1 List.length (fun (rest : List Tm) fr st => ∃ pre v o, l = pre ++ rest ∧ fr.length = 23 ∧ slot fr 1 = .ptr o0.length 0 0 ∧ slot fr 3 = v ∧ slot fr 4 = .int .i64 (pre.length : Int) ∧
      st = ⟨o, o0.length, []⟩ ∧ o[o0.length]? = some (.arr 24 4 [[.int .i64 a, .str s, .int .i64 b, .sl 4 (l.map Tm.cells)]]) ∧ Gr (o0.length + 1) 24 4 o v ((.mk a s b l :: allL pre).map Tm.cells)) ?_ l
      ⟨[], .fsl 4 [(Tm.mk a s b l).cells], _, rfl, by simp [hfr], by simp [hfr], by simp [hfr, Tm.cells_mk], by simp [hfr], rfl, by simp, .inl (by simp [allL])⟩
    rintro rest fr _ ⟨pre, v, o, e, hfr, q1, q3, q4, rfl, g, G⟩
    cases rest with
    | nil =>
      have hlt := idx_end e
      have hh := gr_hand G (Nat.le_succ _) (flat_list _)
      simp -implicitDefEqProofs [hfr, q1, q3, q4, g, hlt, hh]
      simp [e, Tm.all, allL_app]
    | cons t rest =>
      obtain ⟨hlt, hg, _⟩ := idx_at e
      have hw := idx_next e hmx
      have hlo := lt_of_getO g
      have hal : (allL l).length = (allL pre).length + (t.all.length + (allL rest).length) := by rw [e, allL_app]; simp [allL]
      have hc := fun st => ih t (by simp [e]) (by omega) st
      obtain ⟨o', a1, a2, a3, a4⟩ := app_get (bytes := 56) (df := []) G (Nat.le_succ _) (elems_sl _ _ _) (.inr (all_ne t)) (room_of (by simp; omega) (by simp; omega))
      have g' := a4 _ _ g (G.not (Nat.lt_succ_self _))
      simp only [Tm.av] at hc
      simp -implicitDefEqProofs [hfr, q1, q3, q4, g, hlt, hg, hw, hc, a1]
      refine ⟨rest, by simp, pre ++ [t], by simp [e], by simp, g', ?_⟩
      exact gr_new (by rw [a3]; simp [allL_app, allL]) hlo (by simp [allL_app, allL]; omega)
termination_by t => SizeOf.sizeOf t
decreasing_by
  have := List.sizeOf_lt_of_mem ht
  simp
  omega

def addL (out : List Tm) (x : Tm) : List Tm := if inL out x = true then out else out ++ [x]
def partsR (t : Tm) : List Tm := t.all.foldl addL []

theorem rparts_eq (t : Tm) (ht : t.ok) (hn : t.all.length ≤ 4294967296) (o0 : List Obj) (ro : Nat) (df : List Nat) : (D T).call 17 [t.av] ⟨o0, ro, df⟩ = some (.sl 4 ((partsR t).map Tm.cells), ⟨o0, ro, df⟩) := by
  have hall := fun st => rall_eq t ht hn st
  have hmx : t.all.length ≤ 9223372036854775807 := by omega
  have hoks := all_ok t ht
  simp only [Tm.av] at hall
  apply call_by (by exact rfl : T 17 = some _) (by simp)
  intro fr hfr hsl
  have s0 := hsl 0 _ rfl
  simp only [Tm.av] at s0
  simp -implicitDefEqProofs [hfr, s0, hall]
  apply loop_inv L17_0.eq_1 List.length (fun (rest : List Tm) fr st => ∃ pre v o out, t.all = pre ++ rest ∧ fr.length = 29 ∧ slot fr 3 = v ∧ slot fr 4 = .sl 4 (t.all.map Tm.cells) ∧ slot fr 5 = .int .i64 (pre.length : Int) ∧
      st = ⟨o, o0.length, []⟩ ∧ o0.length + 1 ≤ o.length ∧ Gr (o0.length + 1) 24 4 o v (out.map Tm.cells) ∧ partsR t = rest.foldl addL out ∧ out.length ≤ pre.length ∧ ∀ u ∈ out, u.ok) ?_ t.all
      ⟨[], .fsl 4 [], _, [], rfl, by simp [hfr], by simp [hfr], by simp [hfr], by simp [hfr], rfl, by simp, .inl rfl, rfl, by simp, by simp⟩
  rintro rest fr _ ⟨pre, v, o, out, e, hfr, q3, q4, q5, rfl, hlo, G, hp, hol, hok⟩
  cases rest with
  | nil =>
    have hlt := idx_end e
    have hh := gr_hand G (Nat.le_succ _) (flat_list _)
    simp -implicitDefEqProofs [hfr, q3, q4, q5, hlt, hh, hp]
  | cons x rest =>
    obtain ⟨hlt, hg, hpl⟩ := idx_at e
    have hw := idx_next e hmx
    have L := gr_ls G
    have hcan := L.can
    have hin := in_eq L (by omega) hok x (hoks x (by rw [e]; simp)) o0.length []
    simp only [Tm.av] at hin
    simp only [List.foldl_cons, addL] at hp
    cases h : inL out x with
    | true =>
      simp only [h, if_true] at hp
      simp -implicitDefEqProofs [hfr, q3, q4, q5, hlt, hg, hw, hin, hcan, h]
      exact ⟨rest, by simp, pre ++ [x], by simp [e], by simp, hlo, out, G, hp, by simp; omega, hok⟩
    | false =>
      simp only [h, Bool.false_eq_true, if_false] at hp
      obtain ⟨o', a1, a2, a3, a4⟩ := app_get (bytes := 56) (df := []) G (Nat.le_succ _) (elems_fsl _ 4 [x.cells]) (.inr (by simp)) (room_of (by simp; omega) (by simp; omega))
      simp -implicitDefEqProofs [hfr, q3, q4, q5, hlt, hg, hw, hin, hcan, h, a1]
      refine ⟨rest, by simp, pre ++ [x], by simp [e], by simp, by omega, out ++ [x], gr_new (by rw [a3]; simp) hlo (by simp), hp, by simp; omega, ?_⟩
      intro u hu
      rcases List.mem_append.1 hu with hu | hu
      · exact hok u hu
      · obtain rfl := List.mem_singleton.1 hu
        exact hoks u (by rw [e]; simp)

end Go.Proofs.Ytcoonnbkmklenaa.A
