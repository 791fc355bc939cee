/- The document's term with parts replaced. -/
import Derived.Test.YtcoonnbkmklenaaS11
import Derived.Test.YtcoonnbkmklenaaP4
namespace Go.Proofs.Ytcoonnbkmklenaa.A
open Go
set_option maxRecDepth 10000
set_option linter.unusedSimpArgs false
attribute [-simp] List.all_eq_true put slot_def ld idxA lenOf elems canA app hand

theorem rwith_eq (a : Int) (s : ByteArray) (b : Int) (x v w : AV) (hx1 : AV.one x = true) (hv : AV.one v = true) (o0 : List Obj) (hw : ∀ m, hand0 o0.length (o0 ++ m) v = some w) (ro : Nat) (df : List Nat) :
    (D T).call 44 [.agg [.int .i64 a, .str s, .int .i64 b, x], v] ⟨o0, ro, df⟩ = some (.agg [.int .i64 a, .str s, .int .i64 b, w], ⟨o0, ro, df⟩) := by
  apply call_by (by exact rfl : T 44 = some _) (by simp)
  intro fr hfr hsl
  have s0 := hsl 0 _ rfl
  have s1 := hsl 1 _ rfl
  have h1 : AV.cells v = [v] := by cases v <;> first | rfl | cases hv
  have h2 : ∀ cs, AV.cells (.agg cs) = cs := fun _ => rfl
  have h3 : ∀ n o k x, hand0 n o (.int k x) = some (.int k x) := fun _ _ _ _ => rfl
  have h4 : ∀ n o x, hand0 n o (.str x) = some (.str x) := fun _ _ _ => rfl
  simp -implicitDefEqProofs [hfr, s0, s1, hx1, hv, h1, h2, h3, h4, get_base0, get_base, set_base0, set_base, hw, -hand0, -AV.cells]

theorem rreplace_eq (f u : Tm) (hf : f.ok) (hu : u.ok) : ∀ (t : Tm), t.ok → t.all.length ≤ 4294967296 → ∀ (o0 : List Obj) (ro : Nat) (df : List Nat),
    (D T).call 26 [t.av, f.av, u.av] ⟨o0, ro, df⟩ = some ((repl f u t).av, ⟨o0, ro, df⟩)
  | .mk a s b l, hok, hn, o0, ro, df => by
    have hok' := hok
    simp only [Tm.ok] at hok
    have hts := okL_iff.1 hok.2.2.2.2
    have hmx : l.length ≤ 9223372036854775807 := Nat.le_trans hok.2.2.2.1 (by decide)
    simp only [Tm.all, List.length_cons] at hn
    have ll := le_all l
    have hs := fun st => tm_eq (.mk a s b l) hok' f hf st
    rw [tm_cm] at hs
    have ih := fun x (hx : x ∈ l) o ro df => rreplace_eq f u hf hu x (hts x hx) (Nat.le_trans (mem_all hx) (by omega)) o ro df
    simp only [Tm.av, Tm.cells_mk] at hs ih
    apply call_by (by exact rfl : T 26 = some _) (by simp)
    intro fr hfr hsl
    have s0 := hsl 0 _ rfl
    have s1 := hsl 1 _ rfl
    have s2 := hsl 2 _ rfl
    simp only [Tm.av, Tm.cells_mk] at s0 s1 s2
    by_cases hz : cm (.mk a s b l) f = 0
    · have er : repl f u (.mk a s b l) = u := by simp [repl, hz]
      rw [er]
      obtain ⟨a', s', b', l', eu⟩ : ∃ a' s' b' l', u = .mk a' s' b' l' := by cases u; exact ⟨_, _, _, _, rfl⟩
      subst eu
      have hfl := flat_list l'
      simp only [Tm.cells_mk] at s2
      simp -implicitDefEqProofs [hfr, s0, s1, s2, hs, hz, get_base0, get_base, set_base0, set_base, Tm.av, Tm.cells_mk, hfl]
    · have er : repl f u (.mk a s b l) = .mk a s b (l.map (repl f u)) := by simp [repl, hz, replL_map]
      have hzb : (cm (.mk a s b l) f == 0) = false := by simpa using hz
      rw [er]
      simp -implicitDefEqProofs [hfr, s0, s1, s2, hs, hz, hzb, get_base0, get_base, set_base0, set_base]
      apply loop_inv L26_0.eq_1 List.length (fun (rest : List Tm) fr st => ∃ pre v o, l = pre ++ rest ∧ fr.length = 34 ∧ slot fr 3 = .ptr o0.length 0 0 ∧ slot fr 4 = .ptr (o0.length + 1) 0 0 ∧ slot fr 5 = .ptr (o0.length + 2) 0 0 ∧ slot fr 6 = .ptr (o0.length + 3) 0 0 ∧
          slot fr 7 = v ∧ slot fr 8 = .int .i64 (pre.length : Int) ∧ st = ⟨o, o0.length, []⟩ ∧ o0.length + 4 ≤ o.length ∧ o[o0.length]? = some (.arr 24 4 [[.int .i64 a, .str s, .int .i64 b, .sl 4 (l.map Tm.cells)]]) ∧
          o[o0.length + 1]? = some (.arr 24 4 [f.cells]) ∧ o[o0.length + 2]? = some (.arr 24 4 [u.cells]) ∧
          o[o0.length + 3]? = some (.arr 24 4 [[.int .i64 0, .str ⟨#[]⟩, .int .i64 0, .fsl 4 []]]) ∧ Gr (o0.length + 4) 24 4 o v ((pre.map (repl f u)).map Tm.cells)) ?_ l
          ⟨[], .fsl 4 [], _, rfl, by simp [hfr], by simp [hfr], by simp [hfr], by simp [hfr], by simp [hfr], by simp [hfr], by simp [hfr], rfl, by simp, by simp [get_base0], by simp [get_base], by simp [get_base], by simp [get_base], .inl rfl⟩
      rintro rest fr _ ⟨pre, v, o, e, hfr, q3, q4, q5, q6, q7, q8, rfl, hlo, g0, g1, g2, g3, G⟩
      cases rest with
      | nil =>
        have hlt := idx_end e
        have hfl := flat_list (pre.map (repl f u))
        have ee : pre = l := by simpa using e.symm
        subst ee
        have l1 : o0.length < o.length := by omega
        have l2 : o0.length + 3 < o.length := by omega
        rcases G with rfl | ⟨r, r1, rfl, r2⟩
        · have hw := rwith_eq a s b (.sl 4 (pre.map Tm.cells)) (.fsl 4 ((pre.map (repl f u)).map Tm.cells)) (.sl 4 ((pre.map (repl f u)).map Tm.cells)) rfl rfl o (fun m => by simp -implicitDefEqProofs [hfl, -List.map_map]) o0.length []
          simp -implicitDefEqProofs [hfr, q3, q4, q5, q6, q7, q8, g0, g1, g2, g3, hlt, hw, getO_set, -getElem?_pos, List.getElem?_cons_zero, -List.map_map, l1, l2, Tm.av, Tm.cells_mk, hfl]
        · have l3 : ¬ r < o0.length := by omega
          have l4 : ¬ o0.length = r := by omega
          have l5 : ¬ o0.length + 3 = r := by omega
          have l6 : (List.map Tm.cells (List.map (repl f u) pre)).take pre.length = List.map Tm.cells (List.map (repl f u) pre) := by rw [List.take_of_length_le]; simp
          have l7 := lt_of_getO r2
          have hw := rwith_eq a s b (.sl 4 (pre.map Tm.cells)) (.own r 0 pre.length false) (.own r 0 pre.length false) rfl rfl o (fun m => by simp -implicitDefEqProofs [l7]) o0.length []
          simp -implicitDefEqProofs [hfr, q3, q4, q5, q6, q7, q8, g0, g1, g2, g3, hlt, hw, getO_set, -getElem?_pos, List.getElem?_cons_zero, -List.map_map, l1, l2, l3, l4, l5, l6, r2, Tm.av, Tm.cells_mk, hfl]
      | cons t rest =>
        obtain ⟨hlt, hg, hpl⟩ := idx_at e
        have hw := idx_next e hmx
        have hc := fun o ro df => ih t (by simp [e]) o ro df
        obtain ⟨o', a1, a2, a3, a4⟩ := app_get (bytes := 56) (ro := o0.length) (df := []) G (by omega) (x := .fsl 4 [(repl f u t).cells]) rfl (.inr (by simp)) (room_of (by simp; omega) (by simp; omega))
        simp -implicitDefEqProofs [hfr, q3, q4, q5, q6, q7, q8, g0, g1, g2, hlt, hg, hw, hc, a1, -getElem?_pos, List.getElem?_cons_zero, -List.map_map]
        have nn := fun {i : Nat} (hi : i < o0.length + 4) => G.not hi
        refine ⟨rest, by simp, pre ++ [t], by simp [e], by simp, by omega, a4 _ _ g0 (nn (by omega)), a4 _ _ g1 (nn (by omega)), a4 _ _ g2 (nn (by omega)), a4 _ _ g3 (nn (by omega)), ?_⟩
        exact .inr ⟨o.length, by omega, by simp, by simpa using a3⟩
termination_by t => SizeOf.sizeOf t
decreasing_by
  have := List.sizeOf_lt_of_mem hx
  simp
  omega

end Go.Proofs.Ytcoonnbkmklenaa.A
