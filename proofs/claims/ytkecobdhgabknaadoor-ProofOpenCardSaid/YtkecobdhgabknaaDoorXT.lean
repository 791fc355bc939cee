/- Copies of cuts, clauses and lemmas: the program's functions give what they were given. -/
import Derived.Test.YtkecobdhgabknaaDoorXE
import Derived.Test.YtkecobdhgabknaaDoorGx0
namespace Go.Proofs.YtkecobdhgabknaaDoor.A
open Go
set_option maxRecDepth 10000
set_option linter.unusedSimpArgs false
set_option linter.unusedVariables false
attribute [-simp] List.all_eq_true put slot_def ld idxA lenOf elems canA app hand

theorem exClone_sl {ty sz bytes : Nat} (es : List (List AV)) (hf : AV.flatLL es = true) (hr : room es.length bytes = true) (st : St) : exClone ty sz bytes false [.sl sz es] st = some (.sl sz es, st) := by
  cases es with
  | nil => rfl
  | cons e l =>
    simp only [List.length_cons] at hr
    simp only [exClone, elems, hf, hr, and_self, if_true, cond_false]

theorem cloneI_eq (l : List Int) (hl : l.length ≤ 1000000) (st : St) : (D T).call 33 [.sl 1 (intA l)] st = some (.sl 1 (intA l), st) := by
  rw [D_ext _ _ (by rfl)]
  exact exClone_sl _ (intA_flat l) (by simp [room, intA_len]; omega) st
theorem cloneJ_eq (l : List Int) (hl : l.length ≤ 1000000) (st : St) : (D T).call 75 [.sl 1 (intA l)] st = some (.sl 1 (intA l), st) := by
  rw [D_ext _ _ (by rfl)]
  exact exClone_sl _ (intA_flat l) (by simp [room, intA_len]; omega) st
theorem cloneM_eq (l : List (Int × Int)) (hl : l.length ≤ 1000000) (st : St) : (D T).call 76 [.sl 2 (moA l)] st = some (.sl 2 (moA l), st) := by
  rw [D_ext _ _ (by rfl)]
  exact exClone_sl _ (moA_flat l) (by simp [room, moA_len]; omega) st

mutual
/-- no list is long -/
def Cu.sm : Cu → Prop
  | .mk _ fr by' _ _ ms cs => fr.length ≤ 1000000 ∧ by'.length ≤ 1000000 ∧ ms.length ≤ 1000000 ∧ cs.length ≤ 1000000 ∧ smCu cs
def smCu : List Cu → Prop
  | [] => True
  | c :: l => c.sm ∧ smCu l
end
theorem smCu_iff : ∀ {l : List Cu}, smCu l ↔ ∀ t ∈ l, t.sm
  | [] => by simp [smCu]
  | t :: l => by simp [smCu, smCu_iff (l := l)]

theorem ccut_eq : ∀ (c : Cu), c.sm → ∀ (o : List Obj) (ro : Nat) (df : List Nat), (D T).call 46 [.agg c.cells] ⟨o, ro, df⟩ = some (.agg c.cells, ⟨o, ro, df⟩)
  | .mk kd fr0 by0 dv k ms cs, h, o, ro, df => by
    simp only [Cu.sm] at h
    obtain ⟨h1, h2, h3, h4, h5⟩ := h
    have hl := smCu_iff.1 h5
    have he := fun o ro df => eachCut_eq 46 cs h4 (fun x hx o ro df => ccut_eq x (hl x hx) o ro df) o ro df
    have c1 := fun st => cloneI_eq fr0 h1 st
    have c2 := fun st => cloneJ_eq by0 h2 st
    have c3 := fun st => cloneM_eq ms h3 st
    have f1 := intA_flat fr0
    have f2 := intA_flat by0
    have f3 := moA_flat ms
    have f4 := cuflat_list cs
    simp only [Cu.cells_mk]
    apply call_by (by exact rfl : T 46 = some _) (by simp)
    intro fr hfr hsl
    have s0 := hsl 0 _ rfl
    generalize intA fr0 = F at *
    generalize intA by0 = B at *
    generalize moA ms = M at *
    simp -implicitDefEqProofs [hfr, s0, get_base0, get_base, set_base0, set_base, c1, c2, c3, f1, f2, f3, f4, he, -getElem?_pos, List.getElem?_cons_zero, List.getElem?_cons_succ]
termination_by t => SizeOf.sizeOf t
decreasing_by
  have := List.sizeOf_lt_of_mem hx
  simp
  omega

def Ch.sm (c : Ch) : Prop := c.1.length ≤ 1000000 ∧ c.2.length ≤ 1000000
def Lm.sm (c : Lm) : Prop := c.1.length ≤ 1000000 ∧ c.2.sm

theorem cchain_eq (c : Ch) (h : Ch.sm c) (o : List Obj) (ro : Nat) (df : List Nat) : (D T).call 48 [.agg (Ch.cells c)] ⟨o, ro, df⟩ = some (.agg (Ch.cells c), ⟨o, ro, df⟩) := by
  have c1 := fun st => cloneI_eq c.1 h.1 st
  have c2 := fun st => cloneI_eq c.2 h.2 st
  have f1 := intA_flat c.1
  have f2 := intA_flat c.2
  unfold Ch.cells
  apply call_by (by exact rfl : T 48 = some _) (by simp)
  intro fr hfr hsl
  have s0 := hsl 0 _ rfl
  generalize intA c.1 = F at *
  generalize intA c.2 = B at *
  simp -implicitDefEqProofs [hfr, s0, get_base0, get_base, set_base0, set_base, c1, c2, f1, f2, -getElem?_pos, List.getElem?_cons_zero, List.getElem?_cons_succ]

theorem clemma_eq (c : Lm) (h : Lm.sm c) (o : List Obj) (ro : Nat) (df : List Nat) : (D T).call 45 [.agg (Lm.cells c)] ⟨o, ro, df⟩ = some (.agg (Lm.cells c), ⟨o, ro, df⟩) := by
  obtain ⟨l, cu⟩ := c
  obtain ⟨h1, h2⟩ := h
  have c1 := fun st => cloneI_eq l h1 st
  have c2 := fun o ro df => ccut_eq cu h2 o ro df
  have f1 := intA_flat l
  obtain ⟨kd, fr0, by0, dv, k, ms, cs⟩ := cu
  have f2 := intA_flat fr0
  have f3 := intA_flat by0
  have f4 := moA_flat ms
  have f5 := cuflat_list cs
  simp only [Lm.cells, Cu.cells_mk] at c2 ⊢
  apply call_by (by exact rfl : T 45 = some _) (by simp)
  intro fr hfr hsl
  have s0 := hsl 0 _ rfl
  generalize intA l = F at *
  generalize intA fr0 = F2 at *
  generalize intA by0 = F3 at *
  generalize moA ms = F4 at *
  simp -implicitDefEqProofs [hfr, s0, get_base0, get_base, set_base0, set_base, c1, c2, f1, f2, f3, f4, f5, -getElem?_pos, List.getElem?_cons_zero, List.getElem?_cons_succ]

end Go.Proofs.YtkecobdhgabknaaDoor.A
/- (the first part of S11) A term in new memory, and with parts replaced. -/
namespace Go.Proofs.YtkecobdhgabknaaDoor.A
open Go
set_option maxRecDepth 10000
set_option linter.unusedSimpArgs false
attribute [-simp] List.all_eq_true put slot_def ld idxA lenOf elems canA app hand

theorem le_all : ∀ l : List Tm, l.length ≤ (allL l).length
  | [] => Nat.le_refl _
  | .mk a s b k :: l => by
    have := le_all l
    simp only [allL, Tm.all, List.length_append, List.length_cons]
    omega

theorem mem_all : ∀ {l : List Tm} {t : Tm}, t ∈ l → t.all.length ≤ (allL l).length
  | u :: l, t, h => by
    simp only [allL, List.length_append]
    rcases List.mem_cons.1 h with rfl | h
    · omega
    · have := mem_all h
      omega

theorem with_eq (a : Int) (s : ByteArray) (b : Int) (l : List Tm) (hl : l.length ≤ 4294967296) (f : Nat) (cap : List AV) (g : Tm → Tm) (o0 : List Obj)
    (h : ∀ u ∈ l, ∀ o ro df, (∀ (i : Nat) y, o0[i]? = some y → o[i]? = some y) → (D T).call f (.agg u.cells :: cap) ⟨o, ro, df⟩ = some (.agg (g u).cells, ⟨o, ro, df⟩)) (ro : Nat) (df : List Nat) :
    (D T).call 74 [(Tm.mk a s b l).av, .fn (.func f) [] cap] ⟨o0, ro, df⟩ = some ((Tm.mk a s b (l.map g)).av, ⟨o0, ro, df⟩) := by
  have hmx : l.length ≤ 9223372036854775807 := by omega
  apply call_by (by exact rfl : T 74 = some _) (by simp)
  intro fr hfr hsl
  have s0 := hsl 0 _ rfl
  have s1 := hsl 1 _ rfl
  simp only [Tm.av, Tm.cells_mk] at s0
  simp -implicitDefEqProofs [hfr, s0, s1]
  apply loop_inv L74_0.eq_1 List.length (fun (rest : List Tm) fr st => ∃ pre v o, l = pre ++ rest ∧ fr.length = 25 ∧ slot fr 1 = .fn (.func f) [] cap ∧ slot fr 2 = .ptr o0.length 0 0 ∧ slot fr 4 = .ptr (o0.length + 1) 0 0 ∧ slot fr 5 = v ∧
      slot fr 9 = .sl 4 (l.map Tm.cells) ∧ slot fr 10 = .int .i64 (l.length : Int) ∧ slot fr 11 = .int .i64 (pre.length : Int) ∧
      st = ⟨o, o0.length, []⟩ ∧ o0.length + 2 ≤ o.length ∧ o[o0.length]? = some (.arr 24 4 [[.int .i64 a, .str s, .int .i64 b, .sl 4 (l.map Tm.cells)]]) ∧
      o[o0.length + 1]? = some (.arr 24 4 [[.int .i64 0, .str ⟨#[]⟩, .int .i64 0, .fsl 4 []]]) ∧ Gr (o0.length + 2) 24 4 o v ((pre.map g).map Tm.cells) ∧ (∀ (i : Nat) y, o0[i]? = some y → o[i]? = some y)) ?_ l
      ⟨[], .fsl 4 [], _, rfl, by simp [hfr], by simp [hfr, s1], by simp [hfr], by simp [hfr], by simp [hfr], by simp [hfr], by simp [hfr], by simp [hfr], rfl, by simp, by simp [get_base0], by simp [get_base], .inl rfl, fun i y h => getO_push h _⟩
  rintro rest fr _ ⟨pre, v, o, e, hfr, q1, q2, q4, q5, q9, q10, q11, rfl, hlo, g0, g1, G, K⟩
  cases rest with
  | nil =>
    have hlt := idx_end e
    have hfl := flat_list (pre.map g)
    have ee : pre = l := by simpa using e.symm
    subst ee
    have l1 : o0.length < o.length := by omega
    have l2 : o0.length + 1 < o.length := by omega
    rcases G with rfl | ⟨r, r1, rfl, r2⟩
    · simp -implicitDefEqProofs [hfr, q1, q2, q4, q5, q9, q10, q11, g0, g1, hlt, getO_set, -getElem?_pos, List.getElem?_cons_zero, -List.map_map, l1, l2, Tm.av, Tm.cells_mk, hfl]
    · have l3 : ¬ r < o0.length := by omega
      have l4 : ¬ o0.length = r := by omega
      have l5 : ¬ o0.length + 1 = r := by omega
      have l6 : (List.map Tm.cells (List.map g pre)).take pre.length = List.map Tm.cells (List.map g pre) := by rw [List.take_of_length_le]; simp
      simp -implicitDefEqProofs [hfr, q1, q2, q4, q5, q9, q10, q11, g0, g1, hlt, getO_set, -getElem?_pos, List.getElem?_cons_zero, -List.map_map, l1, l2, l3, l4, l5, l6, r2, Tm.av, Tm.cells_mk, hfl]
  | cons t rest =>
    obtain ⟨hlt, hg, hpl⟩ := idx_at e
    have hw := idx_next e hmx
    have hc := h t (by simp [e]) (o ++ [.arr 24 4 [t.cells]]) o0.length [] fun i y hy => getO_push (K i y hy) _
    obtain ⟨o', a1, a2, a3, a4⟩ := app_get (bytes := 56) (ro := o0.length) (df := []) (G.push [.arr 24 4 [t.cells]]) (by omega) (x := .fsl 4 [(g t).cells]) rfl (.inr (by simp)) (room_of0 (by simp; omega) (by simp; omega))
    have l1 : o0.length ≤ o.length := by omega
    simp -implicitDefEqProofs [hfr, q1, q2, q4, q5, q9, q10, q11, hlt, hg, hw, hc, setO_last, getO_last, l1, a1, -getElem?_pos, List.getElem?_cons_zero]
    have k1 := lt_of_getO g0
    have k2 := lt_of_getO g1
    have g0' := a4 _ _ (getO_push g0 _) (G.not (by omega))
    have g1' := a4 _ _ (getO_push g1 _) (G.not (by omega))
    rw [List.length_append] at a3
    refine ⟨rest, by simp, pre ++ [t], by simp [e], by simp, by simp at a2; omega, g0', g1', ?_, fun i y hy => a4 _ _ (getO_push (K i y hy) _) (G.not (by have := lt_of_getO hy; omega))⟩
    exact .inr ⟨o.length + 1, by omega, by simp, by simpa using a3⟩

theorem copy_eq : ∀ (t : Tm), t.ok → t.all.length ≤ 4294967296 → ∀ (o0 : List Obj) (ro : Nat) (df : List Nat), (D T).call 42 [t.av] ⟨o0, ro, df⟩ = some (t.av, ⟨o0, ro, df⟩)
  | .mk a s b l, hok, hn, o0, ro, df => by
    have hok' := hok
    simp only [Tm.ok] at hok
    have hts := okL_iff.1 hok.2.2.2.2
    simp only [Tm.all, List.length_cons] at hn
    have ll := le_all l
    have hw := fun o ro df => with_eq a s b l (by omega) 42 [] id o (fun u hu o ro df _ => copy_eq u (hts u hu) (Nat.le_trans (mem_all hu) (by omega)) o ro df) ro df
    simp only [Tm.av, Tm.cells_mk, List.map_id] at hw
    apply call_by (by exact rfl : T 42 = some _) (by simp)
    intro fr hfr hsl
    have s0 := hsl 0 _ rfl
    simp only [Tm.av, Tm.cells_mk] at s0
    have hfl := flat_list l
    simp -implicitDefEqProofs [hfr, s0, hw, Tm.av, Tm.cells_mk, get_base0, get_base, set_base0, set_base, hfl]
termination_by t => SizeOf.sizeOf t
decreasing_by
  have := List.sizeOf_lt_of_mem hu
  simp
  omega

end Go.Proofs.YtkecobdhgabknaaDoor.A
