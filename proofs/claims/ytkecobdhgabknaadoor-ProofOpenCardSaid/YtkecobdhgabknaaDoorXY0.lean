/- A proof in new memory, its parts in own memory, all apart: the program's function. -/
import Derived.Test.YtkecobdhgabknaaDoorXZA
import Derived.Test.YtkecobdhgabknaaDoorXA
namespace Go.Proofs.YtkecobdhgabknaaDoor.A
open Go
set_option maxRecDepth 10000
set_option linter.unusedSimpArgs false
set_option linter.unusedVariables false
attribute [-simp] List.all_eq_true put slot_def ld idxA lenOf elems canA app hand

theorem canL_len : ∀ l : List AV, (canL l).length = l.length
  | [] => rfl
  | v :: l => by simp [canL, canL_len l]
theorem front_can (p : Pf) : canL p.front = p.front := by
  have h := p_can p
  rw [cells_front, canL_app] at h
  exact (List.append_inj h (canL_len _)).1
theorem front_one (p : Pf) : p.front.all AV.one = true := by
  have h := p_one p
  rw [cells_front, List.all_append, Bool.and_eq_true] at h
  exact h.1

theorem OwnP.front {o : List Obj} : ∀ {p : Pf} {lo hi : Nat} {cs : List AV}, OwnP o p lo hi cs → ∃ sv, cs = p.front ++ [sv] ∧ AV.one sv = true
  | .mk .., _, _, _, H => by
    rw [OwnP] at H
    obtain ⟨_, sv, e, H⟩ := H
    refine ⟨sv, e, ?_⟩
    rcases H with ⟨_, rfl | rfl⟩ | ⟨q, es, rfl, _⟩ <;> rfl
theorem OwnP.len {o : List Obj} {p : Pf} {lo hi : Nat} {cs : List AV} (H : OwnP o p lo hi cs) : cs.length = 24 := by
  obtain ⟨sv, rfl, _⟩ := H.front
  simp [front_len]
theorem OwnP.one {o : List Obj} {p : Pf} {lo hi : Nat} {cs : List AV} (H : OwnP o p lo hi cs) : cs.all AV.one = true := by
  obtain ⟨sv, rfl, h⟩ := H.front
  simp only [List.all_append, List.all_cons, List.all_nil, Bool.and_true, h, front_one]
theorem OwnP.can {o : List Obj} : ∀ {p : Pf} {lo hi : Nat} {cs : List AV}, OwnP o p lo hi cs → OwnP o p lo hi (canL cs)
  | .mk r h n v b t c les chs cu ps, lo, hi, cs, H => by
    rw [OwnP] at H ⊢
    obtain ⟨hle, sv, rfl, H⟩ := H
    rw [canL_app, front_can]
    rcases H with ⟨rfl, rfl | rfl⟩ | ⟨q, es, rfl, H⟩
    · exact ⟨hle, .sl 24 [], rfl, .inl ⟨rfl, .inl rfl⟩⟩
    · exact ⟨hle, .sl 24 [], rfl, .inl ⟨rfl, .inl rfl⟩⟩
    · exact ⟨hle, .own q 0 ps.length false, rfl, .inr ⟨q, es, rfl, H⟩⟩

/-- a list of proofs in own memory -/
def Vs (o : List Obj) (lo : Nat) (ps : List Pf) (v : AV) : Prop := ∃ m es, OwnL o ps lo m es ∧ m ≤ o.length ∧ ((v = .fsl 24 [] ∧ es = []) ∨ (v = .own m 0 es.length false ∧ o[m]? = some (.arr 42 24 es)))

/-- what a copy is -/
def CopyI (g : Nat) (x : Pf) : Prop := ∀ (o : List Obj) (ro : Nat) (df : List Nat), ro ≤ o.length → ∃ cs o', (D T).call g [.agg x.cells] ⟨o, ro, df⟩ = some (.agg cs, ⟨o', ro, df⟩) ∧ OwnP o' x o.length o'.length cs ∧ o.length ≤ o'.length ∧ ∀ i, i < o.length → o'[i]? = o[i]?

theorem eachI_eq (g : Nat) (l : List Pf) (hl : l.length ≤ 1000000) (h : ∀ x ∈ l, CopyI g x) (o : List Obj) (ro : Nat) (df : List Nat) (hro : ro ≤ o.length) :
    ∃ v o', (D T).call 1000049 [.sl 24 (l.map Pf.cells), .fn (.func g) [] []] ⟨o, ro, df⟩ = some (v, ⟨o', ro, df⟩) ∧ Vs o' o.length l v ∧ o.length ≤ o'.length ∧ ∀ i, i < o.length → o'[i]? = o[i]? := by
  have mx : l.length ≤ 9223372036854775807 := by omega
  suffices hh : ∃ v' st', (D T).call 1000049 [.sl 24 (l.map Pf.cells), .fn (.func g) [] []] ⟨o, ro, df⟩ = some (v', st') ∧ (fun v' st' => ∃ o', st' = ⟨o', ro, df⟩ ∧ Vs o' o.length l v' ∧ o.length ≤ o'.length ∧ ∀ i, i < o.length → o'[i]? = o[i]?) v' st' by
    obtain ⟨v, _, h1, o', rfl, h2⟩ := hh
    exact ⟨v, o', h1, h2⟩
  apply call_for (by exact rfl : T 1000049 = some _) (by simp)
  intro fr hfr hsl
  have s0 := hsl 0 _ rfl
  have s1 := hsl 1 _ rfl
  simp -implicitDefEqProofs [hfr, s0, s1]
  apply loop_inv L1000049_0.eq_1 List.length (fun (rest : List Pf) fr st => ∃ pre v o', l = pre ++ rest ∧ fr.length = 22 ∧ slot fr 1 = .fn (.func g) [] [] ∧ slot fr 5 = v ∧ slot fr 8 = .sl 24 (l.map Pf.cells) ∧ slot fr 9 = .int .i64 (l.length : Int) ∧ slot fr 10 = .int .i64 (pre.length : Int) ∧
    st = ⟨o', ro, []⟩ ∧ o.length ≤ o'.length ∧ Vs o' o.length pre v ∧ ∀ i, i < o.length → o'[i]? = o[i]?) ?_ l ⟨[], .fsl 24 [], o, rfl, by simp [hfr], by simp [hfr, s1], by simp [hfr], by simp [hfr, s0], by simp [hfr], by simp [hfr], rfl, Nat.le_refl _, ⟨o.length, [], by rw [OwnL]; exact ⟨rfl, Nat.le_refl _⟩, Nat.le_refl _, .inl ⟨rfl, rfl⟩⟩, fun _ _ => rfl⟩
  clear s0 s1 hsl hfr
  clear fr
  rintro rest fr _ ⟨pre, v, o', e, hfr, q1, q5, q8, q9, q10, rfl, hlo, G, K⟩
  cases rest with
  | nil =>
    have hlt := idx_end e
    have ee : pre = l := by simpa using e.symm
    subst ee
    simp -implicitDefEqProofs [hfr, q1, q5, q8, q9, q10, hlt]
    exact ⟨G, hlo, K⟩
  | cons x rest =>
    obtain ⟨hlt, hg, hpl⟩ := idx_at e
    have hw := idx_next e mx
    obtain ⟨X, hX⟩ : ∃ X, X = Obj.arr 42 24 [Pf.cells x] := ⟨_, rfl⟩
    have l3 : ro ≤ o'.length := by omega
    obtain ⟨cs, o2, hc, hO, h2, K2⟩ := h x (by simp [e]) (o' ++ [X]) ro [] (by simp; omega)
    have y1 := hO.len
    have y2 := hO.one
    have hO' := hO.can
    have y4 := hO'.one
    have y3 : cs.take 24 = cs := List.take_of_length_le (by omega)
    have x1 := p_take x
    have x2 := p_can x
    have x3 := plen x
    have x4 := p_one x
    have hle : pre.length + 1 ≤ 1000000 := by have := congrArg List.length e; simp at this; omega
    obtain ⟨m, es, hL, hm, hv⟩ := G
    have hlen := hL.len
    have hm0 := hL.le
    simp only [List.length_append, List.length_cons, List.length_nil, Nat.zero_add] at h2 K2 hO hO'
    have K2' : ∀ i, i < o'.length → o2[i]? = o'[i]? := fun i hi => by rw [K2 i (by omega), List.getElem?_append_left hi]
    have hGr : Gr o.length 42 24 o2 v es := by
      rcases hv with ⟨rfl, rfl⟩ | ⟨rfl, hq⟩
      · exact .inl rfl
      · exact .inr ⟨m, hm0, rfl, by rw [K2' m (lt_of_getO hq)]; exact hq⟩
    have hvm : ∀ i n f, i < m ∨ o'.length < i → v ≠ .own i 0 n f := fun i n f hi => by
      rcases hv with ⟨rfl, rfl⟩ | ⟨rfl, hq⟩
      · simp
      · have := lt_of_getO hq
        simp; omega
    obtain ⟨o3, a1, a2, a3, a4⟩ := app_get' (bytes := 400) (df := []) (ro := ro) (x := .fsl 24 [canL cs]) hGr hro (elems_fsl _ 24 _) (fun hv' => by
      rcases hv with ⟨_, rfl⟩ | ⟨rfl, _⟩
      · exact .inl rfl
      · cases hv') (room_of0 (by simp; omega) (by simp; omega))
    simp only [List.length_cons, List.length_nil, Nat.zero_add] at a1
    have hcv : canA v = v := by
      rcases hv with ⟨rfl, rfl⟩ | ⟨rfl, hq⟩ <;> rfl
    subst hX
    simp -implicitDefEqProofs [hfr, q1, q5, q8, q9, q10, hlt, hg, hpl, hw, hc, hlo, l3, hcv, x1, x2, x3, x4, y1, y2, y3, y4, pset, a1, setO_last, getO_last, -List.getElem_map, -getElem?_pos, List.getElem?_cons_zero]
    refine ⟨rest, by simp, pre ++ [x], by simp [e], by simp, by omega, ⟨o2.length, es ++ [canL cs], ?_, by omega, .inr ⟨by simp, a3⟩⟩, fun i hi => ?_⟩
    · refine OwnL.snoc (m := m) (a := o'.length + 1) (hL.keep (fun i i1 i2 => ?_) (Nat.le_refl _) (Nat.le_refl _)) (by omega) (hO'.keep (fun i i1 i2 => ?_) (Nat.le_refl _) (Nat.le_refl _))
      · have hi : i < o'.length := by omega
        rw [a4 i _ (List.getElem?_eq_getElem (show i < o2.length by omega)) (fun n f => hvm i n f (.inl i2)), ← List.getElem?_eq_getElem, K2' i hi]
      · rw [a4 i _ (List.getElem?_eq_getElem i2) (fun n f => hvm i n f (.inr i1)), List.getElem?_eq_getElem]
    · rw [a4 i _ (List.getElem?_eq_getElem (show i < o2.length by omega)) (fun n f => hvm i n f (.inl (by omega))), ← List.getElem?_eq_getElem, K2' i (by omega), K i hi]

theorem pcopyI_eq : ∀ (p : Pf), p.ok → p.sm → CopyI 1000018 p
  | .mk r h nw v b t c les chs cu ps, hok, hs, o, ro, df, hro => by
    simp only [Pf.ok] at hok
    obtain ⟨_, _, _, _, ot, oc, _, _, _, _, ops⟩ := hok
    simp only [Pf.sm] at hs
    obtain ⟨s1, s2, s3, s4, s5, s6, s7, s8, s9⟩ := hs
    have hl := okPf_iff.1 ops
    have hm := smPf_iff.1 s9
    have c1 := fun o ro df => copy_eq t ot s1 o ro df
    have c2 := fun o ro df => ccopy_eq c oc s2 o ro df
    have c3 := fun o ro df => eachLemma_eq 45 les s3 (fun x hx o ro df => clemma_eq x (s4 x hx) o ro df) o ro df
    have c4 := fun o ro df => eachChain_eq 48 chs s5 (fun x hx o ro df => cchain_eq x (s6 x hx) o ro df) o ro df
    have c5 := fun o ro df => ccut_eq cu s7 o ro df
    have f0 := pflat (.mk r h nw v b t c les chs cu ps)
    have x1 := p_take (.mk r h nw v b t c les chs cu ps)
    obtain ⟨V, o2, c6, hV, hle, K⟩ := eachI_eq 1000018 ps s8 (fun x hx => pcopyI_eq x (hl x hx) (hm x hx)) (o ++ [Obj.arr 42 24 [(Pf.mk r h nw v b t c les chs cu ps).cells], Obj.arr 42 24 [[.int .i64 0, .str ⟨#[]⟩, .str ⟨#[]⟩, .str ⟨#[]⟩, .bool false, .int .i64 0, .str ⟨#[]⟩, .int .i64 0, .fsl 4 [], .int .i64 0, .str ⟨#[]⟩, .str ⟨#[]⟩, .fsl 4 [], .fsl 5 [], .fsl 8 [], .fsl 2 [], .int .i64 0, .fsl 1 [], .fsl 1 [], .int .i64 0, .int .i64 0, .fsl 2 [], .fsl 7 [], .fsl 24 []]]]) ro [] (by simp; omega)
    have g1 : o2[o.length]? = some (Obj.arr 42 24 [(Pf.mk r h nw v b t c les chs cu ps).cells]) := by rw [K _ (by simp)]; simp
    have g2 : o2[o.length + 1]? = some (Obj.arr 42 24 [[.int .i64 0, .str ⟨#[]⟩, .str ⟨#[]⟩, .str ⟨#[]⟩, .bool false, .int .i64 0, .str ⟨#[]⟩, .int .i64 0, .fsl 4 [], .int .i64 0, .str ⟨#[]⟩, .str ⟨#[]⟩, .fsl 4 [], .fsl 5 [], .fsl 8 [], .fsl 2 [], .int .i64 0, .fsl 1 [], .fsl 1 [], .int .i64 0, .int .i64 0, .fsl 2 [], .fsl 7 [], .fsl 24 []]]) := by rw [K _ (by simp)]; simp
    have l1 := lt_of_getO g1
    have l2 := lt_of_getO g2
    have hF : (Pf.mk r h nw v b t c les chs cu ps).front = (Pf.mk r h nw v b t c les chs cu ps).front := rfl
    have key : ∀ (sv : AV) (o3 : List Obj), o3.length = o2.length → (∀ i, o.length + 2 ≤ i → o3[i]? = o2[i]?) → sv = V ∨ sv = canA V → OwnP o3 (.mk r h nw v b t c les chs cu ps) o.length o3.length ((Pf.mk r h nw v b t c les chs cu ps).front ++ [sv]) := by
      intro sv o3 k1 k2 k3
      obtain ⟨m, es, hL, hm, hv⟩ := hV
      have hlen := hL.len
      have hm0 := hL.le
      simp only [List.length_append, List.length_cons, List.length_nil, Nat.zero_add] at hL hm0
      rw [OwnP]
      refine ⟨by omega, sv, rfl, ?_⟩
      rcases hv with ⟨rfl, rfl⟩ | ⟨rfl, hq⟩
      · refine .inl ⟨List.eq_nil_of_length_eq_zero (by simpa using hlen.symm), .inr ?_⟩
        rcases k3 with rfl | rfl <;> rfl
      · refine .inr ⟨m, es, ?_, by rw [k2 m (by omega)]; exact hq, by omega, by have := lt_of_getO hq; omega, hL.keep (fun i i1 i2 => k2 i (by omega)) (by omega) (Nat.le_refl _)⟩
        rcases k3 with rfl | rfl <;> simp [hlen]
    have hVc : V.one = true ∧ canA V = V := by
      obtain ⟨m, es, hL, hm, hv⟩ := hV
      rcases hv with ⟨rfl, rfl⟩ | ⟨rfl, hq⟩ <;> exact ⟨rfl, rfl⟩
    obtain ⟨hV1, hV2⟩ := hVc
    have hV3 : V = .fsl 24 [] ∨ ∃ m n, V = .own m 0 n false := by
      obtain ⟨m, es, hL, hm, hv⟩ := hV
      rcases hv with ⟨rfl, rfl⟩ | ⟨rfl, hq⟩
      · exact .inl rfl
      · exact .inr ⟨_, _, rfl⟩
    clear hV hl hm
    obtain ⟨t0, t1, t2, t3⟩ := t
    obtain ⟨a0, a1, a2, a3, a4⟩ := c
    obtain ⟨kd, fr0, by0, dv, kk, ms, cs⟩ := cu
    suffices hh : ∃ v' st', (D T).call 1000018 [.agg (Pf.mk r h nw v b (.mk t0 t1 t2 t3) (.mk a0 a1 a2 a3 a4) les chs (.mk kd fr0 by0 dv kk ms cs) ps).cells] ⟨o, ro, df⟩ = some (v', st') ∧ (fun v' st' => ∃ cc o', v' = .agg cc ∧ st' = ⟨o', ro, df⟩ ∧ (∃ sv, cc = (Pf.mk r h nw v b (.mk t0 t1 t2 t3) (.mk a0 a1 a2 a3 a4) les chs (.mk kd fr0 by0 dv kk ms cs) ps).front ++ [sv] ∧ (sv = V ∨ sv = canA V)) ∧ o'.length = o2.length ∧ (∀ i, i < o.length ∨ o.length + 2 ≤ i → o'[i]? = o2[i]?)) v' st' by
      obtain ⟨_, _, h1, cs', o', rfl, rfl, ⟨sv, rfl, hsv⟩, h3, h4⟩ := hh
      refine ⟨_, o', h1, key sv o' h3 (fun i hi => h4 i (.inr hi)) hsv, by omega, fun i hi => ?_⟩
      rw [h4 i (.inl hi), K i (by simp; omega), List.getElem?_append_left hi]
    clear key K hF
    simp only [Tm.av, Tm.cells_mk, Cl.av, Cl.cells_mk, Cu.cells_mk] at c1 c2 c5
    simp only [Pf.cells_all] at f0 x1 g1 c6 ⊢
    simp only [Pf.front, Tm.cells_mk, Cl.cells_mk, Cu.cells_mk, List.cons_append, List.nil_append]
    simp only [AV.flatL, AV.flat, Bool.and_eq_true, Bool.true_and, Bool.and_true] at f0
    generalize List.map Tm.cells t3 = Q1 at *
    generalize List.map Tm.cells a3 = Q2 at *
    generalize List.map Cl.cells a4 = Q3 at *
    generalize List.map Lm.cells les = Q4 at *
    generalize List.map Ch.cells chs = Q5 at *
    generalize List.map Cu.cells cs = Q6 at *
    generalize List.map Pf.cells ps = Q7 at *
    generalize intA fr0 = Q8 at *
    generalize intA by0 = Q9 at *
    generalize moA ms = Q10 at *
    apply call_for (by exact rfl : T 1000018 = some _) (by simp)
    intro fr hfr hsl
    have s0 := hsl 0 _ rfl
    have l3 : ro ≤ o.length + 1 := by omega
    rcases hV3 with rfl | ⟨m, n, rfl⟩
    · simp -implicitDefEqProofs [hfr, s0, get_base0, get_base, set_base0, set_base, c1, c2, c3, c4, c5, c6, f0, g1, g2, l1, l2, l3, hro, -getElem?_pos, List.getElem?_cons_zero, List.getElem?_cons_succ]
      intro i hi
      rw [List.getElem?_set_ne (by omega), List.getElem?_set_ne (by omega)]
    · simp -implicitDefEqProofs [hfr, s0, get_base0, get_base, set_base0, set_base, c1, c2, c3, c4, c5, c6, f0, g1, g2, l1, l2, l3, hro, -getElem?_pos, List.getElem?_cons_zero, List.getElem?_cons_succ]
      intro i hi
      rw [List.getElem?_set_ne (by omega), List.getElem?_set_ne (by omega)]
termination_by t => SizeOf.sizeOf t
decreasing_by
  have := List.sizeOf_lt_of_mem hx
  simp
  omega

end Go.Proofs.YtkecobdhgabknaaDoor.A
/- A way: by value, or as an own list. -/
namespace Go.Proofs.YtkecobdhgabknaaDoor.A
open Go
set_option maxRecDepth 10000
set_option linter.unusedSimpArgs false
set_option linter.unusedVariables false
attribute [-simp] List.all_eq_true put slot_def ld idxA lenOf elems canA app hand

/-- a list of numbers by value, or the literal while it is empty -/
def Iv (v : AV) (l : List Int) : Prop := v = .sl 1 (intA l) ∨ (v = .fsl 1 [] ∧ l = [])
theorem Iv.hand {v : AV} {l : List Int} (h : Iv v l) (n : Nat) (o : List Obj) : hand n o v = some (.sl 1 (intA l)) := by
  rcases h with rfl | ⟨rfl, rfl⟩
  · simp [intA_flat]
  · simp [intA]
theorem Iv.can {v : AV} {l : List Int} (h : Iv v l) : canA v = v := by
  rcases h with rfl | ⟨rfl, rfl⟩ <;> rfl
theorem iv_sl (l : List Int) : Iv (.sl 1 (intA l)) l := .inl rfl
theorem intA_app (l k : List Int) : intA (l ++ k) = intA l ++ intA k := by simp [intA]

theorem dPL_mem : ∀ {ps : List Pf} {x : Pf}, x ∈ ps → dP x ≤ dPL ps
  | a :: l, x, hx => by
    simp only [dPL]
    rcases List.mem_cons.1 hx with rfl | hx
    · split <;> omega
    · have := dPL_mem hx; split <;> omega

theorem cmT (t u : Tm) : (cm t u == 0) = tmEq t u := by
  rw [Bool.eq_iff_iff, ← cm_tm t u]; simp
theorem ccmC (t u : Cl) : (ccm t u == 0) = clEq t u := by
  rw [Bool.eq_iff_iff, ← ccm_cl t u]; simp
/-- the way so far: the literal, or an own list -/
def Wy (o : List Obj) (v : AV) (w : List Int) : Prop := (v = .fsl 1 [] ∧ w = []) ∨ ∃ q, v = .own q 0 w.length false ∧ o[q]? = some (.arr 3 1 (intA w))
theorem Wy.can {o : List Obj} {v : AV} {w : List Int} (h : Wy o v w) : canA v = v := by
  rcases h with ⟨rfl, rfl⟩ | ⟨q, rfl, h⟩ <;> rfl
theorem Wy.clone {o : List Obj} {v : AV} {w : List Int} (h : Wy o v w) (hw : w.length ≤ 1000) (ro : Nat) (df : List Nat) : (D T).call 33 [v] ⟨o, ro, df⟩ = some (.sl 1 (intA w), ⟨o, ro, df⟩) := by
  rw [D_ext _ _ (by rfl)]
  rcases h with ⟨rfl, rfl⟩ | ⟨q, rfl, h⟩
  · rfl
  · have he : elems ⟨o, ro, df⟩ (.own q 0 w.length false) = some (1, intA w) := by
      have hl := intA_len w
      simp [elems, St.arr?, h, ← hl]
    have hf := intA_flat w
    have hl := intA_len w
    generalize intA w = I at *
    cases I with
    | nil => simp only [ext, exClone, he]
    | cons e es =>
      have hr : room (es.length + 1) 8 = true := by
        simp only [List.length_cons] at hl
        simp [room]; omega
      simp only [ext, exClone, he, hr, hf, and_self, if_true, cond_false]

theorem Wy.len {o : List Obj} {v : AV} {w : List Int} (h : Wy o v w) : lenOf v = some w.length := by
  rcases h with ⟨rfl, rfl⟩ | ⟨q, rfl, h⟩ <;> rfl

end Go.Proofs.YtkecobdhgabknaaDoor.A
