/- Cuts: small ones; End, Sum and Split of the program. -/
import Derived.Test.YtgabnhmjlhhojaaZ6
import Derived.Test.YtgabnhmjlhhojaaZ1
namespace Go.Proofs.Ytgabnhmjlhhojaa.A
open Go
set_option maxRecDepth 10000
set_option linter.unusedSimpArgs false
set_option linter.unusedVariables false
attribute [-simp] List.all_eq_true put slot_def ld idxA lenOf elems canA app hand

theorem exClone_sl {ty sz bytes : Nat} (es : List (List AV)) (hf : AV.flatLL es = true) (hr : room es.length bytes = true) (st : St) : exClone ty sz bytes false [.sl sz es] st = some (.sl sz es, st) := by
  cases es with
  | nil => rfl
  | cons e l =>
    simp only [List.length_cons] at hr
    simp only [exClone, elems, hf, hr, and_self, if_true, cond_false]

theorem cloneI_eq (l : List Int) (hl : l.length ≤ 1000000) (st : St) : (D T).call 41 [.sl 1 (intA l)] st = some (.sl 1 (intA l), st) := by
  rw [D_ext _ _ (by rfl)]
  exact exClone_sl _ (intA_flat l) (by simp [room, intA_len]; omega) st
theorem cloneJ_eq (l : List Int) (hl : l.length ≤ 1000000) (st : St) : (D T).call 42 [.sl 1 (intA l)] st = some (.sl 1 (intA l), st) := by
  rw [D_ext _ _ (by rfl)]
  exact exClone_sl _ (intA_flat l) (by simp [room, intA_len]; omega) st
theorem cloneM_eq (l : List (Int × Int)) (hl : l.length ≤ 1000000) (st : St) : (D T).call 44 [.sl 2 (moA l)] st = some (.sl 2 (moA l), st) := by
  rw [D_ext _ _ (by rfl)]
  exact exClone_sl _ (moA_flat l) (by simp [room, moA_len]; omega) st

theorem small31_eq (c : Cu) (hok : c.ok) (o : List Obj) (ro : Nat) (df : List Nat) : (D T).call 17 [c.av] ⟨o, ro, df⟩ = some (.bool (decide (cw c 400 ≤ 400)), ⟨o, ro, df⟩) := by
  have f1 := fun st => weigh_eq c hok 400 st (by omega) (by omega)
  have x1 := cu_take c
  have x2 := cu_can c
  have x3 := culen c
  have x4 := cu_one c
  simp only [Cu.av] at f1
  apply call_by (by exact rfl : T 17 = some _) (by simp)
  intro fr hfr hsl
  have s0 := hsl 0 _ rfl
  simp only [Cu.av] at s0
  simp -implicitDefEqProofs [hfr, s0, f1, x1, x2, x3, x4, get_base0, -getElem?_pos, List.getElem?_cons_zero]

theorem cend_eq (n : Int) (o : List Obj) (ro : Nat) (df : List Nat) : (D T).call 22 [.int .i64 n] ⟨o, ro, df⟩ = some ((Cu.mk 1 [n] [] 0 0 [] []).av, ⟨o, ro, df⟩) := by
  apply call_by (by exact rfl : T 22 = some _) (by simp)
  intro fr hfr hsl
  have s0 := hsl 0 _ rfl
  simp -implicitDefEqProofs [hfr, s0, get_base0, set_base0, Cu.av, Cu.cells_mk, intA, moA, -getElem?_pos, List.getElem?_cons_zero]

theorem csum_eq (fs bs : List Int) (dv : Int) (c : Cu) (hf : fs.length ≤ 1000000) (hb : bs.length ≤ 1000000) (o : List Obj) (ro : Nat) (df : List Nat) :
    (D T).call 23 [.sl 1 (intA fs), .sl 1 (intA bs), .int .i64 dv, c.av] ⟨o, ro, df⟩ = some ((Cu.mk 2 fs bs dv 0 [] [c]).av, ⟨o, ro, df⟩) := by
  have c1 := fun st => cloneI_eq fs hf st
  have c2 := fun st => cloneJ_eq bs hb st
  have f1 := intA_flat fs
  have f2 := intA_flat bs
  have f3 := cuflat c
  have x1 := cu_take c
  have x2 := cu_can c
  have x3 := culen c
  have x4 := cu_one c
  apply call_by (by exact rfl : T 23 = some _) (by simp)
  intro fr hfr hsl
  have s0 := hsl 0 _ rfl
  have s1 := hsl 1 _ rfl
  have s2 := hsl 2 _ rfl
  have s3 := hsl 3 _ rfl
  simp only [Cu.av] at s3
  have em : moA [] = [] := rfl
  have g1 : AV.stillL [AV.sl 1 (intA fs)] = true := by simp [AV.stillL, AV.still, AV.flat, f1]
  have g2 : AV.stillL [AV.sl 1 (intA bs)] = true := by simp [AV.stillL, AV.still, AV.flat, f2]
  generalize hF : intA fs = F at *
  generalize hB : intA bs = B at *
  simp -implicitDefEqProofs [hfr, s0, s1, s2, s3, g1, g2, c1, c2, f1, f2, f3, x1, x2, x3, x4, get_base0, get_base, set_base0, set_base, Cu.av, Cu.cells_mk, em, hF, hB, -getElem?_pos, List.getElem?_cons_zero, List.getElem?_cons_succ]

theorem csplit_eq (k : Int) (ms : List (Int × Int)) (c d : Cu) (hm : ms.length ≤ 1000000) (o : List Obj) (ro : Nat) (df : List Nat) :
    (D T).call 27 [.agg [.int .i64 k, .sl 2 (moA ms)], c.av, d.av] ⟨o, ro, df⟩ = some ((Cu.mk 3 [] [] 0 k ms [c, d]).av, ⟨o, ro, df⟩) := by
  have c1 := fun st => cloneM_eq ms hm st
  have f1 := moA_flat ms
  have f3 := cuflat c
  have f4 := cuflat d
  have x1 := cu_take c
  have x2 := cu_can c
  have x3 := culen c
  have x4 := cu_one c
  have y1 := cu_take d
  have y2 := cu_can d
  have y3 := culen d
  have y4 := cu_one d
  apply call_by (by exact rfl : T 27 = some _) (by simp)
  intro fr hfr hsl
  have s0 := hsl 0 _ rfl
  have s1 := hsl 1 _ rfl
  have s2 := hsl 2 _ rfl
  simp only [Cu.av] at s1 s2
  have em : intA [] = [] := rfl
  have g1 : AV.stillL [AV.sl 2 (moA ms)] = true := by simp [AV.stillL, AV.still, AV.flat, f1]
  generalize hF : moA ms = F at *
  simp -implicitDefEqProofs [hfr, s0, s1, s2, g1, c1, f1, f3, f4, x1, x2, x3, x4, y1, y2, y3, y4, get_base0, get_base, set_base0, set_base, Cu.av, Cu.cells_mk, em, hF, -getElem?_pos, List.getElem?_cons_zero, List.getElem?_cons_succ]

mutual
/-- no list is long -/
def Cu.sm : Cu → Prop
  | .mk _ fr by' _ _ ms cs => fr.length ≤ 1000000 ∧ by'.length ≤ 1000000 ∧ ms.length ≤ 1000000 ∧ cs.length ≤ 1000000 ∧ smCu cs
def smCu : List Cu → Prop
  | [] => True
  | c :: l => c.sm ∧ smCu l
end
theorem smCu_iff : ∀ {l : List Cu}, smCu l ↔ ∀ t ∈ l, t.sm
  | [] => by simp [smCu]
  | t :: l => by simp [smCu, smCu_iff (l := l)]

mutual
theorem cw_pos : ∀ (c : Cu) (m : Int), 1 ≤ cw c m
  | .mk _ fr b _ _ ms cs, m => by
    have := cwL_ge cs m (1 + fr.length + b.length + ms.length)
    simp only [cw]; omega
theorem cwL_ge : ∀ (l : List Cu) (m n : Int), n ≤ cwL l m n
  | [], m, n => by simp [cwL]
  | c :: l, m, n => by
    simp only [cwL]
    split
    · have := cw_pos c (m - n)
      have := cwL_ge l m (n + cw c (m - n))
      omega
    · omega
end
mutual
theorem cw_sm : ∀ (c : Cu) (m : Int), m ≤ 1000000 → cw c m ≤ m → c.sm
  | .mk _ fr b _ _ ms cs, m, hm, h => by
    simp only [cw] at h
    have h1 := cwL_ge cs m (1 + fr.length + b.length + ms.length)
    have h2 := cwL_sm cs m _ (by omega) hm h
    simp only [Cu.sm]
    exact ⟨by omega, by omega, by omega, by omega, h2.1⟩
theorem cwL_sm : ∀ (l : List Cu) (m n : Int), 0 ≤ n → m ≤ 1000000 → cwL l m n ≤ m → smCu l ∧ n + l.length ≤ m
  | [], m, n, h0, hm, h => by simp [smCu]; simpa [cwL] using h
  | c :: l, m, n, h0, hm, h => by
    simp only [cwL] at h
    by_cases hn : n ≤ m
    · rw [if_pos hn] at h
      have h1 := cwL_ge l m (n + cw c (m - n))
      have h3 := cw_pos c (m - n)
      have h2 := cw_sm c (m - n) (by omega) (by omega)
      have h4 := cwL_sm l m _ (by omega) hm h
      simp only [smCu, List.length_cons]
      exact ⟨⟨h2, h4.1⟩, by omega⟩
    · rw [if_neg hn] at h
      omega
end

end Go.Proofs.Ytgabnhmjlhhojaa.A
/- What is known at a part: some facts, one more, the end, a sum, a split. -/
namespace Go.Proofs.Ytgabnhmjlhhojaa.A
open Go
set_option maxRecDepth 10000
set_option linter.unusedSimpArgs false
set_option linter.unusedVariables false
attribute [-simp] List.all_eq_true put slot_def ld idxA lenOf elems canA app hand add64A

theorem iq_flat (l : List Iq) : AV.flatLL (l.map iqA) = true := by
  induction l with
  | nil => rfl
  | cons q l ih => simp [AV.flatLL, iqA, AV.flatL, AV.flat, moA_flat, ih]

/-- facts by their numbers -/
def someA (l : List Iq) : List Int → List Iq → List Iq × Int
  | [], acc => (acc, 0)
  | n :: ns, acc => if 0 ≤ n ∧ n < l.length then someA l ns (acc ++ [l.getD n.toNat iz]) else ([], 3)

theorem some_eq (l : List Iq) (hl : l.length ≤ 1000000) (ns : List Int) (hn : ns.length ≤ 1000000) (o : List Obj) (v : AV) (hv : Ls o 3 v (l.map iqA)) (ro : Nat) (df : List Nat) :
    (D T).call 67 [v, .sl 1 (intA ns)] ⟨o, ro, df⟩ = some (.tup [.sl 3 ((someA l ns []).1.map iqA), .int .i64 (someA l ns []).2], ⟨o, ro, df⟩) := by
  have hlen : lenOf v = some l.length := by simpa using hv.len
  have hcan := hv.can
  obtain ⟨R, hR⟩ : ∃ R, R = someA l ns [] := ⟨_, rfl⟩
  rw [← hR]
  apply call_by (by exact rfl : T 67 = some _) (by simp)
  intro fr hfr hsl
  have s0 := hsl 0 _ rfl
  have s1 := hsl 1 _ rfl
  have ml := intA_len ns
  obtain ⟨M, hM⟩ : ∃ M, M = intA ns := ⟨_, rfl⟩
  rw [← hM] at s1 ml
  simp -implicitDefEqProofs [hfr, s0, s1, ml, get_base0, -getElem?_pos, List.getElem?_cons_zero]
  apply loop_inv L67_0.eq_1 List.length (fun (rest : List Int) fr st => ∃ pre acc o2 u, ns = pre ++ rest ∧ acc.length = pre.length ∧ R = someA l rest acc ∧ fr.length = 32 ∧ slot fr 0 = v ∧ slot fr 6 = u ∧ slot fr 9 = .sl 1 (intA ns) ∧ slot fr 10 = .int .i64 (ns.length : Int) ∧ slot fr 11 = .int .i64 (pre.length : Int) ∧
    st = ⟨o2, o.length, []⟩ ∧ Pre o o2 ∧ Gr o.length 51 3 o2 u (acc.map iqA)) ?_ ns
    ⟨[], [], o, .fsl 3 [], rfl, rfl, hR, by simp [hfr], by simp [hfr, s0], by simp [hfr], by simp [hfr, hM], by simp [hfr], by simp [hfr], rfl, Pre.refl o, .inl rfl⟩
  clear hR hfr s0 s1 hsl hM ml
  clear fr
  rintro rest fr _ ⟨pre, acc, o2, u, e, ha, hR, hfr, q0, q6, q9, q10, q11, rfl, hpre, gu⟩
  cases rest with
  | nil =>
    have hlt := idx_end e
    simp only [someA] at hR
    subst hR
    have hfl := iq_flat acc
    generalize acc.map iqA = A at *
    rcases gu with rfl | ⟨r, b1, rfl, b3⟩
    · simp -implicitDefEqProofs [hfr, q0, q6, q9, q10, q11, hlt, hfl]
    · simp -implicitDefEqProofs [hfr, q0, q6, q9, q10, q11, hlt, hfl, b3, show ¬ r < o.length by omega]
  | cons x rest =>
    obtain ⟨hlt, hg, hpl⟩ := idx_at e
    have hwi := idx_next e (by omega)
    have hg2 : (intA ns)[pre.length]? = some [.int .i64 x] := by simp [intA, hg]
    have ml := intA_len ns
    simp only [someA] at hR
    by_cases hx : 0 ≤ x ∧ x < l.length
    · rw [if_pos hx] at hR
      have hx1 : ¬ x < 0 := by omega
      have hx2 : ¬ x ≥ (l.length : Int) := by omega
      have hx3 : ¬ (l.length : Int) ≤ x := by omega
      obtain ⟨q, hq⟩ : ∃ q, l[x.toNat]? = some q := ⟨l[x.toNat]'(by omega), by simp [show x.toNat < l.length by omega]⟩
      have hq1 : l.getD x.toNat iz = q := by rw [List.getD_eq_getElem?_getD, hq]; rfl
      have hq2 : (l.map iqA)[x.toNat]? = some (iqA q) := by simp [hq]
      obtain ⟨p, p1, p2⟩ := hv.at hpre o.length [] hq2 rfl
      have p3 := p2 true
      simp only [val, if_true] at p3
      rw [show ((x.toNat : Nat) : Int) = x by omega] at p1
      rw [hq1] at hR
      have hpo := hpre.len
      obtain ⟨o3, a1, a2, a3, a4, a5⟩ := app_getP (bytes := 40) (ro := o.length) (df := []) hpre (by omega) gu (by omega) (x := .fsl 3 [iqA q]) (xs := [iqA q]) rfl (.inr (by simp)) (by simp [room]; omega)
      have gu2 := gr_new (lo := o.length) a3 (by omega) (n := pre.length + 1) (by simp [ha])
      have hm2 : acc.map iqA ++ [iqA q] = (acc ++ [q]).map iqA := by simp
      rw [hm2] at gu2
      simp only [List.length_cons, List.length_nil, Nat.zero_add, List.length_map, ha] at a1
      have hQ : iqA q = [.int .i64 q.1.1, .sl 2 (moA q.1.2), .bool q.2] := rfl
      rw [hQ] at p3 a1
      generalize intA ns = M at *
      generalize moA q.1.2 = M2 at *
      simp -implicitDefEqProofs [hfr, q0, q6, q9, q10, q11, hlt, hpl, hwi, hg2, ml, hlen, hx1, hx2, hx3, p1, p3, a1, -getElem?_pos, List.getElem?_cons_zero, List.getElem?_cons_succ]
      exact ⟨rest, by simp, pre ++ [x], by simp [e], acc ++ [q], by simp [ha], hR, by simp, a5, gu2⟩
    · rw [if_neg hx] at hR
      subst hR
      generalize intA ns = M at *
      by_cases hx1 : x < 0
      · simp -implicitDefEqProofs [hfr, q0, q6, q9, q10, q11, hlt, hpl, hwi, hg2, ml, hlen, hx1, -getElem?_pos, List.getElem?_cons_zero, List.getElem?_cons_succ]
      · have hx2 : x ≥ (l.length : Int) := by omega
        have hx3 : (l.length : Int) ≤ x := by omega
        simp -implicitDefEqProofs [hfr, q0, q6, q9, q10, q11, hlt, hpl, hwi, hg2, ml, hlen, hx1, hx2, hx3, -getElem?_pos, List.getElem?_cons_zero, List.getElem?_cons_succ]

theorem someA_len (l : List Iq) : ∀ (ns : List Int) (acc : List Iq), (someA l ns acc).2 = 0 → (someA l ns acc).1.length = acc.length + ns.length
  | [], acc, _ => by simp [someA]
  | n :: ns, acc, h => by
    simp only [someA] at h ⊢
    split at h
    · rename_i hx
      rw [if_pos hx, someA_len l ns _ h]; simp; omega
    · simp at h
theorem someA_mem (l : List Iq) : ∀ (ns : List Int) (acc : List Iq) (q : Iq), q ∈ (someA l ns acc).1 → q ∈ l ∨ q ∈ acc
  | [], acc, q, h => .inr (by simpa [someA] using h)
  | n :: ns, acc, q, h => by
    simp only [someA] at h
    split at h
    · rename_i hx
      rcases someA_mem l ns _ q h with h | h
      · exact .inl h
      · rcases List.mem_append.1 h with h | h
        · exact .inr h
        · have hlt : n.toNat < l.length := by omega
          rw [List.mem_singleton.1 h, List.getD_eq_getElem?_getD, List.getElem?_eq_getElem hlt]
          exact .inl (by simp)
    · simp at h

def fullE (l : List Iq) : Int := if 1024 ≤ l.length then 2 else 0
theorem full_eq (l : List Iq) (o : List Obj) (v : AV) (hv : Ls o 3 v (l.map iqA)) (ro : Nat) (df : List Nat) :
    (D T).call 70 [v] ⟨o, ro, df⟩ = some (.int .i64 (fullE l), ⟨o, ro, df⟩) := by
  have hlen : lenOf v = some l.length := by simpa using hv.len
  unfold fullE
  apply call_by (by exact rfl : T 70 = some _) (by simp)
  intro fr hfr hsl
  have s0 := hsl 0 _ rfl
  by_cases h : 1024 ≤ l.length
  · have h2 : (1024 : Int) ≤ l.length := by omega
    simp -implicitDefEqProofs [hfr, s0, hlen, h, h2, -getElem?_pos, List.getElem?_cons_zero]
  · have h2 : ¬ (1024 : Int) ≤ l.length := by omega
    simp -implicitDefEqProofs [hfr, s0, hlen, h, h2, -getElem?_pos, List.getElem?_cons_zero]

/-- the facts: a list by its elements, or an own one -/
def Fs (o : List Obj) (v : AV) (es : List (List AV)) : Prop := v = .sl 3 es ∨ v = .fsl 3 es ∨ ∃ r, v = .own r 0 es.length false ∧ o[r]? = some (.arr 51 3 es)
theorem Fs.ls {o : List Obj} {v : AV} {es : List (List AV)} (h : Fs o v es) : Ls o 3 v es := by
  rcases h with rfl | rfl | ⟨r, rfl, h⟩
  · exact ls_sl es
  · exact ls_fsl es
  · exact gr_ls (lo := 0) (ty := 51) (.inr ⟨r, by omega, rfl, h⟩)
theorem Fs.push {o : List Obj} {v : AV} {es : List (List AV)} (h : Fs o v es) (m : List Obj) : Fs (o ++ m) v es := by
  rcases h with rfl | rfl | ⟨r, rfl, h⟩
  · exact .inl rfl
  · exact .inr (.inl rfl)
  · exact .inr (.inr ⟨r, rfl, getO_push h m⟩)
theorem Fs.lsp {o : List Obj} {v : AV} {es : List (List AV)} (h : Fs o v es) (m : List Obj) : Ls (o ++ m) 3 v es := h.ls.pre ⟨m, rfl⟩
theorem Fs.more {o : List Obj} {v : AV} {es : List (List AV)} (h : Fs o v es) (hn : es.length ≤ 1000000) (X : Obj) (e : List AV) (ro : Nat) : ∃ sv, slc ⟨o ++ [X], ro, []⟩ 3 v none (some (.int .i64 (es.length : Int))) (some (.int .i64 (es.length : Int))) = some sv ∧
    app ⟨o ++ [X], ro, []⟩ 51 3 40 sv (.fsl 3 [e]) = some (.own (o.length + 1) 0 (es.length + 1) false, ⟨o ++ [X, .arr 51 3 (es ++ [e])], ro, []⟩) := by
  have hr : room (es.length + 1) 40 = true := by simp [room]; omega
  rcases h with rfl | rfl | ⟨r, rfl, h⟩
  · exact ⟨.fsl 3 es, by simp [slc, slcL], by simp [app, elems, hr]⟩
  · exact ⟨.fsl 3 es, by simp [slc, slcL], by simp [app, elems, hr]⟩
  · have h' : (o ++ [X])[r]? = some (.arr 51 3 es) := getO_push h _
    exact ⟨.own r 0 es.length true, by simp [slc, St.arr?, h'], by simp [app, elems, St.arr?, h', hr]⟩

theorem with_eq' (l : List Iq) (hl : l.length ≤ 1000000) (q : Iq) (v : AV) (o : List Obj) (hv : Fs o v (l.map iqA)) (ro : Nat) (df : List Nat) :
    (D T).call 58 [v, .agg (iqA q)] ⟨o, ro, df⟩ = some (.sl 3 ((l ++ [q]).map iqA), ⟨o, ro, df⟩) := by
  have hlen : lenOf v = some (l.map iqA).length := hv.ls.len
  have hm : (l ++ [q]).map iqA = l.map iqA ++ [iqA q] := by simp
  have hf := iq_flat (l ++ [q])
  have hQ : iqA q = [.int .i64 q.1.1, .sl 2 (moA q.1.2), .bool q.2] := rfl
  have hlm : (l.map iqA).length = l.length := by simp
  rw [hm, hQ] at hf ⊢
  obtain ⟨sv, hsc, hap⟩ := hv.more (by rw [hlm]; exact hl) (.arr 51 3 [[.int .i64 q.1.1, .sl 2 (moA q.1.2), .bool q.2]]) [.int .i64 q.1.1, .sl 2 (moA q.1.2), .bool q.2] o.length
  apply call_by (by exact rfl : T 58 = some _) (by simp)
  intro fr hfr hsl
  have s0 := hsl 0 _ rfl
  have s1 := hsl 1 _ rfl
  generalize moA q.1.2 = M at *
  generalize l.map iqA = A at *
  simp -implicitDefEqProofs [hfr, s0, s1, hlen, hsc, hap, get_base0, -slc, -slcL, -getElem?_pos, List.getElem?_cons_zero]
  have htk : List.take (A.length + 1) (A ++ [[.int .i64 q.1.1, .sl 2 M, .bool q.2]]) = A ++ [[.int .i64 q.1.1, .sl 2 M, .bool q.2]] := List.take_of_length_le (by simp)
  simp [hand, get_base, hf, htk, show ¬ o.length + 1 < o.length by omega]

def endE (l : List Iq) (ns : List Int) : Int := if (someA l ns []).2 ≠ 0 then (someA l ns []).2 else if iabs ((someA l ns []).1.getD 0 iz) then 0 else 30
theorem end_eq (l : List Iq) (hl : l.length ≤ 1000000) (hL : ∀ q ∈ l, LiOk q.1) (v : AV) (kd : Int) (fr0 by0 : List Int) (dv k : Int) (ms : List (Int × Int)) (cs : List Cu) (hfr0 : fr0.length ≤ 1000000) (h0 : fr0 ≠ []) (o : List Obj) (hv : Fs o v (l.map iqA)) (ro : Nat) (df : List Nat) :
    (D T).call 55 [v, (Cu.mk kd fr0 by0 dv k ms cs).av] ⟨o, ro, df⟩ = some (.tup [.sl 3 [], .int .i64 (endE l fr0)], ⟨o, ro, df⟩) := by
  have hs := fun m ro df => some_eq l hl fr0 hfr0 (o ++ m) v (hv.lsp m) ro df
  have hlen := someA_len l fr0 []
  have hmem := someA_mem l fr0 []
  have hcan := hv.ls.can
  unfold endE
  generalize someA l fr0 [] = S at *
  obtain ⟨A, E⟩ := S
  simp only at hs hlen hmem ⊢
  have hCm : (Cu.mk kd fr0 by0 dv k ms cs).av = .agg [.int .i64 kd, .sl 1 (intA fr0), .sl 1 (intA by0), .int .i64 dv, .int .i64 k, .sl 2 (moA ms), .sl 7 (cs.map Cu.cells)] := by simp only [Cu.av, Cu.cells_mk]
  rw [hCm]
  apply call_by (by exact rfl : T 55 = some _) (by simp)
  intro fr hfr hsl
  have s0 := hsl 0 _ rfl
  have s1 := hsl 1 _ rfl
  by_cases hE : E = 0
  · subst hE
    have hl1 := hlen rfl
    cases A with
    | nil => exact absurd (List.eq_nil_of_length_eq_zero (by simp at hl1; omega)) h0
    | cons q A =>
      have hq := iabs_eq q (by have := (hL q (by rcases hmem q (by simp) with h | h; exact h; simp at h)).2.2; omega)
      have hA : (q :: A).getD 0 iz = q := rfl
      rw [hA]
      generalize hQ2 : iabs q = b at *
      have hQ : iqA q = [.int .i64 q.1.1, .sl 2 (moA q.1.2), .bool q.2] := rfl
      have hM : (q :: A).map iqA = iqA q :: A.map iqA := rfl
      rw [hM, hQ] at hs
      rw [hQ] at hq
      generalize moA q.1.2 = M2 at *
      generalize intA fr0 = F at *
      generalize intA by0 = B at *
      generalize moA ms = M at *
      generalize cs.map Cu.cells = C at *
      generalize A.map iqA = A2 at *
      cases b <;>
      simp -implicitDefEqProofs [hfr, s0, s1, hs, hcan, hq, get_base0, -getElem?_pos, List.getElem?_cons_zero, List.getElem?_cons_succ]
  · have hEb : (E == 0) = false := by simpa using hE
    rw [if_pos hE]
    generalize intA fr0 = F at *
    generalize intA by0 = B at *
    generalize moA ms = M at *
    generalize cs.map Cu.cells = C at *
    simp -implicitDefEqProofs [hfr, s0, s1, hs, hcan, hEb, get_base0, -getElem?_pos, List.getElem?_cons_zero, List.getElem?_cons_succ]

end Go.Proofs.Ytgabnhmjlhhojaa.A
