/- facts.check and cuts.Check. -/
import Derived.Test.YtgabnhmjlhhojaaQ14
namespace Go.Proofs.Ytgabnhmjlhhojaa.A
open Go
set_option maxRecDepth 10000
set_option linter.unusedSimpArgs false
set_option linter.unusedVariables false
attribute [-simp] List.all_eq_true put slot_def ld idxA lenOf elems canA app hand slc add64A

theorem divP_ok {l : Li} {d : Int} (h : LiOk l) (hd : 1 ≤ d) : LiOk (divP l d) := by
  refine ⟨ceil_rng h.1 hd, fun m hm => ?_, by simp [divP, dvM]; exact h.2.2⟩
  simp only [divP, dvM, List.mem_map] at hm
  obtain ⟨x, hx, rfl⟩ := hm
  exact ⟨(h.2.1 x hx).1, tdiv_rng (h.2.1 x hx).2 hd⟩
theorem iz_ok : LiOk iz.1 := ⟨by simp [iz, inI64], by simp [iz], by simp [iz]⟩
theorem iSumP_ok (l : List Iq) (b : List Int) (d : Int) : LiOk (iSumP l b d).1.1 := by
  unfold iSumP
  split
  · exact iz_ok
  · rename_i h
    split
    · exact iz_ok
    · split
      · exact iz_ok
      · split
        · exact iz_ok
        · exact divP_ok (lSumP_ok _ _) (by omega)
theorem inotP_ok (q : Iq) : LiOk (inotP q).1.1 := by
  unfold inotP
  split
  · exact iz_ok
  · split
    · exact iz_ok
    · split
      · exact iz_ok
      · exact lSumP_ok _ _

theorem pe_mk {kd : Int} {fr b : List Int} {dv k : Int} {ms : List (Int × Int)} {cs : List Cu} (h : pe (.mk kd fr b dv k ms cs) = 0) :
    (kd = 1 ∧ cs.length = 0 ∧ fr.length = 1 ∨ kd = 2 ∧ cs.length = 1 ∧ fr.length ≠ 0 ∧ fr.length = b.length ∨ kd = 3 ∧ cs.length = 2) ∧ peL cs = 0 := by
  simp only [pe] at h
  split at h
  · rename_i hh; exact absurd h hh
  · rename_i hh
    have he : er31 (.mk kd fr b dv k ms cs) = 0 := by simpa using hh
    refine ⟨?_, h⟩
    simp only [er31] at he
    split at he
    · omega
    · rename_i hk
      cases ha : ar31 kd cs.length fr.length b.length with
      | true => rw [ha] at he; simp at he
      | false =>
        simp only [ar31, Bool.or_eq_false_iff, Bool.and_eq_false_iff, decide_eq_false_iff_not] at ha
        omega
theorem peL_mem : ∀ {l : List Cu}, peL l = 0 → ∀ c ∈ l, pe c = 0
  | x :: l, h, c, hc => by
    simp only [peL] at h
    split at h
    · rename_i hh; exact absurd h hh
    · rename_i hh
      rcases List.mem_cons.1 hc with rfl | hc
      · simpa using hh
      · exact peL_mem h c hc

theorem len1 {α : Type} {l : List α} (h : l.length = 1) : ∃ a, l = [a] := by
  match l, h with
  | [a], _ => exact ⟨a, rfl⟩
theorem len2 {α : Type} {l : List α} (h : l.length = 2) : ∃ a b, l = [a, b] := by
  match l, h with
  | [a, b], _ => exact ⟨a, b, rfl⟩

theorem sumA_ok {l : List Iq} {ns b : List Int} {dv : Int} (h : (sumA l ns b dv).2 = 0) : (sumA l ns b dv).1.length = 1 ∧ l.length < 1024 ∧ ∀ q ∈ (sumA l ns b dv).1, LiOk q.1 := by
  unfold sumA at h ⊢
  split at h
  · rename_i hh; exact absurd h hh
  · rename_i h1
    split at h
    · rename_i hh; exact absurd h hh
    · rename_i h2
      rw [if_neg h1, if_neg h2]
      refine ⟨rfl, ?_, ?_⟩
      · simp only [fullE] at h; split at h <;> omega
      · intro q hq; rw [List.mem_singleton.1 hq]; exact iSumP_ok _ _ _
theorem splitA_ok {l : List Iq} {k : Int} {ms : List (Int × Int)} (hm : LiOk (k, ms)) (h : (splitA l k ms).2 = 0) : (splitA l k ms).1.length = 2 ∧ l.length < 1024 ∧ ∀ q ∈ (splitA l k ms).1, LiOk q.1 := by
  unfold splitA at h ⊢
  split at h
  · simp at h
  · rename_i h1
    split at h
    · rename_i hh; exact absurd h hh
    · rename_i h2
      rw [if_neg h1, if_neg h2]
      refine ⟨rfl, ?_, ?_⟩
      · simp only [fullE] at h; split at h <;> omega
      · intro q hq
        rcases List.mem_cons.1 hq with rfl | hq
        · exact hm
        · rw [List.mem_singleton.1 hq]; exact inotP_ok _

theorem hand1_i (n : Nat) (o : List Obj) (k : IntKind) (x : Int) : hand1 n o (.int k x) = some (.int k x) := rfl
theorem chk_eq : ∀ (c : Cu), c.ok → c.sm → pe c = 0 → ∀ (l : List Iq), l.length ≤ 1024 → (∀ q ∈ l, LiOk q.1) → ∀ (v vw : AV) (w : List Int) (o : List Obj) (ro : Nat) (df : List Nat), Fs o v (l.map iqA) → Wy o vw w → w.length + cdp c ≤ 1000000 →
    ∃ v', (D T).call 37 [v, .agg c.cells, vw] ⟨o, ro, df⟩ = some (.tup [v', .int .i64 (ckC c l w).2], ⟨o, ro, df⟩) ∧ Wr vw w v' (ckC c l w).1
  | .mk kd fr0 by0 dv k ms cs, hok, hsm, hpe, l, hl, hL, v, vw, w, o, ro, df, hv, hw, hd => by
    have hE : ckC (.mk kd fr0 by0 dv k ms cs) l w = if (askA l (.mk kd fr0 by0 dv k ms cs)).2 ≠ 0 then (w, (askA l (.mk kd fr0 by0 dv k ms cs)).2) else ckL cs l (askA l (.mk kd fr0 by0 dv k ms cs)).1 0 w := rfl
    simp only [Cu.ok] at hok
    obtain ⟨o1, o2, o3, o4, o5, o6, _, o7⟩ := hok
    have hok' := okCu_iff.1 o7
    simp only [Cu.sm] at hsm
    obtain ⟨m1, m2, m3, m4, m5⟩ := hsm
    have hsm' := smCu_iff.1 m5
    obtain ⟨hk, hpl⟩ := pe_mk hpe
    have hpe' := peL_mem hpl
    simp only [cdp] at hd
    have h0 := cdpL_pos cs
    have hwl : w.length ≤ 1000000 := by omega
    have hdl : ∀ x ∈ cs, cdp x ≤ cdpL cs := fun x hx => cdp_mem hx
    have hlm : LiOk (k, ms) := ⟨o5, fun m hm => o6.1 m hm, m3⟩
    have hbi : ∀ x ∈ by0, inI64 x := fun x hx => o3.1 x hx
    have ih : ∀ (more : List Iq), (∀ q ∈ more, LiOk q.1) → l.length < 1024 → ∀ x ∈ cs, ∀ (i : Nat), i < more.length → ∀ (vw' : AV) (w' : List Int) (o' : List Obj) (ro : Nat) (df : List Nat), w'.length = w.length + 1 → Wy o' vw' w' →
        ∃ v', (D T).call 37 [.sl 3 ((l ++ [more.getD i iz]).map iqA), .agg x.cells, vw'] ⟨o', ro, df⟩ = some (.tup [v', .int .i64 (ckC x (l ++ [more.getD i iz]) w').2], ⟨o', ro, df⟩) ∧ Wr vw' w' v' (ckC x (l ++ [more.getD i iz]) w').1 :=
      fun more hmo hll x hx i hi vw' w' o' ro df hwl' hw' => chk_eq x (hok' x hx) (hsm' x hx) (hpe' x hx) (l ++ [more.getD i iz]) (by simp; omega)
        (fun q hq => by
          rcases List.mem_append.1 hq with hq | hq
          · exact hL q hq
          · rw [List.mem_singleton.1 hq, List.getD_eq_getElem?_getD, List.getElem?_eq_getElem hi]
            exact hmo _ (by simp)) _ vw' w' o' ro df (.inl rfl) hw' (by have := hdl x hx; omega)
    have hcan := hw.can
    have hcv : canA v = v := hv.ls.can
    generalize ckC (.mk kd fr0 by0 dv k ms cs) l w = R at hE ⊢
    suffices hh : ∃ v' st', (D T).call 37 [v, .agg (Cu.mk kd fr0 by0 dv k ms cs).cells, vw] ⟨o, ro, df⟩ = some (v', st') ∧ (fun v' st' => ∃ u, v' = .tup [u, .int .i64 R.2] ∧ st' = ⟨o, ro, df⟩ ∧ Wr vw w u R.1) v' st' by
      obtain ⟨_, _, g1, u, rfl, rfl, g2⟩ := hh
      exact ⟨u, g1, g2⟩
    obtain ⟨RR, hRR⟩ : ∃ RR : AV → St → Prop, RR = (fun v' st' => ∃ u, v' = .tup [u, .int .i64 R.2] ∧ st' = ⟨o, ro, df⟩ ∧ Wr vw w u R.1) := ⟨_, rfl⟩
    rw [← hRR]
    have kR : ∀ u, Wr vw w u R.1 → RR (.tup [u, .int .i64 R.2]) ⟨o, ro, df⟩ := fun u h => by rw [hRR]; exact ⟨u, rfl, rfl, h⟩
    clear hRR
    have hwh : ∀ (o2 : List Obj), (∀ (i : Nat) (y : Obj), o[i]? = some y → o2[i]? = some y) → ∃ u, hand1 o.length o2 vw = some u ∧ Wr vw w u w := by
      intro o2 ho
      rcases hw with ⟨rfl, rfl⟩ | ⟨q, rfl, hq⟩
      · exact ⟨.sl 1 [], rfl, .inl rfl⟩
      · have := lt_of_getO hq
        exact ⟨_, by simp [this], .inr ⟨rfl, rfl⟩⟩
    have hEnd := fun (h : fr0 ≠ []) m ro df => end_eq l (by omega) hL v kd fr0 by0 dv k ms cs m1 h (o ++ m) (hv.push m) ro df
    have hSum := fun m ro df => sum_eq l (by omega) hL v kd fr0 by0 dv k ms cs m1 m2 hbi (o ++ m) (hv.push m) ro df
    have hSpl := fun m ro df => split_eq l v kd fr0 by0 dv k ms cs hlm (o ++ m) (hv.push m) ro df
    have hA : askA l (.mk kd fr0 by0 dv k ms cs) = if kd = 2 then sumA l fr0 by0 dv else if kd = 3 then splitA l k ms else ([], endE l fr0) := rfl
    simp only [Cu.av, Cu.cells_mk] at hEnd hSum hSpl ⊢
    apply call_for (by exact rfl : T 37 = some _) (by simp)
    intro fr hfr hsl
    have s0 := hsl 0 _ rfl
    have s1 := hsl 1 _ rfl
    have s2 := hsl 2 _ rfl
    obtain ⟨u1, hu1, hu2⟩ := hwh (o ++ [Obj.arr 29 7 [[.int .i64 kd, .sl 1 (intA fr0), .sl 1 (intA by0), .int .i64 dv, .int .i64 k, .sl 2 (moA ms), .sl 7 (cs.map Cu.cells)]]]) (fun i y h => getO_push h _)
    have hcl : (cs.map Cu.cells).length = cs.length := by simp
    rcases hk with ⟨rfl, k1, k2⟩ | ⟨rfl, k1, k2, k3⟩ | ⟨rfl, k1⟩
    · rw [if_neg (by omega), if_neg (by omega)] at hA
      rw [hA] at hE
      have hEnd := hEnd (by intro h; rw [h] at k2; simp at k2)
      have : cs = [] := List.eq_nil_of_length_eq_zero k1
      subst this
      simp only [ckL] at hE
      generalize endE l fr0 = E at *
      by_cases hz : E = 0
      · rw [if_neg (by simpa using hz)] at hE
        subst hz hE
        have l0 := fun o1 hv1 Q fr => chk_l0 [] (by simp) l [] (by omega) (by simp) v vw w o o1 hv1 o.length rfl hwl (by simp) ([], 0) rfl Q fr
        have en : ([] : List Cu).map Cu.cells = [] := rfl
        have em : ([] : List Iq).map iqA = [] := rfl
        rw [en] at s1 hEnd l0
        rw [em] at l0
        generalize intA fr0 = F at *
        generalize intA by0 = B at *
        generalize moA ms = M at *
        simp -implicitDefEqProofs [hfr, s0, s1, s2, hEnd, hcv, hcan, get_base0, -getElem?_pos, List.getElem?_cons_zero, List.getElem?_cons_succ]
        refine l0 _ (hv.push _) _ _ (by simp [hfr]) (by simp [hfr, s0]) (by simp [hfr, s2]) (by simp [hfr]) (by simp [hfr]) (by simp [hfr]) (by simp [hfr]) (by simp) (hw.push _) ?_ ?_
        · intro fr' o2 hfr' _
          simp -implicitDefEqProofs [hfr']
          exact kR _ (.inl rfl)
        · intro fr' o2 v' hfr' r6 r7 r8
          simp -implicitDefEqProofs [hfr', r6, r7, r8, hand1_i, -hand1]
          exact kR _ (.inl rfl)
      · have hzb : (E != 0) = true := bne_iff_ne.2 hz
        rw [if_pos hz] at hE
        subst hE
        generalize intA fr0 = F at *
        generalize intA by0 = B at *
        generalize moA ms = M at *
        generalize ([] : List Cu).map Cu.cells = C at *
        simp -implicitDefEqProofs [hfr, s0, s1, s2, hEnd, hcv, hcan, hzb, hu1, hand1_i, -hand1, get_base0, -getElem?_pos, List.getElem?_cons_zero, List.getElem?_cons_succ]
        exact kR _ hu2
    · rw [if_pos rfl] at hA
      rw [hA] at hE
      have hA2 := fun h => sumA_ok (l := l) (ns := fr0) (b := by0) (dv := dv) h
      generalize sumA l fr0 by0 dv = S at *
      obtain ⟨more, E⟩ := S
      simp only at hE hA2 hSum
      by_cases hz : E = 0
      · rw [if_neg (by simpa using hz)] at hE
        subst hz
        obtain ⟨a1, a2, a3⟩ := hA2 rfl
        have l0 := fun o1 hv1 Q fr => chk_l0 cs m4 l more (by omega) (by omega) v vw w o o1 hv1 o.length rfl hwl (ih more a3 a2) R hE Q fr
        generalize intA fr0 = F at *
        generalize intA by0 = B at *
        generalize moA ms = M at *
        generalize cs.map Cu.cells = C at *
        generalize more.map iqA = MA at *
        simp -implicitDefEqProofs [hfr, s0, s1, s2, hSum, hcv, hcan, hcl, get_base0, -getElem?_pos, List.getElem?_cons_zero, List.getElem?_cons_succ]
        refine l0 _ (hv.push _) _ _ (by simp [hfr]) (by simp [hfr, s0]) (by simp [hfr, s2]) (by simp [hfr]) (by simp [hfr]) (by simp [hfr]) (by simp [hfr]) (by simp) (hw.push _) ?_ ?_
        · intro fr' o2 hfr' hR
          subst hR
          simp -implicitDefEqProofs [hfr']
          exact kR _ (.inl rfl)
        · intro fr' o2 v' hfr' r6 r7 r8
          simp -implicitDefEqProofs [hfr', r6, r7, r8, hand1_i, -hand1]
          exact kR _ (.inl rfl)
      · have hzb : (E != 0) = true := bne_iff_ne.2 hz
        rw [if_pos hz] at hE
        subst hE
        generalize intA fr0 = F at *
        generalize intA by0 = B at *
        generalize moA ms = M at *
        generalize cs.map Cu.cells = C at *
        generalize more.map iqA = MA at *
        simp -implicitDefEqProofs [hfr, s0, s1, s2, hSum, hcv, hcan, hzb, hu1, hand1_i, -hand1, get_base0, -getElem?_pos, List.getElem?_cons_zero, List.getElem?_cons_succ]
        exact kR _ hu2
    · rw [if_neg (by omega), if_pos rfl] at hA
      rw [hA] at hE
      have hA2 := fun h => splitA_ok (l := l) hlm h
      generalize splitA l k ms = S at *
      obtain ⟨more, E⟩ := S
      simp only at hE hA2 hSpl
      by_cases hz : E = 0
      · rw [if_neg (by simpa using hz)] at hE
        subst hz
        obtain ⟨a1, a2, a3⟩ := hA2 rfl
        have l0 := fun o1 hv1 Q fr => chk_l0 cs m4 l more (by omega) (by omega) v vw w o o1 hv1 o.length rfl hwl (ih more a3 a2) R hE Q fr
        generalize intA fr0 = F at *
        generalize intA by0 = B at *
        generalize moA ms = M at *
        generalize cs.map Cu.cells = C at *
        generalize more.map iqA = MA at *
        simp -implicitDefEqProofs [hfr, s0, s1, s2, hSpl, hcv, hcan, hcl, get_base0, -getElem?_pos, List.getElem?_cons_zero, List.getElem?_cons_succ]
        refine l0 _ (hv.push _) _ _ (by simp [hfr]) (by simp [hfr, s0]) (by simp [hfr, s2]) (by simp [hfr]) (by simp [hfr]) (by simp [hfr]) (by simp [hfr]) (by simp) (hw.push _) ?_ ?_
        · intro fr' o2 hfr' hR
          subst hR
          simp -implicitDefEqProofs [hfr']
          exact kR _ (.inl rfl)
        · intro fr' o2 v' hfr' r6 r7 r8
          simp -implicitDefEqProofs [hfr', r6, r7, r8, hand1_i, -hand1]
          exact kR _ (.inl rfl)
      · have hzb : (E != 0) = true := bne_iff_ne.2 hz
        rw [if_pos hz] at hE
        subst hE
        generalize intA fr0 = F at *
        generalize intA by0 = B at *
        generalize moA ms = M at *
        generalize cs.map Cu.cells = C at *
        generalize more.map iqA = MA at *
        simp -implicitDefEqProofs [hfr, s0, s1, s2, hSpl, hcv, hcan, hzb, hu1, hand1_i, -hand1, get_base0, -getElem?_pos, List.getElem?_cons_zero, List.getElem?_cons_succ]
        exact kR _ hu2
termination_by c => SizeOf.sizeOf c
decreasing_by
  have := List.sizeOf_lt_of_mem hx
  simp
  omega

end Go.Proofs.Ytgabnhmjlhhojaa.A
