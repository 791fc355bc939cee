/- Plain laws: the way ahead; right forms stay right; the document's Not is the program's. -/
import Derived.Test.YtgabnhmjlhhojaaU8
import Derived.Test.YtgabnhmjlhhojaaQ15
import Derived.Test.YtgabnhmjlhhojaaZ1
namespace Go.Proofs.Ytgabnhmjlhhojaa.A
open Go
set_option linter.unusedSimpArgs false
set_option linter.unusedVariables false

mutual
theorem ckC_w : ∀ (c : Cu) (l : List Iq) (w u : List Int), ckC c l (w ++ u) = if (ckC c l u).2 ≠ 0 then (w ++ (ckC c l u).1, (ckC c l u).2) else ([], 0)
  | .mk kd fr b dv k ms cs, l, w, u => by
    have h := ckL_w cs l (askA l (.mk kd fr b dv k ms cs)).1 0 w u
    rw [ckC, ckC]
    by_cases h0 : (askA l (.mk kd fr b dv k ms cs)).2 ≠ 0
    · rw [if_pos h0, if_pos h0, if_pos h0]
    · rw [if_neg h0, if_neg h0]; exact h
theorem ckL_w : ∀ (cs : List Cu) (l more : List Iq) (i : Nat) (w u : List Int), ckL cs l more i (w ++ u) = if (ckL cs l more i u).2 ≠ 0 then (w ++ (ckL cs l more i u).1, (ckL cs l more i u).2) else ([], 0)
  | [], _, _, _, _, _ => by simp [ckL]
  | c :: cs, l, more, i, w, u => by
    have h1 := ckC_w c (l ++ [more.getD i iz]) w (u ++ [(i : Int)])
    have h2 := ckL_w cs l more (i + 1) w u
    simp only [ckL, List.append_assoc, h1]
    by_cases h0 : (ckC c (l ++ [more.getD i iz]) (u ++ [(i : Int)])).2 ≠ 0
    · simp only [if_pos h0]
    · simp only [if_neg h0, ne_eq, not_true, if_false]
      exact h2
end

theorem oL_lrt : ∀ (xs : List Int) (j : Nat) (n : Int), n < j → j + xs.length ≤ 64 → lrt n (oL j xs) = true
  | [], _, _, _, _ => rfl
  | x :: l, j, n, hn, h => by
    simp only [List.length_cons] at h
    simp only [oL]
    split
    · rename_i hf
      simp only [lrt, oL_lrt l (j + 1) j (by omega) (by omega), Bool.and_true, Bool.and_eq_true, decide_eq_true_eq]
      exact ⟨⟨hn, by omega⟩, hf⟩
    · exact oL_lrt l (j + 1) n (by omega) (by omega)
theorem lsumP_lok (fs : List (Li × Int)) : lok (lsumP fs).1 = true := by
  unfold lsumP
  split
  · exact oL_lrt _ 0 (-1) (by omega) (by rw [accF_len, z64_len]; omega)
  · rfl
theorem lSumP_lok (l : List Li) (b : List Int) : lok (lSumP l b).1 = true := by
  unfold lSumP
  split
  · exact lsumP_lok _
  · rfl
theorem dv_lrt (d : Int) (hd : 1 ≤ d) : ∀ (ms : List (Int × Int)) (n : Int), lrt n ms = true → ((ms.map Prod.snd).all fun n => n.tmod d == 0) = true → lrt n (dvM d ms) = true
  | [], _, _, _ => rfl
  | m :: ms, n, h, ha => by
    simp only [lrt, Bool.and_eq_true, decide_eq_true_eq] at h
    simp only [List.map_cons, List.all_cons, Bool.and_eq_true, beq_iff_eq] at ha
    have e := Int.mul_tdiv_add_tmod m.2 d
    have hc : dvM d (m :: ms) = (m.1, m.2.tdiv d) :: dvM d ms := rfl
    rw [hc]
    simp only [lrt, dv_lrt d hd ms m.1 h.2 ha.2, Bool.and_true, Bool.and_eq_true, decide_eq_true_eq]
    refine ⟨⟨h.1.1.1, h.1.1.2⟩, fun h0 => h.1.2 ?_⟩
    rw [h0, Int.mul_zero] at e
    omega
theorem iSumP_lok (l : List Iq) (b : List Int) (d : Int) (h : (iSumP l b d).2 = 0) : lok (iSumP l b d).1.1 = true := by
  unfold iSumP at h ⊢
  split at h
  · simp at h
  · rename_i h1
    rw [if_neg h1]
    split at h
    · simp at h
    · rename_i h2
      rw [if_neg h2]
      split at h
      · rename_i h3; exact absurd h h3
      · rename_i h3
        rw [if_neg h3]
        split at h
        · simp at h
        · rename_i h4
          rw [if_neg h4]
          exact dv_lrt d (by omega) _ _ (lSumP_lok _ _) (by simpa using h4)
theorem inotP_lok (q : Iq) : lok (inotP q).1.1 = true := by
  unfold inotP
  split
  · rfl
  · split
    · rfl
    · split
      · rfl
      · exact lSumP_lok _ _

theorem byv_oL_lt (v : Int) : ∀ (xs : List Int) (j : Nat), v < j → byv v (oL j xs) = 0
  | [], _, _ => rfl
  | x :: l, j, h => by
    simp only [oL]
    split
    · simp only [byv]
      rw [if_neg (by omega)]
      exact byv_oL_lt v l (j + 1) (by omega)
    · exact byv_oL_lt v l (j + 1) (by omega)
theorem byv_oL : ∀ (xs : List Int) (j i : Nat), i < xs.length → byv ((j + i : Nat) : Int) (oL j xs) = fit (xs.getD i 0)
  | x :: l, j, 0, _ => by
    simp only [oL, List.getD_cons_zero, Nat.add_zero]
    split
    · simp only [byv, if_true]
    · rename_i h
      rw [byv_oL_lt _ l (j + 1) (by omega)]
      exact (Decidable.not_not.1 h).symm
  | x :: l, j, i + 1, h => by
    have ih := byv_oL l (j + 1) i (by simpa using h)
    simp only [oL, List.getD_cons_succ]
    split
    · simp only [byv]
      rw [if_neg (by omega), show ((j + (i + 1) : Nat) : Int) = ((j + 1 + i : Nat) : Int) by omega]
      exact ih
    · rw [show ((j + (i + 1) : Nat) : Int) = ((j + 1 + i : Nat) : Int) by omega]
      exact ih

theorem accF_ext {fs gs : List (Li × Int)} (hf : ∀ f ∈ fs, lok f.1 = true) (hg : ∀ f ∈ gs, lok f.1 = true) (h : ∀ j : Nat, j < 64 → accV j fs 0 = accV j gs 0) : accF fs z64 = accF gs z64 := by
  apply List.ext_getElem
  · rw [accF_len, accF_len]
  · intro i h1 h2
    have hi : i < 64 := by rw [accF_len, z64_len] at h1; exact h1
    have e1 := accF_get fs z64 i hf (by rw [z64_len]; exact hi)
    have e2 := accF_get gs z64 i hg (by rw [z64_len]; exact hi)
    rw [z64_get] at e1 e2
    rw [List.getD_eq_getElem?_getD, List.getElem?_eq_getElem h1] at e1
    rw [List.getD_eq_getElem?_getD, List.getElem?_eq_getElem h2] at e2
    simp only [Option.getD_some] at e1 e2
    rw [e1, e2, h i hi]

theorem rnot_inot (q : Iq) (hq : inI64 q.1.1) : rnotP q = inotP q := by
  unfold rnotP inotP
  by_cases h0 : lok q.1 = false ∨ q.2 = true
  · rw [if_pos h0, if_pos h0]
  rw [if_neg h0, if_neg h0]
  have hk : lok q.1 = true := by simpa using fun h => h0 (.inl h)
  have hk1 : lok (1, []) = true := rfl
  have e1 : lSumP [q.1] [-1] = lsumP [(q.1, -1)] := by unfold lSumP; rw [if_pos ⟨by simp [hk], rfl⟩]; rfl
  rw [e1]
  have hkq : ∀ f ∈ [(q.1, (-1 : Int))], lok f.1 = true := fun f hf => by rw [List.mem_singleton.1 hf]; exact hk
  have hk2 : ∀ f ∈ [(q.1, (-1 : Int)), ((1, []), 1)], lok f.1 = true := fun f hf => by
    rcases List.mem_cons.1 hf with rfl | hf
    · exact hk
    · rw [List.mem_singleton.1 hf]; rfl
  -- the coefficients are the same
  have hA : accF [(q.1, (-1 : Int)), ((1, []), 1)] z64 = accF [(q.1, -1)] z64 := accF_ext hk2 hkq fun j _ => by simp [accV, byv]
  have hK : accK [(q.1, (-1 : Int)), ((1, []), 1)] 0 = accK [(q.1, -1)] 0 + 1 := by simp [accK]
  have hR : lsumP [(q.1, (-1 : Int)), ((1, []), 1)] = if inI64 (accK [(q.1, -1)] 0 + 1) ∧ ((accF [(q.1, -1)] z64).all fun x => decide (inI64 x)) = true then ((accK [(q.1, -1)] 0 + 1, oL 0 (accF [(q.1, -1)] z64)), 0) else ((0, []), 5) := by
    unfold lsumP; rw [hA, hK]
  have hk0 : accK [(q.1, (-1 : Int))] 0 = -q.1.1 := by simp [accK]
  have hS : lsumP [(q.1, (-1 : Int))] = if inI64 (accK [(q.1, -1)] 0) ∧ ((accF [(q.1, -1)] z64).all fun x => decide (inI64 x)) = true then ((accK [(q.1, -1)] 0, oL 0 (accF [(q.1, -1)] z64)), 0) else ((0, []), 5) := rfl
  generalize hX : accF [(q.1, (-1 : Int))] z64 = X at *
  have hXl : X.length = 64 := by rw [← hX, accF_len, z64_len]
  generalize accK [(q.1, (-1 : Int))] 0 = k at *
  generalize lsumP [(q.1, (-1 : Int)), ((1, []), 1)] = V at *
  generalize lsumP [(q.1, (-1 : Int))] = U at *
  by_cases ha : (X.all fun x => decide (inI64 x)) = true
  rotate_left
  · rw [if_neg (fun h => ha h.2)] at hR hS
    subst hR hS
    rw [if_pos (by simp)]; rfl
  by_cases hi : inI64 k
  rotate_left
  · have hi2 : ¬ inI64 (k + 1) := by unfold inI64 at *; omega
    rw [if_neg (fun h => hi2 h.1)] at hR
    rw [if_neg (fun h => hi h.1)] at hS
    subst hR hS
    rw [if_pos (by simp)]; rfl
  rw [if_pos ⟨hi, ha⟩] at hS
  subst hS
  simp only [ne_eq, not_true, if_false]
  have hokX : lok (k, oL 0 X) = true := oL_lrt X 0 (-1) (by omega) (by omega)
  have e2 : lSumP [(k, oL 0 X), (1, [])] [1, 1] = lsumP [((k, oL 0 X), 1), ((1, []), 1)] := by unfold lSumP; rw [if_pos ⟨by simp [hokX, hk1], rfl⟩]; rfl
  have hk3 : ∀ f ∈ [((k, oL 0 X), (1 : Int)), ((1, []), 1)], lok f.1 = true := fun f hf => by
    rcases List.mem_cons.1 hf with rfl | hf
    · exact hokX
    · rw [List.mem_singleton.1 hf]; rfl
  have hA2 : accF [((k, oL 0 X), (1 : Int)), ((1, []), 1)] z64 = X := by
    apply List.ext_getElem
    · rw [accF_len, z64_len, hXl]
    · intro i h1 h2
      have hi64 : i < 64 := by omega
      have e1 := accF_get _ z64 i hk3 (by rw [z64_len]; exact hi64)
      rw [z64_get, List.getD_eq_getElem?_getD, List.getElem?_eq_getElem h1] at e1
      simp only [Option.getD_some] at e1
      have e3 := byv_oL X 0 i h2
      rw [Nat.zero_add, List.getD_eq_getElem?_getD, List.getElem?_eq_getElem h2] at e3
      simp only [Option.getD_some] at e3
      have e4 : fit X[i] = X[i] := by
        have := (List.all_eq_true.1 ha) X[i] (List.getElem_mem h2)
        simp only [decide_eq_true_eq] at this
        simp [fit, this]
      rw [e1]
      simp only [accV, byv, e3, e4]; omega
  have hK2 : accK [((k, oL 0 X), (1 : Int)), ((1, []), 1)] 0 = k + 1 := by simp [accK]
  rw [e2]
  have hT : lsumP [((k, oL 0 X), (1 : Int)), ((1, []), 1)] = if inI64 (k + 1) ∧ (X.all fun x => decide (inI64 x)) = true then ((k + 1, oL 0 X), 0) else ((0, []), 5) := by
    unfold lsumP; rw [hA2, hK2]
  generalize lsumP [((k, oL 0 X), (1 : Int)), ((1, []), 1)] = W at *
  by_cases hi2 : inI64 (k + 1)
  · rw [if_pos ⟨hi2, ha⟩] at hR hT
    subst hR hT
    rw [if_neg (by simp)]
  · rw [if_neg (fun h => hi2 h.1)] at hR hT
    subst hR hT
    rw [if_pos (by simp)]; rfl

end Go.Proofs.Ytgabnhmjlhhojaa.A
/- The document's Sum of inequalities. -/
namespace Go.Proofs.Ytgabnhmjlhhojaa.A
open Go
set_option maxRecDepth 10000
set_option linter.unusedSimpArgs false
set_option linter.unusedVariables false
attribute [-simp] List.all_eq_true put slot_def ld idxA lenOf elems canA app hand add64A

theorem FsG.place2 {o o2 o3 : List Obj} {sz : Nat} {v : AV} {es : List (List AV)} (h : FsG o sz v es) (hpre : Pre o o2) (hpre3 : Pre o o3) (ro : Nat) (df : List Nat) {i : Nat} {e : List AV} (hq : es[i]? = some e) :
    ∃ p, idxA ⟨o2, ro, df⟩ sz v (.int .i64 i) = some p ∧ idxA ⟨o3, ro, df⟩ sz v (.int .i64 i) = some p ∧ (p = .vptr e ∨ ∃ r ty sz' es', p = .ptr r i 0 ∧ o2[r]? = some (.arr ty sz' es') ∧ o3[r]? = some (.arr ty sz' es') ∧ es'[i]? = some e) := by
  have hlt := lt_of_getO hq
  have hd : es.getD i [] = e := by rw [List.getD_eq_getElem?_getD, hq]; rfl
  rcases h with rfl | rfl | ⟨r, ty, f, rfl, h⟩
  · exact ⟨.vptr e, by simp only [idxA, Int.toNat_natCast, hd]; rw [if_pos ⟨by simp [inB, hlt], trivial⟩], by simp only [idxA, Int.toNat_natCast, hd]; rw [if_pos ⟨by simp [inB, hlt], trivial⟩], .inl rfl⟩
  · exact ⟨.vptr e, by simp only [idxA, Int.toNat_natCast, hd]; rw [if_pos ⟨by simp [inB, hlt], trivial⟩], by simp only [idxA, Int.toNat_natCast, hd]; rw [if_pos ⟨by simp [inB, hlt], trivial⟩], .inl rfl⟩
  · obtain ⟨m, rfl⟩ := hpre
    obtain ⟨m', rfl⟩ := hpre3
    have h' := getO_push h m
    have h'' := getO_push h m'
    exact ⟨.ptr r i 0, by simp [h', hlt], by simp [h'', hlt], .inr ⟨r, _, _, _, rfl, h', h'', hq⟩⟩

set_option maxHeartbeats 1600000 in
theorem rsum_l0 (l : List Iq) (b : List Int) (hl : ∀ q ∈ l, LiOk q.1) (hn : l.length ≤ 1000000) (hb : l.length = b.length) (o o1 : List Obj) (n : Nat) (hon : o.length = n) (v w : AV) (hv : FsG o 3 v (l.map iqA)) (hw : w = .sl 1 (intA b)) (R : Obj) (e0 : Bool) (d : AV)
    (hR : R = .arr 51 3 [[.int .i64 0, .fsl 2 [], .bool false]]) (Q : AE → List AV → St → Prop) (fr : List AV) (hfr : fr.length = 108)
    (q0 : slot fr 0 = v) (q1 : slot fr 1 = w) (q2 : slot fr 2 = d) (q6 : slot fr 6 = .ptr n 0 0) (q8 : slot fr 8 = .fsl 2 []) (q9 : slot fr 9 = .bool e0) (q10 : slot fr 10 = .int .i64 0)
    (hpre : Pre o o1) (g1 : o1[n]? = some R)
    (kk : ∀ (fr' : List AV) (o2 : List Obj) (u : AV), fr'.length = 108 → slot fr' 1 = w → slot fr' 2 = d → slot fr' 6 = .ptr n 0 0 → slot fr' 8 = u → slot fr' 9 = .bool (eqs e0 l) → Pre o o2 → o2[n]? = some R →
      Gr (n + 1) 26 2 o2 u (l.map fun q => liA q.1) → (l.zip b).all okQ = true → Q (.exit 0) fr' ⟨o2, n, []⟩)
    (kr : ∀ (fr' : List AV) (o2 : List Obj), fr'.length = 108 → slot fr' 6 = .ptr n 0 0 → slot fr' 7 = .int .i64 1 → o2[n]? = some R → (l.zip b).all okQ = false → Q .ret fr' ⟨o2, n, []⟩) :
    ∃ e fr' st', (D T).loop false L60_0 fr ⟨o1, n, []⟩ = some (e, fr', st') ∧ Q e fr' st' := by
  have hlen : lenOf v = some l.length := by simpa using hv.len
  apply loop_inv L60_0.eq_1 List.length (fun (rest : List Iq) fr st => ∃ pre o2 u, l = pre ++ rest ∧ okTo l b pre.length ∧ fr.length = 108 ∧ slot fr 0 = v ∧ slot fr 1 = w ∧ slot fr 2 = d ∧ slot fr 6 = .ptr n 0 0 ∧ slot fr 8 = u ∧ slot fr 9 = .bool (eqs e0 pre) ∧ slot fr 10 = .int .i64 (pre.length : Int) ∧
    st = ⟨o2, n, []⟩ ∧ Pre o o2 ∧ o2[n]? = some R ∧ Gr (n + 1) 26 2 o2 u (pre.map fun q => liA q.1)) ?_ l
    ⟨[], o1, .fsl 2 [], rfl, by simp [okTo], hfr, q0, q1, q2, q6, q8, by rw [eqs_nil]; exact q9, q10, rfl, hpre, g1, .inl rfl⟩
  clear hfr q0 q1 q2 q6 q8 q9 q10 g1 hpre
  clear fr o1
  rintro rest fr _ ⟨pre, o2, u, e, hok, hfr, q0, q1, q2, q6, q8, q9, q10, rfl, hpre, g1, gu⟩
  have hzl : (l.zip b).length = l.length := by simp [hb]
  cases rest with
  | nil =>
    have hlt := idx_end e
    have ee : pre = l := by simpa using e.symm
    simp -implicitDefEqProofs [hfr, q0, q1, q2, q6, q8, q9, q10, hlt, hlen]
    refine kk _ o2 u (by simp [hfr]) (by simp [hfr, q1]) (by simp [hfr, q2]) (by simp [hfr, q6]) (by simp [hfr, q8]) (by simp [hfr, q9, ee]) hpre g1 (by rw [← ee]; exact gu) ?_
    unfold okTo at hok
    rw [ee, ← hzl, List.take_length] at hok
    exact List.all_eq_true.2 hok
  | cons x rest =>
    obtain ⟨hlt, hg, hpl⟩ := idx_at e
    have hwi := idx_next e (by omega)
    have hx := hl x (by simp [e])
    have hg2 : (l.map iqA)[pre.length]? = some (iqA x) := by simp [hg]
    obtain ⟨y, hy⟩ : ∃ y, b[pre.length]? = some y := ⟨b[pre.length]'(by omega), by simp [show pre.length < b.length by omega]⟩
    have hy2 : (intA b)[pre.length]? = some [.int .i64 y] := by simp [intA, hy]
    have hbl : (intA b).length = b.length := intA_len b
    have hplb : pre.length < b.length := by omega
    have hltb : (pre.length : Int) < (b.length : Int) := by omega
    rw [hw] at q1
    have hz : (l.zip b)[pre.length]? = some (x, y) := by rw [List.getElem?_zip_eq_some]; exact ⟨hg, hy⟩
    have ht : (l.zip b).take (pre.length + 1) = (l.zip b).take pre.length ++ [(x, y)] := by rw [List.take_add_one, hz]; rfl
    have hmem : (x, y) ∈ l.zip b := List.mem_of_getElem? hz
    have hF := fun o ro df => form_eq x.1 (by have := hx.2.2; omega) o ro df
    have hokx : okQ (x, y) = (lok x.1 && (!decide (y < 0) || x.2)) := rfl
    have hpo := hpre.len
    have l1 := lt_of_getO g1
    obtain ⟨o3, a1, a2, a3, a4, a5⟩ := app_getP (bytes := 32) (ro := n) (df := []) hpre (by omega) gu (by omega) (x := .fsl 2 [liA x.1]) (xs := [liA x.1]) rfl (.inr (by simp)) (by simp [room]; omega)
    obtain ⟨p, p1, p1b, p2⟩ := hv.place2 hpre a5 n [] hg2
    have b1 := a4 _ _ g1 (gu.not (by omega))
    have gu2 := gr_new (lo := n + 1) a3 (by omega) (n := pre.length + 1) (by simp)
    have hm2 : (pre.map fun q => liA q.1) ++ [liA x.1] = (pre ++ [x]).map fun q => liA q.1 := by simp
    rw [hm2] at gu2
    simp only [List.length_cons, List.length_nil, Nat.zero_add, List.length_map] at a1
    have hes := eqs_app e0 pre x
    have hQ : iqA x = [.int .i64 x.1.1, .sl 2 (moA x.1.2), .bool x.2] := rfl
    have hL : liA x.1 = [.int .i64 x.1.1, .sl 2 (moA x.1.2)] := rfl
    rw [hQ] at p2
    rw [hL] at a1 hF
    have e1 : ∀ X, (o2.set n X)[n]? = some X := fun X => getO_set l1
    have hbad : okQ (x, y) = false → (l.zip b).all okQ = false := fun h => List.all_eq_false.2 ⟨_, hmem, by simp [h]⟩
    have hgood : okQ (x, y) = true → okTo l b (pre.length + 1) := fun h f hf => by
      rw [ht] at hf
      rcases List.mem_append.1 hf with hf | hf
      · exact hok f hf
      · rw [List.mem_singleton.1 hf]; exact h
    generalize moA x.1.2 = M at *
    generalize x.1.1 = k at *
    generalize hLk : lok x.1 = Lk at *
    generalize hx2 : x.2 = t at *
    generalize eqs e0 pre = eb at *
    have q1' : slot fr 1 = .sl 1 (intA b) := q1
    rw [← hw] at q1
    have fin1 : okQ (x, y) = true → eqs e0 (pre ++ [x]) = (eb && t) → True := fun _ _ => trivial
    clear fin1
    generalize hIB : intA b = IB at *
    cases Lk with
    | false =>
      have hbd := hbad (by rw [hokx]; rfl)
      rcases p2 with rfl | ⟨pr, pty, psz, pes, rfl, pg, pg3, pe⟩
      · simp -implicitDefEqProofs [hfr, q0, q1', q2, q6, q8, q9, q10, hlt, hpl, hlen, p1, hF, g1, hR, -getElem?_pos, List.getElem?_cons_zero, List.getElem?_cons_succ]
        exact kr _ _ (by simp [hfr]) (by simp [hfr, q6]) (by simp [hfr]) (by rw [e1, hR]) hbd
      · simp -implicitDefEqProofs [hfr, q0, q1', q2, q6, q8, q9, q10, hlt, hpl, hlen, p1, pg, pe, hF, g1, hR, -getElem?_pos, List.getElem?_cons_zero, List.getElem?_cons_succ]
        exact kr _ _ (by simp [hfr]) (by simp [hfr, q6]) (by simp [hfr]) (by rw [e1, hR]) hbd
    | true =>
      by_cases hy0 : y < 0
      · cases t with
        | false =>
          have hbd := hbad (by rw [hokx]; simp [hy0])
          rcases p2 with rfl | ⟨pr, pty, psz, pes, rfl, pg, pg3, pe⟩
          · simp -implicitDefEqProofs [hfr, q0, q1', q2, q6, q8, q9, q10, hlt, hpl, hlen, hbl, hplb, hltb, hy2, p1, hF, g1, hR, hy0, -getElem?_pos, List.getElem?_cons_zero, List.getElem?_cons_succ]
            exact kr _ _ (by simp [hfr]) (by simp [hfr, q6]) (by simp [hfr]) (by rw [e1, hR]) hbd
          · simp -implicitDefEqProofs [hfr, q0, q1', q2, q6, q8, q9, q10, hlt, hpl, hlen, hbl, hplb, hltb, hy2, p1, pg, pe, hF, g1, hR, hy0, -getElem?_pos, List.getElem?_cons_zero, List.getElem?_cons_succ]
            exact kr _ _ (by simp [hfr]) (by simp [hfr, q6]) (by simp [hfr]) (by rw [e1, hR]) hbd
        | true =>
          have hgd := hgood (by rw [hokx]; simp)
          simp only [Bool.and_true] at hes
          rcases p2 with rfl | ⟨pr, pty, psz, pes, rfl, pg, pg3, pe⟩ <;> cases eb
          · simp -implicitDefEqProofs [hfr, q0, q1', q2, q6, q8, q9, q10, hlt, hpl, hwi, hlen, hbl, hplb, hltb, hy2, p1, p1b, hF, a1, hy0, -getElem?_pos, List.getElem?_cons_zero, List.getElem?_cons_succ]
            exact ⟨rest, by simp, pre ++ [x], by simp [e], by simpa using hgd, by rw [hw], by first | exact hes | exact hes.symm, by simp, a5, b1, by simpa using gu2⟩
          · simp -implicitDefEqProofs [hfr, q0, q1', q2, q6, q8, q9, q10, hlt, hpl, hwi, hlen, hbl, hplb, hltb, hy2, p1, p1b, hF, a1, hy0, -getElem?_pos, List.getElem?_cons_zero, List.getElem?_cons_succ]
            exact ⟨rest, by simp, pre ++ [x], by simp [e], by simpa using hgd, by rw [hw], by first | exact hes | exact hes.symm, by simp, a5, b1, by simpa using gu2⟩
          · simp -implicitDefEqProofs [hfr, q0, q1', q2, q6, q8, q9, q10, hlt, hpl, hwi, hlen, hbl, hplb, hltb, hy2, p1, p1b, pg, pg3, pe, hF, a1, hy0, -getElem?_pos, List.getElem?_cons_zero, List.getElem?_cons_succ]
            exact ⟨rest, by simp, pre ++ [x], by simp [e], by simpa using hgd, by rw [hw], by first | exact hes | exact hes.symm, by simp, a5, b1, by simpa using gu2⟩
          · simp -implicitDefEqProofs [hfr, q0, q1', q2, q6, q8, q9, q10, hlt, hpl, hwi, hlen, hbl, hplb, hltb, hy2, p1, p1b, pg, pg3, pe, hF, a1, hy0, -getElem?_pos, List.getElem?_cons_zero, List.getElem?_cons_succ]
            exact ⟨rest, by simp, pre ++ [x], by simp [e], by simpa using hgd, by rw [hw], by first | exact hes | exact hes.symm, by simp, a5, b1, by simpa using gu2⟩
      · have hgd := hgood (by rw [hokx]; simp [hy0])
        rcases p2 with rfl | ⟨pr, pty, psz, pes, rfl, pg, pg3, pe⟩
        · cases t <;> simp only [Bool.and_true, Bool.and_false] at hes <;> cases eb
          · simp -implicitDefEqProofs [hfr, q0, q1', q2, q6, q8, q9, q10, hlt, hpl, hwi, hlen, hbl, hplb, hltb, hy2, p1, p1b, hF, a1, hy0, -getElem?_pos, List.getElem?_cons_zero, List.getElem?_cons_succ]
            exact ⟨rest, by simp, pre ++ [x], by simp [e], by simpa using hgd, by rw [hw], by first | exact hes | exact hes.symm, by simp, a5, b1, by simpa using gu2⟩
          · simp -implicitDefEqProofs [hfr, q0, q1', q2, q6, q8, q9, q10, hlt, hpl, hwi, hlen, hbl, hplb, hltb, hy2, p1, p1b, hF, a1, hy0, -getElem?_pos, List.getElem?_cons_zero, List.getElem?_cons_succ]
            exact ⟨rest, by simp, pre ++ [x], by simp [e], by simpa using hgd, by rw [hw], by first | exact hes | exact hes.symm, by simp, a5, b1, by simpa using gu2⟩
          · simp -implicitDefEqProofs [hfr, q0, q1', q2, q6, q8, q9, q10, hlt, hpl, hwi, hlen, hbl, hplb, hltb, hy2, p1, p1b, hF, a1, hy0, -getElem?_pos, List.getElem?_cons_zero, List.getElem?_cons_succ]
            exact ⟨rest, by simp, pre ++ [x], by simp [e], by simpa using hgd, by rw [hw], by first | exact hes | exact hes.symm, by simp, a5, b1, by simpa using gu2⟩
          · simp -implicitDefEqProofs [hfr, q0, q1', q2, q6, q8, q9, q10, hlt, hpl, hwi, hlen, hbl, hplb, hltb, hy2, p1, p1b, hF, a1, hy0, -getElem?_pos, List.getElem?_cons_zero, List.getElem?_cons_succ]
            exact ⟨rest, by simp, pre ++ [x], by simp [e], by simpa using hgd, by rw [hw], by first | exact hes | exact hes.symm, by simp, a5, b1, by simpa using gu2⟩
        · cases t <;> simp only [Bool.and_true, Bool.and_false] at hes <;> cases eb
          · simp -implicitDefEqProofs [hfr, q0, q1', q2, q6, q8, q9, q10, hlt, hpl, hwi, hlen, hbl, hplb, hltb, hy2, p1, p1b, pg, pg3, pe, hF, a1, hy0, -getElem?_pos, List.getElem?_cons_zero, List.getElem?_cons_succ]
            exact ⟨rest, by simp, pre ++ [x], by simp [e], by simpa using hgd, by rw [hw], by first | exact hes | exact hes.symm, by simp, a5, b1, by simpa using gu2⟩
          · simp -implicitDefEqProofs [hfr, q0, q1', q2, q6, q8, q9, q10, hlt, hpl, hwi, hlen, hbl, hplb, hltb, hy2, p1, p1b, pg, pg3, pe, hF, a1, hy0, -getElem?_pos, List.getElem?_cons_zero, List.getElem?_cons_succ]
            exact ⟨rest, by simp, pre ++ [x], by simp [e], by simpa using hgd, by rw [hw], by first | exact hes | exact hes.symm, by simp, a5, b1, by simpa using gu2⟩
          · simp -implicitDefEqProofs [hfr, q0, q1', q2, q6, q8, q9, q10, hlt, hpl, hwi, hlen, hbl, hplb, hltb, hy2, p1, p1b, pg, pg3, pe, hF, a1, hy0, -getElem?_pos, List.getElem?_cons_zero, List.getElem?_cons_succ]
            exact ⟨rest, by simp, pre ++ [x], by simp [e], by simpa using hgd, by rw [hw], by first | exact hes | exact hes.symm, by simp, a5, b1, by simpa using gu2⟩
          · simp -implicitDefEqProofs [hfr, q0, q1', q2, q6, q8, q9, q10, hlt, hpl, hwi, hlen, hbl, hplb, hltb, hy2, p1, p1b, pg, pg3, pe, hF, a1, hy0, -getElem?_pos, List.getElem?_cons_zero, List.getElem?_cons_succ]
            exact ⟨rest, by simp, pre ++ [x], by simp [e], by simpa using hgd, by rw [hw], by first | exact hes | exact hes.symm, by simp, a5, b1, by simpa using gu2⟩

end Go.Proofs.Ytgabnhmjlhhojaa.A
