/- The facts that a cut uses: sorted, each once, they are the ones that stand in it. What shifting leaves right. -/
import Derived.Test.YtgabnhmjlhhojaaZ13
import Derived.Test.YtgabnhmjlhhojaaQ18
namespace Go.Proofs.Ytgabnhmjlhhojaa.A
open Go
set_option maxRecDepth 10000
set_option linter.unusedSimpArgs false
set_option linter.unusedVariables false

def RiseI (l : List Int) : Prop := l.Pairwise fun a b => a < b

theorem riseI_eq {l k : List Int} (hl : RiseI l) (hk : RiseI k) (h : ∀ x, x ∈ l ↔ x ∈ k) : l = k := by
  have nd : ∀ {l : List Int}, RiseI l → l.Nodup := fun {l} hl => hl.imp fun {a b} hab e => by omega
  refine List.Perm.eq_of_pairwise (le := fun a b => a < b) (fun a b _ _ h1 h2 => ?_) hl hk ?_
  · omega
  · exact (List.perm_ext_iff_of_nodup (nd hl) (nd hk)).2 h

theorem dedupI_mem : ∀ (l : List Int) (x : Int), x ∈ dedup eqI l ↔ x ∈ l
  | [], x => by simp [dedup]
  | y :: l, x => by
    have ih := dedupI_mem l x
    simp only [dedup]
    cases h : dedup eqI l with
    | nil =>
      have : ∀ z, z ∉ l := fun z hz => by have := (dedupI_mem l z).2 hz; rw [h] at this; cases this
      simp [this]
    | cons z r =>
      rw [h] at ih
      simp only []
      cases e : eqI y z with
      | true =>
        obtain rfl : y = z := by simpa [eqI] using e
        rw [cond_true, List.mem_cons (a := x) (b := y) (l := l), ← ih]
        simp only [List.mem_cons]
        constructor
        · exact .inr
        · rintro (h | h)
          · exact .inl h
          · exact h
      | false => rw [cond_false, List.mem_cons, ih, List.mem_cons]

theorem dedupI_rise : ∀ l : List Int, l.Pairwise (fun a b => ltI b a = false) → RiseI (dedup eqI l)
  | [], _ => .nil
  | y :: l, h => by
    have h' := List.pairwise_cons.1 h
    have ih := dedupI_rise l h'.2
    have hm := dedupI_mem l
    simp only [dedup]
    cases e : dedup eqI l with
    | nil => simp [RiseI]
    | cons z r =>
      rw [e] at ih hm
      simp only []
      cases e2 : eqI y z with
      | true => exact ih
      | false =>
        have hyz : y < z := by
          have hz := h'.1 z ((hm z).1 (List.mem_cons_self ..))
          simp only [ltI, decide_eq_false_iff_not] at hz
          simp only [eqI, beq_eq_false_iff_ne] at e2
          omega
        refine List.pairwise_cons.2 ⟨fun x hx => ?_, ih⟩
        rcases List.mem_cons.1 hx with rfl | hx
        · exact hyz
        · have := (List.pairwise_cons.1 ih).1 x hx
          omega

theorem risingI_spec (V : List Int) : RiseI (risingI V) ∧ ∀ x, x ∈ risingI V ↔ x ∈ V := by
  constructor
  · refine dedupI_rise _ (isort_sorted (fun a b h => ?_) (fun a b c h1 h2 => ?_) V)
    · simp only [ltI, decide_eq_true_eq, decide_eq_false_iff_not] at *; omega
    · simp only [ltI, decide_eq_false_iff_not] at *; omega
  · intro x
    rw [risingI, dedupI_mem, (isort_perm ltI V).mem_iff]


theorem anyF_mem (x : Int) (l : List Int) : anyF x l = true ↔ x ∈ l := by
  simp only [anyF, List.any_eq_true, beq_iff_eq]
  exact ⟨fun ⟨y, h, e⟩ => e ▸ h, fun h => ⟨x, h, rfl⟩⟩
theorem isF_iff (n x : Int) : isF n x = true ↔ 0 ≤ x ∧ x < n := by simp [isF]
mutual
theorem usC_mem (n x : Int) : ∀ c, x ∈ usC n c ↔ (0 ≤ x ∧ x < n) ∧ hasF x c = true
  | .mk _ fr _ _ _ _ cs => by
    simp only [usC, hasF, List.mem_append, List.mem_filter, isF_iff, Bool.or_eq_true, anyF_mem, usCL_mem n x cs]
    constructor
    · rintro (⟨a, b⟩ | ⟨a, b⟩)
      · exact ⟨b, .inl a⟩
      · exact ⟨a, .inr b⟩
    · rintro ⟨a, b | b⟩
      · exact .inl ⟨b, a⟩
      · exact .inr ⟨a, b⟩
theorem usCL_mem (n x : Int) : ∀ l, x ∈ usCL n l ↔ (0 ≤ x ∧ x < n) ∧ hasFL x l = true
  | [] => by simp [usCL, hasFL]
  | c :: l => by
    simp only [usCL, hasFL, List.mem_append, Bool.or_eq_true, usC_mem n x c, usCL_mem n x l]
    constructor
    · rintro (⟨a, b⟩ | ⟨a, b⟩)
      · exact ⟨a, .inl b⟩
      · exact ⟨a, .inr b⟩
    · rintro ⟨a, b | b⟩
      · exact .inl ⟨a, b⟩
      · exact .inr ⟨a, b⟩
end
theorem usR_mem (c : Cu) (x : Int) (k : Nat) : x ∈ usR c k ↔ (0 ≤ x ∧ x < (k : Int)) ∧ hasF x c = true := by
  simp only [usR, List.mem_filter, List.mem_map, List.mem_range]
  constructor
  · rintro ⟨⟨i, h, rfl⟩, h2⟩
    exact ⟨⟨by omega, by omega⟩, h2⟩
  · rintro ⟨⟨h1, h2⟩, h3⟩
    exact ⟨⟨x.toNat, by omega, by omega⟩, h3⟩
theorem usR_rise (c : Cu) (k : Nat) : RiseI (usR c k) := by
  refine List.Pairwise.filter _ ?_
  rw [List.pairwise_map]
  exact List.pairwise_lt_range.imp fun h => by omega
theorem uses_law (c : Cu) (n : Int) : risingI (usC n c) = usR c n.toNat := by
  obtain ⟨h1, h2⟩ := risingI_spec (usC n c)
  refine riseI_eq h1 (usR_rise c _) fun x => ?_
  rw [h2, usC_mem, usR_mem]
  constructor
  · rintro ⟨⟨a, b⟩, d⟩; exact ⟨⟨a, by omega⟩, d⟩
  · rintro ⟨⟨a, b⟩, d⟩; exact ⟨⟨a, by omega⟩, d⟩

theorem wrap_inI (x : Int) : inI (IntKind.i64.wrap x) := by
  unfold inI
  simp [IntKind.wrap, IntKind.signed, IntKind.bits]
  omega
mutual
theorem upC_ok (a b : Int) : ∀ c : Cu, c.ok → (upC a b c).ok
  | .mk kd fr by' dv k ms cs, h => by
    simp only [Cu.ok] at h
    obtain ⟨h1, h2, h3, h4, h5, h6, h7, h8⟩ := h
    simp only [upC, Cu.ok]
    refine ⟨h1, ⟨fun n hn => ?_, by simpa [upI] using h2.2⟩, h3, h4, h5, h6, by rw [upCL_map]; simpa using h7, upCL_ok a b cs h8⟩
    obtain ⟨m, hm, rfl⟩ := List.mem_map.1 hn
    unfold upN
    split
    · exact wrap_inI _
    · exact h2.1 m hm
theorem upCL_ok (a b : Int) : ∀ l : List Cu, okCu l → okCu (upCL a b l)
  | [], _ => by simp [upCL, okCu]
  | c :: l, h => by
    simp only [okCu] at h
    simp only [upCL, okCu]
    exact ⟨upC_ok a b c h.1, upCL_ok a b l h.2⟩
end

mutual
theorem cw_cfr : ∀ (c : Cu) (m : Int), cw c m ≤ m → (cfr c : Int) ≤ cw c m
  | .mk _ fr b _ _ ms cs, m, h => by
    simp only [cw] at h ⊢
    have := cwL_cfr cs m _ h
    simp only [cfr]
    omega
theorem cwL_cfr : ∀ (l : List Cu) (m n : Int), cwL l m n ≤ m → n + (cfrL l : Int) ≤ cwL l m n
  | [], m, n, _ => by simp [cwL, cfrL]
  | c :: l, m, n, h => by
    simp only [cwL] at h ⊢
    split at h
    · rename_i hn
      rw [if_pos hn]
      have h1 := cwL_cfr l m (n + cw c (m - n)) h
      have h2 := cwL_ge l m (n + cw c (m - n))
      have h3 := cw_cfr c (m - n) (by omega)
      simp only [cfrL]
      omega
    · omega
end

end Go.Proofs.Ytgabnhmjlhhojaa.A
/- The plain law of CutsMore: with more facts behind, shifted, a cut comes to the same. -/
namespace Go.Proofs.Ytgabnhmjlhhojaa.A
open Go
set_option linter.unusedSimpArgs false
set_option linter.unusedVariables false

mutual
theorem upC_sm (a b : Int) : ∀ c : Cu, c.sm → (upC a b c).sm
  | .mk kd fr by' dv k ms cs, h => by
    simp only [Cu.sm] at h
    obtain ⟨h1, h2, h3, h4, h5⟩ := h
    simp only [upC, Cu.sm]
    exact ⟨by simpa [upI] using h1, h2, h3, by rw [upCL_map]; simpa using h4, upCL_sm a b cs h5⟩
theorem upCL_sm (a b : Int) : ∀ l : List Cu, smCu l → smCu (upCL a b l)
  | [], _ => by simp [upCL, smCu]
  | c :: l, h => by
    simp only [smCu] at h
    simp only [upCL, smCu]
    exact ⟨upC_sm a b c h.1, upCL_sm a b l h.2⟩
end
mutual
theorem upC_meas (a b : Int) : ∀ c : Cu, csz (upC a b c) = csz c ∧ cdp (upC a b c) = cdp c ∧ pe (upC a b c) = pe c
  | .mk kd fr by' dv k ms cs => by
    obtain ⟨h1, h2, h3⟩ := upCL_meas a b cs
    have hl : (upCL a b cs).length = cs.length := by rw [upCL_map]; simp
    have hf : (upI a b fr).length = fr.length := by simp [upI]
    refine ⟨by simp only [upC, csz, h1], by simp only [upC, cdp, h2], ?_⟩
    have he : er31 (.mk kd (upI a b fr) by' dv k ms (upCL a b cs)) = er31 (.mk kd fr by' dv k ms cs) := by simp only [er31, hl, hf]
    simp only [upC, pe, he, h3]
theorem upCL_meas (a b : Int) : ∀ l : List Cu, cszL (upCL a b l) = cszL l ∧ cdpL (upCL a b l) = cdpL l ∧ peL (upCL a b l) = peL l
  | [] => ⟨rfl, rfl, rfl⟩
  | c :: l => by
    obtain ⟨h1, h2, h3⟩ := upC_meas a b c
    obtain ⟨k1, k2, k3⟩ := upCL_meas a b l
    refine ⟨by simp only [upCL, cszL, h1, k1], by simp only [upCL, cdpL, h2, k2], by simp only [upCL, peL, h3, k3]⟩
end

theorem someA_up (l m D : List Iq) (hs : l.length + m.length + D.length ≤ 1000000) : ∀ (ns : List Int) (acc : List Iq), (someA (l ++ D) ns acc).2 = 0 → someA (l ++ m ++ D) (upI l.length m.length ns) acc = someA (l ++ D) ns acc
  | [], acc, h => rfl
  | n :: ns, acc, h => by
    have hc : upI l.length m.length (n :: ns) = upN l.length m.length n :: upI l.length m.length ns := rfl
    rw [hc]
    simp only [someA] at h ⊢
    split at h
    · rename_i hn
      simp only [List.length_append] at hn
      have key : 0 ≤ upN l.length m.length n ∧ upN l.length m.length n < (l ++ m ++ D).length ∧ (l ++ m ++ D).getD (upN l.length m.length n).toNat iz = (l ++ D).getD n.toNat iz := by
        simp only [List.length_append]
        unfold upN
        by_cases hl : (l.length : Int) ≤ n
        · rw [if_pos hl, wrap_id (by omega) (by omega)]
          refine ⟨by omega, by omega, ?_⟩
          obtain ⟨k, rfl⟩ : ∃ k : Nat, n = (l.length : Int) + k := ⟨(n - l.length).toNat, by omega⟩
          rw [List.getD_eq_getElem?_getD, List.getD_eq_getElem?_getD, show ((l.length : Int) + k + m.length).toNat = (l ++ m).length + k by simp; omega, show ((l.length : Int) + k).toNat = l.length + k by omega,
            List.getElem?_append_right (by omega), List.getElem?_append_right (by omega)]
          simp
        · rw [if_neg hl]
          refine ⟨by omega, by omega, ?_⟩
          rw [List.append_assoc, List.getD_eq_getElem?_getD, List.getD_eq_getElem?_getD, List.getElem?_append_left (by omega), List.getElem?_append_left (by omega)]
      rw [if_pos ⟨key.1, key.2.1⟩, if_pos (by simpa using hn), key.2.2]
      exact someA_up l m D hs ns _ h
    · simp at h

theorem ck_up (l m : List Iq) : ∀ (c : Cu), pe c = 0 → ∀ (D : List Iq) (w w' : List Int), ((l.length + m.length + D.length : Nat) : Int) + cdp c ≤ 1024 → (ckC c (l ++ D) w).2 = 0 → (ckC (upC l.length m.length c) (l ++ m ++ D) w').2 = 0
  | .mk kd fr b dv k ms cs, hpe, D, w, w', hs, h => by
    obtain ⟨hk, hpl⟩ := pe_mk hpe
    have hpe' := peL_mem hpl
    have hdl : ∀ x ∈ cs, cdp x ≤ cdpL cs := fun x hx => cdp_mem hx
    simp only [cdp] at hs
    have h00 := cdpL_pos cs
    have ih := fun c (hc : c ∈ cs) D w w' hs => ck_up l m c (hpe' c hc) D w w' hs
    have hE : ckC (.mk kd fr b dv k ms cs) (l ++ D) w = if (askA (l ++ D) (.mk kd fr b dv k ms cs)).2 ≠ 0 then (w, (askA (l ++ D) (.mk kd fr b dv k ms cs)).2) else ckL cs (l ++ D) (askA (l ++ D) (.mk kd fr b dv k ms cs)).1 0 w := by rw [ckC]
    have hU : upC l.length m.length (.mk kd fr b dv k ms cs) = .mk kd (upI l.length m.length fr) b dv k ms (cs.map (upC l.length m.length)) := by rw [upC, upCL_map]
    have hA : askA (l ++ D) (.mk kd fr b dv k ms cs) = if kd = 2 then sumA (l ++ D) fr b dv else if kd = 3 then splitA (l ++ D) k ms else ([], endE (l ++ D) fr) := rfl
    have hA' : askA (l ++ m ++ D) (.mk kd (upI l.length m.length fr) b dv k ms (cs.map (upC l.length m.length))) = if kd = 2 then sumA (l ++ m ++ D) (upI l.length m.length fr) b dv else if kd = 3 then splitA (l ++ m ++ D) k ms else ([], endE (l ++ m ++ D) (upI l.length m.length fr)) := rfl
    have hE' : ckC (.mk kd (upI l.length m.length fr) b dv k ms (cs.map (upC l.length m.length))) (l ++ m ++ D) w' = if (askA (l ++ m ++ D) (.mk kd (upI l.length m.length fr) b dv k ms (cs.map (upC l.length m.length)))).2 ≠ 0 then (w', (askA (l ++ m ++ D) (.mk kd (upI l.length m.length fr) b dv k ms (cs.map (upC l.length m.length)))).2)
        else ckL (cs.map (upC l.length m.length)) (l ++ m ++ D) (askA (l ++ m ++ D) (.mk kd (upI l.length m.length fr) b dv k ms (cs.map (upC l.length m.length)))).1 0 w' := by rw [ckC]
    rw [hU, hE']
    rw [hE] at h
    have hS : (someA (l ++ D) fr []).2 = 0 → someA (l ++ m ++ D) (upI l.length m.length fr) [] = someA (l ++ D) fr [] := someA_up l m D (by omega) fr []
    have hfu : ∀ X : List Iq, X.length < 1024 → fullE X = 0 := fun X hX => by unfold fullE; rw [if_neg (by omega)]
    have hf2 : fullE (l ++ m ++ D) = 0 := hfu _ (by simp; omega)
    have happ : ∀ q : Iq, l ++ D ++ [q] = l ++ (D ++ [q]) := fun q => List.append_assoc ..
    have happ2 : ∀ q : Iq, l ++ m ++ D ++ [q] = l ++ m ++ (D ++ [q]) := fun q => List.append_assoc ..
    split at h
    · rename_i h0; exact absurd h h0
    · rename_i h0
      have h0 : (askA (l ++ D) (.mk kd fr b dv k ms cs)).2 = 0 := Decidable.not_not.1 h0
      rcases hk with ⟨rfl, k1, k2⟩ | ⟨rfl, k1, k2, k3⟩ | ⟨rfl, k1⟩
      · rw [if_neg (by omega), if_neg (by omega)] at hA hA'
        have : cs = [] := List.eq_nil_of_length_eq_zero k1
        subst this
        rw [hA] at h0
        rw [hA']
        have e : endE (l ++ m ++ D) (upI l.length m.length fr) = endE (l ++ D) fr := by
          simp only [endE] at h0 ⊢
          split at h0
          · rename_i h5; exact absurd h0 h5
          · rename_i h5
            rw [hS (Decidable.not_not.1 h5)]
        rw [e, if_neg (by simpa using h0)]
        rfl
      · rw [if_pos rfl] at hA hA'
        obtain ⟨c1, rfl⟩ := len1 k1
        rw [hA] at h0 h
        rw [hA']
        have e : sumA (l ++ m ++ D) (upI l.length m.length fr) b dv = sumA (l ++ D) fr b dv := by
          have hs := h0
          simp only [sumA] at hs ⊢
          split at hs
          · rename_i h5; exact absurd hs h5
          · rename_i h5
            rw [hS (Decidable.not_not.1 h5), if_neg h5]
            split at hs
            · rename_i h6; exact absurd hs h6
            · rename_i h6
              rw [if_neg h6, hf2]
              simp only at hs
              rw [hs, if_neg h5, if_neg h6]
        rw [e, if_neg (by simpa using h0)]
        generalize (sumA (l ++ D) fr b dv).1 = more at *
        simp only [List.map_cons, List.map_nil, ckL, happ, happ2] at h ⊢
        split at h
        · rename_i h7; exact absurd h h7
        · rename_i h7
          have i1 := ih c1 (by simp) (D ++ [more.getD 0 iz]) _ (w' ++ [((0 : Nat) : Int)]) (by have := hdl c1 (by simp); simp; omega) (Decidable.not_not.1 h7)
          rw [if_neg (by simpa using i1)]
      · rw [if_neg (by omega), if_pos rfl] at hA hA'
        obtain ⟨c1, c2, rfl⟩ := len2 k1
        rw [hA] at h0 h
        rw [hA']
        have e : splitA (l ++ m ++ D) k ms = splitA (l ++ D) k ms := by
          have hs := h0
          simp only [splitA] at hs ⊢
          split at hs
          · simp at hs
          · rename_i h5
            rw [if_neg h5]
            split at hs
            · rename_i h6; exact absurd hs h6
            · rename_i h6
              rw [if_neg h6, hf2]
              simp only at hs
              rw [hs, if_neg h5, if_neg h6]
        rw [e, if_neg (by simpa using h0)]
        generalize (splitA (l ++ D) k ms).1 = more at *
        simp only [List.map_cons, List.map_nil, ckL, happ, happ2] at h ⊢
        split at h
        · rename_i h7; exact absurd h h7
        · rename_i h7
          split at h
          · rename_i h8; exact absurd h h8
          · rename_i h8
            have i1 := ih c1 (by simp) (D ++ [more.getD 0 iz]) _ (w' ++ [((0 : Nat) : Int)]) (by have := hdl c1 (by simp); simp; omega) (Decidable.not_not.1 h7)
            have i2 := ih c2 (by simp) (D ++ [more.getD (0 + 1) iz]) _ (w' ++ [((0 + 1 : Nat) : Int)]) (by have := hdl c2 (by simp); simp; omega) (Decidable.not_not.1 h8)
            rw [if_neg (by simpa using i1), if_neg (by simpa using i2)]
termination_by c => SizeOf.sizeOf c
decreasing_by
  have := List.sizeOf_lt_of_mem hc
  simp
  omega

theorem ckL_nil : ∀ (cs : List Cu) (l more : List Iq) (i : Nat) (w : List Int), (ckL cs l more i w).2 = 0 → (ckL cs l more i w).1 = []
  | [], _, _, _, _, _ => rfl
  | c :: cs, l, more, i, w, h => by
    simp only [ckL] at h ⊢
    split at h
    · rename_i h7; exact absurd h h7
    · rename_i h7
      rw [if_neg h7]
      exact ckL_nil cs l more (i + 1) w h
theorem ckC_nil (c : Cu) (l : List Iq) (w : List Int) (h : (ckC c l w).2 = 0) : (ckC c l w).1 = [] := by
  obtain ⟨kd, fr, b, dv, k, ms, cs⟩ := c
  rw [ckC] at h ⊢
  split at h
  · rename_i h7; exact absurd h h7
  · rename_i h7
    rw [if_neg h7]
    exact ckL_nil _ _ _ _ _ h
theorem ckT_nil (l : List Iq) (c : Cu) (h : (ckT l c).2 = 0) : ckT l c = ([], 0) := by
  have : (ckT l c).1 = [] := by
    unfold ckT at h ⊢
    split
    · rfl
    · rename_i h1
      rw [if_neg h1] at h
      split
      · rfl
      · rename_i h2
        rw [if_neg h2] at h
        split
        · rfl
        · rename_i h3
          rw [if_neg h3] at h
          exact ckC_nil _ _ _ h
  exact Prod.ext this h

theorem more_law (l m : List Iq) (c : Cu) (hm : ∀ q ∈ m, lok q.1 = true) (hs : ((l.length + m.length : Nat) : Int) + cdp c ≤ 1024) (h : (ckT l c).2 = 0) : ckT (l ++ m) (upC l.length m.length c) = ([], 0) := by
  apply ckT_nil
  have hdp := cdp_pos c
  unfold ckT at h ⊢
  split at h
  · simp at h
  · split at h
    · simp at h
    · rename_i h2
      split at h
      · rename_i h3; exact absurd h h3
      · rename_i h3
        have h3 : rtC c = 0 := Decidable.not_not.1 h3
        obtain ⟨m1, m2, m3⟩ := upC_meas l.length m.length c
        have hrt : rtC (upC l.length m.length c) = rtC c := by unfold rtC; rw [m1, m2, m3]
        have hany : ((l ++ m).any fun q => !lok q.1) = false := by
          rw [List.any_append]
          have h2' : (l.any fun q => !lok q.1) = false := Bool.eq_false_iff.2 h2
          rw [h2', Bool.false_or]
          exact List.any_eq_false.2 fun q hq => by simp [hm q hq]
        rw [if_neg (by simp; omega), hany, if_neg (by simp), hrt, if_neg (by simpa using h3)]
        have hpe : pe c = 0 := by
          unfold rtC at h3
          split at h3
          · simp at h3
          · split at h3
            · simp at h3
            · exact h3
        have := ck_up l m c hpe [] [] [] (by simpa using hs) (by rw [List.append_nil]; exact h)
        rw [List.append_nil] at this
        exact this

end Go.Proofs.Ytgabnhmjlhhojaa.A
