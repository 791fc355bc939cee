/- The facts that a cut uses: sorted, each once, they are the ones that stand in it. What shifting leaves right. -/
import Derived.Test.YtgabnhmjlhhojaaZ13
namespace Go.Proofs.Ytgabnhmjlhhojaa.A
open Go
set_option maxRecDepth 10000
set_option linter.unusedSimpArgs false
set_option linter.unusedVariables false

def RiseI (l : List Int) : Prop := l.Pairwise fun a b => a < b

theorem riseI_eq {l k : List Int} (hl : RiseI l) (hk : RiseI k) (h : ∀ x, x ∈ l ↔ x ∈ k) : l = k := by
  have nd : ∀ {l : List Int}, RiseI l → l.Nodup := fun {l} hl => hl.imp fun {a b} hab e => by omega
  refine List.Perm.eq_of_pairwise (le := fun a b => a < b) (fun a b _ _ h1 h2 => ?_) hl hk ?_
  · omega
  · exact (List.perm_ext_iff_of_nodup (nd hl) (nd hk)).2 h

theorem dedupI_mem : ∀ (l : List Int) (x : Int), x ∈ dedup eqI l ↔ x ∈ l
  | [], x => by simp [dedup]
  | y :: l, x => by
    have ih := dedupI_mem l x
    simp only [dedup]
    cases h : dedup eqI l with
    | nil =>
      have : ∀ z, z ∉ l := fun z hz => by have := (dedupI_mem l z).2 hz; rw [h] at this; cases this
      simp [this]
    | cons z r =>
      rw [h] at ih
      simp only []
      cases e : eqI y z with
      | true =>
        obtain rfl : y = z := by simpa [eqI] using e
        rw [cond_true, List.mem_cons (a := x) (b := y) (l := l), ← ih]
        simp only [List.mem_cons]
        constructor
        · exact .inr
        · rintro (h | h)
          · exact .inl h
          · exact h
      | false => rw [cond_false, List.mem_cons, ih, List.mem_cons]

theorem dedupI_rise : ∀ l : List Int, l.Pairwise (fun a b => ltI b a = false) → RiseI (dedup eqI l)
  | [], _ => .nil
  | y :: l, h => by
    have h' := List.pairwise_cons.1 h
    have ih := dedupI_rise l h'.2
    have hm := dedupI_mem l
    simp only [dedup]
    cases e : dedup eqI l with
    | nil => simp [RiseI]
    | cons z r =>
      rw [e] at ih hm
      simp only []
      cases e2 : eqI y z with
      | true => exact ih
      | false =>
        have hyz : y < z := by
          have hz := h'.1 z ((hm z).1 (List.mem_cons_self ..))
          simp only [ltI, decide_eq_false_iff_not] at hz
          simp only [eqI, beq_eq_false_iff_ne] at e2
          omega
        refine List.pairwise_cons.2 ⟨fun x hx => ?_, ih⟩
        rcases List.mem_cons.1 hx with rfl | hx
        · exact hyz
        · have := (List.pairwise_cons.1 ih).1 x hx
          omega

theorem risingI_spec (V : List Int) : RiseI (risingI V) ∧ ∀ x, x ∈ risingI V ↔ x ∈ V := by
  constructor
  · refine dedupI_rise _ (isort_sorted (fun a b h => ?_) (fun a b c h1 h2 => ?_) V)
    · simp only [ltI, decide_eq_true_eq, decide_eq_false_iff_not] at *; omega
    · simp only [ltI, decide_eq_false_iff_not] at *; omega
  · intro x
    rw [risingI, dedupI_mem, (isort_perm ltI V).mem_iff]


theorem anyF_mem (x : Int) (l : List Int) : anyF x l = true ↔ x ∈ l := by
  simp only [anyF, List.any_eq_true, beq_iff_eq]
  exact ⟨fun ⟨y, h, e⟩ => e ▸ h, fun h => ⟨x, h, rfl⟩⟩
theorem isF_iff (n x : Int) : isF n x = true ↔ 0 ≤ x ∧ x < n := by simp [isF]
mutual
theorem usC_mem (n x : Int) : ∀ c, x ∈ usC n c ↔ (0 ≤ x ∧ x < n) ∧ hasF x c = true
  | .mk _ fr _ _ _ _ cs => by
    simp only [usC, hasF, List.mem_append, List.mem_filter, isF_iff, Bool.or_eq_true, anyF_mem, usCL_mem n x cs]
    constructor
    · rintro (⟨a, b⟩ | ⟨a, b⟩)
      · exact ⟨b, .inl a⟩
      · exact ⟨a, .inr b⟩
    · rintro ⟨a, b | b⟩
      · exact .inl ⟨b, a⟩
      · exact .inr ⟨a, b⟩
theorem usCL_mem (n x : Int) : ∀ l, x ∈ usCL n l ↔ (0 ≤ x ∧ x < n) ∧ hasFL x l = true
  | [] => by simp [usCL, hasFL]
  | c :: l => by
    simp only [usCL, hasFL, List.mem_append, Bool.or_eq_true, usC_mem n x c, usCL_mem n x l]
    constructor
    · rintro (⟨a, b⟩ | ⟨a, b⟩)
      · exact ⟨a, .inl b⟩
      · exact ⟨a, .inr b⟩
    · rintro ⟨a, b | b⟩
      · exact .inl ⟨a, b⟩
      · exact .inr ⟨a, b⟩
end
theorem usR_mem (c : Cu) (x : Int) (k : Nat) : x ∈ usR c k ↔ (0 ≤ x ∧ x < (k : Int)) ∧ hasF x c = true := by
  simp only [usR, List.mem_filter, List.mem_map, List.mem_range]
  constructor
  · rintro ⟨⟨i, h, rfl⟩, h2⟩
    exact ⟨⟨by omega, by omega⟩, h2⟩
  · rintro ⟨⟨h1, h2⟩, h3⟩
    exact ⟨⟨x.toNat, by omega, by omega⟩, h3⟩
theorem usR_rise (c : Cu) (k : Nat) : RiseI (usR c k) := by
  refine List.Pairwise.filter _ ?_
  rw [List.pairwise_map]
  exact List.pairwise_lt_range.imp fun h => by omega
theorem uses_law (c : Cu) (n : Int) : risingI (usC n c) = usR c n.toNat := by
  obtain ⟨h1, h2⟩ := risingI_spec (usC n c)
  refine riseI_eq h1 (usR_rise c _) fun x => ?_
  rw [h2, usC_mem, usR_mem]
  constructor
  · rintro ⟨⟨a, b⟩, d⟩; exact ⟨⟨a, by omega⟩, d⟩
  · rintro ⟨⟨a, b⟩, d⟩; exact ⟨⟨a, by omega⟩, d⟩

theorem wrap_inI (x : Int) : inI (IntKind.i64.wrap x) := by
  unfold inI
  simp [IntKind.wrap, IntKind.signed, IntKind.bits]
  omega
mutual
theorem upC_ok (a b : Int) : ∀ c : Cu, c.ok → (upC a b c).ok
  | .mk kd fr by' dv k ms cs, h => by
    simp only [Cu.ok] at h
    obtain ⟨h1, h2, h3, h4, h5, h6, h7, h8⟩ := h
    simp only [upC, Cu.ok]
    refine ⟨h1, ⟨fun n hn => ?_, by simpa [upI] using h2.2⟩, h3, h4, h5, h6, by rw [upCL_map]; simpa using h7, upCL_ok a b cs h8⟩
    obtain ⟨m, hm, rfl⟩ := List.mem_map.1 hn
    unfold upN
    split
    · exact wrap_inI _
    · exact h2.1 m hm
theorem upCL_ok (a b : Int) : ∀ l : List Cu, okCu l → okCu (upCL a b l)
  | [], _ => by simp [upCL, okCu]
  | c :: l, h => by
    simp only [okCu] at h
    simp only [upCL, okCu]
    exact ⟨upC_ok a b c h.1, upCL_ok a b l h.2⟩
end

mutual
theorem cw_cfr : ∀ (c : Cu) (m : Int), cw c m ≤ m → (cfr c : Int) ≤ cw c m
  | .mk _ fr b _ _ ms cs, m, h => by
    simp only [cw] at h ⊢
    have := cwL_cfr cs m _ h
    simp only [cfr]
    omega
theorem cwL_cfr : ∀ (l : List Cu) (m n : Int), cwL l m n ≤ m → n + (cfrL l : Int) ≤ cwL l m n
  | [], m, n, _ => by simp [cwL, cfrL]
  | c :: l, m, n, h => by
    simp only [cwL] at h ⊢
    split at h
    · rename_i hn
      rw [if_pos hn]
      have h1 := cwL_cfr l m (n + cw c (m - n)) h
      have h2 := cwL_ge l m (n + cw c (m - n))
      have h3 := cw_cfr c (m - n) (by omega)
      simp only [cfrL]
      omega
    · omega
end

end Go.Proofs.Ytgabnhmjlhhojaa.A
