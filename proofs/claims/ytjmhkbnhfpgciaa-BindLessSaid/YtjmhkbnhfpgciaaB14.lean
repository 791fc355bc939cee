/- Numbers sorted and kept once are the same as put one after another among rising ones; lists of the same numbers are found the same. -/
import Derived.Test.YtjmhkbnhfpgciaaB13
namespace Go.Proofs.Ytjmhkbnhfpgciaa.A
open Go
set_option maxRecDepth 10000
set_option linter.unusedSimpArgs false

def RiseI (l : List Int) : Prop := l.Pairwise fun a b => a < b

theorem riseI_eq {l k : List Int} (hl : RiseI l) (hk : RiseI k) (h : ∀ x, x ∈ l ↔ x ∈ k) : l = k := by
  have nd : ∀ {l : List Int}, RiseI l → l.Nodup := fun {l} hl => hl.imp fun {a b} hab e => by omega
  refine List.Perm.eq_of_pairwise (le := fun a b => a < b) (fun a b _ _ h1 h2 => ?_) hl hk ?_
  · omega
  · exact (List.perm_ext_iff_of_nodup (nd hl) (nd hk)).2 h

theorem dedupI_mem : ∀ (l : List Int) (x : Int), x ∈ dedup eqI l ↔ x ∈ l
  | [], x => by simp [dedup]
  | y :: l, x => by
    have ih := dedupI_mem l x
    simp only [dedup]
    cases h : dedup eqI l with
    | nil =>
      have : ∀ z, z ∉ l := fun z hz => by have := (dedupI_mem l z).2 hz; rw [h] at this; cases this
      simp [this]
    | cons z r =>
      rw [h] at ih
      simp only []
      cases e : eqI y z with
      | true =>
        obtain rfl : y = z := by simpa [eqI] using e
        rw [cond_true, List.mem_cons (a := x) (b := y) (l := l), ← ih]
        simp only [List.mem_cons]
        constructor
        · exact .inr
        · rintro (h | h)
          · exact .inl h
          · exact h
      | false => rw [cond_false, List.mem_cons, ih, List.mem_cons]

theorem dedupI_rise : ∀ l : List Int, l.Pairwise (fun a b => ltI b a = false) → RiseI (dedup eqI l)
  | [], _ => .nil
  | y :: l, h => by
    have h' := List.pairwise_cons.1 h
    have ih := dedupI_rise l h'.2
    have hm := dedupI_mem l
    simp only [dedup]
    cases e : dedup eqI l with
    | nil => simp [RiseI]
    | cons z r =>
      rw [e] at ih hm
      simp only []
      cases e2 : eqI y z with
      | true => exact ih
      | false =>
        have hyz : y < z := by
          have hz := h'.1 z ((hm z).1 (List.mem_cons_self ..))
          simp only [ltI, decide_eq_false_iff_not] at hz
          simp only [eqI, beq_eq_false_iff_ne] at e2
          omega
        refine List.pairwise_cons.2 ⟨fun x hx => ?_, ih⟩
        rcases List.mem_cons.1 hx with rfl | hx
        · exact hyz
        · have := (List.pairwise_cons.1 ih).1 x hx
          omega

theorem risingI_spec (V : List Int) : RiseI (risingI V) ∧ ∀ x, x ∈ risingI V ↔ x ∈ V := by
  constructor
  · refine dedupI_rise _ (isort_sorted (fun a b h => ?_) (fun a b c h1 h2 => ?_) V)
    · simp only [ltI, decide_eq_true_eq, decide_eq_false_iff_not] at *; omega
    · simp only [ltI, decide_eq_false_iff_not] at *; omega
  · intro x
    rw [risingI, dedupI_mem, (isort_perm ltI V).mem_iff]

theorem goI_true (n : Int) : ∀ l, goI n true l = l
  | [] => rfl
  | x :: l => by simp [goI, goI_true n l]

theorem goI_spec (n : Int) : ∀ l : List Int, RiseI l → (∀ x ∈ l, x ≠ n) → RiseI (goI n false l) ∧ ∀ x, x ∈ goI n false l ↔ x ∈ l ∨ x = n
  | [], _, _ => by simp [goI, RiseI]
  | y :: l, h, hn => by
    have h' := List.pairwise_cons.1 h
    have hy : y ≠ n := hn y (List.mem_cons_self ..)
    by_cases hlt : n < y
    · simp only [goI, hlt, goI_true, Bool.not_false, decide_true, Bool.and_self, cond_true]
      refine ⟨List.pairwise_cons.2 ⟨fun x hx => ?_, h⟩, fun x => ?_⟩
      · rcases List.mem_cons.1 hx with rfl | hx
        · exact hlt
        · have := h'.1 x hx; omega
      · simp only [List.mem_cons]
        constructor
        · rintro (h | h | h)
          · exact .inr h
          · exact .inl (.inl h)
          · exact .inl (.inr h)
        · rintro ((h | h) | h)
          · exact .inr (.inl h)
          · exact .inr (.inr h)
          · exact .inl h
    · obtain ⟨i1, i2⟩ := goI_spec n l h'.2 (fun x hx => hn x (List.mem_cons_of_mem _ hx))
      simp only [goI, hlt, decide_false, Bool.and_false, cond_false]
      refine ⟨List.pairwise_cons.2 ⟨fun x hx => ?_, i1⟩, fun x => ?_⟩
      · rcases (i2 x).1 hx with hx | rfl
        · exact h'.1 x hx
        · omega
      · simp only [List.mem_cons, i2, or_assoc]

theorem putI_spec (n : Int) (l : List Int) (h : RiseI l) : RiseI (putI l n) ∧ ∀ x, x ∈ putI l n ↔ x ∈ l ∨ x = n := by
  unfold putI
  cases e : hasI n l with
  | true =>
    obtain ⟨y, hy, e2⟩ := List.any_eq_true.1 e
    obtain rfl : y = n := by simpa using e2
    exact ⟨h, fun x => ⟨.inl, fun hx => by rcases hx with hx | rfl; exact hx; exact hy⟩⟩
  | false =>
    refine goI_spec n l h fun x hx e2 => ?_
    have : hasI n l = true := List.any_eq_true.2 ⟨x, hx, by simp [e2]⟩
    rw [e] at this
    cases this

theorem foldI_spec : ∀ (V l : List Int), RiseI l → RiseI (V.foldl putI l) ∧ ∀ x, x ∈ V.foldl putI l ↔ x ∈ l ∨ x ∈ V
  | [], l, h => ⟨h, by simp⟩
  | s :: V, l, h => by
    obtain ⟨i1, i2⟩ := putI_spec s l h
    obtain ⟨j1, j2⟩ := foldI_spec V _ i1
    exact ⟨j1, fun x => by simp only [List.foldl_cons, j2, i2, List.mem_cons, or_assoc]⟩

theorem risingI_put (V : List Int) : risingI V = V.foldl putI [] := by
  obtain ⟨h1, h2⟩ := risingI_spec V
  obtain ⟨h3, h4⟩ := foldI_spec V [] .nil
  exact riseI_eq h1 h3 fun x => by rw [h2, h4]; simp

theorem risingI_len (V : List Int) : (risingI V).length ≤ V.length := by
  rw [risingI_put]
  have := foldI_len V []
  simpa using this

attribute [-simp] List.all_eq_true put slot_def ld idxA lenOf elems canA app hand

theorem ints_true (l : List Int) {o : List Obj} {v w : AV} (L : Ls o 1 v (intA l)) (K : Ls o 1 w (intA l)) (hl : l.length ≤ 4294967296) (ro : Nat) (df : List Nat) :
    (D T).call 22 [v, w] ⟨o, ro, df⟩ = some (.bool true, ⟨o, ro, df⟩) := by
  have hmx : l.length ≤ 9223372036854775807 := by omega
  have h1 := L.len
  have h2 := K.len
  have g1 := fun (i : Nat) x (h : l[i]? = some x) => L.get [] o.length [] i [.int .i64 x] (intA_get h) rfl
  have g2 := fun (i : Nat) x (h : l[i]? = some x) => K.get [] o.length [] i [.int .i64 x] (intA_get h) rfl
  simp only [intA_len, List.append_nil] at h1 h2 g1 g2
  have c1 := L.can
  have c2 := K.can
  apply call_by (by exact rfl : T 22 = some _) (by simp)
  intro fr hfr hsl
  have s0 := hsl 0 _ rfl
  have s1 := hsl 1 _ rfl
  simp -implicitDefEqProofs [hfr, s0, s1, h1, h2, c1, c2]
  apply loop_inv L22_0.eq_1 List.length (fun (rest : List Int) fr st => ∃ pre, l = pre ++ rest ∧ fr.length = 26 ∧ slot fr 0 = v ∧ slot fr 1 = w ∧ slot fr 5 = .int .i64 (pre.length : Int) ∧ st = ⟨o, o.length, []⟩) ?_ l ⟨[], rfl, by simp [hfr], by simp [hfr, s0], by simp [hfr, s1], by simp [hfr], rfl⟩
  clear hfr s0 s1 hsl
  rintro rest fr _ ⟨pre, e, hfr, q0, q1, q5, rfl⟩
  cases rest with
  | nil =>
    have hlt := idx_end e
    simp -implicitDefEqProofs [hfr, q0, q1, q5, hlt, h1, h2, c1, c2]
  | cons x rest =>
    obtain ⟨hlt, hg, _⟩ := idx_at e
    have hw := idx_next e hmx
    obtain ⟨p, p1, p2⟩ := g1 _ _ hg
    obtain ⟨p', p3, p4⟩ := g2 _ _ hg
    simp -implicitDefEqProofs [hfr, q0, q1, q5, hlt, hw, h1, h2, c1, c2, p1, p2, p3, p4]
    exact ⟨rest, by simp, pre ++ [x], by simp [e], by simp⟩

end Go.Proofs.Ytjmhkbnhfpgciaa.A
