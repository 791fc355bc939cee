/- How large terms and claims are: the document's. -/
import Derived.Test.YtjmhkbnhfpgciaaK1
namespace Go.Proofs.Ytjmhkbnhfpgciaa.A
open Go
set_option maxRecDepth 10000
set_option linter.unusedSimpArgs false
attribute [-simp] List.all_eq_true put slot_def ld idxA lenOf elems canA app hand

theorem rsize8_eq : ∀ (t : Tm), t.ok → ∀ (m : Int) (st : St), 0 ≤ m → m ≤ 4611686018427387904 → (D T).call 70 [t.av, .int .i64 m] st = some (.int .i64 (sz t m), st)
  | .mk a s b l, hok, m, ⟨o, ro, df⟩, hm, hm' => by
    simp only [Tm.ok] at hok
    have hl := okL_iff.1 hok.2.2.2.2
    have mx1 : l.length ≤ 9223372036854775807 := Nat.le_trans hok.2.2.2.1 (by decide)
    have hsz := fun x (hx : x ∈ l) m st h1 h2 => rsize8_eq x (hl x hx) m st h1 h2
    simp only [Tm.av] at hsz
    apply call_by (by exact rfl : T 70 = some _) (by simp)
    intro fr hfr hsl
    have s0 := hsl 0 _ rfl
    have s1 := hsl 1 _ rfl
    simp only [Tm.av, Tm.cells_mk] at s0
    simp -implicitDefEqProofs [hfr, s0, s1]
    apply loop_inv L70_0.eq_1 List.length (fun (rest : List Tm) fr st => ∃ pre n, l = pre ++ rest ∧ fr.length = 31 ∧ slot fr 1 = .int .i64 m ∧ slot fr 2 = .ptr o.length 0 0 ∧ slot fr 5 = .int .i64 n ∧ slot fr 6 = .int .i64 (pre.length : Int) ∧
      st = ⟨o ++ [.arr 27 4 [[.int .i64 a, .str s, .int .i64 b, .sl 4 (l.map Tm.cells)]]], o.length, []⟩ ∧ 1 ≤ n ∧ n ≤ m + 1 ∧ sz (.mk a s b l) m = szL rest m n) ?_ l
      ⟨[], 1, rfl, by simp [hfr], by simp [hfr, s1], by simp [hfr], by simp [hfr], by simp [hfr], rfl, by omega, by omega, by simp [sz]⟩
    rintro rest fr _ ⟨pre, n, e, hfr, q1, q2, q5, q6, rfl, n1, n2, hn⟩
    cases rest with
    | nil =>
      have hlt := idx_end e
      simp only [szL] at hn
      simp -implicitDefEqProofs [hfr, q1, q2, q5, q6, hlt, get_base0, hn]
    | cons t rest =>
      obtain ⟨hlt, hg, _⟩ := idx_at e
      have hw := idx_next e mx1
      by_cases hnm : n ≤ m
      · have hc := fun st => hsz t (by simp [e]) (m - n) st (by omega) (by omega)
        have hb := sz_le t (m - n) (by omega)
        simp only [szL, if_pos hnm] at hn
        simp -implicitDefEqProofs [hfr, q1, q2, q5, q6, hlt, get_base0, hg, hw, hnm, hc, wrap_id (show -9223372036854775808 ≤ m - n by omega) (by omega), wrap_id (show -9223372036854775808 ≤ n + sz t (m - n) by omega) (by omega)]
        exact ⟨rest, by simp, pre ++ [t], by simp [e], by simp, by omega, by omega, hn⟩
      · simp only [szL, if_neg hnm] at hn
        simp -implicitDefEqProofs [hfr, q1, q2, q5, q6, hlt, get_base0, hnm, hn]
termination_by t => SizeOf.sizeOf t
decreasing_by
  have := List.sizeOf_lt_of_mem hx
  simp
  omega

theorem weigh_eq : ∀ (c : Cl), c.ok → ∀ (m : Int) (st : St), 0 ≤ m → m ≤ 4611686018427387904 → (D T).call 59 [c.av, .int .i64 m] st = some (.int .i64 (wt c m), st)
  | .mk a s u ts cs, hok, m, ⟨o, ro, df⟩, hm, hm' => by
    simp only [Cl.ok] at hok
    have hl := okC_iff.1 hok.2.2.2.2.2.2
    have ht := okL_iff.1 hok.2.2.2.2.1
    have mx1 : ts.length ≤ 9223372036854775807 := Nat.le_trans hok.2.2.2.1 (by decide)
    have mx2 : cs.length ≤ 9223372036854775807 := Nat.le_trans hok.2.2.2.2.2.1 (by decide)
    have ih := fun x (hx : x ∈ cs) m st h1 h2 => weigh_eq x (hl x hx) m st h1 h2
    have hsz := fun x (hx : x ∈ ts) m st h1 h2 => rsize8_eq x (ht x hx) m st h1 h2
    simp only [Tm.av, Cl.av] at ih hsz
    apply call_by (by exact rfl : T 59 = some _) (by simp)
    intro fr hfr hsl
    have s0 := hsl 0 _ rfl
    have s1 := hsl 1 _ rfl
    simp only [Cl.av, Cl.cells_mk] at s0
    simp -implicitDefEqProofs [hfr, s0, s1]
    apply loop_inv L59_0.eq_1 List.length (fun (rest : List Tm) fr st => ∃ pre n, ts = pre ++ rest ∧ fr.length = 55 ∧ slot fr 1 = .int .i64 m ∧ slot fr 2 = .ptr o.length 0 0 ∧ slot fr 5 = .int .i64 n ∧ slot fr 6 = .int .i64 (pre.length : Int) ∧
      st = ⟨o ++ [.arr 25 5 [[.int .i64 a, .str s, .str u, .sl 4 (ts.map Tm.cells), .sl 5 (cs.map Cl.cells)]]], o.length, []⟩ ∧ 1 ≤ n ∧ n ≤ m + 1 ∧ szL ts m 1 = szL rest m n) ?_ ts
      ⟨[], 1, rfl, by simp [hfr], by simp [hfr, s1], by simp [hfr], by simp [hfr], by simp [hfr], rfl, by omega, by omega, rfl⟩
    rintro rest fr _ ⟨pre, n, e, hfr, q1, q2, q5, q6, rfl, n1, n2, hn⟩
    have fin2 : ∀ (fr : List AV) (Q : AE → List AV → St → Prop), fr.length = 55 → slot fr 1 = .int .i64 m → slot fr 2 = .ptr o.length 0 0 → slot fr 5 = .int .i64 (szL ts m 1) → slot fr 7 = .int .i64 0 →
        (∀ fr' : List AV, fr'.length = 55 → slot fr' 5 = .int .i64 (wt (.mk a s u ts cs) m) → Q (.exit 2) fr' ⟨o ++ [.arr 25 5 [[.int .i64 a, .str s, .str u, .sl 4 (ts.map Tm.cells), .sl 5 (cs.map Cl.cells)]]], o.length, []⟩) →
        ∃ e fr' st', (D T).loop false L59_1 fr ⟨o ++ [.arr 25 5 [[.int .i64 a, .str s, .str u, .sl 4 (ts.map Tm.cells), .sl 5 (cs.map Cl.cells)]]], o.length, []⟩ = some (e, fr', st') ∧ Q e fr' st' := by
      intro fr Q hfr p1 p2 p5 p7 k
      have hb := szL_le ts m 1 (by omega) (by omega)
      apply loop_inv L59_1.eq_1 List.length (fun (rest : List Cl) fr st => ∃ pre n, cs = pre ++ rest ∧ fr.length = 55 ∧ slot fr 1 = .int .i64 m ∧ slot fr 2 = .ptr o.length 0 0 ∧ slot fr 5 = .int .i64 n ∧ slot fr 7 = .int .i64 (pre.length : Int) ∧
        st = ⟨o ++ [.arr 25 5 [[.int .i64 a, .str s, .str u, .sl 4 (ts.map Tm.cells), .sl 5 (cs.map Cl.cells)]]], o.length, []⟩ ∧ 1 ≤ n ∧ n ≤ m + 1 ∧ wt (.mk a s u ts cs) m = wtL rest m n) ?_ cs
        ⟨[], _, rfl, hfr, p1, p2, p5, p7, rfl, hb.1, hb.2, by simp [wt]⟩
      rintro rest fr _ ⟨pre, n, e, hfr, q1, q2, q5, q7, rfl, n1, n2, hn⟩
      cases rest with
      | nil =>
        have hlt := idx_end e
        simp -implicitDefEqProofs [hfr, q1, q2, q5, q7, hlt, get_base0]
        exact k _ (by simp [hfr]) (by simp [hfr, q5, hn, wtL])
      | cons c rest =>
        obtain ⟨hlt, hg, _⟩ := idx_at e
        have hw := idx_next e mx2
        by_cases hnm : n ≤ m
        · have hc := fun st => ih c (by simp [e]) (m - n) st (by omega) (by omega)
          have hb := wt_le c (m - n) (by omega)
          simp only [wtL, if_pos hnm] at hn
          simp -implicitDefEqProofs [hfr, q1, q2, q5, q7, hlt, get_base0, hg, hw, hnm, hc, wrap_id (show -9223372036854775808 ≤ m - n by omega) (by omega), wrap_id (show -9223372036854775808 ≤ n + wt c (m - n) by omega) (by omega)]
          exact ⟨rest, by simp, pre ++ [c], by simp [e], by simp, by omega, by omega, hn⟩
        · simp only [wtL, if_neg hnm] at hn
          simp -implicitDefEqProofs [hfr, q1, q2, q5, q7, hlt, get_base0, hnm]
          exact k _ (by simp [hfr]) (by simp [hfr, q5, hn])
    cases rest with
    | nil =>
      have hlt := idx_end e
      simp -implicitDefEqProofs [hfr, q1, q2, q5, q6, hlt, get_base0]
      apply fin2
      · simp [hfr]
      · simp [hfr, q1]
      · simp [hfr, q2]
      · simp [hfr, q5, hn, szL]
      · simp [hfr]
      · intro fr' h1 h2
        simp -implicitDefEqProofs [h1, h2]
    | cons t rest =>
      obtain ⟨hlt, hg, _⟩ := idx_at e
      have hw := idx_next e mx1
      by_cases hnm : n ≤ m
      · have hc := fun st => hsz t (by simp [e]) (m - n) st (by omega) (by omega)
        have hb := sz_le t (m - n) (by omega)
        simp only [szL, if_pos hnm] at hn
        simp -implicitDefEqProofs [hfr, q1, q2, q5, q6, hlt, get_base0, hg, hw, hnm, hc, wrap_id (show -9223372036854775808 ≤ m - n by omega) (by omega), wrap_id (show -9223372036854775808 ≤ n + sz t (m - n) by omega) (by omega)]
        exact ⟨rest, by simp, pre ++ [t], by simp [e], by simp, by omega, by omega, hn⟩
      · simp only [szL, if_neg hnm] at hn
        simp -implicitDefEqProofs [hfr, q1, q2, q5, q6, hlt, get_base0, hnm]
        apply fin2
        · simp [hfr]
        · simp [hfr, q1]
        · simp [hfr, q2]
        · simp [hfr, q5, hn]
        · simp [hfr]
        · intro fr' h1 h2
          simp -implicitDefEqProofs [h1, h2]
termination_by t => SizeOf.sizeOf t
decreasing_by
  have := List.sizeOf_lt_of_mem hx
  simp
  omega

mutual
/-- how many parts, terms' parts too -/
def csz : Cl → Int
  | .mk _ _ _ ts cs => 1 + (allL ts).length + cszL cs
def cszL : List Cl → Int
  | [] => 0
  | c :: l => csz c + cszL l
end

mutual
theorem csz_pos : ∀ c : Cl, 1 ≤ csz c
  | .mk _ _ _ ts cs => by have := cszL_pos cs; simp only [csz]; omega
theorem cszL_pos : ∀ l : List Cl, 0 ≤ cszL l
  | [] => by simp [cszL]
  | c :: l => by have := csz_pos c; have := cszL_pos l; simp only [cszL]; omega
end

mutual
theorem sz_min : ∀ (t : Tm) (m : Int), 0 ≤ m → min (sz t m) (m + 1) = min (t.all.length : Int) (m + 1)
  | .mk a s b l, m, h => by
    have := szL_min l m 1 (by omega) (by omega)
    simp only [sz, Tm.all, List.length_cons]
    omega
theorem szL_min : ∀ (l : List Tm) (m n : Int), 1 ≤ n → n ≤ m + 1 → min (szL l m n) (m + 1) = min (n + ((allL l).length : Int)) (m + 1)
  | [], m, n, h1, h2 => by simp [szL, allL]
  | t :: l, m, n, h1, h2 => by
    simp only [szL, allL, List.length_append]
    by_cases hn : n ≤ m
    · rw [if_pos hn]
      have h3 := sz_min t (m - n) (by omega)
      have h4 := sz_le t (m - n) (by omega)
      have h5 := szL_min l m (n + sz t (m - n)) (by omega) (by omega)
      omega
    · rw [if_neg hn]
      omega
end

mutual
theorem wt_min : ∀ (c : Cl) (m : Int), 0 ≤ m → min (wt c m) (m + 1) = min (csz c) (m + 1)
  | .mk a s u ts cs, m, h => by
    have h1 := szL_min ts m 1 (by omega) (by omega)
    have h2 := szL_le ts m 1 (by omega) (by omega)
    have h3 := wtL_min cs m (szL ts m 1) h2.1 h2.2
    have h4 := cszL_pos cs
    simp only [wt, csz]
    omega
theorem wtL_min : ∀ (l : List Cl) (m n : Int), 1 ≤ n → n ≤ m + 1 → min (wtL l m n) (m + 1) = min (n + cszL l) (m + 1)
  | [], m, n, h1, h2 => by simp [wtL, cszL]
  | c :: l, m, n, h1, h2 => by
    have hp := csz_pos c
    have hl := cszL_pos l
    simp only [wtL, cszL]
    by_cases hn : n ≤ m
    · rw [if_pos hn]
      have h3 := wt_min c (m - n) (by omega)
      have h4 := wt_le c (m - n) (by omega)
      have h5 := wtL_min l m (n + wt c (m - n)) (by omega) (by omega)
      omega
    · rw [if_neg hn]
      omega
end

theorem crSize_eq (c : Cl) (hc : c.ok) (o : List Obj) (ro : Nat) (df : List Nat) : (D T).call 43 [c.av] ⟨o, ro, df⟩ = some (.int .i64 (min (csz c) 4097), ⟨o, ro, df⟩) := by
  have h := fun st => weigh_eq c hc 4096 st (by omega) (by omega)
  have hm := wt_min c 4096 (by omega)
  have hle := wt_le c 4096 (by omega)
  have e : wt c 4096 = min (csz c) 4097 := by omega
  have hb : ¬ 4097 < min (csz c) 4097 := by omega
  rw [e] at h
  simp only [Cl.av] at h
  apply call_by (by exact rfl : T 43 = some _) (by simp)
  intro fr hfr hsl
  have s0 := hsl 0 _ rfl
  simp only [Cl.av] at s0
  generalize min (csz c) 4097 = v at *
  simp -implicitDefEqProofs [hfr, s0, get_base0, h, hb]

end Go.Proofs.Ytjmhkbnhfpgciaa.A
