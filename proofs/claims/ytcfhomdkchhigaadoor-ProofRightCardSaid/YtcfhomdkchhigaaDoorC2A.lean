/- How great a claim is; which of two claims is less. -/
import Derived.Test.YtcfhomdkchhigaaDoorC1
namespace Go.Proofs.YtcfhomdkchhigaaDoor.A
open Go
set_option maxRecDepth 10000
set_option linter.unusedSimpArgs false
attribute [-simp] List.all_eq_true put slot_def ld idxA lenOf elems canA app hand

mutual
def wt : Cl → Int → Int
  | .mk _ _ _ ts cs, m => wtL cs m (szL ts m 1)
def wtL : List Cl → Int → Int → Int
  | [], _, n => n
  | c :: l, m, n => if n ≤ m then wtL l m (n + wt c (m - n)) else n
end

theorem wtL_out : ∀ (l : List Cl) (m n : Int), ¬ n ≤ m → wtL l m n = n
  | [], _, _, _ => rfl
  | t :: l, m, n, h => by simp [wtL, h]

mutual
theorem wt_le : ∀ (t : Cl) (m : Int), 0 ≤ m → 1 ≤ wt t m ∧ wt t m ≤ m + 1
  | .mk _ _ _ ts l, m, h => by
    have h1 := szL_le ts m 1 (by omega) (by omega)
    have := wtL_le l m _ h1.1 h1.2
    simpa [wt] using this
theorem wtL_le : ∀ (l : List Cl) (m n : Int), 1 ≤ n → n ≤ m + 1 → 1 ≤ wtL l m n ∧ wtL l m n ≤ m + 1
  | [], m, n, h1, h2 => by simp [wtL]; omega
  | t :: l, m, n, h1, h2 => by
    simp only [wtL]
    split
    · have := wt_le t (m - n) (by omega)
      exact wtL_le l m _ (by omega) (by omega)
    · exact ⟨h1, h2⟩
end

theorem weight_eq : ∀ (c : Cl), c.ok → ∀ (m : Int) (st : St), 0 ≤ m → m ≤ 4611686018427387904 → (D T).call 90 [c.av, .int .i64 m] st = some (.int .i64 (wt c m), st)
  | .mk a s u ts cs, hok, m, ⟨o, ro, df⟩, hm, hm' => by
    simp only [Cl.ok] at hok
    have hl := okC_iff.1 hok.2.2.2.2.2.2
    have ht := okL_iff.1 hok.2.2.2.2.1
    have mx1 : ts.length ≤ 9223372036854775807 := Nat.le_trans hok.2.2.2.1 (by decide)
    have mx2 : cs.length ≤ 9223372036854775807 := Nat.le_trans hok.2.2.2.2.2.1 (by decide)
    have ih := fun x (hx : x ∈ cs) m st h1 h2 => weight_eq x (hl x hx) m st h1 h2
    have hsz := fun x (hx : x ∈ ts) m st h1 h2 => size_eq x (ht x hx) m st h1 h2
    simp only [Tm.av, Cl.av] at ih hsz
    apply call_by (by exact rfl : T 90 = some _) (by simp)
    intro fr hfr hsl
    have s0 := hsl 0 _ rfl
    have s1 := hsl 1 _ rfl
    simp only [Cl.av, Cl.cells_mk] at s0
    simp -implicitDefEqProofs [hfr, s0, s1]
    apply loop_inv L90_0.eq_1 List.length (fun (rest : List Tm) fr st => ∃ pre n, ts = pre ++ rest ∧ fr.length = 55 ∧ slot fr 1 = .int .i64 m ∧ slot fr 2 = .ptr o.length 0 0 ∧ slot fr 5 = .int .i64 n ∧ slot fr 6 = .int .i64 (pre.length : Int) ∧
      st = ⟨o ++ [.arr 27 5 [[.int .i64 a, .str s, .str u, .sl 4 (ts.map Tm.cells), .sl 5 (cs.map Cl.cells)]]], o.length, []⟩ ∧ 1 ≤ n ∧ n ≤ m + 1 ∧ szL ts m 1 = szL rest m n) ?_ ts
      ⟨[], 1, rfl, by simp [hfr], by simp [hfr, s1], by simp [hfr], by simp [hfr], by simp [hfr], rfl, by omega, by omega, rfl⟩
    rintro rest fr _ ⟨pre, n, e, hfr, q1, q2, q5, q6, rfl, n1, n2, hn⟩
    have fin2 : ∀ (fr : List AV) (Q : AE → List AV → St → Prop), fr.length = 55 → slot fr 1 = .int .i64 m → slot fr 2 = .ptr o.length 0 0 → slot fr 5 = .int .i64 (szL ts m 1) → slot fr 7 = .int .i64 0 →
        (∀ fr' : List AV, fr'.length = 55 → slot fr' 5 = .int .i64 (wt (.mk a s u ts cs) m) → Q (.exit 2) fr' ⟨o ++ [.arr 27 5 [[.int .i64 a, .str s, .str u, .sl 4 (ts.map Tm.cells), .sl 5 (cs.map Cl.cells)]]], o.length, []⟩) →
        ∃ e fr' st', (D T).loop false L90_1 fr ⟨o ++ [.arr 27 5 [[.int .i64 a, .str s, .str u, .sl 4 (ts.map Tm.cells), .sl 5 (cs.map Cl.cells)]]], o.length, []⟩ = some (e, fr', st') ∧ Q e fr' st' := by
      intro fr Q hfr p1 p2 p5 p7 k
      have hb := szL_le ts m 1 (by omega) (by omega)
      apply loop_inv L90_1.eq_1 List.length (fun (rest : List Cl) fr st => ∃ pre n, cs = pre ++ rest ∧ fr.length = 55 ∧ slot fr 1 = .int .i64 m ∧ slot fr 2 = .ptr o.length 0 0 ∧ slot fr 5 = .int .i64 n ∧ slot fr 7 = .int .i64 (pre.length : Int) ∧
        st = ⟨o ++ [.arr 27 5 [[.int .i64 a, .str s, .str u, .sl 4 (ts.map Tm.cells), .sl 5 (cs.map Cl.cells)]]], o.length, []⟩ ∧ 1 ≤ n ∧ n ≤ m + 1 ∧ wt (.mk a s u ts cs) m = wtL rest m n) ?_ cs
        ⟨[], _, rfl, hfr, p1, p2, p5, p7, rfl, hb.1, hb.2, by simp [wt]⟩
      rintro rest fr _ ⟨pre, n, e, hfr, q1, q2, q5, q7, rfl, n1, n2, hn⟩
      cases rest with
      | nil =>
        have hlt := idx_end e
        simp -implicitDefEqProofs [hfr, q1, q2, q5, q7, hlt, get_base0]
        exact k _ (by simp [hfr]) (by simp [hfr, q5, hn, wtL])
      | cons c rest =>
        obtain ⟨hlt, hg, _⟩ := idx_at e
        have hw := idx_next e mx2
        by_cases hnm : n ≤ m
        · have hc := fun st => ih c (by simp [e]) (m - n) st (by omega) (by omega)
          have hb := wt_le c (m - n) (by omega)
          simp only [wtL, if_pos hnm] at hn
          simp -implicitDefEqProofs [hfr, q1, q2, q5, q7, hlt, get_base0, hg, hw, hnm, hc, wrap_id (show -9223372036854775808 ≤ m - n by omega) (by omega), wrap_id (show -9223372036854775808 ≤ n + wt c (m - n) by omega) (by omega)]
          exact ⟨rest, by simp, pre ++ [c], by simp [e], by simp, by omega, by omega, hn⟩
        · simp only [wtL, if_neg hnm] at hn
          simp -implicitDefEqProofs [hfr, q1, q2, q5, q7, hlt, get_base0, hnm]
          exact k _ (by simp [hfr]) (by simp [hfr, q5, hn])
    cases rest with
    | nil =>
      have hlt := idx_end e
      simp -implicitDefEqProofs [hfr, q1, q2, q5, q6, hlt, get_base0]
      apply fin2
      · simp [hfr]
      · simp [hfr, q1]
      · simp [hfr, q2]
      · simp [hfr, q5, hn, szL]
      · simp [hfr]
      · intro fr' h1 h2
        simp -implicitDefEqProofs [h1, h2]
    | cons t rest =>
      obtain ⟨hlt, hg, _⟩ := idx_at e
      have hw := idx_next e mx1
      by_cases hnm : n ≤ m
      · have hc := fun st => hsz t (by simp [e]) (m - n) st (by omega) (by omega)
        have hb := sz_le t (m - n) (by omega)
        simp only [szL, if_pos hnm] at hn
        simp -implicitDefEqProofs [hfr, q1, q2, q5, q6, hlt, get_base0, hg, hw, hnm, hc, wrap_id (show -9223372036854775808 ≤ m - n by omega) (by omega), wrap_id (show -9223372036854775808 ≤ n + sz t (m - n) by omega) (by omega)]
        exact ⟨rest, by simp, pre ++ [t], by simp [e], by simp, by omega, by omega, hn⟩
      · simp only [szL, if_neg hnm] at hn
        simp -implicitDefEqProofs [hfr, q1, q2, q5, q6, hlt, get_base0, hnm]
        apply fin2
        · simp [hfr]
        · simp [hfr, q1]
        · simp [hfr, q2]
        · simp [hfr, q5, hn]
        · simp [hfr]
        · intro fr' h1 h2
          simp -implicitDefEqProofs [h1, h2]
termination_by t => SizeOf.sizeOf t
decreasing_by
  have := List.sizeOf_lt_of_mem hx
  simp
  omega

theorem big_eq (c : Cl) (hc : c.ok) (m : Int) (h0 : 0 ≤ m) (h1 : m ≤ 4611686018427387904) (st : St) : (D T).call 67 [c.av, .int .i64 m] st = some (.bool (decide (m < wt c m)), st) := by
  have hw := fun st => weight_eq c hc m st h0 h1
  simp only [Cl.av] at hw
  apply call_by (by exact rfl : T 67 = some _) (by simp)
  intro fr hfr hsl
  have s0 := hsl 0 _ rfl
  have s1 := hsl 1 _ rfl
  simp only [Cl.av] at s0
  simp -implicitDefEqProofs [hfr, s0, s1, hw]

end Go.Proofs.YtcfhomdkchhigaaDoor.A
