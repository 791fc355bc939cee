/- How great a claim is; which of two claims is less. -/
import Derived.Test.YtkecobdhgabknaaDoorC1
import Derived.Test.YtkecobdhgabknaaDoorS2
namespace Go.Proofs.YtkecobdhgabknaaDoor.A
open Go
set_option maxRecDepth 10000
set_option linter.unusedSimpArgs false
attribute [-simp] List.all_eq_true put slot_def ld idxA lenOf elems canA app hand

mutual
def wt : Cl → Int → Int
  | .mk _ _ _ ts cs, m => wtL cs m (szL ts m 1)
def wtL : List Cl → Int → Int → Int
  | [], _, n => n
  | c :: l, m, n => if n ≤ m then wtL l m (n + wt c (m - n)) else n
end

theorem wtL_out : ∀ (l : List Cl) (m n : Int), ¬ n ≤ m → wtL l m n = n
  | [], _, _, _ => rfl
  | t :: l, m, n, h => by simp [wtL, h]

mutual
theorem wt_le : ∀ (t : Cl) (m : Int), 0 ≤ m → 1 ≤ wt t m ∧ wt t m ≤ m + 1
  | .mk _ _ _ ts l, m, h => by
    have h1 := szL_le ts m 1 (by omega) (by omega)
    have := wtL_le l m _ h1.1 h1.2
    simpa [wt] using this
theorem wtL_le : ∀ (l : List Cl) (m n : Int), 1 ≤ n → n ≤ m + 1 → 1 ≤ wtL l m n ∧ wtL l m n ≤ m + 1
  | [], m, n, h1, h2 => by simp [wtL]; omega
  | t :: l, m, n, h1, h2 => by
    simp only [wtL]
    split
    · have := wt_le t (m - n) (by omega)
      exact wtL_le l m _ (by omega) (by omega)
    · exact ⟨h1, h2⟩
end

theorem weight_eq : ∀ (c : Cl), c.ok → ∀ (m : Int) (st : St), 0 ≤ m → m ≤ 4611686018427387904 → (D T).call 90 [c.av, .int .i64 m] st = some (.int .i64 (wt c m), st)
  | .mk a s u ts cs, hok, m, ⟨o, ro, df⟩, hm, hm' => by
    simp only [Cl.ok] at hok
    have hl := okC_iff.1 hok.2.2.2.2.2.2
    have ht := okL_iff.1 hok.2.2.2.2.1
    have mx1 : ts.length ≤ 9223372036854775807 := Nat.le_trans hok.2.2.2.1 (by decide)
    have mx2 : cs.length ≤ 9223372036854775807 := Nat.le_trans hok.2.2.2.2.2.1 (by decide)
    have ih := fun x (hx : x ∈ cs) m st h1 h2 => weight_eq x (hl x hx) m st h1 h2
    have hsz := fun x (hx : x ∈ ts) m st h1 h2 => size_eq x (ht x hx) m st h1 h2
    simp only [Tm.av, Cl.av] at ih hsz
    apply call_by (by exact rfl : T 90 = some _) (by simp)
    intro fr hfr hsl
    have s0 := hsl 0 _ rfl
    have s1 := hsl 1 _ rfl
    simp only [Cl.av, Cl.cells_mk] at s0
    simp -implicitDefEqProofs [hfr, s0, s1]
    apply loop_inv L90_0.eq_1 List.length (fun (rest : List Tm) fr st => ∃ pre n, ts = pre ++ rest ∧ fr.length = 55 ∧ slot fr 1 = .int .i64 m ∧ slot fr 2 = .ptr o.length 0 0 ∧ slot fr 5 = .int .i64 n ∧ slot fr 6 = .int .i64 (pre.length : Int) ∧
      st = ⟨o ++ [.arr 27 5 [[.int .i64 a, .str s, .str u, .sl 4 (ts.map Tm.cells), .sl 5 (cs.map Cl.cells)]]], o.length, []⟩ ∧ 1 ≤ n ∧ n ≤ m + 1 ∧ szL ts m 1 = szL rest m n) ?_ ts
      ⟨[], 1, rfl, by simp [hfr], by simp [hfr, s1], by simp [hfr], by simp [hfr], by simp [hfr], rfl, by omega, by omega, rfl⟩
    rintro rest fr _ ⟨pre, n, e, hfr, q1, q2, q5, q6, rfl, n1, n2, hn⟩
    have fin2 : ∀ (fr : List AV) (Q : AE → List AV → St → Prop), fr.length = 55 → slot fr 1 = .int .i64 m → slot fr 2 = .ptr o.length 0 0 → slot fr 5 = .int .i64 (szL ts m 1) → slot fr 7 = .int .i64 0 →
        (∀ fr' : List AV, fr'.length = 55 → slot fr' 5 = .int .i64 (wt (.mk a s u ts cs) m) → Q (.exit 2) fr' ⟨o ++ [.arr 27 5 [[.int .i64 a, .str s, .str u, .sl 4 (ts.map Tm.cells), .sl 5 (cs.map Cl.cells)]]], o.length, []⟩) →
        ∃ e fr' st', (D T).loop false L90_1 fr ⟨o ++ [.arr 27 5 [[.int .i64 a, .str s, .str u, .sl 4 (ts.map Tm.cells), .sl 5 (cs.map Cl.cells)]]], o.length, []⟩ = some (e, fr', st') ∧ Q e fr' st' := by
      intro fr Q hfr p1 p2 p5 p7 k
      have hb := szL_le ts m 1 (by omega) (by omega)
      apply loop_inv L90_1.eq_1 List.length (fun (rest : List Cl) fr st => ∃ pre n, cs = pre ++ rest ∧ fr.length = 55 ∧ slot fr 1 = .int .i64 m ∧ slot fr 2 = .ptr o.length 0 0 ∧ slot fr 5 = .int .i64 n ∧ slot fr 7 = .int .i64 (pre.length : Int) ∧
        st = ⟨o ++ [.arr 27 5 [[.int .i64 a, .str s, .str u, .sl 4 (ts.map Tm.cells), .sl 5 (cs.map Cl.cells)]]], o.length, []⟩ ∧ 1 ≤ n ∧ n ≤ m + 1 ∧ wt (.mk a s u ts cs) m = wtL rest m n) ?_ cs
        ⟨[], _, rfl, hfr, p1, p2, p5, p7, rfl, hb.1, hb.2, by simp [wt]⟩
      rintro rest fr _ ⟨pre, n, e, hfr, q1, q2, q5, q7, rfl, n1, n2, hn⟩
      cases rest with
      | nil =>
        have hlt := idx_end e
        simp -implicitDefEqProofs [hfr, q1, q2, q5, q7, hlt, get_base0]
        exact k _ (by simp [hfr]) (by simp [hfr, q5, hn, wtL])
      | cons c rest =>
        obtain ⟨hlt, hg, _⟩ := idx_at e
        have hw := idx_next e mx2
        by_cases hnm : n ≤ m
        · have hc := fun st => ih c (by simp [e]) (m - n) st (by omega) (by omega)
          have hb := wt_le c (m - n) (by omega)
          simp only [wtL, if_pos hnm] at hn
          simp -implicitDefEqProofs [hfr, q1, q2, q5, q7, hlt, get_base0, hg, hw, hnm, hc, wrap_id (show -9223372036854775808 ≤ m - n by omega) (by omega), wrap_id (show -9223372036854775808 ≤ n + wt c (m - n) by omega) (by omega)]
          exact ⟨rest, by simp, pre ++ [c], by simp [e], by simp, by omega, by omega, hn⟩
        · simp only [wtL, if_neg hnm] at hn
          simp -implicitDefEqProofs [hfr, q1, q2, q5, q7, hlt, get_base0, hnm]
          exact k _ (by simp [hfr]) (by simp [hfr, q5, hn])
    cases rest with
    | nil =>
      have hlt := idx_end e
      simp -implicitDefEqProofs [hfr, q1, q2, q5, q6, hlt, get_base0]
      apply fin2
      · simp [hfr]
      · simp [hfr, q1]
      · simp [hfr, q2]
      · simp [hfr, q5, hn, szL]
      · simp [hfr]
      · intro fr' h1 h2
        simp -implicitDefEqProofs [h1, h2]
    | cons t rest =>
      obtain ⟨hlt, hg, _⟩ := idx_at e
      have hw := idx_next e mx1
      by_cases hnm : n ≤ m
      · have hc := fun st => hsz t (by simp [e]) (m - n) st (by omega) (by omega)
        have hb := sz_le t (m - n) (by omega)
        simp only [szL, if_pos hnm] at hn
        simp -implicitDefEqProofs [hfr, q1, q2, q5, q6, hlt, get_base0, hg, hw, hnm, hc, wrap_id (show -9223372036854775808 ≤ m - n by omega) (by omega), wrap_id (show -9223372036854775808 ≤ n + sz t (m - n) by omega) (by omega)]
        exact ⟨rest, by simp, pre ++ [t], by simp [e], by simp, by omega, by omega, hn⟩
      · simp only [szL, if_neg hnm] at hn
        simp -implicitDefEqProofs [hfr, q1, q2, q5, q6, hlt, get_base0, hnm]
        apply fin2
        · simp [hfr]
        · simp [hfr, q1]
        · simp [hfr, q2]
        · simp [hfr, q5, hn]
        · simp [hfr]
        · intro fr' h1 h2
          simp -implicitDefEqProofs [h1, h2]
termination_by t => SizeOf.sizeOf t
decreasing_by
  have := List.sizeOf_lt_of_mem hx
  simp
  omega

theorem big_eq (c : Cl) (hc : c.ok) (m : Int) (h0 : 0 ≤ m) (h1 : m ≤ 4611686018427387904) (st : St) : (D T).call 67 [c.av, .int .i64 m] st = some (.bool (decide (m < wt c m)), st) := by
  have hw := fun st => weight_eq c hc m st h0 h1
  simp only [Cl.av] at hw
  apply call_by (by exact rfl : T 67 = some _) (by simp)
  intro fr hfr hsl
  have s0 := hsl 0 _ rfl
  have s1 := hsl 1 _ rfl
  simp only [Cl.av] at s0
  simp -implicitDefEqProofs [hfr, s0, s1, hw]

end Go.Proofs.YtkecobdhgabknaaDoor.A
/- Claims: which is less. -/
namespace Go.Proofs.YtkecobdhgabknaaDoor.A
open Go
set_option maxRecDepth 10000
set_option linter.unusedSimpArgs false
attribute [-simp] List.all_eq_true put slot_def ld idxA lenOf elems canA app hand

theorem binder_eq (c : Cl) (st : St) : (D T).call 97 [c.av] st = some (.bool (binder (match c with | .mk a _ _ _ _ => a)), st) := by
  obtain ⟨a, s, u, ts, cs⟩ := c
  apply call_by (by exact rfl : T 97 = some _) (by simp)
  intro fr hfr hsl
  have s0 := hsl 0 _ rfl
  simp only [Cl.av, Cl.cells_mk] at s0
  by_cases h : a = 11
  · simp -implicitDefEqProofs [hfr, s0, h, binder]
  · have h' : (a == 11) = false := by simpa using h
    simp -implicitDefEqProofs [hfr, s0, h, h', binder]

def fstT : List Tm → List Tm → Int
  | t :: l, u :: k => if cm t u = 0 then fstT l k else cm t u
  | _, _ => 0

mutual
/-- which claim is less -/
def ccm : Cl → Cl → Int
  | .mk a s u ts cs, .mk a' s' u' ts' cs' =>
    orL [cmpI a a', if binder a = true then 0 else cmpS s s', cmpS u u', cmpI (ts.length : Int) (ts'.length : Int), fstT ts ts', cmpI (cs.length : Int) (cs'.length : Int), ccmL cs cs']
def ccmL : List Cl → List Cl → Int
  | c :: l, d :: k => if ccm c d = 0 then ccmL l k else ccm c d
  | _, _ => 0
end

end Go.Proofs.YtkecobdhgabknaaDoor.A
/- The plain laws of comparing terms. -/
namespace Go.Proofs.YtkecobdhgabknaaDoor.A
open Go

theorem orL_append : ∀ (l : List Int) (y : Int), orL (l ++ [y]) = if orL l = 0 then y else orL l
  | [], y => by by_cases h : y = 0 <;> simp [orL, h]
  | x :: l, y => by
    simp only [List.cons_append, orL]
    by_cases h : x = 0
    · simp only [h, if_true]; exact orL_append l y
    · simp [h]

theorem orL_zero_iff : ∀ l : List Int, orL l = 0 ↔ ∀ x ∈ l, x = 0
  | [] => by simp [orL]
  | x :: l => by
    simp only [orL, List.mem_cons, forall_eq_or_imp]
    by_cases h : x = 0
    · simp only [h, if_true, true_and]; exact orL_zero_iff l
    · simp [h]

theorem cmpI_zero (a b : Int) : cmpI a b = 0 ↔ a = b := by
  unfold cmpI
  by_cases h1 : a < b
  · simp [h1]; omega
  · by_cases h2 : b < a
    · simp [h1, h2]; omega
    · simp [h1, h2]; omega

theorem bytesLess_self : ∀ l : List UInt8, Op.bytesLess l l = false
  | [] => rfl
  | a :: l => by simp [Op.bytesLess, bytesLess_self l]

theorem bytesEq_iff (a b : ByteArray) : bytesEq a b = true ↔ a.toList = b.toList := by simp [bytesEq]

theorem cmpS_zero (a b : ByteArray) : cmpS a b = 0 ↔ bytesEq a b = true := by
  unfold cmpS
  cases h : bytesEq a b with
  | true =>
    have : bytesLt a b = false := by
      unfold bytesLt
      rw [(bytesEq_iff a b).1 h]
      exact bytesLess_self _
    simp [this]
  | false => cases h2 : bytesLt a b <;> simp

mutual
theorem cm_tm : ∀ t u : Tm, cm t u = 0 ↔ tmEq t u = true
  | .mk a s b l, .mk a' s' b' l' => by
    rw [cm, tmEq, orL_zero_iff]
    simp only [List.mem_cons, List.not_mem_nil, or_false, forall_eq_or_imp, forall_eq, cmpI_zero, cmpS_zero, Bool.and_eq_true, beq_iff_eq]
    constructor
    · rintro ⟨h1, h2, h3, h4, h5⟩
      have h4' : l.length = l'.length := by omega
      exact ⟨⟨⟨h1, h3⟩, h2⟩, h4', (cmL_ts l l' h4').1 h5⟩
    · rintro ⟨⟨⟨h1, h3⟩, h2⟩, h4, h5⟩
      exact ⟨h1, h2, h3, by omega, (cmL_ts l l' h4).2 h5⟩
theorem cmL_ts : ∀ l k : List Tm, l.length = k.length → (cmL l k = 0 ↔ tsEq l k = true)
  | [], [], _ => by simp [cmL, tsEq]
  | [], _ :: _, h => by simp at h
  | _ :: _, [], h => by simp at h
  | t :: l, u :: k, h => by
    simp only [cmL, tsEq, Bool.and_eq_true]
    by_cases hz : cm t u = 0
    · rw [if_pos hz, cmL_ts l k (by simpa using h)]
      simp [(cm_tm t u).1 hz]
    · rw [if_neg hz]
      have : ¬ tmEq t u = true := fun q => hz ((cm_tm t u).2 q)
      simp [hz, this]
end

end Go.Proofs.YtkecobdhgabknaaDoor.A
