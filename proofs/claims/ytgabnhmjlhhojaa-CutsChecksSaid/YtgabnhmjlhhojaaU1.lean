/- exact.Sum: one product more, and whether it fits; over numbers of 192 bits. -/
import Derived.Test.YtgabnhmjlhhojaaQ0
import Derived.Test.YtgabnhmjlhhojaaWr
import Derived.Test.YtgabnhmjlhhojaaCode
namespace Go.Proofs.Ytgabnhmjlhhojaa.A
open Go
set_option maxRecDepth 10000
set_option linter.unusedSimpArgs false
set_option linter.unusedVariables false
attribute [-simp] List.all_eq_true put slot_def ld idxA lenOf elems canA app hand

theorem mul64_eq (x y : Int) (hx : 0 ≤ x ∧ x < 18446744073709551616) (hy : 0 ≤ y ∧ y < 18446744073709551616) (o : List Obj) (ro : Nat) (df : List Nat) :
    (D T).call 121 [.int .u64 x, .int .u64 y] ⟨o, ro, df⟩ = some (.tup [.int .u64 (x * y / 18446744073709551616), .int .u64 (x * y % 18446744073709551616)], ⟨o, ro, df⟩) := by
  have h := mul_hi hx hy
  simp only [] at h
  have a1 := and_u x hx.1 hx.2
  have a2 := and_u y hy.1 hy.2
  have b1 := sh_u x
  have b2 := sh_u y
  rw [← h]
  generalize x / 4294967296 = x1 at *
  generalize y / 4294967296 = y1 at *
  have q0 : 0 ≤ x % 4294967296 ∧ x % 4294967296 < 4294967296 := by omega
  have q1 : 0 ≤ y % 4294967296 ∧ y % 4294967296 < 4294967296 := by omega
  generalize x % 4294967296 = x0 at *
  generalize y % 4294967296 = y0 at *
  have e1 := wrap_u (x1 * y0)
  have e2 := wrap_u (x0 * y0)
  have e3 := wrap_u (x0 * y1)
  have e4 := wrap_u (x1 * y1)
  have e5 := wrap_u (x * y)
  have b3 := sh_u (x0 * y0 % 18446744073709551616)
  have e6 := wrap_u (x1 * y0 % 18446744073709551616 + x0 * y0 % 18446744073709551616 / 4294967296)
  generalize ht : (x1 * y0 % 18446744073709551616 + x0 * y0 % 18446744073709551616 / 4294967296) % 18446744073709551616 = t at *
  have a3 := and_u t (by omega) (by omega)
  have b4 := sh_u t
  have e7 := wrap_u (t % 4294967296 + x0 * y1 % 18446744073709551616)
  generalize hu : (t % 4294967296 + x0 * y1 % 18446744073709551616) % 18446744073709551616 = u at *
  have b5 := sh_u u
  have e8 := wrap_u (x1 * y1 % 18446744073709551616 + t / 4294967296)
  have e9 := wrap_u ((x1 * y1 % 18446744073709551616 + t / 4294967296) % 18446744073709551616 + u / 4294967296)
  apply call_by (by exact rfl : T 121 = some _) (by simp)
  intro fr hfr hsl
  have s0 := hsl 0 _ rfl
  have s1 := hsl 1 _ rfl
  simp -implicitDefEqProofs [hfr, s0, s1, a1, a2, a3, b1, b2, b3, b4, b5, e1, e2, e3, e4, e5, e6, e7, e8, e9, -getElem?_pos, List.getElem?_cons_zero]
  simp only [wrap_u, Int.emod_add_emod]

theorem sign_eq (x : Int) (hx : 0 ≤ x ∧ x < 18446744073709551616) (o : List Obj) (ro : Nat) (df : List Nat) :
    (D T).call 103 [.int .u64 x] ⟨o, ro, df⟩ = some (.int .u64 (if x < 9223372036854775808 then 0 else 18446744073709551615), ⟨o, ro, df⟩) := by
  have a1 := wrap_s x hx.1 hx.2
  have a2 := sh_s (IntKind.i64.wrap x)
  have a3 := wrap_u (IntKind.i64.wrap x / 9223372036854775808)
  have a4 : IntKind.i64.wrap x / 9223372036854775808 % 18446744073709551616 = if x < 9223372036854775808 then 0 else 18446744073709551615 := by
    rw [a1]; split <;> omega
  rw [a4] at a3
  apply call_by (by exact rfl : T 103 = some _) (by simp)
  intro fr hfr hsl
  have s0 := hsl 0 _ rfl
  simp -implicitDefEqProofs [hfr, s0, a2, a3, -getElem?_pos, List.getElem?_cons_zero]

theorem product_eq (a b : Int) (ha : -9223372036854775808 ≤ a ∧ a ≤ 9223372036854775807) (hb : -9223372036854775808 ≤ b ∧ b ≤ 9223372036854775807) (o : List Obj) (ro : Nat) (df : List Nat) :
    (D T).call 101 [.int .i64 a, .int .i64 b] ⟨o, ro, df⟩ = some (.tup [.int .u64 (w1 (a * b)), .int .u64 (w0 (a * b))], ⟨o, ro, df⟩) := by
  have h := prod_hi ha hb
  simp only [] at h
  have a1 := wrap_u a
  have a2 := wrap_u b
  have m := mul64_eq (a % 18446744073709551616) (b % 18446744073709551616) (by omega) (by omega)
  rw [h.2] at m
  have h1 := h.1
  generalize hh : a % 18446744073709551616 * (b % 18446744073709551616) / 18446744073709551616 = hi at *
  generalize hA : a % 18446744073709551616 = A at *
  generalize hB : b % 18446744073709551616 = B at *
  have a3 := wrap_u (hi - B)
  have a4 := wrap_u (hi - A)
  have a5 := wrap_u ((hi - B) % 18446744073709551616 - A)
  have hr : 0 ≤ hi ∧ hi < 18446744073709551616 := by
    have e := half_mulW (a := A) (b := B) (by omega) (by omega)
    omega
  apply call_by (by exact rfl : T 101 = some _) (by simp)
  intro fr hfr hsl
  have s0 := hsl 0 _ rfl
  have s1 := hsl 1 _ rfl
  by_cases ca : a < 0 <;> by_cases cb : b < 0 <;> simp only [ca, cb, if_true, if_false] at h1
  · simp -implicitDefEqProofs [hfr, s0, s1, a1, a2, a3, a4, a5, m, ca, cb, ← h1, -getElem?_pos, List.getElem?_cons_zero]
  · simp -implicitDefEqProofs [hfr, s0, s1, a1, a2, a3, a4, a5, m, ca, cb, ← h1, -getElem?_pos, List.getElem?_cons_zero]
  · simp -implicitDefEqProofs [hfr, s0, s1, a1, a2, a3, a4, a5, m, ca, cb, ← h1, -getElem?_pos, List.getElem?_cons_zero]
  · have e : hi % 18446744073709551616 = hi := by omega
    rw [e] at h1
    simp -implicitDefEqProofs [hfr, s0, s1, a1, a2, a3, a4, a5, m, ca, cb, ← h1, -getElem?_pos, List.getElem?_cons_zero]

end Go.Proofs.Ytgabnhmjlhhojaa.A
/- exact.Sum.Add and Fits. -/
namespace Go.Proofs.Ytgabnhmjlhhojaa.A
open Go
set_option maxRecDepth 10000
set_option linter.unusedSimpArgs false
set_option linter.unusedVariables false
attribute [-simp] List.all_eq_true put slot_def ld idxA lenOf elems canA app hand add64A

theorem add64_u (a b c : Int) (ha : 0 ≤ a ∧ a < 18446744073709551616) (hb : 0 ≤ b ∧ b < 18446744073709551616) (hc : 0 ≤ c ∧ c ≤ 1) :
    add64A (.int .u64 a) (.int .u64 b) (.int .u64 c) = some (.tup [.int .u64 ((a + b + c) % 18446744073709551616), .int .u64 ((a + b + c) / 18446744073709551616)]) := by
  have e1 : a = ((a.toNat : Nat) : Int) := by omega
  have e2 : b = ((b.toNat : Nat) : Int) := by omega
  have e3 : c = ((c.toNat : Nat) : Int) := by omega
  show (if a = ((a.toNat : Nat) : Int) ∧ b = ((b.toNat : Nat) : Int) ∧ c = ((c.toNat : Nat) : Int) ∧ c.toNat ≤ 1 then _ else _) = _
  rw [if_pos ⟨e1, e2, e3, by omega⟩]
  congr 4
  · congr 1; omega
  · congr 2; omega

def inI64 (a : Int) : Prop := -9223372036854775808 ≤ a ∧ a ≤ 9223372036854775807
instance (a : Int) : Decidable (inI64 a) := inferInstanceAs (Decidable (_ ∧ _))
/-- the three cells of a sum -/
def s3 (x : Int) : List AV := [.int .u64 (w0 x), .int .u64 (w1 x), .int .u64 (w2 x)]

theorem add_eq (o : List Obj) (r ty sz : Nat) (P R : List AV) (x a b : Int) (ro : Nat) (df : List Nat) (hr : o[r]? = some (.arr ty sz [P ++ (s3 x ++ R)])) (hro : ro ≤ r) (ha : inI64 a) (hb : inI64 b) :
    (D T).call 75 [.ptr r 0 P.length, .int .i64 a, .int .i64 b] ⟨o, ro, df⟩ = some (.tup [], ⟨o.set r (.arr ty sz [P ++ (s3 (x + a * b) ++ R)]), ro, df⟩) := by
  have h1 := product_eq a b ha hb
  have pr := prod_rng ha hb
  have h2 := sign_eq (w1 (a * b)) (w1_rng _)
  rw [← w2_sign (by omega) (by omega)] at h2
  have r0 := w0_rng x
  have r1 := w1_rng x
  have r2 := w2_rng x
  have y0 := w0_rng (a * b)
  have y1 := w1_rng (a * b)
  have y2 := w2_rng (a * b)
  have d1 := add64_u (w0 x) (w0 (a * b)) 0 r0 y0 (by omega)
  have d2 := add64_u (w1 x) (w1 (a * b)) ((w0 x + w0 (a * b)) / 18446744073709551616) r1 y1 (by omega)
  have d3 := add64_u (w2 x) (w2 (a * b)) ((w1 x + w1 (a * b) + (w0 x + w0 (a * b)) / 18446744073709551616) / 18446744073709551616) r2 y2 (by omega)
  simp only [Int.add_zero] at d1
  rw [w0_add] at d1
  rw [w1_add] at d2
  rw [w2_add] at d3
  generalize (w0 x + w0 (a * b)) / 18446744073709551616 = c1 at *
  generalize (w1 x + w1 (a * b) + c1) / 18446744073709551616 = c2 at *
  generalize (w2 x + w2 (a * b) + c2) / 18446744073709551616 = c3 at *
  unfold s3 at hr ⊢
  generalize a * b = p at *
  generalize w0 x = x0 at *
  generalize w1 x = x1 at *
  generalize w2 x = x2 at *
  generalize w0 p = p0 at *
  generalize w1 p = p1 at *
  generalize w2 p = p2 at *
  generalize w0 (x + p) = z0 at *
  generalize w1 (x + p) = z1 at *
  generalize w2 (x + p) = z2 at *
  have hlt := lt_of_getO hr
  have g1 : ∀ X, (o.set r X)[r]? = some X := fun X => getO_set hlt

  have l0 : P.length + 1 ≤ P.length + (R.length + 1 + 1 + 1) := by omega
  have l1 : P.length + 1 + 1 ≤ P.length + (R.length + 1 + 1 + 1) := by omega
  have l2 : P.length + 2 + 1 ≤ P.length + (R.length + 1 + 1 + 1) := by omega
  have dr : ∀ (k : Nat) (l : List AV), (P ++ l).drop (P.length + k) = l.drop k := fun k l => List.drop_length_add_append k
  have dr0 : ∀ (l : List AV), (P ++ l).drop P.length = l := fun l => List.drop_left
  apply call_by (by exact rfl : T 75 = some _) (by simp)
  intro fr hfr hsl
  have s0 := hsl 0 _ rfl
  have s1 := hsl 1 _ rfl
  have s2 := hsl 2 _ rfl
  simp -implicitDefEqProofs [hfr, s0, s1, s2, h1, h2, d1, d2, d3, hr, hro, g1, dr, dr0, l0, l1, l2, set_base0, set_base, -getElem?_pos, List.getElem?_cons_zero]

theorem fits_eq (o : List Obj) (r ty sz : Nat) (P R : List AV) (x : Int) (ro : Nat) (df : List Nat) (hr : o[r]? = some (.arr ty sz [P ++ (s3 x ++ R)]))
    (hx : -1569275433846670190958947355801916604025588861116008628224 ≤ x ∧ x < 1569275433846670190958947355801916604025588861116008628224) :
    (D T).call 76 [.ptr r 0 P.length] ⟨o, ro, df⟩ = some (.tup [.int .i64 (if inI64 x then x else 0), .bool (decide (inI64 x))], ⟨o, ro, df⟩) := by
  have h2 := sign_eq (w0 x) (w0_rng _)
  have h3 := w0_sign hx.1 hx.2
  have r0 := w0_rng x
  have hw := wrap_s (w0 x) r0.1 r0.2
  have hv : inI64 x → IntKind.i64.wrap (w0 x) = x := by
    intro hi; rw [hw]; unfold inI64 at hi; unfold w0; split <;> omega
  have h3' : (w1 x = (if w0 x < 9223372036854775808 then 0 else 18446744073709551615) ∧ w2 x = (if w0 x < 9223372036854775808 then 0 else 18446744073709551615)) ↔ inI64 x := h3
  unfold s3 at hr
  generalize (if w0 x < 9223372036854775808 then (0 : Int) else 18446744073709551615) = sg at *
  generalize w0 x = x0 at *
  generalize w1 x = x1 at *
  generalize w2 x = x2 at *
  have l0 : P.length + 1 ≤ P.length + (R.length + 1 + 1 + 1) := by omega
  have l1 : P.length + 1 + 1 ≤ P.length + (R.length + 1 + 1 + 1) := by omega
  have l2 : P.length + 2 + 1 ≤ P.length + (R.length + 1 + 1 + 1) := by omega
  have dr : ∀ (k : Nat) (l : List AV), (P ++ l).drop (P.length + k) = l.drop k := fun k l => List.drop_length_add_append k
  have dr0 : ∀ (l : List AV), (P ++ l).drop P.length = l := fun l => List.drop_left
  apply call_by (by exact rfl : T 76 = some _) (by simp)
  intro fr hfr hsl
  have s0 := hsl 0 _ rfl
  by_cases c1 : x1 = sg
  · have c1b : (x1 != sg) = false := by simpa using c1
    by_cases c2 : x2 = sg
    · have c2b : (x2 != sg) = false := by simpa using c2
      have hi := h3'.1 ⟨c1, c2⟩
      simp -implicitDefEqProofs [hfr, s0, h2, hr, c1b, c2b, hi, hv hi, dr, dr0, l0, l1, l2, -getElem?_pos, List.getElem?_cons_zero]
    · have c2b : (x2 != sg) = true := by simpa using c2
      have hi : ¬ inI64 x := fun h => c2 (h3'.2 h).2
      simp -implicitDefEqProofs [hfr, s0, h2, hr, c1b, c2b, hi, dr, dr0, l0, l1, l2, -getElem?_pos, List.getElem?_cons_zero]
  · have c1b : (x1 != sg) = true := by simpa using c1
    have hi : ¬ inI64 x := fun h => c1 (h3'.2 h).1
    simp -implicitDefEqProofs [hfr, s0, h2, hr, c1b, hi, dr, dr0, l0, l1, l2, -getElem?_pos, List.getElem?_cons_zero]

end Go.Proofs.Ytgabnhmjlhhojaa.A
/- The document's numbers of 128 bits: Of, Plus, Minus, Far, Fits. -/
namespace Go.Proofs.Ytgabnhmjlhhojaa.A
open Go
set_option maxRecDepth 10000
set_option linter.unusedSimpArgs false
set_option linter.unusedVariables false
attribute [-simp] List.all_eq_true put slot_def ld idxA lenOf elems canA app hand add64A

theorem wrap_i (z : Int) : IntKind.i64.wrap z = (z + 9223372036854775808) % 18446744073709551616 - 9223372036854775808 := by
  simp [IntKind.wrap, IntKind.signed, IntKind.bits]
  omega
/-- the upper half, with a sign -/
def hi (x : Int) : Int := (x / 18446744073709551616 + 9223372036854775808) % 18446744073709551616 - 9223372036854775808
theorem hi_rng (x : Int) : inI64 (hi x) := by unfold inI64 hi; omega
def wd (x : Int) : List AV := [.int .i64 (hi x), .int .u64 (w0 x)]

theorem of_eq (n : Int) (hn : inI64 n) (o : List Obj) (ro : Nat) (df : List Nat) : (D T).call 116 [.int .i64 n] ⟨o, ro, df⟩ = some (.agg (wd n), ⟨o, ro, df⟩) := by
  have hu := wrap_u n
  have h0 : n % 18446744073709551616 = w0 n := rfl
  rw [h0] at hu
  unfold inI64 at hn
  apply call_by (by exact rfl : T 116 = some _) (by simp)
  intro fr hfr hsl
  have s0 := hsl 0 _ rfl
  unfold wd
  by_cases hc : n < 0
  · have h1 : hi n = -1 := by unfold hi; omega
    rw [h1]
    simp -implicitDefEqProofs [hfr, s0, hc, hu, get_base0, set_base0, -getElem?_pos, List.getElem?_cons_zero]
  · have h1 : hi n = 0 := by unfold hi; omega
    rw [h1]
    simp -implicitDefEqProofs [hfr, s0, hc, hu, get_base0, set_base0, -getElem?_pos, List.getElem?_cons_zero]

theorem plus_eq (x y : Int) (o : List Obj) (ro : Nat) (df : List Nat) : (D T).call 115 [.agg (wd x), .agg (wd y)] ⟨o, ro, df⟩ = some (.agg (wd (x + y)), ⟨o, ro, df⟩) := by
  have e1 := wrap_u (w0 x + w0 y)
  rw [w0_add] at e1
  have e2 := wrap_i (hi x + hi y)
  have e3 := wrap_i (IntKind.i64.wrap (hi x + hi y) + 1)
  have k1 : w0 (x + y) < w0 x → IntKind.i64.wrap (IntKind.i64.wrap (hi x + hi y) + 1) = hi (x + y) := by
    intro h; rw [e3, e2]; unfold hi; unfold w0 at h; omega
  have k2 : ¬ w0 (x + y) < w0 x → IntKind.i64.wrap (hi x + hi y) = hi (x + y) := by
    intro h; rw [e2]; unfold hi; unfold w0 at h; omega
  unfold wd
  apply call_by (by exact rfl : T 115 = some _) (by simp)
  intro fr hfr hsl
  have s0 := hsl 0 _ rfl
  have s1 := hsl 1 _ rfl
  by_cases hc : w0 (x + y) < w0 x
  · have k1 := k1 hc
    simp -implicitDefEqProofs [hfr, s0, s1, hc, e1, k1, get_base0, get_base, set_base0, set_base, -getElem?_pos, List.getElem?_cons_zero, List.getElem?_cons_succ]
  · have k2 := k2 hc
    simp -implicitDefEqProofs [hfr, s0, s1, hc, e1, k2, get_base0, get_base, set_base0, set_base, -getElem?_pos, List.getElem?_cons_zero, List.getElem?_cons_succ]

theorem com_u (x : Int) (h1 : 0 ≤ x) (h2 : x < 18446744073709551616) : comI .u64 x = .int .u64 (18446744073709551615 - x) := by
  have e : (BitVec.ofInt 64 18446744073709551615 ^^^ BitVec.ofInt 64 x).toNat = 18446744073709551615 - x.toNat := by
    have a : BitVec.ofInt 64 18446744073709551615 = BitVec.allOnes 64 := by decide
    have b : (BitVec.ofInt 64 x).toNat = x.toNat := by rw [BitVec.toNat_ofInt]; congr 1; omega
    rw [a, BitVec.allOnes_xor, BitVec.toNat_not, b]
  show AV.int .u64 (IntKind.u64.wrap ((BitVec.ofInt 64 18446744073709551615 ^^^ BitVec.ofInt 64 x).toNat : Int)) = _
  rw [e, wrap_u]
  congr 1
  omega

theorem minus_eq (x : Int) (o : List Obj) (ro : Nat) (df : List Nat) : (D T).call 125 [.agg (wd x)] ⟨o, ro, df⟩ = some (.agg (wd (-x)), ⟨o, ro, df⟩) := by
  have r0 := w0_rng x
  have e1 := com_u (w0 x) r0.1 r0.2
  have e2 := wrap_i (-1 - hi x)
  have e3 : (-1 - hi x + 9223372036854775808) % 18446744073709551616 - 9223372036854775808 = hi (-1 - x) := by unfold hi; omega
  have e4 : 18446744073709551615 - w0 x = w0 (-1 - x) := by unfold w0; omega
  rw [e3] at e2
  rw [e4] at e1
  have hp := fun o ro df => plus_eq (-1 - x) 1 o ro df
  have h1 : wd 1 = [.int .i64 0, .int .u64 1] := rfl
  rw [h1, show -1 - x + 1 = -x by omega] at hp
  unfold wd at hp ⊢
  apply call_by (by exact rfl : T 125 = some _) (by simp)
  intro fr hfr hsl
  have s0 := hsl 0 _ rfl
  simp -implicitDefEqProofs [hfr, s0, e1, e2, hp, get_base0, get_base, set_base0, set_base, -getElem?_pos, List.getElem?_cons_zero, List.getElem?_cons_succ]

theorem far_eq (n : Int) (hn : inI64 n) (o : List Obj) (ro : Nat) (df : List Nat) : (D T).call 126 [.int .i64 n] ⟨o, ro, df⟩ = some (.int .u64 (if n < 0 then -n else n), ⟨o, ro, df⟩) := by
  have hu := wrap_u n
  have hv := wrap_u (0 - IntKind.u64.wrap n)
  unfold inI64 at hn
  apply call_by (by exact rfl : T 126 = some _) (by simp)
  intro fr hfr hsl
  have s0 := hsl 0 _ rfl
  by_cases hc : n < 0
  · have h1 : IntKind.u64.wrap (0 - IntKind.u64.wrap n) = -n := by rw [hv, hu]; omega
    rw [Int.zero_sub] at h1
    simp -implicitDefEqProofs [hfr, s0, hc, h1, -getElem?_pos, List.getElem?_cons_zero]
  · have h1 : IntKind.u64.wrap n = n := by rw [hu]; omega
    simp -implicitDefEqProofs [hfr, s0, hc, h1, -getElem?_pos, List.getElem?_cons_zero]

theorem fits01_eq (x : Int) (hx : -170141183460469231731687303715884105728 ≤ x ∧ x < 170141183460469231731687303715884105728) (o : List Obj) (ro : Nat) (df : List Nat) :
    (D T).call 117 [.agg (wd x)] ⟨o, ro, df⟩ = some (.tup [.int .i64 (if inI64 x then x else 0), .bool (decide (inI64 x))], ⟨o, ro, df⟩) := by
  have r0 := w0_rng x
  have hw := wrap_i (w0 x)
  have hh : hi x = x / 18446744073709551616 := by unfold hi; omega
  have k1 : inI64 x → (IntKind.i64.wrap (w0 x) = x ∧ ((hi x = 0 ∧ 0 ≤ x) ∨ (hi x = -1 ∧ x < 0))) := by
    intro h; rw [hw, hh]; unfold inI64 at h; unfold w0; omega
  have k2 : ¬ inI64 x → ¬ (hi x = 0 ∧ 0 ≤ IntKind.i64.wrap (w0 x)) ∧ ¬ (hi x = -1 ∧ IntKind.i64.wrap (w0 x) < 0) := by
    intro h; rw [hw, hh]; unfold inI64 at h; unfold w0; omega
  unfold wd
  generalize hi x = H at *
  generalize hN : IntKind.i64.wrap (w0 x) = N at *
  apply call_by (by exact rfl : T 117 = some _) (by simp)
  intro fr hfr hsl
  have s0 := hsl 0 _ rfl
  by_cases hi : inI64 x
  · obtain ⟨e, kk⟩ := k1 hi
    rw [e] at hN
    clear k1 k2
    rcases kk with ⟨h0, kp⟩ | ⟨h0, kp⟩ <;> subst h0
    · have k3 : x ≥ 0 := kp
      simp -implicitDefEqProofs [hfr, s0, hi, hN, kp, k3, get_base0, -getElem?_pos, List.getElem?_cons_zero, List.getElem?_cons_succ]
    · have k3 : ¬ x ≥ 0 := by omega
      have k4 : ¬ 0 ≤ x := by omega
      simp -implicitDefEqProofs [hfr, s0, hi, hN, kp, k3, get_base0, -getElem?_pos, List.getElem?_cons_zero, List.getElem?_cons_succ]
  · obtain ⟨k3, k4⟩ := k2 hi
    by_cases c1 : H = 0
    · subst c1
      have k5 : ¬ N ≥ 0 := fun h => k3 ⟨rfl, h⟩
      have k6 : ¬ 0 ≤ N := k5
      simp -implicitDefEqProofs [hfr, s0, hi, hN, k5, k6, get_base0, -getElem?_pos, List.getElem?_cons_zero, List.getElem?_cons_succ]
    · have c1b : (H == 0) = false := by simpa using c1
      by_cases c2 : H = -1
      · subst c2
        have k5 : ¬ N < 0 := fun h => k4 ⟨rfl, h⟩
        simp -implicitDefEqProofs [hfr, s0, hi, hN, c1b, k5, get_base0, -getElem?_pos, List.getElem?_cons_zero, List.getElem?_cons_succ]
      · have c2b : (H == -1) = false := by simpa using c2
        simp -implicitDefEqProofs [hfr, s0, hi, hN, c1b, c2b, get_base0, -getElem?_pos, List.getElem?_cons_zero, List.getElem?_cons_succ]

end Go.Proofs.Ytgabnhmjlhhojaa.A
