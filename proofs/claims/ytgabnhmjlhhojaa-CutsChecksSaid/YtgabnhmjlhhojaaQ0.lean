/- Sums of products in 192 bits: the arithmetic. -/
import Derived.Test.YtgabnhmjlhhojaaAbs
namespace Go.Proofs.Ytgabnhmjlhhojaa.A
open Go
set_option linter.unusedSimpArgs false
set_option linter.unusedVariables false

theorem wrap_u (z : Int) : IntKind.u64.wrap z = z % 18446744073709551616 := by simp [IntKind.wrap, IntKind.signed, IntKind.bits]
theorem wrap_s (z : Int) (h1 : 0 ≤ z) (h2 : z < 18446744073709551616) : IntKind.i64.wrap z = if z < 9223372036854775808 then z else z - 18446744073709551616 := by
  simp [IntKind.wrap, IntKind.signed, IntKind.bits]
  split <;> omega
theorem and_u (x : Int) (h1 : 0 ≤ x) (h2 : x < 18446744073709551616) : bitI .and .u64 x 4294967295 = x % 4294967296 := by
  have e : (BitVec.ofInt 64 x &&& BitVec.ofInt 64 4294967295).toNat = x.toNat % 4294967296 := by
    rw [BitVec.toNat_and, BitVec.toNat_ofInt, BitVec.toNat_ofInt]
    have a : (x % ((2 ^ 64 : Nat) : Int)).toNat = x.toNat := by congr 1; omega
    have b : ((4294967295 : Int) % ((2 ^ 64 : Nat) : Int)).toNat = 2 ^ 32 - 1 := by decide
    rw [a, b, Nat.and_two_pow_sub_one_eq_mod]
  show IntKind.u64.wrap ((BitVec.ofInt 64 x &&& BitVec.ofInt 64 4294967295).toNat : Int) = _
  rw [e, wrap_u]
  omega
theorem sh_u (x : Int) : shI false .u64 x 32 = some (.int .u64 (x / 4294967296)) := by
  show some (AV.int .u64 (x.fdiv 4294967296)) = _
  rw [Int.fdiv_eq_ediv_of_nonneg _ (by omega)]
theorem sh_s (x : Int) : shI false .i64 x 63 = some (.int .i64 (x / 9223372036854775808)) := by
  show some (AV.int .i64 (x.fdiv 9223372036854775808)) = _
  rw [Int.fdiv_eq_ediv_of_nonneg _ (by omega)]

/-- the school method on halves of 32 bits -/
theorem half_mul {a b : Int} (ha : 0 ≤ a ∧ a ≤ 4294967295) (hb : 0 ≤ b ∧ b ≤ 4294967295) : 0 ≤ a * b ∧ a * b ≤ 18446744065119617025 := by
  refine ⟨Int.mul_nonneg ha.1 hb.1, ?_⟩
  have := Int.mul_le_mul ha.2 hb.2 hb.1 (by omega)
  omega
theorem half_mulW {a b : Int} (ha : 0 ≤ a ∧ a ≤ 18446744073709551615) (hb : 0 ≤ b ∧ b ≤ 18446744073709551615) : 0 ≤ a * b ∧ a * b ≤ 340282366920938463426481119284349108225 := by
  refine ⟨Int.mul_nonneg ha.1 hb.1, ?_⟩
  have := Int.mul_le_mul ha.2 hb.2 hb.1 (by omega)
  omega
theorem mul_hi {x y : Int} (hx : 0 ≤ x ∧ x < 18446744073709551616) (hy : 0 ≤ y ∧ y < 18446744073709551616) :
    let W : Int := 18446744073709551616; let H : Int := 4294967296
    let x0 := x % H; let x1 := x / H; let y0 := y % H; let y1 := y / H
    let t := (x1 * y0 % W + x0 * y0 % W / H) % W
    let u := (t % H + x0 * y1 % W) % W
    ((x1 * y1 % W + t / H) % W + u / H) % W = x * y / W := by
  intro W H x0 x1 y0 y1 t u
  have ex : x = x1 * 4294967296 + x0 := by show x = x / 4294967296 * 4294967296 + x % 4294967296; omega
  have ey : y = y1 * 4294967296 + y0 := by show y = y / 4294967296 * 4294967296 + y % 4294967296; omega
  have h0 : 0 ≤ x0 ∧ x0 ≤ 4294967295 := by show 0 ≤ x % 4294967296 ∧ x % 4294967296 ≤ _; omega
  have h1 : 0 ≤ x1 ∧ x1 ≤ 4294967295 := by show 0 ≤ x / 4294967296 ∧ x / 4294967296 ≤ _; omega
  have k0 : 0 ≤ y0 ∧ y0 ≤ 4294967295 := by show 0 ≤ y % 4294967296 ∧ y % 4294967296 ≤ _; omega
  have k1 : 0 ≤ y1 ∧ y1 ≤ 4294967295 := by show 0 ≤ y / 4294967296 ∧ y / 4294967296 ≤ _; omega
  have e : x * y = x1 * y1 * 18446744073709551616 + (x1 * y0 + x0 * y1) * 4294967296 + x0 * y0 := by
    rw [ex, ey, Int.add_mul, Int.mul_add, Int.mul_add]
    have a1 : x1 * 4294967296 * (y1 * 4294967296) = x1 * y1 * 18446744073709551616 := by
      rw [Int.mul_assoc, Int.mul_left_comm 4294967296 y1, ← Int.mul_assoc]; rfl
    have a2 : x1 * 4294967296 * y0 = x1 * y0 * 4294967296 := Int.mul_right_comm ..
    have a3 : x0 * (y1 * 4294967296) = x0 * y1 * 4294967296 := (Int.mul_assoc ..).symm
    rw [a1, a2, a3]; omega
  have q1 := half_mul h1 k1
  have q2 := half_mul h1 k0
  have q3 := half_mul h0 k1
  have q4 := half_mul h0 k0
  rw [e]
  show (_ % 18446744073709551616 + _ / 4294967296) % 18446744073709551616 = _ / 18446744073709551616
  simp only [t, u, W, H]
  generalize x1 * y1 = a at *
  generalize x1 * y0 = b at *
  generalize x0 * y1 = c at *
  generalize x0 * y0 = d at *
  clear ex ey h0 h1 k0 k1 e t u
  omega

/-! numbers of 192 bits -/
def w0 (x : Int) : Int := x % 18446744073709551616
def w1 (x : Int) : Int := x / 18446744073709551616 % 18446744073709551616
def w2 (x : Int) : Int := x / 18446744073709551616 / 18446744073709551616 % 18446744073709551616
theorem w0_rng (x : Int) : 0 ≤ w0 x ∧ w0 x < 18446744073709551616 := by unfold w0; omega
theorem w1_rng (x : Int) : 0 ≤ w1 x ∧ w1 x < 18446744073709551616 := by unfold w1; omega
theorem w2_rng (x : Int) : 0 ≤ w2 x ∧ w2 x < 18446744073709551616 := by unfold w2; omega
theorem w0_add (x y : Int) : (w0 x + w0 y) % 18446744073709551616 = w0 (x + y) := by unfold w0; omega
theorem w1_add (x y : Int) : (w1 x + w1 y + (w0 x + w0 y) / 18446744073709551616) % 18446744073709551616 = w1 (x + y) := by unfold w0 w1; omega
theorem w2_add (x y : Int) : (w2 x + w2 y + (w1 x + w1 y + (w0 x + w0 y) / 18446744073709551616) / 18446744073709551616) % 18446744073709551616 = w2 (x + y) := by unfold w0 w1 w2; omega
/-- a number of 128 bits: the third part is its sign -/
theorem w2_sign {x : Int} (h1 : -170141183460469231731687303715884105728 ≤ x) (h2 : x < 170141183460469231731687303715884105728) : w2 x = if w1 x < 9223372036854775808 then 0 else 18446744073709551615 := by
  unfold w2 w1; split <;> omega
theorem w0_sign {x : Int} (h1 : -1569275433846670190958947355801916604025588861116008628224 ≤ x) (h2 : x < 1569275433846670190958947355801916604025588861116008628224) :
    (w1 x = (if w0 x < 9223372036854775808 then 0 else 18446744073709551615) ∧ w2 x = (if w0 x < 9223372036854775808 then 0 else 18446744073709551615)) ↔ (-9223372036854775808 ≤ x ∧ x ≤ 9223372036854775807) := by
  unfold w0 w1 w2; split <;> omega
theorem prod_rng {a b : Int} (ha : -9223372036854775808 ≤ a ∧ a ≤ 9223372036854775807) (hb : -9223372036854775808 ≤ b ∧ b ≤ 9223372036854775807) :
    -85070591730234615865843651857942052864 ≤ a * b ∧ a * b ≤ 85070591730234615865843651857942052864 := by
  have h1 : (a * b).natAbs ≤ 9223372036854775808 * 9223372036854775808 := by
    rw [Int.natAbs_mul]
    exact Nat.mul_le_mul (by omega) (by omega)
  omega
/-- the unsigned product, put right -/
theorem prod_hi {a b : Int} (ha : -9223372036854775808 ≤ a ∧ a ≤ 9223372036854775807) (hb : -9223372036854775808 ≤ b ∧ b ≤ 9223372036854775807) :
    let ua := a % 18446744073709551616; let ub := b % 18446744073709551616; let h := ua * ub / 18446744073709551616
    let h1 := if a < 0 then (h - ub) % 18446744073709551616 else h
    (if b < 0 then (h1 - ua) % 18446744073709551616 else h1) % 18446744073709551616 = w1 (a * b) ∧ (ua * ub) % 18446744073709551616 = w0 (a * b) := by
  intro ua ub h h1
  have ea : ua = if a < 0 then a + 18446744073709551616 else a := by show a % _ = _; split <;> omega
  have eb : ub = if b < 0 then b + 18446744073709551616 else b := by show b % _ = _; split <;> omega
  have e0 : (a + 18446744073709551616) * b = a * b + 18446744073709551616 * b := Int.add_mul ..
  have e1 : a * (b + 18446744073709551616) = a * b + a * 18446744073709551616 := Int.mul_add ..
  have e2 : (a + 18446744073709551616) * (b + 18446744073709551616) = a * b + 18446744073709551616 * b + (a * 18446744073709551616 + 18446744073709551616 * 18446744073709551616) := by
    rw [Int.add_mul, Int.mul_add, Int.mul_add]; omega
  simp only [h1, h]
  rw [ea, eb]
  unfold w1 w0
  by_cases ca : a < 0 <;> by_cases cb : b < 0 <;> simp only [ca, cb, if_true, if_false]
  · rw [e2]; generalize a * b = p; omega
  · rw [e0]; generalize a * b = p; omega
  · rw [e1]; generalize a * b = p; omega
  · simp

end Go.Proofs.Ytgabnhmjlhhojaa.A
