/- exact.Sum: one product more, and whether it fits; over numbers of 192 bits. -/
import Derived.Test.YtgabnhmjlhhojaaQ0
import Derived.Test.YtgabnhmjlhhojaaWr
import Derived.Test.YtgabnhmjlhhojaaCode
namespace Go.Proofs.Ytgabnhmjlhhojaa.A
open Go
set_option maxRecDepth 10000
set_option linter.unusedSimpArgs false
set_option linter.unusedVariables false
attribute [-simp] List.all_eq_true put slot_def ld idxA lenOf elems canA app hand

theorem mul64_eq (x y : Int) (hx : 0 ≤ x ∧ x < 18446744073709551616) (hy : 0 ≤ y ∧ y < 18446744073709551616) (o : List Obj) (ro : Nat) (df : List Nat) :
    (D T).call 121 [.int .u64 x, .int .u64 y] ⟨o, ro, df⟩ = some (.tup [.int .u64 (x * y / 18446744073709551616), .int .u64 (x * y % 18446744073709551616)], ⟨o, ro, df⟩) := by
  have h := mul_hi hx hy
  simp only [] at h
  have a1 := and_u x hx.1 hx.2
  have a2 := and_u y hy.1 hy.2
  have b1 := sh_u x
  have b2 := sh_u y
  rw [← h]
  generalize x / 4294967296 = x1 at *
  generalize y / 4294967296 = y1 at *
  have q0 : 0 ≤ x % 4294967296 ∧ x % 4294967296 < 4294967296 := by omega
  have q1 : 0 ≤ y % 4294967296 ∧ y % 4294967296 < 4294967296 := by omega
  generalize x % 4294967296 = x0 at *
  generalize y % 4294967296 = y0 at *
  have e1 := wrap_u (x1 * y0)
  have e2 := wrap_u (x0 * y0)
  have e3 := wrap_u (x0 * y1)
  have e4 := wrap_u (x1 * y1)
  have e5 := wrap_u (x * y)
  have b3 := sh_u (x0 * y0 % 18446744073709551616)
  have e6 := wrap_u (x1 * y0 % 18446744073709551616 + x0 * y0 % 18446744073709551616 / 4294967296)
  generalize ht : (x1 * y0 % 18446744073709551616 + x0 * y0 % 18446744073709551616 / 4294967296) % 18446744073709551616 = t at *
  have a3 := and_u t (by omega) (by omega)
  have b4 := sh_u t
  have e7 := wrap_u (t % 4294967296 + x0 * y1 % 18446744073709551616)
  generalize hu : (t % 4294967296 + x0 * y1 % 18446744073709551616) % 18446744073709551616 = u at *
  have b5 := sh_u u
  have e8 := wrap_u (x1 * y1 % 18446744073709551616 + t / 4294967296)
  have e9 := wrap_u ((x1 * y1 % 18446744073709551616 + t / 4294967296) % 18446744073709551616 + u / 4294967296)
  apply call_by (by exact rfl : T 121 = some _) (by simp)
  intro fr hfr hsl
  have s0 := hsl 0 _ rfl
  have s1 := hsl 1 _ rfl
  simp -implicitDefEqProofs [hfr, s0, s1, a1, a2, a3, b1, b2, b3, b4, b5, e1, e2, e3, e4, e5, e6, e7, e8, e9, -getElem?_pos, List.getElem?_cons_zero]
  simp only [wrap_u, Int.emod_add_emod]

theorem sign_eq (x : Int) (hx : 0 ≤ x ∧ x < 18446744073709551616) (o : List Obj) (ro : Nat) (df : List Nat) :
    (D T).call 103 [.int .u64 x] ⟨o, ro, df⟩ = some (.int .u64 (if x < 9223372036854775808 then 0 else 18446744073709551615), ⟨o, ro, df⟩) := by
  have a1 := wrap_s x hx.1 hx.2
  have a2 := sh_s (IntKind.i64.wrap x)
  have a3 := wrap_u (IntKind.i64.wrap x / 9223372036854775808)
  have a4 : IntKind.i64.wrap x / 9223372036854775808 % 18446744073709551616 = if x < 9223372036854775808 then 0 else 18446744073709551615 := by
    rw [a1]; split <;> omega
  rw [a4] at a3
  apply call_by (by exact rfl : T 103 = some _) (by simp)
  intro fr hfr hsl
  have s0 := hsl 0 _ rfl
  simp -implicitDefEqProofs [hfr, s0, a2, a3, -getElem?_pos, List.getElem?_cons_zero]

theorem product_eq (a b : Int) (ha : -9223372036854775808 ≤ a ∧ a ≤ 9223372036854775807) (hb : -9223372036854775808 ≤ b ∧ b ≤ 9223372036854775807) (o : List Obj) (ro : Nat) (df : List Nat) :
    (D T).call 101 [.int .i64 a, .int .i64 b] ⟨o, ro, df⟩ = some (.tup [.int .u64 (w1 (a * b)), .int .u64 (w0 (a * b))], ⟨o, ro, df⟩) := by
  have h := prod_hi ha hb
  simp only [] at h
  have a1 := wrap_u a
  have a2 := wrap_u b
  have m := mul64_eq (a % 18446744073709551616) (b % 18446744073709551616) (by omega) (by omega)
  rw [h.2] at m
  have h1 := h.1
  generalize hh : a % 18446744073709551616 * (b % 18446744073709551616) / 18446744073709551616 = hi at *
  generalize hA : a % 18446744073709551616 = A at *
  generalize hB : b % 18446744073709551616 = B at *
  have a3 := wrap_u (hi - B)
  have a4 := wrap_u (hi - A)
  have a5 := wrap_u ((hi - B) % 18446744073709551616 - A)
  have hr : 0 ≤ hi ∧ hi < 18446744073709551616 := by
    have e := half_mulW (a := A) (b := B) (by omega) (by omega)
    omega
  apply call_by (by exact rfl : T 101 = some _) (by simp)
  intro fr hfr hsl
  have s0 := hsl 0 _ rfl
  have s1 := hsl 1 _ rfl
  by_cases ca : a < 0 <;> by_cases cb : b < 0 <;> simp only [ca, cb, if_true, if_false] at h1
  · simp -implicitDefEqProofs [hfr, s0, s1, a1, a2, a3, a4, a5, m, ca, cb, ← h1, -getElem?_pos, List.getElem?_cons_zero]
  · simp -implicitDefEqProofs [hfr, s0, s1, a1, a2, a3, a4, a5, m, ca, cb, ← h1, -getElem?_pos, List.getElem?_cons_zero]
  · simp -implicitDefEqProofs [hfr, s0, s1, a1, a2, a3, a4, a5, m, ca, cb, ← h1, -getElem?_pos, List.getElem?_cons_zero]
  · have e : hi % 18446744073709551616 = hi := by omega
    rw [e] at h1
    simp -implicitDefEqProofs [hfr, s0, s1, a1, a2, a3, a4, a5, m, ca, cb, ← h1, -getElem?_pos, List.getElem?_cons_zero]

end Go.Proofs.Ytgabnhmjlhhojaa.A
