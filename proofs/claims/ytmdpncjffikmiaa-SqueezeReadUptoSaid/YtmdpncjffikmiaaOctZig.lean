/- Zigzag and back, the program's and the reference's. -/
import Derived.Test.YtmdpncjffikmiaaApp8
import Derived.Test.YtmdpncjffikmiaaUv
namespace Go.Proofs.Ytmdpncjffikmiaa
open Go Go.RowKit

theorem nat_xor_ones (n x : Nat) (h : x < 2 ^ n) : x ^^^ (2 ^ n - 1) = 2 ^ n - 1 - x := by
  apply Nat.eq_of_testBit_eq
  intro i
  rw [Nat.testBit_xor, Nat.testBit_two_pow_sub_one]
  have e : 2 ^ n - 1 - x = 2 ^ n - (x + 1) := by omega
  rw [e, Nat.testBit_two_pow_sub_succ h]
  by_cases hi : i < n
  · simp [hi]
  · have : x.testBit i = false := Nat.testBit_lt_two_pow (Nat.lt_of_lt_of_le h (Nat.pow_le_pow_right (by omega) (by omega)))
    simp [hi, this]

theorem xor_u64_zero (a : Nat) (h : a < 18446744073709551616) : bits .xor .u64 (a : Int) 0 = (a : Int) := by
  have := u64_xor_nat a 0 h (by omega)
  rw [Nat.xor_zero] at this
  exact this

theorem xor_u64_ones (a : Nat) (h : a < 18446744073709551616) : bits .xor .u64 (a : Int) 18446744073709551615 = 18446744073709551615 - (a : Int) := by
  have h1 := u64_xor_nat a 18446744073709551615 h (by omega)
  have h2 := nat_xor_ones 64 a h
  have e : (2 : Nat) ^ 64 - 1 = 18446744073709551615 := by decide
  rw [e] at h2
  rw [h2] at h1
  refine Eq.trans h1 ?_
  omega

theorem zig_bits (s : Int) (h1 : -9223372036854775808 ≤ s) (h2 : s ≤ 9223372036854775807) :
    bits .xor .u64 (IntKind.u64.wrap (IntKind.u64.wrap s * 2)) (IntKind.u64.wrap (s / 9223372036854775808)) = Uv.zig s := by
  rw [IntKind.wrap_u64, IntKind.wrap_u64, IntKind.wrap_u64]
  by_cases h0 : 0 ≤ s
  · have e1 : s / 9223372036854775808 % 18446744073709551616 = 0 := by omega
    have e2 : s % 18446744073709551616 * 2 % 18446744073709551616 = ((2 * s.toNat : Nat) : Int) := by omega
    rw [e1, e2, xor_u64_zero _ (by omega)]
    unfold Uv.zig
    rw [if_pos h0]
    omega
  · have e1 : s / 9223372036854775808 % 18446744073709551616 = 18446744073709551615 := by omega
    have e2 : s % 18446744073709551616 * 2 % 18446744073709551616 = (((2 * s + 18446744073709551616).toNat : Nat) : Int) := by omega
    rw [e1, e2, xor_u64_ones _ (by omega)]
    unfold Uv.zig
    rw [if_neg h0]
    omega

theorem and_one (u : Nat) (h : u < 18446744073709551616) : bits .and .u64 (u : Int) 1 = ((u % 2 : Nat) : Int) := by
  have := u64_and_nat u 1 h (by omega)
  rw [nat_mask1] at this
  exact this

theorem xor_i64_zero (a : Nat) (h : a < 9223372036854775808) : bits .xor .i64 (a : Int) 0 = (a : Int) := by
  have h1 : (BitVec.ofInt 64 (a : Int)).toNat = a := ofInt_u64 a (by omega)
  show IntKind.i64.wrap ((BitVec.ofInt 64 (a : Int) ^^^ BitVec.ofInt 64 0).toNat : Int) = _
  rw [show BitVec.ofInt 64 0 = 0#64 from rfl, BitVec.xor_zero, h1, IntKind.wrap_i64]
  omega

theorem xor_i64_ones (a : Nat) (h : a < 9223372036854775808) : bits .xor .i64 (a : Int) (-1) = -(a : Int) - 1 := by
  have h1 : (BitVec.ofInt 64 (a : Int)).toNat = a := ofInt_u64 a (by omega)
  show IntKind.i64.wrap ((BitVec.ofInt 64 (a : Int) ^^^ BitVec.ofInt 64 (-1)).toNat : Int) = _
  rw [show BitVec.ofInt 64 (-1) = BitVec.allOnes 64 from by decide, BitVec.xor_allOnes, BitVec.toNat_not, h1, IntKind.wrap_i64]
  omega

theorem zag_bits (u : Nat) (h : u < 18446744073709551616) :
    bits .xor .i64 ((u : Int) / 2) (wrap64 (-wrap64 (bits .and .u64 (u : Int) 1))) = Uv.zag (u : Int) := by
  rw [and_one u h]
  have e0 : (u : Int) / 2 = ((u / 2 : Nat) : Int) := by omega
  unfold Uv.zag
  rcases (show u % 2 = 0 ∨ u % 2 = 1 by omega) with h2 | h2
  · rw [h2, e0, show wrap64 (-wrap64 ((0 : Nat) : Int)) = 0 from by unfold wrap64; decide, xor_i64_zero _ (by omega), if_pos (by omega)]
  · rw [h2, e0, show wrap64 (-wrap64 ((1 : Nat) : Int)) = -1 from by unfold wrap64; decide, xor_i64_ones _ (by omega), if_neg (by omega)]

theorem zig_range (s : Int) (h : -9223372036854775808 ≤ s ∧ s ≤ 9223372036854775807) : 0 ≤ Uv.zig s ∧ Uv.zig s ≤ 18446744073709551615 := by unfold Uv.zig; split <;> omega
theorem zag_range (u : Nat) (h : u < 18446744073709551616) : -9223372036854775808 ≤ Uv.zag (u : Int) ∧ Uv.zag (u : Int) ≤ 9223372036854775807 := by unfold Uv.zag; split <;> omega
end Go.Proofs.Ytmdpncjffikmiaa
