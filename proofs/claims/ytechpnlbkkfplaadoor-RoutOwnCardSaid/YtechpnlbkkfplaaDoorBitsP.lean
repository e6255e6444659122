/- Plain laws of masks and shifts of whole numbers. -/
import Derived.Test.YtechpnlbkkfplaaDoorLiftB
namespace Go.Lift

theorem and_i64 (a : Int) (m : Nat) (hm : m < 9223372036854775808) : bitsI .and .i64 a (m : Int) = (((a % 18446744073709551616).toNat &&& m : Nat) : Int) := by
  have e : bitsI .and .i64 a (m : Int) = IntKind.i64.wrap (((BitVec.ofInt 64 a &&& BitVec.ofInt 64 (m : Int) : BitVec 64).toNat : Nat) : Int) := rfl
  have o2 : BitVec.ofInt 64 (m : Int) = BitVec.ofNat 64 m := BitVec.ofInt_natCast ..
  have hl : ((a % 18446744073709551616).toNat &&& m) ≤ m := Nat.and_le_right
  have h64 : (2 : Nat) ^ 64 = 18446744073709551616 := by decide
  rw [e, o2, BitVec.toNat_and, BitVec.toNat_ofNat, BitVec.toNat_ofInt, h64, Nat.mod_eq_of_lt (by omega : m < 18446744073709551616)]
  exact wrapI (by omega) (by have : ((((18446744073709551616 : Nat) : Int))) = 18446744073709551616 := rfl; rw [this]; omega)

theorem mask_i64 (a : Int) (k : Nat) (hk : k < 63) : bitsI .and .i64 a ((2 ^ k - 1 : Nat) : Int) = a % ((2 ^ k : Nat) : Int) := by
  have hp : 2 ^ k ≤ 2 ^ 62 := Nat.pow_le_pow_right (by decide) (by omega)
  have hpos : 0 < 2 ^ k := Nat.pow_pos (by decide)
  rw [and_i64 a _ (by omega), Nat.and_two_pow_sub_one_eq_mod]
  have hd : ((2 ^ k : Nat) : Int) ∣ 18446744073709551616 := by
    have : (18446744073709551616 : Int) = ((2 ^ k : Nat) : Int) * ((2 ^ (64 - k) : Nat) : Int) := by
      rw [← Int.natCast_mul, ← Nat.pow_add, show k + (64 - k) = 64 by omega]; rfl
    exact ⟨_, this⟩
  have h0 : 0 ≤ a % 18446744073709551616 := Int.emod_nonneg _ (by decide)
  rw [Int.natCast_emod, Int.toNat_of_nonneg h0, Int.emod_emod_of_dvd a hd]

theorem shr_i64 (a : Int) (i : Nat) (hi : i < 64) : shrI .i64 a ((i : Nat) : Int) = a / ((2 ^ i : Nat) : Int) := by
  simp only [shrI, IntKind.bits, Int.toNat_natCast]
  rw [show min i 64 = i by omega, show (2 : Int) ^ i = ((2 ^ i : Nat) : Int) by rw [Int.natCast_pow]; rfl, Int.fdiv_eq_ediv_of_nonneg _ (Int.natCast_nonneg _)]

theorem m1 (a : Int) : bitsI .and .i64 a 1 = a % 2 := mask_i64 a 1 (by decide)
theorem m7 (a : Int) : bitsI .and .i64 a 7 = a % 8 := mask_i64 a 3 (by decide)
theorem m31 (a : Int) : bitsI .and .i64 a 31 = a % 32 := mask_i64 a 5 (by decide)
theorem m255 (a : Int) : bitsI .and .i64 a 255 = a % 256 := mask_i64 a 8 (by decide)
theorem m65535 (a : Int) : bitsI .and .i64 a 65535 = a % 65536 := mask_i64 a 16 (by decide)
theorem m2 (a : Int) : bitsI .and .i64 a 2 = a / 2 % 2 * 2 := by
  have := and_i64 a 2 (by decide)
  rw [show ((2 : Nat) : Int) = 2 from rfl] at this
  rw [this]
  have h : ∀ n : Nat, n &&& 2 = n / 2 % 2 * 2 := by
    intro n
    have h1 : (n &&& 2) = 2 * (n / 2 % 2) := by
      apply Nat.eq_of_testBit_eq
      intro i
      rw [Nat.testBit_and, show (2 : Nat) = 2 ^ 1 from rfl, Nat.testBit_two_pow, Nat.testBit_two_pow_mul]
      cases i with
      | zero => simp
      | succ i =>
        cases i with
        | zero => simp [Nat.testBit_succ, Nat.testBit_zero]
        | succ i => simp [Nat.testBit_succ]
    omega
  rw [h]
  have h0 : 0 ≤ a % 18446744073709551616 := Int.emod_nonneg _ (by decide)
  omega

theorem or_i64 (a b : Nat) (ha : a < 4611686018427387904) (hb : b < 4611686018427387904) : bitsI .or .i64 (a : Int) (b : Int) = ((a ||| b : Nat) : Int) := by
  have e : bitsI .or .i64 (a : Int) (b : Int) = IntKind.i64.wrap (((BitVec.ofInt 64 (a : Int) ||| BitVec.ofInt 64 (b : Int) : BitVec 64).toNat : Nat) : Int) := rfl
  have o1 : BitVec.ofInt 64 (a : Int) = BitVec.ofNat 64 a := BitVec.ofInt_natCast ..
  have o2 : BitVec.ofInt 64 (b : Int) = BitVec.ofNat 64 b := BitVec.ofInt_natCast ..
  have h64 : (2 : Nat) ^ 64 = 18446744073709551616 := by decide
  have hl : a ||| b < 2 ^ 62 := Nat.or_lt_two_pow (by omega) (by omega)
  rw [e, o1, o2, BitVec.toNat_or, BitVec.toNat_ofNat, BitVec.toNat_ofNat, h64, Nat.mod_eq_of_lt (by omega), Nat.mod_eq_of_lt (by omega)]
  exact wrapI (by omega) (by omega)

end Go.Lift
