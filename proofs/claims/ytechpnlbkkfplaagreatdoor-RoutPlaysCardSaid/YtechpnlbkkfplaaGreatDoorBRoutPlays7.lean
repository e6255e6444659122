/- routPlays_holds: all that the theorem needs, in a few texts (bundle.py; made of the texts that NOTES.md names). -/
import Derived.Below
import Derived.Laws.Append
import Derived.Laws.Bits64
import Derived.Laws.BitsAllLaws
import Derived.Laws.BitsLemmas
import Derived.Laws.IdiomStrings
import Derived.Laws.Sem
import Derived.Laws.Strings
import Derived.LoopN
import Derived.Orders
import Derived.Test.YtechpnlbkkfplaaGreatDoorBRoutPlays2
import Derived.Test.YtechpnlbkkfplaaGreatDoorBRoutPlays3
import Derived.Test.YtechpnlbkkfplaaGreatDoorBRoutPlays4
section
set_option linter.unusedSimpArgs false
namespace Go.Lift
theorem Sl.drop {h : Heap} {p : Option Addr} {l c : Nat} {vs : List Value} (m : Sl 1 h p l vs) (hc : l ≤ c) {n : Nat} (hn : n ≤ l) : Sl 1 h (slA p n c 1) (l - n) (vs.drop n) := by
  have hl := m.1
  refine ⟨by simp; omega, ?_⟩
  unfold slA
  by_cases e : c = n
  · rw [if_pos e]
    have : vs.drop n = [] := List.drop_eq_nil_of_le (by omega)
    rw [this]
    cases p with
    | none => rfl
    | some a => exact At.nil _ _
  · rw [if_neg e]
    cases p with
    | none => have e := m.2; simp only at e ⊢; subst e; simp
    | some a => rw [Nat.mul_one]; exact At.drop m.2 n
end Go.Lift
end
section
namespace Go.Lift
theorem and_i64 (a : Int) (m : Nat) (hm : m < 9223372036854775808) : bitsI .and .i64 a (m : Int) = (((a % 18446744073709551616).toNat &&& m : Nat) : Int) := by
  have e : bitsI .and .i64 a (m : Int) = IntKind.i64.wrap (((BitVec.ofInt 64 a &&& BitVec.ofInt 64 (m : Int) : BitVec 64).toNat : Nat) : Int) := rfl
  have o2 : BitVec.ofInt 64 (m : Int) = BitVec.ofNat 64 m := BitVec.ofInt_natCast ..
  have hl : ((a % 18446744073709551616).toNat &&& m) ≤ m := Nat.and_le_right
  have h64 : (2 : Nat) ^ 64 = 18446744073709551616 := by decide
  rw [e, o2, BitVec.toNat_and, BitVec.toNat_ofNat, BitVec.toNat_ofInt, h64, Nat.mod_eq_of_lt (by omega : m < 18446744073709551616)]
  exact wrapI (by omega) (by have : ((((18446744073709551616 : Nat) : Int))) = 18446744073709551616 := rfl; rw [this]; omega)
theorem mask_i64 (a : Int) (k : Nat) (hk : k < 63) : bitsI .and .i64 a ((2 ^ k - 1 : Nat) : Int) = a % ((2 ^ k : Nat) : Int) := by
  have hp : 2 ^ k ≤ 2 ^ 62 := Nat.pow_le_pow_right (by decide) (by omega)
  have hpos : 0 < 2 ^ k := Nat.pow_pos (by decide)
  rw [and_i64 a _ (by omega), Nat.and_two_pow_sub_one_eq_mod]
  have hd : ((2 ^ k : Nat) : Int) ∣ 18446744073709551616 := by
    have : (18446744073709551616 : Int) = ((2 ^ k : Nat) : Int) * ((2 ^ (64 - k) : Nat) : Int) := by
      rw [← Int.natCast_mul, ← Nat.pow_add, show k + (64 - k) = 64 by omega]; rfl
    exact ⟨_, this⟩
  have h0 : 0 ≤ a % 18446744073709551616 := Int.emod_nonneg _ (by decide)
  rw [Int.natCast_emod, Int.toNat_of_nonneg h0, Int.emod_emod_of_dvd a hd]
theorem m1 (a : Int) : bitsI .and .i64 a 1 = a % 2 := mask_i64 a 1 (by decide)
theorem m7 (a : Int) : bitsI .and .i64 a 7 = a % 8 := mask_i64 a 3 (by decide)
theorem m2 (a : Int) : bitsI .and .i64 a 2 = a / 2 % 2 * 2 := by
  have := and_i64 a 2 (by decide)
  rw [show ((2 : Nat) : Int) = 2 from rfl] at this
  rw [this]
  have h : ∀ n : Nat, n &&& 2 = n / 2 % 2 * 2 := by
    intro n
    have h1 : (n &&& 2) = 2 * (n / 2 % 2) := by
      apply Nat.eq_of_testBit_eq
      intro i
      rw [Nat.testBit_and, show (2 : Nat) = 2 ^ 1 from rfl, Nat.testBit_two_pow, Nat.testBit_two_pow_mul]
      cases i with
      | zero => simp
      | succ i =>
        cases i with
        | zero => simp [Nat.testBit_succ, Nat.testBit_zero]
        | succ i => simp [Nat.testBit_succ]
    omega
  rw [h]
  have h0 : 0 ≤ a % 18446744073709551616 := Int.emod_nonneg _ (by decide)
  omega
end Go.Lift
end
