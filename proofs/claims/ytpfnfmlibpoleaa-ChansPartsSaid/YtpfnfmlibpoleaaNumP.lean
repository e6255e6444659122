/- A number's octets, read again. -/
import Derived.Test.YtpfnfmlibpoleaaOcts
set_option linter.unusedVariables false
set_option linter.unusedSimpArgs false
namespace Go.Proofs.Ytpfnfmlibpoleaa.Pr
open Go Go.Lift Go.Proofs

theorem numN_fold : ∀ (k v acc : Nat), acc * 256 ^ k + v % 256 ^ k < 18446744073709551616 → (octsN k v).foldl (fun n b => (n * 256 + b.toNat) % 18446744073709551616) acc = acc * 256 ^ k + v % 256 ^ k
  | 0, v, acc, _ => by simp [octsN, Nat.mod_one]
  | k + 1, v, acc, h => by
    have hm : v % 256 ^ (k + 1) = v % 256 ^ k + 256 ^ k * (v / 256 ^ k % 256) := by rw [Nat.pow_succ, Nat.mod_mul]
    have e : octsN (k + 1) v = octN v k :: octsN k v := rfl
    have eo : (octN v k).toNat = v / 256 ^ k % 256 := by simp [octN]
    have ha : acc * 256 ^ (k + 1) = acc * 256 * 256 ^ k := by rw [Nat.pow_succ, Nat.mul_comm (256 ^ k), Nat.mul_assoc]
    have hs : (acc * 256 + v / 256 ^ k % 256) * 256 ^ k + v % 256 ^ k = acc * 256 ^ (k + 1) + v % 256 ^ (k + 1) := by
      rw [hm, ha, Nat.add_mul, Nat.mul_comm (v / 256 ^ k % 256)]
      omega
    have hp : 0 < 256 ^ k := Nat.pow_pos (by omega)
    have hle : acc * 256 + v / 256 ^ k % 256 ≤ (acc * 256 + v / 256 ^ k % 256) * 256 ^ k := Nat.le_mul_of_pos_right _ hp
    rw [e, List.foldl_cons, eo, Nat.mod_eq_of_lt (by omega), numN_fold k v _ (by omega), hs]
theorem numN_octsN {k v : Nat} (h : v < 256 ^ k) (hk : k ≤ 8) : numN (octsN k v) = v := by
  have h8 : 256 ^ k ≤ 256 ^ 8 := Nat.pow_le_pow_right (by omega) hk
  have e8 : (256 : Nat) ^ 8 = 18446744073709551616 := by decide
  have := numN_fold k v 0 (by rw [Nat.mod_eq_of_lt h]; omega)
  unfold numN
  rw [this, Nat.mod_eq_of_lt h]
  omega
end Go.Proofs.Ytpfnfmlibpoleaa.Pr
