/- How many bits a number has: the library's contract, at this program. -/
import Derived.Shelf.Lay
import Derived.Lib.ItoaNum
import Derived.Shelf.Small.Bits
import Derived.Test.YtechpnlbkkfplaaDoorLiftPm
import Derived.Test.YtechpnlbkkfplaaDoorPrH
import Derived.Test.YtechpnlbkkfplaaDoorPrSlices
namespace Go.Proofs
open Go.Shelf
shelf_lay Lays.n128 Nm 128 at Tryd as Tryd.sb128
theorem Tryd.sb_Len32 (x : Int) (w : World) (h0 : 0 ≤ x) (h1 : x ≤ 4294967295) :
    Calls Tryd.prog YtechpnlbkkfplaaDoor.Pr.F.math_bits_Len32 #[.int .u32 x] w fun e w' => e = .returned (.int .i64 (Lib.bitLen x.toNat)) ∧ w' = w := Any.bits_Len32 Tryd.sb128 x w h0 h1
shelf_lay Lays.n129 Nm 129 at Tryd as Tryd.sb129
theorem Tryd.sb_Len64 (x : Int) (w : World) (h0 : 0 ≤ x) (h1 : x ≤ 18446744073709551615) :
    Calls Tryd.prog YtechpnlbkkfplaaDoor.Pr.F.math_bits_Len64 #[.int .u64 x] w fun e w' => e = .returned (.int .i64 (Lib.bitLen x.toNat)) ∧ w' = w := Any.bits_Len64 Tryd.sb129 x w h0 h1
shelf_lay Lays.n125 Nm 125 at Tryd as Tryd.sb125
theorem Tryd.sb_Len (x : Int) (w : World) (h0 : 0 ≤ x) (h1 : x ≤ 18446744073709551615) :
    Calls Tryd.prog YtechpnlbkkfplaaDoor.Pr.F.math_bits_Len #[.int .u64 x] w fun e w' => e = .returned (.int .i64 (Lib.bitLen x.toNat)) ∧ w' = w := Any.bits_Len Tryd.sb125 x w h0 h1
end Go.Proofs

namespace Go.Proofs.YtechpnlbkkfplaaDoor.Pr
open Go Go.Lift Go.Proofs
theorem len_two {x : Nat} (h1 : 1 ≤ x) (h2 : x < 18446744073709551616) : x < 2 ^ Lib.bitLen x ∧ 2 ^ Lib.bitLen x ≤ 2 * x := by
  obtain ⟨b1, b2, b3⟩ := Lib.bitLenAux_bounds 64 x h2 (by omega)
  refine ⟨b3, ?_⟩
  show 2 ^ Lib.bitLenAux 64 x ≤ 2 * x
  generalize Lib.bitLenAux 64 x = L at *
  obtain ⟨k, rfl⟩ : ∃ k, L = k + 1 := ⟨L - 1, by omega⟩
  rw [Nat.pow_succ]
  simp only [Nat.add_sub_cancel] at b2
  omega
theorem lenS {K : KT} {h : Heap} {x : Nat} (hx : x < 18446744073709551616) (hK : K (.int .i64 (Lib.bitLen x : Nat)) h) : CallsH P F.math_bits_Len [.int .u64 (x : Int)] K h := by
  refine ⟨by kernel_rfl, fun w hw => ?_⟩
  refine (Tryd.sb_Len (x : Int) w (by omega) (by omega)).mono fun e w' hh => ?_
  obtain ⟨h1, h2⟩ := hh
  refine ⟨_, h1, ?_, by rw [h2]; exact Rest.refl w⟩
  rw [h2, hw, Int.toNat_natCast]
  exact hK
theorem pow2S {K : KT} {h : Heap} {x : Nat} (h1 : 1 ≤ x) (hx : x < 4611686018427387904) (hK : ∀ m : Nat, x < m → m ≤ 2 * x → K (.int .u64 m) h) : CallsH P F.slices_nextPowerOfTwo [.int .i64 x] K h := by
  refine slices_nextPowerOfTwo.ok ?_
  unfold slices_nextPowerOfTwo.p0
  rw [show IntKind.u64.wrap (x : Int) = (x : Int) by rw [IntKind.wrap_u64]; omega]
  obtain ⟨l1, l2⟩ := len_two h1 (by omega)
  refine lenS (by omega) ⟨_, rfl, by omega, ?_⟩
  simp only [bd]
  have e : shlI .u64 1 ((Lib.bitLen x : Nat) : Int) = ((2 ^ Lib.bitLen x : Nat) : Int) := by
    have hl : Lib.bitLen x ≤ 64 := by
      by_cases h : Lib.bitLen x ≤ 64
      · exact h
      · have := Nat.pow_le_pow_right (n := 2) (by omega) (show 64 ≤ Lib.bitLen x by omega)
        have e64 : (2 : Nat) ^ 64 = 18446744073709551616 := by decide
        omega
    simp only [shlI, IntKind.bits, Int.toNat_natCast]
    rw [Nat.min_eq_left hl, Int.one_mul, IntKind.wrap_u64, show (2 : Int) ^ Lib.bitLen x = ((2 ^ Lib.bitLen x : Nat) : Int) by rw [Int.natCast_pow]; rfl]
    omega
  rw [e]
  exact hK _ l1 l2
theorem xorS {K : KT} {h : Heap} {L : List Asr} {c : Addr} {x : Int} (S : St (Bx c [.int .u64 x] :: L) h) (hK : ∀ h' (y : Int), St (Bx c [.int .u64 y] :: L) h' → K (.int .u64 y) h') : CallsH P F.slices_xorshift_Next [.pointer (some c)] K h := by
  refine slices_xorshift_Next.ok ?_
  unfold slices_xorshift_Next.p0
  refine ⟨c, rfl, c, rfl, x, S.c 0 rfl, by decide, x, S.c 0 rfl, c, rfl, S.wr 0 (by simp) rfl fun h1 S1 => ?_⟩
  refine ⟨c, rfl, c, rfl, _, S1.c 0 rfl, by decide, _, S1.c 0 rfl, c, rfl, S1.wr 0 (by simp) rfl fun h2 S2 => ?_⟩
  refine ⟨c, rfl, c, rfl, _, S2.c 0 rfl, by decide, _, S2.c 0 rfl, c, rfl, S2.wr 0 (by simp) rfl fun h3 S3 => ?_⟩
  exact ⟨c, rfl, _, S3.c 0 rfl, hK h3 _ S3⟩
theorem and_le (x : Int) (m : Nat) (hm : m < 18446744073709551616) : ∃ k : Nat, bitsI .and .u64 x (m : Int) = (k : Int) ∧ k ≤ m := by
  have e : bitsI .and .u64 x (m : Int) = IntKind.u64.wrap (((BitVec.ofInt 64 x &&& BitVec.ofInt 64 (m : Int) : BitVec 64).toNat : Nat) : Int) := rfl
  have o2 : BitVec.ofInt 64 (m : Int) = BitVec.ofNat 64 m := BitVec.ofInt_natCast ..
  have e64 : (2 : Nat) ^ 64 = 18446744073709551616 := by decide
  refine ⟨(BitVec.ofInt 64 x &&& BitVec.ofInt 64 (m : Int)).toNat, ?_, ?_⟩
  · have hl := (BitVec.ofInt 64 x &&& BitVec.ofInt 64 (m : Int)).isLt
    rw [e64] at hl
    rw [e, IntKind.wrap_u64]
    omega
  · rw [o2, BitVec.toNat_and, BitVec.toNat_ofNat, e64, Nat.mod_eq_of_lt hm]
    exact Nat.and_le_right
end Go.Proofs.YtechpnlbkkfplaaDoor.Pr
