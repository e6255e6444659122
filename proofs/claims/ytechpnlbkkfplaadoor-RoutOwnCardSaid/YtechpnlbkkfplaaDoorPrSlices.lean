/- What functions of the package Slices come to, over the heap alone, and that they do: printed by gen.py out of the given program. -/
import Derived.Test.YtechpnlbkkfplaaDoorPrH
set_option linter.unusedVariables false
set_option maxRecDepth 100000
namespace Go.Proofs.YtechpnlbkkfplaaDoor.Pr
open Go Go.Lift Go.Proofs

/-! slices.nextPowerOfTwo: 76 -/
def slices_nextPowerOfTwo.p0 (K : KT) (length_0 : Int) (h : Heap) : Prop :=
  CallsH P F.math_bits_Len [.int .u64 (IntKind.u64.wrap length_0)] (fun v1 h2 => ∃ n3, v1 = .int .i64 n3 ∧ (0 : Int) ≤ n3 ∧ bd ((shlI .u64 1 n3) : Int) fun n4 => K (.int .u64 n4) h2) h
def slices_nextPowerOfTwo.plan (K : KT) : Plan := .go
theorem slices_nextPowerOfTwo.ev_eq : slices_nextPowerOfTwo.p0 = fun K length_0 h => Ev P Tryd.f76 (slices_nextPowerOfTwo.plan K) K [.int .i64 length_0] h := by kernel_rfl
theorem slices_nextPowerOfTwo.obl (K : KT) : Obl P Tryd.f76 (slices_nextPowerOfTwo.plan K) K :=
  obl_true (by kernel_rfl)
theorem slices_nextPowerOfTwo.ok {K : KT} {length_0 : Int} {h : Heap} (H : slices_nextPowerOfTwo.p0 K length_0 h) : CallsH P F.slices_nextPowerOfTwo [.int .i64 length_0] K h :=
  calls_of_Ev (slices_nextPowerOfTwo.plan K) Tryd.func76 (by kernel_rfl) (slices_nextPowerOfTwo.obl K) (by rw [slices_nextPowerOfTwo.ev_eq] at H; exact H)

/-! (*slices.xorshift).Next: 77 -/
def slices_xorshift_Next.p0 (K : KT) (r_0 : OA) (h : Heap) : Prop :=
  ∃ p1, r_0 = some p1 ∧ ∃ p2, r_0 = some p2 ∧ ∃ n3, hcell h p2 = some (.int .u64 n3) ∧ (0 : Int) ≤ 13 ∧ ∃ n4, hcell h p1 = some (.int .u64 n4) ∧ ∃ p5, r_0 = some p5 ∧ ∃ h6, stC h p5 0 [.int .u64 (bitsI .xor .u64 n4 (shlI .u64 n3 13))] = some h6 ∧ ∃ p7, r_0 = some p7 ∧ ∃ p8, r_0 = some p8 ∧ ∃ n9, hcell h6 p8 = some (.int .u64 n9) ∧ (0 : Int) ≤ 7 ∧ ∃ n10, hcell h6 p7 = some (.int .u64 n10) ∧ ∃ p11, r_0 = some p11 ∧ ∃ h12, stC h6 p11 0 [.int .u64 (bitsI .xor .u64 n10 (shrI .u64 n9 7))] = some h12 ∧ ∃ p13, r_0 = some p13 ∧ ∃ p14, r_0 = some p14 ∧ ∃ n15, hcell h12 p14 = some (.int .u64 n15) ∧ (0 : Int) ≤ 17 ∧ ∃ n16, hcell h12 p13 = some (.int .u64 n16) ∧ ∃ p17, r_0 = some p17 ∧ ∃ h18, stC h12 p17 0 [.int .u64 (bitsI .xor .u64 n16 (shlI .u64 n15 17))] = some h18 ∧ ∃ p19, r_0 = some p19 ∧ ∃ n20, hcell h18 p19 = some (.int .u64 n20) ∧ K (.int .u64 n20) h18
def slices_xorshift_Next.plan (K : KT) : Plan := (.seq .go (.seq (.orders (.op 0 (.op 1 (.op 3 (.op 4 (.op 5 (.op 6 (.op 2 (.op 7 (.op 8 (.op 9 .nil))))))))))) (.seq (.orders (.op 0 (.op 1 (.op 3 (.op 4 (.op 5 (.op 6 (.op 2 (.op 7 (.op 8 (.op 9 .nil))))))))))) (.seq (.orders (.op 0 (.op 1 (.op 3 (.op 4 (.op 5 (.op 6 (.op 2 (.op 7 (.op 8 (.op 9 .nil))))))))))) .go))))
theorem slices_xorshift_Next.ev_eq : slices_xorshift_Next.p0 = fun K r_0 h => Ev P Tryd.f77 (slices_xorshift_Next.plan K) K [.pointer r_0] h := by kernel_rfl
theorem slices_xorshift_Next.obl (K : KT) : Obl P Tryd.f77 (slices_xorshift_Next.plan K) K :=
  obl_of (R := DrawOK P Tryd.f77.ntmps (opsAt 1 (bodyOf Tryd.f77)) (.op 0 (.op 1 (.op 3 (.op 4 (.op 5 (.op 6 (.op 2 (.op 7 (.op 8 (.op 9 .nil)))))))))) ∧ DrawOK P Tryd.f77.ntmps (opsAt 2 (bodyOf Tryd.f77)) (.op 0 (.op 1 (.op 3 (.op 4 (.op 5 (.op 6 (.op 2 (.op 7 (.op 8 (.op 9 .nil)))))))))) ∧ DrawOK P Tryd.f77.ntmps (opsAt 3 (bodyOf Tryd.f77)) (.op 0 (.op 1 (.op 3 (.op 4 (.op 5 (.op 6 (.op 2 (.op 7 (.op 8 (.op 9 .nil)))))))))) ∧ True) (by kernel_rfl) ⟨draw_ok (by kernel_rfl), ⟨draw_ok (by kernel_rfl), ⟨draw_ok (by kernel_rfl), trivial⟩⟩⟩
theorem slices_xorshift_Next.ok {K : KT} {r_0 : OA} {h : Heap} (H : slices_xorshift_Next.p0 K r_0 h) : CallsH P F.slices_xorshift_Next [.pointer r_0] K h :=
  calls_of_Ev (slices_xorshift_Next.plan K) Tryd.func77 (by kernel_rfl) (slices_xorshift_Next.obl K) (by rw [slices_xorshift_Next.ev_eq] at H; exact H)

end Go.Proofs.YtechpnlbkkfplaaDoor.Pr
