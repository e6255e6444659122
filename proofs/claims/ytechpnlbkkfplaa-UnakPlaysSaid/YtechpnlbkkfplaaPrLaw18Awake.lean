/- What functions of the package Law18Awake come to, over the heap alone, and that they do: printed by gen.py out of the given program. -/
import Derived.Test.YtechpnlbkkfplaaPrH
set_option linter.unusedVariables false
set_option maxRecDepth 100000
namespace Go.Proofs.Ytechpnlbkkfplaa.Pr
open Go Go.Lift Go.Proofs

/-! waybill/waybilllaw18.awake: 27 -/
def waybilllaw18_awake.p0 (K : KT)  (h : Heap) : Prop :=
  CallsH P F.unak_New [] (fun v1 h2 => ∃ p3, v1 = .pointer p3 ∧ ((Option.isNone p3) = true → K (.bool false) h2) ∧ ((Option.isNone p3) = false → CallsH P F.unak_Unak_Add [.pointer p3, .agg #[.string (mkS ([113] : List UInt8)), .int .u64 5]] (fun v4 h5 => ∃ n6, v4 = .int .u64 n6 ∧ CallsH P F.unak_Unak_Tag [.pointer p3] (fun v7 h8 => ∃ n9, v7 = .int .u64 n9 ∧ CallsH P F.unak_Unak_Add [.pointer p3, .agg #[.string (mkS ([113] : List UInt8)), .int .u64 7]] (fun v10 h11 => ∃ n12, v10 = .int .u64 n12 ∧ CallsH P F.unak_Unak_Find [.pointer p3, .int .u64 0, .bool true] (fun v13 h14 => ∃ a15 a15l a15c b16, v13 = .tuple #[.slice a15 a15l a15c, .bool b16] ∧ CallsH P F.unak_Unak_Find [.pointer p3, .int .u64 2, .bool false] (fun v17 h18 => ∃ a19 a19l a19c b20, v17 = .tuple #[.slice a19 a19l a19c, .bool b20] ∧ bd (al h18 #[.int .u64 1] T.uint64) fun h21 => CallsH P F.unak_Unak_Take [.pointer p3, .slice (some (top h18)) 1 1] (fun v22 h23 => ∃ a24 a24l a24c, v22 = .slice a24 a24l a24c ∧ ((n6 == 1) = true → ((n9 == 2) = true → ((n12 == 3) = true → ((((a15l : Nat) : Int) == 2) = true → ∃ p25, a15 = some p25 ∧ (0 : Int) ≤ 0 ∧ 0 < ((a15l : Nat) : Int) ∧ ∃ n26, hcell h23 (Addr.add p25 (Int.toNat 0 * 1)) = some (.int .u64 n26) ∧ ((n26 == 1) = true → ∃ p27, a15 = some p27 ∧ (0 : Int) ≤ 1 ∧ 1 < ((a15l : Nat) : Int) ∧ ∃ n28, hcell h23 (Addr.add p27 (Int.toNat 1 * 1)) = some (.int .u64 n28) ∧ ((n28 == 3) = true → (b16 = true → ((!b20) = true → ((((a24l : Nat) : Int) == 1) = true → ∃ p29, a24 = some p29 ∧ (0 : Int) ≤ 0 ∧ 0 < ((a24l : Nat) : Int) ∧ ∃ cs30, rdC h23 (Addr.add p29 (Int.toNat 0 * 2)) 0 2 = some cs30 ∧ SemH P (eqS .eql T.api_Hold (.tmp 76) (.tmp 77) (.agg (List.toArray cs30)) (.agg #[.string (mkS ([113] : List UInt8)), .int .u64 5])) (fun v31 h32 => ∃ b33, v31 = .bool b33 ∧ (b33 = true → CallsH P F.unak_Unak_Len [.pointer p3] (fun v34 h35 => ∃ n36, v34 = .int .i64 n36 ∧ bd ((n36 == 1) : Bool) fun b37 => K (.bool b37) h35) h32) ∧ (b33 = false → K (.bool false) h32)) h23) ∧ ((((a24l : Nat) : Int) == 1) = false → K (.bool false) h23)) ∧ ((!b20) = false → K (.bool false) h23)) ∧ (b16 = false → K (.bool false) h23)) ∧ ((n28 == 3) = false → K (.bool false) h23)) ∧ ((n26 == 1) = false → K (.bool false) h23)) ∧ ((((a15l : Nat) : Int) == 2) = false → K (.bool false) h23)) ∧ ((n12 == 3) = false → K (.bool false) h23)) ∧ ((n9 == 2) = false → K (.bool false) h23)) ∧ ((n6 == 1) = false → K (.bool false) h23)) h21) h14) h11) h8) h5) h2)) h
def waybilllaw18_awake.plan (K : KT) : Plan := .go
theorem waybilllaw18_awake.ev_eq : waybilllaw18_awake.p0 = fun K  h => Ev P Try.f27 (waybilllaw18_awake.plan K) K [] h := by kernel_rfl
theorem waybilllaw18_awake.obl (K : KT) : Obl P Try.f27 (waybilllaw18_awake.plan K) K :=
  obl_true (by kernel_rfl)
theorem waybilllaw18_awake.ok {K : KT}  {h : Heap} (H : waybilllaw18_awake.p0 K  h) : CallsH P F.waybilllaw18_awake [] K h :=
  calls_of_Ev (waybilllaw18_awake.plan K) Try.func27 (by kernel_rfl) (waybilllaw18_awake.obl K) (by rw [waybilllaw18_awake.ev_eq] at H; exact H)

end Go.Proofs.Ytechpnlbkkfplaa.Pr
