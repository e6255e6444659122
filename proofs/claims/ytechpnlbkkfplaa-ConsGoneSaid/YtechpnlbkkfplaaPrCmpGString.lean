/- What functions of the package CmpGString come to, over the heap alone, and that they do: printed by gen.py out of the given program. -/
import Derived.Test.YtechpnlbkkfplaaPrH
set_option linter.unusedVariables false
set_option maxRecDepth 100000
namespace Go.Proofs.Ytechpnlbkkfplaa.Pr
open Go Go.Lift Go.Proofs

/-! cmp.isNaN[string]: 139 -/
def cmp_isNaN_string.p0 (K : KT) (t0 : List UInt8) (h : Heap) : Prop :=
  bd ((!(t0 == t0)) : Bool) fun b1 => K (.bool b1) h
def cmp_isNaN_string.plan (K : KT) : Plan := .go
theorem cmp_isNaN_string.ev_eq : cmp_isNaN_string.p0 = fun K t0 h => Ev P Try.f139 (cmp_isNaN_string.plan K) K [.string (mkS t0)] h := by kernel_rfl
theorem cmp_isNaN_string.obl (K : KT) : Obl P Try.f139 (cmp_isNaN_string.plan K) K :=
  obl_true (by kernel_rfl)
theorem cmp_isNaN_string.ok {K : KT} {t0 : List UInt8} {h : Heap} (H : cmp_isNaN_string.p0 K t0 h) : CallsH P F.cmp_isNaN_string [.string (mkS t0)] K h :=
  calls_of_Ev (cmp_isNaN_string.plan K) Try.func139 (by kernel_rfl) (cmp_isNaN_string.obl K) (by rw [cmp_isNaN_string.ev_eq] at H; exact H)

/-! cmp.Less[string]: 125 -/
def cmp_Less_string.p0 (K : KT) (t0 : List UInt8) (y_1 : List UInt8) (h : Heap) : Prop :=
  CallsH P F.cmp_isNaN_string [.string (mkS t0)] (fun v1 h2 => ∃ b3, v1 = .bool b3 ∧ (b3 = true → CallsH P F.cmp_isNaN_string [.string (mkS y_1)] (fun v4 h5 => ∃ b6, v4 = .bool b6 ∧ ((!b6) = false → bd ((Op.bytesLess t0 y_1) : Bool) fun b7 => K (.bool b7) h5) ∧ ((!b6) = true → K (.bool true) h5)) h2) ∧ (b3 = false → bd ((Op.bytesLess t0 y_1) : Bool) fun b8 => K (.bool b8) h2)) h
def cmp_Less_string.plan (K : KT) : Plan := .go
theorem cmp_Less_string.ev_eq : cmp_Less_string.p0 = fun K t0 y_1 h => Ev P Try.f125 (cmp_Less_string.plan K) K [.string (mkS t0), .string (mkS y_1)] h := by kernel_rfl
theorem cmp_Less_string.obl (K : KT) : Obl P Try.f125 (cmp_Less_string.plan K) K :=
  obl_true (by kernel_rfl)
theorem cmp_Less_string.ok {K : KT} {t0 : List UInt8} {y_1 : List UInt8} {h : Heap} (H : cmp_Less_string.p0 K t0 y_1 h) : CallsH P F.cmp_Less_string [.string (mkS t0), .string (mkS y_1)] K h :=
  calls_of_Ev (cmp_Less_string.plan K) Try.func125 (by kernel_rfl) (cmp_Less_string.obl K) (by rw [cmp_Less_string.ev_eq] at H; exact H)

end Go.Proofs.Ytechpnlbkkfplaa.Pr
