/- What functions of the package CmpGString come to, over the heap alone, and that they do: printed by gen.py out of the given program. -/
import Derived.Test.YtechpnlbkkfplaaDoorPrH
set_option linter.unusedVariables false
set_option maxRecDepth 100000
namespace Go.Proofs.YtechpnlbkkfplaaDoor.Pr
open Go Go.Lift Go.Proofs

/-! cmp.isNaN[string]: 46 -/
def cmp_isNaN_string.p0 (K : KT) (t0 : List UInt8) (h : Heap) : Prop :=
  bd ((!(t0 == t0)) : Bool) fun b1 => K (.bool b1) h
def cmp_isNaN_string.plan (K : KT) : Plan := .go
theorem cmp_isNaN_string.ev_eq : cmp_isNaN_string.p0 = fun K t0 h => Ev P Tryd.f46 (cmp_isNaN_string.plan K) K [.string (mkS t0)] h := by kernel_rfl
theorem cmp_isNaN_string.obl (K : KT) : Obl P Tryd.f46 (cmp_isNaN_string.plan K) K :=
  obl_true (by kernel_rfl)
theorem cmp_isNaN_string.ok {K : KT} {t0 : List UInt8} {h : Heap} (H : cmp_isNaN_string.p0 K t0 h) : CallsH P F.cmp_isNaN_string [.string (mkS t0)] K h :=
  calls_of_Ev (cmp_isNaN_string.plan K) Tryd.func46 (by kernel_rfl) (cmp_isNaN_string.obl K) (by rw [cmp_isNaN_string.ev_eq] at H; exact H)

/-! cmp.Compare[string]: 37 -/
def cmp_Compare_string.p0 (K : KT) (t0 : List UInt8) (y_1 : List UInt8) (h : Heap) : Prop :=
  CallsH P F.cmp_isNaN_string [.string (mkS t0)] (fun v1 h2 => ∃ b3, v1 = .bool b3 ∧ CallsH P F.cmp_isNaN_string [.string (mkS y_1)] (fun v4 h5 => ∃ b6, v4 = .bool b6 ∧ (b3 = true → (b6 = true → K (.int .i64 0) h5) ∧ (b6 = false → K (.int .i64 (-1)) h5)) ∧ (b3 = false → (b6 = true → K (.int .i64 1) h5) ∧ (b6 = false → ((Op.bytesLess t0 y_1) = true → K (.int .i64 (-1)) h5) ∧ ((Op.bytesLess t0 y_1) = false → ((!(Op.bytesLess t0 y_1 || t0 == y_1)) = true → K (.int .i64 1) h5) ∧ ((!(Op.bytesLess t0 y_1 || t0 == y_1)) = false → K (.int .i64 0) h5))))) h2) h
def cmp_Compare_string.plan (K : KT) : Plan := .go
theorem cmp_Compare_string.ev_eq : cmp_Compare_string.p0 = fun K t0 y_1 h => Ev P Tryd.f37 (cmp_Compare_string.plan K) K [.string (mkS t0), .string (mkS y_1)] h := by kernel_rfl
theorem cmp_Compare_string.obl (K : KT) : Obl P Tryd.f37 (cmp_Compare_string.plan K) K :=
  obl_true (by kernel_rfl)
theorem cmp_Compare_string.ok {K : KT} {t0 : List UInt8} {y_1 : List UInt8} {h : Heap} (H : cmp_Compare_string.p0 K t0 y_1 h) : CallsH P F.cmp_Compare_string [.string (mkS t0), .string (mkS y_1)] K h :=
  calls_of_Ev (cmp_Compare_string.plan K) Tryd.func37 (by kernel_rfl) (cmp_Compare_string.obl K) (by rw [cmp_Compare_string.ev_eq] at H; exact H)

/-! cmp.Less[string]: 68 -/
def cmp_Less_string.p0 (K : KT) (t0 : List UInt8) (y_1 : List UInt8) (h : Heap) : Prop :=
  CallsH P F.cmp_isNaN_string [.string (mkS t0)] (fun v1 h2 => ∃ b3, v1 = .bool b3 ∧ (b3 = true → CallsH P F.cmp_isNaN_string [.string (mkS y_1)] (fun v4 h5 => ∃ b6, v4 = .bool b6 ∧ ((!b6) = false → bd ((Op.bytesLess t0 y_1) : Bool) fun b7 => K (.bool b7) h5) ∧ ((!b6) = true → K (.bool true) h5)) h2) ∧ (b3 = false → bd ((Op.bytesLess t0 y_1) : Bool) fun b8 => K (.bool b8) h2)) h
def cmp_Less_string.plan (K : KT) : Plan := .go
theorem cmp_Less_string.ev_eq : cmp_Less_string.p0 = fun K t0 y_1 h => Ev P Tryd.f68 (cmp_Less_string.plan K) K [.string (mkS t0), .string (mkS y_1)] h := by kernel_rfl
theorem cmp_Less_string.obl (K : KT) : Obl P Tryd.f68 (cmp_Less_string.plan K) K :=
  obl_true (by kernel_rfl)
theorem cmp_Less_string.ok {K : KT} {t0 : List UInt8} {y_1 : List UInt8} {h : Heap} (H : cmp_Less_string.p0 K t0 y_1 h) : CallsH P F.cmp_Less_string [.string (mkS t0), .string (mkS y_1)] K h :=
  calls_of_Ev (cmp_Less_string.plan K) Tryd.func68 (by kernel_rfl) (cmp_Less_string.obl K) (by rw [cmp_Less_string.ev_eq] at H; exact H)

end Go.Proofs.YtechpnlbkkfplaaDoor.Pr
