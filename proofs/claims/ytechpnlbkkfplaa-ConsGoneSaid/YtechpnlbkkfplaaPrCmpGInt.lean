/- What functions of the package CmpGInt come to, over the heap alone, and that they do: printed by gen.py out of the given program. -/
import Derived.Test.YtechpnlbkkfplaaPrH
set_option linter.unusedVariables false
set_option maxRecDepth 100000
namespace Go.Proofs.Ytechpnlbkkfplaa.Pr
open Go Go.Lift Go.Proofs

/-! cmp.isNaN[int]: 154 -/
def cmp_isNaN_int.p0 (K : KT) (t0 : Int) (h : Heap) : Prop :=
  bd ((t0 != t0) : Bool) fun b1 => K (.bool b1) h
def cmp_isNaN_int.plan (K : KT) : Plan := .go
theorem cmp_isNaN_int.ev_eq : cmp_isNaN_int.p0 = fun K t0 h => Ev P Try.f154 (cmp_isNaN_int.plan K) K [.int .i64 t0] h := by kernel_rfl
theorem cmp_isNaN_int.obl (K : KT) : Obl P Try.f154 (cmp_isNaN_int.plan K) K :=
  obl_true (by kernel_rfl)
theorem cmp_isNaN_int.ok {K : KT} {t0 : Int} {h : Heap} (H : cmp_isNaN_int.p0 K t0 h) : CallsH P F.cmp_isNaN_int [.int .i64 t0] K h :=
  calls_of_Ev (cmp_isNaN_int.plan K) Try.func154 (by kernel_rfl) (cmp_isNaN_int.obl K) (by rw [cmp_isNaN_int.ev_eq] at H; exact H)

/-! cmp.Less[int]: 147 -/
def cmp_Less_int.p0 (K : KT) (t0 : Int) (y_1 : Int) (h : Heap) : Prop :=
  CallsH P F.cmp_isNaN_int [.int .i64 t0] (fun v1 h2 => ∃ b3, v1 = .bool b3 ∧ (b3 = true → CallsH P F.cmp_isNaN_int [.int .i64 y_1] (fun v4 h5 => ∃ b6, v4 = .bool b6 ∧ ((!b6) = false → bd ((decide (t0 < y_1)) : Bool) fun b7 => K (.bool b7) h5) ∧ ((!b6) = true → K (.bool true) h5)) h2) ∧ (b3 = false → bd ((decide (t0 < y_1)) : Bool) fun b8 => K (.bool b8) h2)) h
def cmp_Less_int.plan (K : KT) : Plan := .go
theorem cmp_Less_int.ev_eq : cmp_Less_int.p0 = fun K t0 y_1 h => Ev P Try.f147 (cmp_Less_int.plan K) K [.int .i64 t0, .int .i64 y_1] h := by kernel_rfl
theorem cmp_Less_int.obl (K : KT) : Obl P Try.f147 (cmp_Less_int.plan K) K :=
  obl_true (by kernel_rfl)
theorem cmp_Less_int.ok {K : KT} {t0 : Int} {y_1 : Int} {h : Heap} (H : cmp_Less_int.p0 K t0 y_1 h) : CallsH P F.cmp_Less_int [.int .i64 t0, .int .i64 y_1] K h :=
  calls_of_Ev (cmp_Less_int.plan K) Try.func147 (by kernel_rfl) (cmp_Less_int.obl K) (by rw [cmp_Less_int.ev_eq] at H; exact H)

end Go.Proofs.Ytechpnlbkkfplaa.Pr
