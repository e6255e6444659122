/- What functions of the package Code come to, over the heap alone, and that they do: printed by gen.py out of the given program. -/
import Derived.Test.YtpfnfmlibpoleaaPrH
set_option linter.unusedVariables false
set_option maxRecDepth 100000
namespace Go.Proofs.Ytpfnfmlibpoleaa.Pr
open Go Go.Lift Go.Proofs

/-! waybill/code.Hard: 13 -/
def code_Hard.p0 (K : KT) (t0 : Int) (h : Heap) : Prop :=
  ((decide (t0 ≥ 501)) = true → ((decide (t0 ≤ 506)) = false → ((t0 == 530) = false → bd ((t0 == 540) : Bool) fun b1 => K (.bool b1) h) ∧ ((t0 == 530) = true → K (.bool true) h)) ∧ ((decide (t0 ≤ 506)) = true → K (.bool true) h)) ∧ ((decide (t0 ≥ 501)) = false → ((t0 == 530) = false → bd ((t0 == 540) : Bool) fun b2 => K (.bool b2) h) ∧ ((t0 == 530) = true → K (.bool true) h))
def code_Hard.plan (K : KT) : Plan := .go
theorem code_Hard.ev_eq : code_Hard.p0 = fun K t0 h => Ev P Try.f13 (code_Hard.plan K) K [.int .i64 t0] h := by kernel_rfl
theorem code_Hard.obl (K : KT) : Obl P Try.f13 (code_Hard.plan K) K :=
  obl_true (by kernel_rfl)
theorem code_Hard.ok {K : KT} {t0 : Int} {h : Heap} (H : code_Hard.p0 K t0 h) : CallsH P F.code_Hard [.int .i64 t0] K h :=
  calls_of_Ev (code_Hard.plan K) Try.func13 (by kernel_rfl) (code_Hard.obl K) (by rw [code_Hard.ev_eq] at H; exact H)

/-! waybill/code.Text: 14 -/
def code_Text.p0 (K : KT) (t0 : Int) (h : Heap) : Prop :=
  bd ((t0 == 200) : Bool) fun b1 => (b1 = true → K (.string (mkS ([79, 75] : List UInt8))) h) ∧ (b1 = false → bd ((t0 == 311) : Bool) fun b2 => (b2 = true → K (.string (mkS ([67, 79, 78, 84, 69, 78, 84, 95, 84, 79, 79, 95, 76, 65, 82, 71, 69] : List UInt8))) h) ∧ (b2 = false → bd ((t0 == 312) : Bool) fun b3 => (b3 = true → K (.string (mkS ([78, 79, 95, 82, 79, 85, 84, 69] : List UInt8))) h) ∧ (b3 = false → bd ((t0 == 403) : Bool) fun b4 => (b4 = true → K (.string (mkS ([65, 67, 67, 69, 83, 83, 95, 82, 69, 70, 85, 83, 69, 68] : List UInt8))) h) ∧ (b4 = false → bd ((t0 == 404) : Bool) fun b5 => (b5 = true → K (.string (mkS ([78, 79, 84, 95, 70, 79, 85, 78, 68] : List UInt8))) h) ∧ (b5 = false → bd ((t0 == 406) : Bool) fun b6 => (b6 = true → K (.string (mkS ([80, 82, 69, 67, 79, 78, 68, 73, 84, 73, 79, 78, 95, 70, 65, 73, 76, 69, 68] : List UInt8))) h) ∧ (b6 = false → bd ((t0 == 501) : Bool) fun b7 => (b7 = true → K (.string (mkS ([70, 82, 65, 77, 69, 95, 69, 82, 82, 79, 82] : List UInt8))) h) ∧ (b7 = false → bd ((t0 == 502) : Bool) fun b8 => (b8 = true → K (.string (mkS ([83, 89, 78, 84, 65, 88, 95, 69, 82, 82, 79, 82] : List UInt8))) h) ∧ (b8 = false → bd ((t0 == 503) : Bool) fun b9 => (b9 = true → K (.string (mkS ([67, 79, 77, 77, 65, 78, 68, 95, 73, 78, 86, 65, 76, 73, 68] : List UInt8))) h) ∧ (b9 = false → bd ((t0 == 504) : Bool) fun b10 => (b10 = true → K (.string (mkS ([67, 72, 65, 78, 78, 69, 76, 95, 69, 82, 82, 79, 82] : List UInt8))) h) ∧ (b10 = false → bd ((t0 == 505) : Bool) fun b11 => (b11 = true → K (.string (mkS ([85, 78, 69, 88, 80, 69, 67, 84, 69, 68, 95, 70, 82, 65, 77, 69] : List UInt8))) h) ∧ (b11 = false → bd ((t0 == 506) : Bool) fun b12 => (b12 = true → K (.string (mkS ([82, 69, 83, 79, 85, 82, 67, 69, 95, 69, 82, 82, 79, 82] : List UInt8))) h) ∧ (b12 = false → bd ((t0 == 530) : Bool) fun b13 => (b13 = true → K (.string (mkS ([78, 79, 84, 95, 65, 76, 76, 79, 87, 69, 68] : List UInt8))) h) ∧ (b13 = false → bd ((t0 == 540) : Bool) fun b14 => (b14 = true → K (.string (mkS ([78, 79, 84, 95, 73, 77, 80, 76, 69, 77, 69, 78, 84, 69, 68] : List UInt8))) h) ∧ (b14 = false → K (.string (mkS ([] : List UInt8))) h))))))))))))))
def code_Text.plan (K : KT) : Plan := .go
theorem code_Text.ev_eq : code_Text.p0 = fun K t0 h => Ev P Try.f14 (code_Text.plan K) K [.int .i64 t0] h := by kernel_rfl
theorem code_Text.obl (K : KT) : Obl P Try.f14 (code_Text.plan K) K :=
  obl_true (by kernel_rfl)
theorem code_Text.ok {K : KT} {t0 : Int} {h : Heap} (H : code_Text.p0 K t0 h) : CallsH P F.code_Text [.int .i64 t0] K h :=
  calls_of_Ev (code_Text.plan K) Try.func14 (by kernel_rfl) (code_Text.obl K) (by rw [code_Text.ev_eq] at H; exact H)

/-! waybill/code.Of: 15 -/
def code_Of.p0 (K : KT) (e_0 : Int) (h : Heap) : Prop :=
  bd ((e_0 == 3) : Bool) fun b1 => (b1 = true → K (.int .i64 501) h) ∧ (b1 = false → bd ((e_0 == 4) : Bool) fun b2 => (b2 = true → K (.int .i64 502) h) ∧ (b2 = false → bd ((e_0 == 5) : Bool) fun b3 => (b3 = true → K (.int .i64 540) h) ∧ (b3 = false → K (.int .i64 506) h)))
def code_Of.plan (K : KT) : Plan := .go
theorem code_Of.ev_eq : code_Of.p0 = fun K e_0 h => Ev P Try.f15 (code_Of.plan K) K [.int .i64 e_0] h := by kernel_rfl
theorem code_Of.obl (K : KT) : Obl P Try.f15 (code_Of.plan K) K :=
  obl_true (by kernel_rfl)
theorem code_Of.ok {K : KT} {e_0 : Int} {h : Heap} (H : code_Of.p0 K e_0 h) : CallsH P F.code_Of [.int .i64 e_0] K h :=
  calls_of_Ev (code_Of.plan K) Try.func15 (by kernel_rfl) (code_Of.obl K) (by rw [code_Of.ev_eq] at H; exact H)

end Go.Proofs.Ytpfnfmlibpoleaa.Pr
