/- What functions of the package Law6Awake come to, over the heap alone, and that they do: printed by gen.py out of the given program. -/
import Derived.Test.YtpfnfmlibpoleaaDoorPrH
set_option linter.unusedVariables false
set_option maxRecDepth 100000
namespace Go.Proofs.YtpfnfmlibpoleaaDoor.Pr
open Go Go.Lift Go.Proofs

/-! waybill/waybilllaw6.awake: 8 -/
def waybilllaw6_awake.p0 (K : KT)  (h : Heap) : Prop :=
  CallsH P F.topc_Match [.string (mkS ([97, 46, 35] : List UInt8)), .string (mkS ([97] : List UInt8))] (fun v1 h2 => ∃ b3, v1 = .bool b3 ∧ (b3 = true → CallsH P F.topc_Match [.string (mkS ([97, 46, 42, 46, 99] : List UInt8)), .string (mkS ([97, 46, 98, 46, 99] : List UInt8))] (fun v4 h5 => ∃ b6, v4 = .bool b6 ∧ (b6 = true → CallsH P F.topc_Match [.string (mkS ([97, 46, 42] : List UInt8)), .string (mkS ([97] : List UInt8))] (fun v7 h8 => ∃ b9, v7 = .bool b9 ∧ ((!b9) = true → CallsH P F.topc_Match [.string (mkS ([35] : List UInt8)), .string (mkS ([] : List UInt8))] (fun v10 h11 => ∃ b12, v10 = .bool b12 ∧ (b12 = true → CallsH P F.topc_Words [.string (mkS ([] : List UInt8))] (fun v13 h14 => ∃ a15 a15l a15c, v13 = .slice a15 a15l a15c ∧ ((((a15l : Nat) : Int) == 1) = true → CallsH P F.topc_Words [.string (mkS ([97, 46, 46, 98] : List UInt8))] (fun v16 h17 => ∃ a18 a18l a18c, v16 = .slice a18 a18l a18c ∧ bd ((((a18l : Nat) : Int) == 3) : Bool) fun b19 => K (.bool b19) h17) h14) ∧ ((((a15l : Nat) : Int) == 1) = false → K (.bool false) h14)) h11) ∧ (b12 = false → K (.bool false) h11)) h8) ∧ ((!b9) = false → K (.bool false) h8)) h5) ∧ (b6 = false → K (.bool false) h5)) h2) ∧ (b3 = false → K (.bool false) h2)) h
def waybilllaw6_awake.plan (K : KT) : Plan := .go
theorem waybilllaw6_awake.ev_eq : waybilllaw6_awake.p0 = fun K  h => Ev P Tryd.f8 (waybilllaw6_awake.plan K) K [] h := by kernel_rfl
theorem waybilllaw6_awake.obl (K : KT) : Obl P Tryd.f8 (waybilllaw6_awake.plan K) K :=
  obl_true (by kernel_rfl)
theorem waybilllaw6_awake.ok {K : KT}  {h : Heap} (H : waybilllaw6_awake.p0 K  h) : CallsH P F.waybilllaw6_awake [] K h :=
  calls_of_Ev (waybilllaw6_awake.plan K) Tryd.func8 (by kernel_rfl) (waybilllaw6_awake.obl K) (by rw [waybilllaw6_awake.ev_eq] at H; exact H)

end Go.Proofs.YtpfnfmlibpoleaaDoor.Pr
