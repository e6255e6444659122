/- What functions of the package Law16Awake come to, over the heap alone, and that they do: printed by gen.py out of the given program. -/
import Derived.Test.YtechpnlbkkfplaaDoorPrH
set_option linter.unusedVariables false
set_option maxRecDepth 100000
namespace Go.Proofs.YtechpnlbkkfplaaDoor.Pr
open Go Go.Lift Go.Proofs

/-! waybill/waybilllaw16.awake: 7 -/
def waybilllaw16_awake.p0 (K : KT)  (h : Heap) : Prop :=
  CallsH P F.rout_New [] (fun v1 h2 => ∃ p3, v1 = .pointer p3 ∧ ((Option.isNone p3) = true → K (.bool false) h2) ∧ ((Option.isNone p3) = false → CallsH P F.rout_Rout_Bind [.pointer p3, .agg #[.string (mkS ([97, 109, 113, 46, 116, 111, 112, 105, 99] : List UInt8)), .string (mkS ([113] : List UInt8)), .string (mkS ([97, 46, 35] : List UInt8))]] (fun v4 h5 => ∃ b6, v4 = .bool b6 ∧ CallsH P F.rout_Rout_Bind [.pointer p3, .agg #[.string (mkS ([97, 109, 113, 46, 116, 111, 112, 105, 99] : List UInt8)), .string (mkS ([113] : List UInt8)), .string (mkS ([97, 46, 35] : List UInt8))]] (fun v7 h8 => ∃ b9, v7 = .bool b9 ∧ CallsH P F.rout_Rout_Get [.pointer p3, .string (mkS ([97, 109, 113, 46, 102, 97, 110, 111, 117, 116] : List UInt8))] (fun v10 h11 => ∃ cs12 b13, v10 = .tuple #[.agg (List.toArray cs12), .bool b13] ∧ bd (al h11 #[.string (mkS ([] : List UInt8)), .int .i64 0, .bool false] T.api_Exch) fun h14 => cs12.length = 3 ∧ ∃ h15, stC h14 (top h11) 0 cs12 = some h15 ∧ (b6 = true → ((!b9) = true → (b13 = true → ∃ n16, hcell h15 (Addr.add (top h11) 1) = some (.int .i64 n16) ∧ ((n16 == 2) = true → ∃ b17, hcell h15 (Addr.add (top h11) 2) = some (.bool b17) ∧ (b17 = true → CallsH P F.rout_Rout_Route [.pointer p3, .string (mkS ([] : List UInt8)), .string (mkS ([107] : List UInt8))] (fun v18 h19 => ∃ a20 a20l a20c, v18 = .slice a20 a20l a20c ∧ bd (al h19 #[.string (mkS ([107] : List UInt8))] T.string) fun h21 => CallsH P F.waybilllaw6_SameTexts [.slice a20 a20l a20c, .slice (some (top h19)) 1 1] (fun v22 h23 => ∃ b24, v22 = .bool b24 ∧ (b24 = true → CallsH P F.rout_Rout_Route [.pointer p3, .string (mkS ([97, 109, 113, 46, 116, 111, 112, 105, 99] : List UInt8)), .string (mkS ([97, 46, 98] : List UInt8))] (fun v25 h26 => ∃ a27 a27l a27c, v25 = .slice a27 a27l a27c ∧ bd (al h26 #[.string (mkS ([113] : List UInt8))] T.string) fun h28 => CallsH P F.waybilllaw6_SameTexts [.slice a27 a27l a27c, .slice (some (top h26)) 1 1] (fun v29 h30 => ∃ b31, v29 = .bool b31 ∧ (b31 = true → CallsH P F.rout_Rout_Names [.pointer p3] (fun v32 h33 => ∃ a34 a34l a34c, v32 = .slice a34 a34l a34c ∧ bd ((((a34l : Nat) : Int) == 4) : Bool) fun b35 => K (.bool b35) h33) h30) ∧ (b31 = false → K (.bool false) h30)) h28) h23) ∧ (b24 = false → K (.bool false) h23)) h21) h15) ∧ (b17 = false → K (.bool false) h15)) ∧ ((n16 == 2) = false → K (.bool false) h15)) ∧ (b13 = false → K (.bool false) h15)) ∧ ((!b9) = false → K (.bool false) h15)) ∧ (b6 = false → K (.bool false) h15)) h8) h5) h2)) h
def waybilllaw16_awake.plan (K : KT) : Plan := .go
theorem waybilllaw16_awake.ev_eq : waybilllaw16_awake.p0 = fun K  h => Ev P Tryd.f7 (waybilllaw16_awake.plan K) K [] h := by kernel_rfl
theorem waybilllaw16_awake.obl (K : KT) : Obl P Tryd.f7 (waybilllaw16_awake.plan K) K :=
  obl_true (by kernel_rfl)
theorem waybilllaw16_awake.ok {K : KT}  {h : Heap} (H : waybilllaw16_awake.p0 K  h) : CallsH P F.waybilllaw16_awake [] K h :=
  calls_of_Ev (waybilllaw16_awake.plan K) Tryd.func7 (by kernel_rfl) (waybilllaw16_awake.obl K) (by rw [waybilllaw16_awake.ev_eq] at H; exact H)

end Go.Proofs.YtechpnlbkkfplaaDoor.Pr
