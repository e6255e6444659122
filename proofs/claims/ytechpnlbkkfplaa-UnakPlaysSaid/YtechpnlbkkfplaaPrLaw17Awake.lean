/- What functions of the package Law17Awake come to, over the heap alone, and that they do: printed by gen.py out of the given program. -/
import Derived.Test.YtechpnlbkkfplaaPrH
set_option linter.unusedVariables false
set_option maxRecDepth 100000
namespace Go.Proofs.Ytechpnlbkkfplaa.Pr
open Go Go.Lift Go.Proofs

/-! waybill/waybilllaw17.awake: 13 -/
def waybilllaw17_awake.p0 (K : KT)  (h : Heap) : Prop :=
  CallsH P F.line_New [] (fun v1 h2 => ∃ p3, v1 = .pointer p3 ∧ ((Option.isNone p3) = true → K (.bool false) h2) ∧ ((Option.isNone p3) = false → CallsH P F.line_Line_Put [.pointer p3, .int .u64 2, .bool false] (fun v4 h5 => ∃ b6, v4 = .bool b6 ∧ CallsH P F.line_Line_Put [.pointer p3, .int .u64 1, .bool true] (fun v7 h8 => ∃ b9, v7 = .bool b9 ∧ CallsH P F.line_Line_Take [.pointer p3] (fun v10 h11 => ∃ cs12 b13, v10 = .tuple #[.agg (List.toArray cs12), .bool b13] ∧ bd (al h11 #[.int .u64 0, .bool false] T.api_Entry) fun h14 => cs12.length = 2 ∧ ∃ h15, stC h14 (top h11) 0 cs12 = some h15 ∧ CallsH P F.line_Line_Back [.pointer p3, .int .u64 1] (fun v16 h17 => ∃ b18, v16 = .bool b18 ∧ CallsH P F.line_Line_Take [.pointer p3] (fun v19 h20 => ∃ cs21 b22, v19 = .tuple #[.agg (List.toArray cs21), .bool b22] ∧ bd (al h20 #[.int .u64 0, .bool false] T.api_Entry) fun h23 => cs21.length = 2 ∧ ∃ h24, stC h23 (top h20) 0 cs21 = some h24 ∧ (b6 = true → (b9 = true → ∃ cs25, rdC h24 (top h11) 0 2 = some cs25 ∧ SemH P (eqS .eql T.api_Entry (.tmp 33) (.tmp 34) (.agg (List.toArray cs25)) (.agg #[.int .u64 1, .bool true])) (fun v26 h27 => ∃ b28, v26 = .bool b28 ∧ (b28 = true → (b13 = true → (b18 = true → ∃ cs29, rdC h27 (top h20) 0 2 = some cs29 ∧ SemH P (eqS .eql T.api_Entry (.tmp 44) (.tmp 45) (.agg (List.toArray cs29)) (.agg #[.int .u64 1, .bool true])) (fun v30 h31 => ∃ b32, v30 = .bool b32 ∧ (b32 = true → (b22 = true → CallsH P F.line_Line_Ready [.pointer p3] (fun v33 h34 => ∃ a35 a35l a35c, v33 = .slice a35 a35l a35c ∧ ((((a35l : Nat) : Int) == 1) = true → CallsH P F.line_Line_Held [.pointer p3] (fun v36 h37 => ∃ a38 a38l a38c, v36 = .slice a38 a38l a38c ∧ ((((a38l : Nat) : Int) == 1) = true → CallsH P F.line_Line_Put [.pointer p3, .int .u64 0, .bool false] (fun v39 h40 => ∃ b41, v39 = .bool b41 ∧ bd ((!b41) : Bool) fun b42 => K (.bool b42) h40) h37) ∧ ((((a38l : Nat) : Int) == 1) = false → K (.bool false) h37)) h34) ∧ ((((a35l : Nat) : Int) == 1) = false → K (.bool false) h34)) h31) ∧ (b22 = false → K (.bool false) h31)) ∧ (b32 = false → K (.bool false) h31)) h27) ∧ (b18 = false → K (.bool false) h27)) ∧ (b13 = false → K (.bool false) h27)) ∧ (b28 = false → K (.bool false) h27)) h24) ∧ (b9 = false → K (.bool false) h24)) ∧ (b6 = false → K (.bool false) h24)) h17) h15) h8) h5) h2)) h
def waybilllaw17_awake.plan (K : KT) : Plan := .go
theorem waybilllaw17_awake.ev_eq : waybilllaw17_awake.p0 = fun K  h => Ev P Try.f13 (waybilllaw17_awake.plan K) K [] h := by kernel_rfl
theorem waybilllaw17_awake.obl (K : KT) : Obl P Try.f13 (waybilllaw17_awake.plan K) K :=
  obl_true (by kernel_rfl)
theorem waybilllaw17_awake.ok {K : KT}  {h : Heap} (H : waybilllaw17_awake.p0 K  h) : CallsH P F.waybilllaw17_awake [] K h :=
  calls_of_Ev (waybilllaw17_awake.plan K) Try.func13 (by kernel_rfl) (waybilllaw17_awake.obl K) (by rw [waybilllaw17_awake.ev_eq] at H; exact H)

end Go.Proofs.Ytechpnlbkkfplaa.Pr
