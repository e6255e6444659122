/- What functions of the package Law6Topctells come to, over the heap alone, and that they do: printed by gen.py out of the given program. -/
import Derived.Test.YtpfnfmlibpoleaaDoorPrH
set_option linter.unusedVariables false
set_option maxRecDepth 100000
namespace Go.Proofs.YtpfnfmlibpoleaaDoor.Pr
open Go Go.Lift Go.Proofs

/-! waybill/waybilllaw6.TopcTells: 4 -/
def waybilllaw6_TopcTells.j2 (K : KT)  (h : Heap) : Prop :=
  CallsH P F.waybilllaw6_awake [] (fun v4 h5 => ∃ b6, v4 = .bool b6 ∧ K (.bool b6) h5) h
def waybilllaw6_TopcTells.j2.l : Live := []
def waybilllaw6_TopcTells.j2.j (K : KT) : Tup waybilllaw6_TopcTells.j2.l → Heap → Prop := fun x h => waybilllaw6_TopcTells.j2 K  h
def waybilllaw6_TopcTells.j4 (K : KT) (R3 : List UInt8 → List UInt8 → Int → Heap → Prop) (p_0 : List UInt8) (k_1 : List UInt8) (i_5 : Int) (t33 : Bool) (h : Heap) : Prop :=
  (t33 = true → K (.bool false) h) ∧ (t33 = false → CallsH P F.waybilllaw6_Tame [.string (mkS p_0)] (fun v7 h8 => ∃ s9, v7 = .string (mkS s9) ∧ CallsH P F.waybilllaw6_Tame [.string (mkS k_1)] (fun v10 h11 => ∃ s12, v10 = .string (mkS s12) ∧ bd ((IntKind.i64.wrap (i_5 + 1)) : Int) fun i_13 => R3 s9 s12 i_13 h11) h8) h)
def waybilllaw6_TopcTells.j4.l : Live := [(0, .str), (1, .str), (5, .int .i64), (33, .bool)]
def waybilllaw6_TopcTells.j4.j (K : KT) (R3 : List UInt8 → List UInt8 → Int → Heap → Prop) : Tup waybilllaw6_TopcTells.j4.l → Heap → Prop := fun x h => waybilllaw6_TopcTells.j4 K R3 x.1 x.2.1 x.2.2.1 x.2.2.2.1 h
def waybilllaw6_TopcTells.L3 (K : KT) : Nat → List UInt8 → List UInt8 → Int → Heap → Prop
  | 0, _, _, _, _ => False
  | fuel + 1, p_0, k_1, i_5, h => ((decide (i_5 < 2)) = true → CallsH P F.topc_Match [.string (mkS p_0), .string (mkS k_1)] (fun v14 h15 => ∃ b16, v14 = .bool b16 ∧ CallsH P F.waybillref1_Match [.string (mkS p_0), .string (mkS k_1)] (fun v17 h18 => ∃ b19, v17 = .bool b19 ∧ ((!(b16 == b19)) = false → CallsH P F.topc_Words [.string (mkS p_0)] (fun v20 h21 => ∃ a22 a22l a22c, v20 = .slice a22 a22l a22c ∧ CallsH P F.waybillref1_Words [.string (mkS p_0)] (fun v23 h24 => ∃ a25 a25l a25c, v23 = .slice a25 a25l a25c ∧ CallsH P F.waybilllaw6_SameTexts [.slice a22 a22l a22c, .slice a25 a25l a25c] (fun v26 h27 => ∃ b28, v26 = .bool b28 ∧ waybilllaw6_TopcTells.j4 K (waybilllaw6_TopcTells.L3 K fuel) p_0 k_1 i_5 (!b28) h27) h24) h21) h18) ∧ ((!(b16 == b19)) = true → waybilllaw6_TopcTells.j4 K (waybilllaw6_TopcTells.L3 K fuel) p_0 k_1 i_5 true h18)) h15) h) ∧ ((decide (i_5 < 2)) = false → waybilllaw6_TopcTells.j2 K h)
termination_by structural n => n
def waybilllaw6_TopcTells.L3.l : Live := [(0, .str), (1, .str), (5, .int .i64)]
def waybilllaw6_TopcTells.L3.j (K : KT) : Nat → Tup waybilllaw6_TopcTells.L3.l → Heap → Prop := fun n x h => waybilllaw6_TopcTells.L3 K n x.1 x.2.1 x.2.2.1 h
def waybilllaw6_TopcTells.j1 (K : KT) (p_0 : List UInt8) (k_1 : List UInt8) (t13 : Bool) (h : Heap) : Prop :=
  (t13 = true → CallsH P F.waybilllaw6_awake [] (fun v1 h2 => ∃ b3, v1 = .bool b3 ∧ K (.bool b3) h2) h) ∧ (t13 = false → ∃ fuel29, waybilllaw6_TopcTells.L3 K fuel29 p_0 k_1 0 h)
def waybilllaw6_TopcTells.j1.l : Live := [(0, .str), (1, .str), (13, .bool)]
def waybilllaw6_TopcTells.j1.j (K : KT) : Tup waybilllaw6_TopcTells.j1.l → Heap → Prop := fun x h => waybilllaw6_TopcTells.j1 K x.1 x.2.1 x.2.2.1 h
def waybilllaw6_TopcTells.p0 (K : KT) (p_0 : List UInt8) (k_1 : List UInt8) (h : Heap) : Prop :=
  ((decide (((List.length p_0 : Nat) : Int) > 300)) = false → waybilllaw6_TopcTells.j1 K p_0 k_1 (decide (((List.length k_1 : Nat) : Int) > 300)) h) ∧ ((decide (((List.length p_0 : Nat) : Int) > 300)) = true → waybilllaw6_TopcTells.j1 K p_0 k_1 true h)
def waybilllaw6_TopcTells.plan (K : KT) : Plan := (.seq .go (.seq (.cut waybilllaw6_TopcTells.j1.l (waybilllaw6_TopcTells.j1.j K) .go .go) (.cut waybilllaw6_TopcTells.j2.l (waybilllaw6_TopcTells.j2.j K) (.seq .go (.block (.loop waybilllaw6_TopcTells.L3.l (waybilllaw6_TopcTells.L3.j K) (fun n3 => (.seq .go (.seq (.block (.seq (.cut waybilllaw6_TopcTells.j4.l (waybilllaw6_TopcTells.j4.j K (waybilllaw6_TopcTells.L3 K n3)) .go .go) .go)) .go)))))) .go)))
theorem waybilllaw6_TopcTells.ev_eq : waybilllaw6_TopcTells.p0 = fun K p_0 k_1 h => Ev P Tryd.f4 (waybilllaw6_TopcTells.plan K) K [.string (mkS p_0), .string (mkS k_1)] h := by kernel_rfl
theorem waybilllaw6_TopcTells.obl (K : KT) : Obl P Tryd.f4 (waybilllaw6_TopcTells.plan K) K :=
  obl_of (R := Imp (waybilllaw6_TopcTells.j1.j K) ∧ (∀ x h, ¬ (waybilllaw6_TopcTells.L3.j K) 0 x h) ∧ ImpN (waybilllaw6_TopcTells.L3.j K) ∧ (∀ (n3 : Nat), Imp (waybilllaw6_TopcTells.j4.j K (waybilllaw6_TopcTells.L3 K n3)) ∧ True) ∧ Imp (waybilllaw6_TopcTells.j2.j K) ∧ True) (by kernel_rfl) ⟨imp _, ⟨fun _ _ H => H, impN _, fun _ => ⟨imp _, trivial⟩, ⟨imp _, trivial⟩⟩⟩
theorem waybilllaw6_TopcTells.ok {K : KT} {p_0 : List UInt8} {k_1 : List UInt8} {h : Heap} (H : waybilllaw6_TopcTells.p0 K p_0 k_1 h) : CallsH P F.waybilllaw6_TopcTells [.string (mkS p_0), .string (mkS k_1)] K h :=
  calls_of_Ev (waybilllaw6_TopcTells.plan K) Tryd.func4 (by kernel_rfl) (waybilllaw6_TopcTells.obl K) (by rw [waybilllaw6_TopcTells.ev_eq] at H; exact H)

end Go.Proofs.YtpfnfmlibpoleaaDoor.Pr
