/- What functions of the package MapsGExch come to, over the heap alone, and that they do: printed by gen.py out of the given program. -/
import Derived.Test.YtechpnlbkkfplaaDoorPrH
set_option linter.unusedVariables false
set_option maxRecDepth 100000
namespace Go.Proofs.YtechpnlbkkfplaaDoor.Pr
open Go Go.Lift Go.Proofs

/-! maps.Keys[map[string]waybill/api.Exch,string,waybill/api.Exch]$1: 41 -/
def maps_Keys_map_string_api_Exch_string_api_Exch_1.L1 (K : KT) : Nat → Value → Addr → Heap → Prop
  | 0, _, _, _ => False
  | fuel + 1, yield_0, t5, h => SemH P (Instr.next (.pointer (some t5)) false T.unit) (fun v5 h6 => (v5 = .tuple #[.bool false] ∧ (false = true → SemH P (Instr.entry (.pointer (some t5))) (fun v7 h8 => ∃ x9 y10 : Value, v7 = .tuple #[x9, y10] ∧ ∃ s11, x9 = .string (mkS s11) ∧ CallV P yield_0 [.string (mkS s11)] (fun v12 h13 => ∃ b14, v12 = .bool b14 ∧ ((!b14) = true → K (.tuple #[]) h13) ∧ ((!b14) = false → (maps_Keys_map_string_api_Exch_string_api_Exch_1.L1 K fuel) yield_0 t5 h13)) h8) h6) ∧ (false = false → K (.tuple #[]) h6)) ∨ (∃ x15 y16 : Value, v5 = .tuple #[.bool true, x15, y16] ∧ (true = true → SemH P (Instr.entry (.pointer (some t5))) (fun v17 h18 => ∃ x19 y20 : Value, v17 = .tuple #[x19, y20] ∧ ∃ s21, x19 = .string (mkS s21) ∧ CallV P yield_0 [.string (mkS s21)] (fun v22 h23 => ∃ b24, v22 = .bool b24 ∧ ((!b24) = true → K (.tuple #[]) h23) ∧ ((!b24) = false → (maps_Keys_map_string_api_Exch_string_api_Exch_1.L1 K fuel) yield_0 t5 h23)) h18) h6) ∧ (true = false → K (.tuple #[]) h6))) h
termination_by structural n => n
def maps_Keys_map_string_api_Exch_string_api_Exch_1.L1.l : Live := [(0, .raw), (5, .addr)]
def maps_Keys_map_string_api_Exch_string_api_Exch_1.L1.j (K : KT) : Nat → Tup maps_Keys_map_string_api_Exch_string_api_Exch_1.L1.l → Heap → Prop := fun n x h => maps_Keys_map_string_api_Exch_string_api_Exch_1.L1 K n x.1 x.2.1 h
def maps_Keys_map_string_api_Exch_string_api_Exch_1.p0 (K : KT) (yield_0 : Value) (t1 : Addr) (h : Heap) : Prop :=
  ∃ m1, hcell h t1 = some (.map m1) ∧ SemH P (Instr.range T.map_string_api_Exch (.map m1)) (fun v2 h3 => ∃ a4 : Addr, v2 = .pointer (some a4) ∧ ∃ fuel25, maps_Keys_map_string_api_Exch_string_api_Exch_1.L1 K fuel25 yield_0 a4 h3) h
def maps_Keys_map_string_api_Exch_string_api_Exch_1.plan (K : KT) : Plan := (.seq .go (.block (.loop maps_Keys_map_string_api_Exch_string_api_Exch_1.L1.l (maps_Keys_map_string_api_Exch_string_api_Exch_1.L1.j K) (fun n1 => .go))))
theorem maps_Keys_map_string_api_Exch_string_api_Exch_1.ev_eq : maps_Keys_map_string_api_Exch_string_api_Exch_1.p0 = fun K yield_0 t1 h => Ev P Tryd.f41 (maps_Keys_map_string_api_Exch_string_api_Exch_1.plan K) K [yield_0, .pointer (some t1)] h := by kernel_rfl
theorem maps_Keys_map_string_api_Exch_string_api_Exch_1.obl (K : KT) : Obl P Tryd.f41 (maps_Keys_map_string_api_Exch_string_api_Exch_1.plan K) K :=
  obl_of (R := (∀ x h, ¬ (maps_Keys_map_string_api_Exch_string_api_Exch_1.L1.j K) 0 x h) ∧ ImpN (maps_Keys_map_string_api_Exch_string_api_Exch_1.L1.j K) ∧ (∀ (n1 : Nat), True) ∧ True) (by kernel_rfl) ⟨fun _ _ H => H, impN _, fun _ => trivial, trivial⟩
theorem maps_Keys_map_string_api_Exch_string_api_Exch_1.ok {K : KT} {yield_0 : Value} {t1 : Addr} {h : Heap} (H : maps_Keys_map_string_api_Exch_string_api_Exch_1.p0 K yield_0 t1 h) : CallsH P F.maps_Keys_map_string_api_Exch_string_api_Exch_1 [yield_0, .pointer (some t1)] K h :=
  calls_of_Ev (maps_Keys_map_string_api_Exch_string_api_Exch_1.plan K) Tryd.func41 (by kernel_rfl) (maps_Keys_map_string_api_Exch_string_api_Exch_1.obl K) (by rw [maps_Keys_map_string_api_Exch_string_api_Exch_1.ev_eq] at H; exact H)

/-! maps.Keys[map[string]waybill/api.Exch,string,waybill/api.Exch]: 31 -/
def maps_Keys_map_string_api_Exch_string_api_Exch.p0 (K : KT) (m_0 : Option Nat) (h : Heap) : Prop :=
  bd (al h #[.map m_0] T.map_string_api_Exch) fun h1 => K (.func (.func F.maps_Keys_map_string_api_Exch_string_api_Exch_1) #[] #[.pointer (some (top h))]) h1
def maps_Keys_map_string_api_Exch_string_api_Exch.plan (K : KT) : Plan := .go
theorem maps_Keys_map_string_api_Exch_string_api_Exch.ev_eq : maps_Keys_map_string_api_Exch_string_api_Exch.p0 = fun K m_0 h => Ev P Tryd.f31 (maps_Keys_map_string_api_Exch_string_api_Exch.plan K) K [.map m_0] h := by kernel_rfl
theorem maps_Keys_map_string_api_Exch_string_api_Exch.obl (K : KT) : Obl P Tryd.f31 (maps_Keys_map_string_api_Exch_string_api_Exch.plan K) K :=
  obl_true (by kernel_rfl)
theorem maps_Keys_map_string_api_Exch_string_api_Exch.ok {K : KT} {m_0 : Option Nat} {h : Heap} (H : maps_Keys_map_string_api_Exch_string_api_Exch.p0 K m_0 h) : CallsH P F.maps_Keys_map_string_api_Exch_string_api_Exch [.map m_0] K h :=
  calls_of_Ev (maps_Keys_map_string_api_Exch_string_api_Exch.plan K) Tryd.func31 (by kernel_rfl) (maps_Keys_map_string_api_Exch_string_api_Exch.obl K) (by rw [maps_Keys_map_string_api_Exch_string_api_Exch.ev_eq] at H; exact H)

end Go.Proofs.YtechpnlbkkfplaaDoor.Pr
