/- What functions of the package MapsGInt come to, over the heap alone, and that they do: printed by gen.py out of the given program. -/
import Derived.Test.YtechpnlbkkfplaaDoorPrH
set_option linter.unusedVariables false
set_option maxRecDepth 100000
namespace Go.Proofs.YtechpnlbkkfplaaDoor.Pr
open Go Go.Lift Go.Proofs

/-! maps.Keys[map[waybill/api.Bind]int,waybill/api.Bind,int]$1: 35 -/
def maps_Keys_map_api_Bind_int_api_Bind_int_1.L1 (K : KT) : Nat → Value → Addr → Heap → Prop
  | 0, _, _, _ => False
  | fuel + 1, yield_0, t5, h => SemH P (Instr.next (.pointer (some t5)) false T.unit) (fun v5 h6 => (v5 = .tuple #[.bool false] ∧ (false = true → SemH P (Instr.entry (.pointer (some t5))) (fun v7 h8 => ∃ x9 y10 : Value, v7 = .tuple #[x9, y10] ∧ ∃ cs11, x9 = .agg (List.toArray cs11) ∧ bd (al h8 #[.string (mkS ([] : List UInt8)), .string (mkS ([] : List UInt8)), .string (mkS ([] : List UInt8))] T.api_Bind) fun h12 => cs11.length = 3 ∧ ∃ h13, stC h12 (top h8) 0 cs11 = some h13 ∧ ∃ cs14, rdC h13 (top h8) 0 3 = some cs14 ∧ CallV P yield_0 [.agg (List.toArray cs14)] (fun v15 h16 => ∃ b17, v15 = .bool b17 ∧ ((!b17) = true → K (.tuple #[]) h16) ∧ ((!b17) = false → (maps_Keys_map_api_Bind_int_api_Bind_int_1.L1 K fuel) yield_0 t5 h16)) h13) h6) ∧ (false = false → K (.tuple #[]) h6)) ∨ (∃ x18 y19 : Value, v5 = .tuple #[.bool true, x18, y19] ∧ (true = true → SemH P (Instr.entry (.pointer (some t5))) (fun v20 h21 => ∃ x22 y23 : Value, v20 = .tuple #[x22, y23] ∧ ∃ cs24, x22 = .agg (List.toArray cs24) ∧ bd (al h21 #[.string (mkS ([] : List UInt8)), .string (mkS ([] : List UInt8)), .string (mkS ([] : List UInt8))] T.api_Bind) fun h25 => cs24.length = 3 ∧ ∃ h26, stC h25 (top h21) 0 cs24 = some h26 ∧ ∃ cs27, rdC h26 (top h21) 0 3 = some cs27 ∧ CallV P yield_0 [.agg (List.toArray cs27)] (fun v28 h29 => ∃ b30, v28 = .bool b30 ∧ ((!b30) = true → K (.tuple #[]) h29) ∧ ((!b30) = false → (maps_Keys_map_api_Bind_int_api_Bind_int_1.L1 K fuel) yield_0 t5 h29)) h26) h6) ∧ (true = false → K (.tuple #[]) h6))) h
termination_by structural n => n
def maps_Keys_map_api_Bind_int_api_Bind_int_1.L1.l : Live := [(0, .raw), (5, .addr)]
def maps_Keys_map_api_Bind_int_api_Bind_int_1.L1.j (K : KT) : Nat → Tup maps_Keys_map_api_Bind_int_api_Bind_int_1.L1.l → Heap → Prop := fun n x h => maps_Keys_map_api_Bind_int_api_Bind_int_1.L1 K n x.1 x.2.1 h
def maps_Keys_map_api_Bind_int_api_Bind_int_1.p0 (K : KT) (yield_0 : Value) (t1 : Addr) (h : Heap) : Prop :=
  ∃ m1, hcell h t1 = some (.map m1) ∧ SemH P (Instr.range T.map_api_Bind_int (.map m1)) (fun v2 h3 => ∃ a4 : Addr, v2 = .pointer (some a4) ∧ ∃ fuel31, maps_Keys_map_api_Bind_int_api_Bind_int_1.L1 K fuel31 yield_0 a4 h3) h
def maps_Keys_map_api_Bind_int_api_Bind_int_1.plan (K : KT) : Plan := (.seq .go (.block (.loop maps_Keys_map_api_Bind_int_api_Bind_int_1.L1.l (maps_Keys_map_api_Bind_int_api_Bind_int_1.L1.j K) (fun n1 => .go))))
theorem maps_Keys_map_api_Bind_int_api_Bind_int_1.ev_eq : maps_Keys_map_api_Bind_int_api_Bind_int_1.p0 = fun K yield_0 t1 h => Ev P Tryd.f35 (maps_Keys_map_api_Bind_int_api_Bind_int_1.plan K) K [yield_0, .pointer (some t1)] h := by kernel_rfl
theorem maps_Keys_map_api_Bind_int_api_Bind_int_1.obl (K : KT) : Obl P Tryd.f35 (maps_Keys_map_api_Bind_int_api_Bind_int_1.plan K) K :=
  obl_of (R := (∀ x h, ¬ (maps_Keys_map_api_Bind_int_api_Bind_int_1.L1.j K) 0 x h) ∧ ImpN (maps_Keys_map_api_Bind_int_api_Bind_int_1.L1.j K) ∧ (∀ (n1 : Nat), True) ∧ True) (by kernel_rfl) ⟨fun _ _ H => H, impN _, fun _ => trivial, trivial⟩
theorem maps_Keys_map_api_Bind_int_api_Bind_int_1.ok {K : KT} {yield_0 : Value} {t1 : Addr} {h : Heap} (H : maps_Keys_map_api_Bind_int_api_Bind_int_1.p0 K yield_0 t1 h) : CallsH P F.maps_Keys_map_api_Bind_int_api_Bind_int_1 [yield_0, .pointer (some t1)] K h :=
  calls_of_Ev (maps_Keys_map_api_Bind_int_api_Bind_int_1.plan K) Tryd.func35 (by kernel_rfl) (maps_Keys_map_api_Bind_int_api_Bind_int_1.obl K) (by rw [maps_Keys_map_api_Bind_int_api_Bind_int_1.ev_eq] at H; exact H)

/-! maps.Keys[map[waybill/api.Bind]int,waybill/api.Bind,int]: 23 -/
def maps_Keys_map_api_Bind_int_api_Bind_int.p0 (K : KT) (m_0 : Option Nat) (h : Heap) : Prop :=
  bd (al h #[.map m_0] T.map_api_Bind_int) fun h1 => K (.func (.func F.maps_Keys_map_api_Bind_int_api_Bind_int_1) #[] #[.pointer (some (top h))]) h1
def maps_Keys_map_api_Bind_int_api_Bind_int.plan (K : KT) : Plan := .go
theorem maps_Keys_map_api_Bind_int_api_Bind_int.ev_eq : maps_Keys_map_api_Bind_int_api_Bind_int.p0 = fun K m_0 h => Ev P Tryd.f23 (maps_Keys_map_api_Bind_int_api_Bind_int.plan K) K [.map m_0] h := by kernel_rfl
theorem maps_Keys_map_api_Bind_int_api_Bind_int.obl (K : KT) : Obl P Tryd.f23 (maps_Keys_map_api_Bind_int_api_Bind_int.plan K) K :=
  obl_true (by kernel_rfl)
theorem maps_Keys_map_api_Bind_int_api_Bind_int.ok {K : KT} {m_0 : Option Nat} {h : Heap} (H : maps_Keys_map_api_Bind_int_api_Bind_int.p0 K m_0 h) : CallsH P F.maps_Keys_map_api_Bind_int_api_Bind_int [.map m_0] K h :=
  calls_of_Ev (maps_Keys_map_api_Bind_int_api_Bind_int.plan K) Tryd.func23 (by kernel_rfl) (maps_Keys_map_api_Bind_int_api_Bind_int.obl K) (by rw [maps_Keys_map_api_Bind_int_api_Bind_int.ev_eq] at H; exact H)

end Go.Proofs.YtechpnlbkkfplaaDoor.Pr
