/- What functions of the package Law19Awake come to, over the heap alone, and that they do: printed by gen.py out of the given program. -/
import Derived.Test.YtechpnlbkkfplaaPrH
set_option linter.unusedVariables false
set_option maxRecDepth 100000
namespace Go.Proofs.Ytechpnlbkkfplaa.Pr
open Go Go.Lift Go.Proofs

/-! waybill/waybilllaw19.awake$1: 81 -/
def waybilllaw19_awake_1.p0 (K : KT) (c_0 : List Value) (h : Heap) : Prop :=
  bd (al h (List.toArray c_0) T.api_Con) fun h1 => K (.bool true) h1
def waybilllaw19_awake_1.plan (K : KT) : Plan := .go
theorem waybilllaw19_awake_1.ev_eq : waybilllaw19_awake_1.p0 = fun K c_0 h => Ev P Try.f81 (waybilllaw19_awake_1.plan K) K [.agg (List.toArray c_0)] h := by kernel_rfl
theorem waybilllaw19_awake_1.obl (K : KT) : Obl P Try.f81 (waybilllaw19_awake_1.plan K) K :=
  obl_true (by kernel_rfl)
theorem waybilllaw19_awake_1.ok {K : KT} {c_0 : List Value} {h : Heap} (H : waybilllaw19_awake_1.p0 K c_0 h) : CallsH P F.waybilllaw19_awake_1 [.agg (List.toArray c_0)] K h :=
  calls_of_Ev (waybilllaw19_awake_1.plan K) Try.func81 (by kernel_rfl) (waybilllaw19_awake_1.obl K) (by rw [waybilllaw19_awake_1.ev_eq] at H; exact H)

/-! waybill/waybilllaw19.awake: 46 -/
def waybilllaw19_awake.p0 (K : KT)  (h : Heap) : Prop :=
  CallsH P F.cons_New [] (fun v1 h2 => ∃ p3, v1 = .pointer p3 ∧ ((Option.isNone p3) = true → K (.bool false) h2) ∧ ((Option.isNone p3) = false → CallsH P F.cons_Cons_Add [.pointer p3, .agg #[.int .i64 0, .int .i64 0, .string (mkS ([97] : List UInt8)), .string (mkS ([113] : List UInt8)), .bool false]] (fun v4 h5 => ∃ b6, v4 = .bool b6 ∧ CallsH P F.cons_Cons_Add [.pointer p3, .agg #[.int .i64 0, .int .i64 0, .string (mkS ([98] : List UInt8)), .string (mkS ([113] : List UInt8)), .bool false]] (fun v7 h8 => ∃ b9, v7 = .bool b9 ∧ CallsH P F.cons_Cons_Add [.pointer p3, .agg #[.int .i64 0, .int .i64 0, .string (mkS ([97] : List UInt8)), .string (mkS ([114] : List UInt8)), .bool false]] (fun v10 h11 => ∃ b12, v10 = .bool b12 ∧ CallsH P F.cons_Cons_Turn [.pointer p3, .string (mkS ([113] : List UInt8)), .func (.func F.waybilllaw19_awake_1) #[] #[]] (fun v13 h14 => ∃ cs15 b16, v13 = .tuple #[.agg (List.toArray cs15), .bool b16] ∧ bd (al h14 #[.int .i64 0, .int .i64 0, .string (mkS ([] : List UInt8)), .string (mkS ([] : List UInt8)), .bool false] T.api_Con) fun h17 => cs15.length = 5 ∧ ∃ h18, stC h17 (top h14) 0 cs15 = some h18 ∧ CallsH P F.cons_Cons_Of [.pointer p3, .string (mkS ([113] : List UInt8))] (fun v19 h20 => ∃ a21 a21l a21c, v19 = .slice a21 a21l a21c ∧ (b6 = true → (b9 = true → ((!b12) = true → ∃ s22, hcell h20 (Addr.add (top h14) 2) = some (.string (mkS s22)) ∧ ((s22 == ([97] : List UInt8)) = true → (b16 = true → ((((a21l : Nat) : Int) == 2) = true → ∃ p23, a21 = some p23 ∧ (0 : Int) ≤ 0 ∧ 0 < ((a21l : Nat) : Int) ∧ ∃ s24, hcell h20 (Addr.add (Addr.add p23 (Int.toNat 0 * 5)) 2) = some (.string (mkS s24)) ∧ ((s24 == ([98] : List UInt8)) = true → CallsH P F.cons_Cons_Queues [.pointer p3] (fun v25 h26 => ∃ a27 a27l a27c, v25 = .slice a27 a27l a27c ∧ bd (al h26 #[.string (mkS ([113] : List UInt8))] T.string) fun h28 => CallsH P F.waybilllaw6_SameTexts [.slice a27 a27l a27c, .slice (some (top h26)) 1 1] (fun v29 h30 => ∃ b31, v29 = .bool b31 ∧ K (.bool b31) h30) h28) h20) ∧ ((s24 == ([98] : List UInt8)) = false → K (.bool false) h20)) ∧ ((((a21l : Nat) : Int) == 2) = false → K (.bool false) h20)) ∧ (b16 = false → K (.bool false) h20)) ∧ ((s22 == ([97] : List UInt8)) = false → K (.bool false) h20)) ∧ ((!b12) = false → K (.bool false) h20)) ∧ (b9 = false → K (.bool false) h20)) ∧ (b6 = false → K (.bool false) h20)) h18) h11) h8) h5) h2)) h
def waybilllaw19_awake.plan (K : KT) : Plan := .go
theorem waybilllaw19_awake.ev_eq : waybilllaw19_awake.p0 = fun K  h => Ev P Try.f46 (waybilllaw19_awake.plan K) K [] h := by kernel_rfl
theorem waybilllaw19_awake.obl (K : KT) : Obl P Try.f46 (waybilllaw19_awake.plan K) K :=
  obl_true (by kernel_rfl)
theorem waybilllaw19_awake.ok {K : KT}  {h : Heap} (H : waybilllaw19_awake.p0 K  h) : CallsH P F.waybilllaw19_awake [] K h :=
  calls_of_Ev (waybilllaw19_awake.plan K) Try.func46 (by kernel_rfl) (waybilllaw19_awake.obl K) (by rw [waybilllaw19_awake.ev_eq] at H; exact H)

end Go.Proofs.Ytechpnlbkkfplaa.Pr
