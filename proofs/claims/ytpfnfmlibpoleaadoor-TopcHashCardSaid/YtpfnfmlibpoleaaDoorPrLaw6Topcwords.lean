/- What functions of the package Law6Topcwords come to, over the heap alone, and that they do: printed by gen.py out of the given program. -/
import Derived.Test.YtpfnfmlibpoleaaDoorPrH
set_option linter.unusedVariables false
set_option maxRecDepth 100000
namespace Go.Proofs.YtpfnfmlibpoleaaDoor.Pr
open Go Go.Lift Go.Proofs

/-! waybill/waybilllaw6.TopcWords: 5 -/
def waybilllaw6_TopcWords.j2 (K : KT) (t0 : List UInt8) (t3 : OA) (t3l : Nat) (t3c : Nat) (t4 : List UInt8) (t5 : Int) (h : Heap) : Prop :=
  ((t4 == t0) = true → ((((t3l : Nat) : Int) == t5) = true → CallsH P F.waybilllaw6_awake [] (fun v7 h8 => ∃ b9, v7 = .bool b9 ∧ K (.bool b9) h8) h) ∧ ((((t3l : Nat) : Int) == t5) = false → K (.bool false) h)) ∧ ((t4 == t0) = false → K (.bool false) h)
def waybilllaw6_TopcWords.j2.l : Live := [(0, .str), (3, .slice), (4, .str), (5, .int .i64)]
def waybilllaw6_TopcWords.j2.j (K : KT) : Tup waybilllaw6_TopcWords.j2.l → Heap → Prop := fun x h => waybilllaw6_TopcWords.j2 K x.1 x.2.1.1 x.2.1.2.1 x.2.1.2.2 x.2.2.1 x.2.2.2.1 h
def waybilllaw6_TopcWords.j4 (K : KT) (R3 : List UInt8 → OA → Nat → Nat → List UInt8 → Int → Int → Heap → Prop) (t0 : List UInt8) (t3 : OA) (t3l : Nat) (t3c : Nat) (t4 : List UInt8) (t5 : Int) (t8 : Int) (h : Heap) : Prop :=
  bd ((IntKind.i64.wrap (t8 + 1)) : Int) fun n10 => R3 t0 t3 t3l t3c t4 t5 n10 h
def waybilllaw6_TopcWords.j4.l : Live := [(0, .str), (3, .slice), (4, .str), (5, .int .i64), (8, .int .i64)]
def waybilllaw6_TopcWords.j4.j (K : KT) (R3 : List UInt8 → OA → Nat → Nat → List UInt8 → Int → Int → Heap → Prop) : Tup waybilllaw6_TopcWords.j4.l → Heap → Prop := fun x h => waybilllaw6_TopcWords.j4 K R3 x.1 x.2.1.1 x.2.1.2.1 x.2.1.2.2 x.2.2.1 x.2.2.2.1 x.2.2.2.2.1 h
def waybilllaw6_TopcWords.L3 (K : KT) : Nat → List UInt8 → OA → Nat → Nat → List UInt8 → Int → Int → Heap → Prop
  | 0, _, _, _, _, _, _, _, _ => False
  | fuel + 1, t0, t3, t3l, t3c, t4, t5, t8, h => ((decide (t8 < ((List.length t0 : Nat) : Int))) = true → (0 : Int) ≤ t8 ∧ t8 < ((List.length t0 : Nat) : Int) ∧ (((lb t0 t8) == 46) = true → bd ((IntKind.i64.wrap (t5 + 1)) : Int) fun n11 => waybilllaw6_TopcWords.j4 K (waybilllaw6_TopcWords.L3 K fuel) t0 t3 t3l t3c t4 n11 t8 h) ∧ (((lb t0 t8) == 46) = false → waybilllaw6_TopcWords.j4 K (waybilllaw6_TopcWords.L3 K fuel) t0 t3 t3l t3c t4 t5 t8 h)) ∧ ((decide (t8 < ((List.length t0 : Nat) : Int))) = false → waybilllaw6_TopcWords.j2 K t0 t3 t3l t3c t4 t5 h)
termination_by structural n => n
def waybilllaw6_TopcWords.L3.l : Live := [(0, .str), (3, .slice), (4, .str), (5, .int .i64), (8, .int .i64)]
def waybilllaw6_TopcWords.L3.j (K : KT) : Nat → Tup waybilllaw6_TopcWords.L3.l → Heap → Prop := fun n x h => waybilllaw6_TopcWords.L3 K n x.1 x.2.1.1 x.2.1.2.1 x.2.1.2.2 x.2.2.1 x.2.2.2.1 x.2.2.2.2.1 h
def waybilllaw6_TopcWords.j1 (K : KT) (t0 : List UInt8) (t3 : OA) (t3l : Nat) (t3c : Nat) (t4 : List UInt8) (t5 : Int) (h : Heap) : Prop :=
  ∃ fuel12, waybilllaw6_TopcWords.L3 K fuel12 t0 t3 t3l t3c t4 t5 0 h
def waybilllaw6_TopcWords.j1.l : Live := [(0, .str), (3, .slice), (4, .str), (5, .int .i64)]
def waybilllaw6_TopcWords.j1.j (K : KT) : Tup waybilllaw6_TopcWords.j1.l → Heap → Prop := fun x h => waybilllaw6_TopcWords.j1 K x.1 x.2.1.1 x.2.1.2.1 x.2.1.2.2 x.2.2.1 x.2.2.2.1 h
def waybilllaw6_TopcWords.j6 (K : KT) (R5 : List UInt8 → OA → Nat → Nat → List UInt8 → Int → Int → Heap → Prop) (t0 : List UInt8) (t3 : OA) (t3l : Nat) (t3c : Nat) (t4 : List UInt8) (t5 : Int) (t6 : Int) (h : Heap) : Prop :=
  bd ((IntKind.i64.wrap (t6 + 1)) : Int) fun n13 => R5 t0 t3 t3l t3c t4 t5 n13 h
def waybilllaw6_TopcWords.j6.l : Live := [(0, .str), (3, .slice), (4, .str), (5, .int .i64), (6, .int .i64)]
def waybilllaw6_TopcWords.j6.j (K : KT) (R5 : List UInt8 → OA → Nat → Nat → List UInt8 → Int → Int → Heap → Prop) : Tup waybilllaw6_TopcWords.j6.l → Heap → Prop := fun x h => waybilllaw6_TopcWords.j6 K R5 x.1 x.2.1.1 x.2.1.2.1 x.2.1.2.2 x.2.2.1 x.2.2.2.1 x.2.2.2.2.1 h
def waybilllaw6_TopcWords.L8 (K : KT) (R5 : List UInt8 → OA → Nat → Nat → List UInt8 → Int → Int → Heap → Prop) : Nat → List UInt8 → OA → Nat → Nat → List UInt8 → Int → Int → Int → Heap → Prop
  | 0, _, _, _, _, _, _, _, _, _ => False
  | fuel + 1, t0, t3, t3l, t3c, t4, t5, t6, t7, h => ∃ p17, t3 = some p17 ∧ (0 : Int) ≤ t6 ∧ t6 < ((t3l : Nat) : Int) ∧ ∃ s18, hcell h (Addr.add p17 (Int.toNat t6 * 1)) = some (.string (mkS s18)) ∧ ((decide (t7 < ((List.length s18 : Nat) : Int))) = true → ∃ p19, t3 = some p19 ∧ (0 : Int) ≤ t6 ∧ t6 < ((t3l : Nat) : Int) ∧ ∃ s20, hcell h (Addr.add p19 (Int.toNat t6 * 1)) = some (.string (mkS s20)) ∧ (0 : Int) ≤ t7 ∧ t7 < ((List.length s20 : Nat) : Int) ∧ (((lb s20 t7) == 46) = true → K (.bool false) h) ∧ (((lb s20 t7) == 46) = false → bd ((IntKind.i64.wrap (t7 + 1)) : Int) fun n21 => (waybilllaw6_TopcWords.L8 K R5 fuel) t0 t3 t3l t3c t4 t5 t6 n21 h)) ∧ ((decide (t7 < ((List.length s18 : Nat) : Int))) = false → waybilllaw6_TopcWords.j6 K R5 t0 t3 t3l t3c t4 t5 t6 h)
termination_by structural n => n
def waybilllaw6_TopcWords.L8.l : Live := [(0, .str), (3, .slice), (4, .str), (5, .int .i64), (6, .int .i64), (7, .int .i64)]
def waybilllaw6_TopcWords.L8.j (K : KT) (R5 : List UInt8 → OA → Nat → Nat → List UInt8 → Int → Int → Heap → Prop) : Nat → Tup waybilllaw6_TopcWords.L8.l → Heap → Prop := fun n x h => waybilllaw6_TopcWords.L8 K R5 n x.1 x.2.1.1 x.2.1.2.1 x.2.1.2.2 x.2.2.1 x.2.2.2.1 x.2.2.2.2.1 x.2.2.2.2.2.1 h
def waybilllaw6_TopcWords.j7 (K : KT) (R5 : List UInt8 → OA → Nat → Nat → List UInt8 → Int → Int → Heap → Prop) (t0 : List UInt8) (t3 : OA) (t3l : Nat) (t3c : Nat) (t4 : List UInt8) (t5 : Int) (t6 : Int) (h : Heap) : Prop :=
  ∃ p14, t3 = some p14 ∧ (0 : Int) ≤ t6 ∧ t6 < ((t3l : Nat) : Int) ∧ ∃ s15, hcell h (Addr.add p14 (Int.toNat t6 * 1)) = some (.string (mkS s15)) ∧ (((List.length t4 + List.length s15 : Nat) : Int) ≤ 9223372036854775807) ∧ bd ((t4 ++ s15) : List UInt8) fun s16 => ∃ fuel22, waybilllaw6_TopcWords.L8 K R5 fuel22 t0 t3 t3l t3c s16 t5 t6 0 h
def waybilllaw6_TopcWords.j7.l : Live := [(0, .str), (3, .slice), (4, .str), (5, .int .i64), (6, .int .i64)]
def waybilllaw6_TopcWords.j7.j (K : KT) (R5 : List UInt8 → OA → Nat → Nat → List UInt8 → Int → Int → Heap → Prop) : Tup waybilllaw6_TopcWords.j7.l → Heap → Prop := fun x h => waybilllaw6_TopcWords.j7 K R5 x.1 x.2.1.1 x.2.1.2.1 x.2.1.2.2 x.2.2.1 x.2.2.2.1 x.2.2.2.2.1 h
def waybilllaw6_TopcWords.L5 (K : KT) : Nat → List UInt8 → OA → Nat → Nat → List UInt8 → Int → Int → Heap → Prop
  | 0, _, _, _, _, _, _, _, _ => False
  | fuel + 1, t0, t3, t3l, t3c, t4, t5, t6, h => ((decide (t6 < ((t3l : Nat) : Int))) = true → ((decide (t6 > 0)) = true → (((List.length t4 + List.length ([46] : List UInt8) : Nat) : Int) ≤ 9223372036854775807) ∧ bd ((t4 ++ ([46] : List UInt8)) : List UInt8) fun s23 => waybilllaw6_TopcWords.j7 K (waybilllaw6_TopcWords.L5 K fuel) t0 t3 t3l t3c s23 t5 t6 h) ∧ ((decide (t6 > 0)) = false → waybilllaw6_TopcWords.j7 K (waybilllaw6_TopcWords.L5 K fuel) t0 t3 t3l t3c t4 t5 t6 h)) ∧ ((decide (t6 < ((t3l : Nat) : Int))) = false → waybilllaw6_TopcWords.j1 K t0 t3 t3l t3c t4 t5 h)
termination_by structural n => n
def waybilllaw6_TopcWords.L5.l : Live := [(0, .str), (3, .slice), (4, .str), (5, .int .i64), (6, .int .i64)]
def waybilllaw6_TopcWords.L5.j (K : KT) : Nat → Tup waybilllaw6_TopcWords.L5.l → Heap → Prop := fun n x h => waybilllaw6_TopcWords.L5 K n x.1 x.2.1.1 x.2.1.2.1 x.2.1.2.2 x.2.2.1 x.2.2.2.1 x.2.2.2.2.1 h
def waybilllaw6_TopcWords.p0 (K : KT) (t0 : List UInt8) (h : Heap) : Prop :=
  ((decide (((List.length t0 : Nat) : Int) > 300)) = true → CallsH P F.waybilllaw6_awake [] (fun v1 h2 => ∃ b3, v1 = .bool b3 ∧ K (.bool b3) h2) h) ∧ ((decide (((List.length t0 : Nat) : Int) > 300)) = false → CallsH P F.topc_Words [.string (mkS t0)] (fun v4 h5 => ∃ a6 a6l a6c, v4 = .slice a6 a6l a6c ∧ ∃ fuel24, waybilllaw6_TopcWords.L5 K fuel24 t0 a6 a6l a6c ([] : List UInt8) 1 0 h5) h)
def waybilllaw6_TopcWords.plan (K : KT) : Plan := (.seq .go (.seq .go (.seq .go (.seq .go (.cut waybilllaw6_TopcWords.j1.l (waybilllaw6_TopcWords.j1.j K) (.seq .go (.block (.loop waybilllaw6_TopcWords.L5.l (waybilllaw6_TopcWords.L5.j K) (fun n5 => (.seq .go (.cut waybilllaw6_TopcWords.j6.l (waybilllaw6_TopcWords.j6.j K (waybilllaw6_TopcWords.L5 K n5)) (.block (.cut waybilllaw6_TopcWords.j7.l (waybilllaw6_TopcWords.j7.j K (waybilllaw6_TopcWords.L5 K n5)) .go (.seq .go (.seq .go (.block (.loop waybilllaw6_TopcWords.L8.l (waybilllaw6_TopcWords.L8.j K (waybilllaw6_TopcWords.L5 K n5)) (fun n8 => .go))))))) .go)))))) (.cut waybilllaw6_TopcWords.j2.l (waybilllaw6_TopcWords.j2.j K) (.seq .go (.block (.loop waybilllaw6_TopcWords.L3.l (waybilllaw6_TopcWords.L3.j K) (fun n3 => (.seq .go (.cut waybilllaw6_TopcWords.j4.l (waybilllaw6_TopcWords.j4.j K (waybilllaw6_TopcWords.L3 K n3)) .go .go)))))) .go))))))
theorem waybilllaw6_TopcWords.ev_eq : waybilllaw6_TopcWords.p0 = fun K t0 h => Ev P Tryd.f5 (waybilllaw6_TopcWords.plan K) K [.string (mkS t0)] h := by kernel_rfl
theorem waybilllaw6_TopcWords.obl (K : KT) : Obl P Tryd.f5 (waybilllaw6_TopcWords.plan K) K :=
  obl_of (R := (∀ x h, ¬ (waybilllaw6_TopcWords.L5.j K) 0 x h) ∧ ImpN (waybilllaw6_TopcWords.L5.j K) ∧ (∀ (n5 : Nat), Imp (waybilllaw6_TopcWords.j7.j K (waybilllaw6_TopcWords.L5 K n5)) ∧ (∀ x h, ¬ (waybilllaw6_TopcWords.L8.j K (waybilllaw6_TopcWords.L5 K n5)) 0 x h) ∧ ImpN (waybilllaw6_TopcWords.L8.j K (waybilllaw6_TopcWords.L5 K n5)) ∧ (∀ (n8 : Nat), True) ∧ Imp (waybilllaw6_TopcWords.j6.j K (waybilllaw6_TopcWords.L5 K n5)) ∧ True) ∧ Imp (waybilllaw6_TopcWords.j1.j K) ∧ (∀ x h, ¬ (waybilllaw6_TopcWords.L3.j K) 0 x h) ∧ ImpN (waybilllaw6_TopcWords.L3.j K) ∧ (∀ (n3 : Nat), Imp (waybilllaw6_TopcWords.j4.j K (waybilllaw6_TopcWords.L3 K n3)) ∧ True) ∧ Imp (waybilllaw6_TopcWords.j2.j K) ∧ True) (by kernel_rfl) ⟨fun _ _ H => H, impN _, fun _ => ⟨imp _, ⟨fun _ _ H => H, impN _, fun _ => trivial, ⟨imp _, trivial⟩⟩⟩, ⟨imp _, ⟨fun _ _ H => H, impN _, fun _ => ⟨imp _, trivial⟩, ⟨imp _, trivial⟩⟩⟩⟩
theorem waybilllaw6_TopcWords.ok {K : KT} {t0 : List UInt8} {h : Heap} (H : waybilllaw6_TopcWords.p0 K t0 h) : CallsH P F.waybilllaw6_TopcWords [.string (mkS t0)] K h :=
  calls_of_Ev (waybilllaw6_TopcWords.plan K) Tryd.func5 (by kernel_rfl) (waybilllaw6_TopcWords.obl K) (by rw [waybilllaw6_TopcWords.ev_eq] at H; exact H)

end Go.Proofs.YtpfnfmlibpoleaaDoor.Pr
