/- What functions of the package Law6Tame come to, over the heap alone, and that they do: printed by gen.py out of the given program. -/
import Derived.Test.YtpfnfmlibpoleaaDoorPrH
set_option linter.unusedVariables false
set_option maxRecDepth 100000
namespace Go.Proofs.YtpfnfmlibpoleaaDoor.Pr
open Go Go.Lift Go.Proofs

/-! waybill/waybilllaw6.Tame: 9 -/
def waybilllaw6_Tame.j2 (K : KT) (R1 : List UInt8 → List UInt8 → Int → Heap → Prop) (s_0 : List UInt8) (t_3 : List UInt8) (i_4 : Int) (t13 : Bool) (h : Heap) : Prop :=
  (t13 = true → (0 : Int) ≤ i_4 ∧ i_4 < ((List.length s_0 : Nat) : Int) ∧ (7 : Int) ≠ 0 ∧ bd ((Int.tmod (lb s_0 i_4) 7) : Int) fun k_1 => bd (al h #[.string (mkS ([97] : List UInt8)), .string (mkS ([98] : List UInt8)), .string (mkS ([46] : List UInt8)), .string (mkS ([46] : List UInt8)), .string (mkS ([42] : List UInt8)), .string (mkS ([35] : List UInt8)), .string (mkS ([97, 98] : List UInt8))] T.string) fun h2 => ∃ p3, (some (top h)) = some p3 ∧ (0 : Int) ≤ k_1 ∧ k_1 < ((7 : Nat) : Int) ∧ ∃ s4, hcell h2 (Addr.add p3 (Int.toNat k_1 * 1)) = some (.string (mkS s4)) ∧ (((List.length t_3 + List.length s4 : Nat) : Int) ≤ 9223372036854775807) ∧ bd ((t_3 ++ s4) : List UInt8) fun t_5 => bd ((IntKind.i64.wrap (i_4 + 1)) : Int) fun i_6 => R1 s_0 t_5 i_6 h2) ∧ (t13 = false → K (.string (mkS t_3)) h)
def waybilllaw6_Tame.j2.l : Live := [(0, .str), (3, .str), (4, .int .i64), (13, .bool)]
def waybilllaw6_Tame.j2.j (K : KT) (R1 : List UInt8 → List UInt8 → Int → Heap → Prop) : Tup waybilllaw6_Tame.j2.l → Heap → Prop := fun x h => waybilllaw6_Tame.j2 K R1 x.1 x.2.1 x.2.2.1 x.2.2.2.1 h
def waybilllaw6_Tame.L1 (K : KT) : Nat → List UInt8 → List UInt8 → Int → Heap → Prop
  | 0, _, _, _, _ => False
  | fuel + 1, s_0, t_3, i_4, h => ((decide (i_4 < ((List.length s_0 : Nat) : Int))) = true → waybilllaw6_Tame.j2 K (waybilllaw6_Tame.L1 K fuel) s_0 t_3 i_4 (decide (i_4 < 14)) h) ∧ ((decide (i_4 < ((List.length s_0 : Nat) : Int))) = false → waybilllaw6_Tame.j2 K (waybilllaw6_Tame.L1 K fuel) s_0 t_3 i_4 false h)
termination_by structural n => n
def waybilllaw6_Tame.L1.l : Live := [(0, .str), (3, .str), (4, .int .i64)]
def waybilllaw6_Tame.L1.j (K : KT) : Nat → Tup waybilllaw6_Tame.L1.l → Heap → Prop := fun n x h => waybilllaw6_Tame.L1 K n x.1 x.2.1 x.2.2.1 h
def waybilllaw6_Tame.p0 (K : KT) (s_0 : List UInt8) (h : Heap) : Prop :=
  ∃ fuel7, waybilllaw6_Tame.L1 K fuel7 s_0 ([] : List UInt8) 0 h
def waybilllaw6_Tame.plan (K : KT) : Plan := (.seq .go (.seq .go (.seq (.seq .go (.block (.loop waybilllaw6_Tame.L1.l (waybilllaw6_Tame.L1.j K) (fun n1 => (.seq (.cut waybilllaw6_Tame.j2.l (waybilllaw6_Tame.j2.j K (waybilllaw6_Tame.L1 K n1)) .go .go) .go))))) .go)))
theorem waybilllaw6_Tame.ev_eq : waybilllaw6_Tame.p0 = fun K s_0 h => Ev P Tryd.f9 (waybilllaw6_Tame.plan K) K [.string (mkS s_0)] h := by kernel_rfl
theorem waybilllaw6_Tame.obl (K : KT) : Obl P Tryd.f9 (waybilllaw6_Tame.plan K) K :=
  obl_of (R := (∀ x h, ¬ (waybilllaw6_Tame.L1.j K) 0 x h) ∧ ImpN (waybilllaw6_Tame.L1.j K) ∧ (∀ (n1 : Nat), Imp (waybilllaw6_Tame.j2.j K (waybilllaw6_Tame.L1 K n1)) ∧ True) ∧ True) (by kernel_rfl) ⟨fun _ _ H => H, impN _, fun _ => ⟨imp _, trivial⟩, trivial⟩
theorem waybilllaw6_Tame.ok {K : KT} {s_0 : List UInt8} {h : Heap} (H : waybilllaw6_Tame.p0 K s_0 h) : CallsH P F.waybilllaw6_Tame [.string (mkS s_0)] K h :=
  calls_of_Ev (waybilllaw6_Tame.plan K) Tryd.func9 (by kernel_rfl) (waybilllaw6_Tame.obl K) (by rw [waybilllaw6_Tame.ev_eq] at H; exact H)

end Go.Proofs.YtpfnfmlibpoleaaDoor.Pr
