/- What functions of the package Law6Sametexts come to, over the heap alone, and that they do: printed by gen.py out of the given program. -/
import Derived.Test.YtechpnlbkkfplaaDoorPrH
set_option linter.unusedVariables false
set_option maxRecDepth 100000
namespace Go.Proofs.YtechpnlbkkfplaaDoor.Pr
open Go Go.Lift Go.Proofs

/-! waybill/waybilllaw6.SameTexts: 18 -/
def waybilllaw6_SameTexts.L1 (K : KT) : Nat → OA → Nat → Nat → OA → Nat → Nat → Int → Heap → Prop
  | 0, _, _, _, _, _, _, _, _ => False
  | fuel + 1, a_0, a_0l, a_0c, b_1, b_1l, b_1c, i_5, h => ((decide (i_5 < ((a_0l : Nat) : Int))) = true → ∃ p1, a_0 = some p1 ∧ (0 : Int) ≤ i_5 ∧ i_5 < ((a_0l : Nat) : Int) ∧ ∃ p2, b_1 = some p2 ∧ (0 : Int) ≤ i_5 ∧ i_5 < ((b_1l : Nat) : Int) ∧ ∃ s3, hcell h (Addr.add p1 (Int.toNat i_5 * 1)) = some (.string (mkS s3)) ∧ ∃ s4, hcell h (Addr.add p2 (Int.toNat i_5 * 1)) = some (.string (mkS s4)) ∧ ((!(s3 == s4)) = true → K (.bool false) h) ∧ ((!(s3 == s4)) = false → bd ((IntKind.i64.wrap (i_5 + 1)) : Int) fun i_5 => (waybilllaw6_SameTexts.L1 K fuel) a_0 a_0l a_0c b_1 b_1l b_1c i_5 h)) ∧ ((decide (i_5 < ((a_0l : Nat) : Int))) = false → K (.bool true) h)
termination_by structural n => n
def waybilllaw6_SameTexts.L1.l : Live := [(0, .slice), (1, .slice), (5, .int .i64)]
def waybilllaw6_SameTexts.L1.j (K : KT) : Nat → Tup waybilllaw6_SameTexts.L1.l → Heap → Prop := fun n x h => waybilllaw6_SameTexts.L1 K n x.1.1 x.1.2.1 x.1.2.2 x.2.1.1 x.2.1.2.1 x.2.1.2.2 x.2.2.1 h
def waybilllaw6_SameTexts.p0 (K : KT) (a_0 : OA) (a_0l : Nat) (a_0c : Nat) (b_1 : OA) (b_1l : Nat) (b_1c : Nat) (h : Heap) : Prop :=
  ((((a_0l : Nat) : Int) != ((b_1l : Nat) : Int)) = true → K (.bool false) h) ∧ ((((a_0l : Nat) : Int) != ((b_1l : Nat) : Int)) = false → ∃ fuel6, waybilllaw6_SameTexts.L1 K fuel6 a_0 a_0l a_0c b_1 b_1l b_1c 0 h)
def waybilllaw6_SameTexts.plan (K : KT) : Plan := (.seq .go (.seq .go (.seq (.seq .go (.block (.loop waybilllaw6_SameTexts.L1.l (waybilllaw6_SameTexts.L1.j K) (fun n1 => (.seq .go (.seq (.block (.seq (.orders (.op 0 (.op 1 (.op 2 (.op 4 (.op 5 (.op 6 (.op 3 (.op 7 (.op 8 .nil)))))))))) .go)) .go)))))) .go)))
theorem waybilllaw6_SameTexts.ev_eq : waybilllaw6_SameTexts.p0 = fun K a_0 a_0l a_0c b_1 b_1l b_1c h => Ev P Tryd.f18 (waybilllaw6_SameTexts.plan K) K [.slice a_0 a_0l a_0c, .slice b_1 b_1l b_1c] h := by kernel_rfl
theorem waybilllaw6_SameTexts.obl (K : KT) : Obl P Tryd.f18 (waybilllaw6_SameTexts.plan K) K :=
  obl_of (R := (∀ x h, ¬ (waybilllaw6_SameTexts.L1.j K) 0 x h) ∧ ImpN (waybilllaw6_SameTexts.L1.j K) ∧ (∀ (n1 : Nat), DrawOK P Tryd.f18.ntmps (opsAt 6 (bodyOf Tryd.f18)) (.op 0 (.op 1 (.op 2 (.op 4 (.op 5 (.op 6 (.op 3 (.op 7 (.op 8 .nil))))))))) ∧ True) ∧ True) (by kernel_rfl) ⟨fun _ _ H => H, impN _, fun _ => ⟨draw_ok (by kernel_rfl), trivial⟩, trivial⟩
theorem waybilllaw6_SameTexts.ok {K : KT} {a_0 : OA} {a_0l : Nat} {a_0c : Nat} {b_1 : OA} {b_1l : Nat} {b_1c : Nat} {h : Heap} (H : waybilllaw6_SameTexts.p0 K a_0 a_0l a_0c b_1 b_1l b_1c h) : CallsH P F.waybilllaw6_SameTexts [.slice a_0 a_0l a_0c, .slice b_1 b_1l b_1c] K h :=
  calls_of_Ev (waybilllaw6_SameTexts.plan K) Tryd.func18 (by kernel_rfl) (waybilllaw6_SameTexts.obl K) (by rw [waybilllaw6_SameTexts.ev_eq] at H; exact H)

end Go.Proofs.YtechpnlbkkfplaaDoor.Pr
