/- What functions of the package Law19Same come to, over the heap alone, and that they do: printed by gen.py out of the given program. -/
import Derived.Test.YtechpnlbkkfplaaPrH
set_option linter.unusedVariables false
set_option maxRecDepth 100000
namespace Go.Proofs.Ytechpnlbkkfplaa.Pr
open Go Go.Lift Go.Proofs

/-! waybill/waybilllaw19.same: 57 -/
def waybilllaw19_same.L1 (K : KT) : Nat → OA → Nat → Nat → OA → Nat → Nat → Int → Heap → Prop
  | 0, _, _, _, _, _, _, _, _ => False
  | fuel + 1, a_0, a_0l, a_0c, b_1, b_1l, b_1c, i_5, h => ((decide (i_5 < ((a_0l : Nat) : Int))) = true → ∃ p1, a_0 = some p1 ∧ (0 : Int) ≤ i_5 ∧ i_5 < ((a_0l : Nat) : Int) ∧ ∃ p2, b_1 = some p2 ∧ (0 : Int) ≤ i_5 ∧ i_5 < ((b_1l : Nat) : Int) ∧ ∃ cs3, rdC h (Addr.add p1 (Int.toNat i_5 * 5)) 0 5 = some cs3 ∧ ∃ cs4, rdC h (Addr.add p2 (Int.toNat i_5 * 5)) 0 5 = some cs4 ∧ SemH P (eqS .neq T.api_Con (.tmp 20) (.tmp 24) (.agg (List.toArray cs3)) (.agg (List.toArray cs4))) (fun v5 h6 => ∃ b7, v5 = .bool b7 ∧ (b7 = true → K (.bool false) h6) ∧ (b7 = false → bd ((IntKind.i64.wrap (i_5 + 1)) : Int) fun i_8 => (waybilllaw19_same.L1 K fuel) a_0 a_0l a_0c b_1 b_1l b_1c i_8 h6)) h) ∧ ((decide (i_5 < ((a_0l : Nat) : Int))) = false → K (.bool true) h)
termination_by structural n => n
def waybilllaw19_same.L1.l : Live := [(0, .slice), (1, .slice), (5, .int .i64)]
def waybilllaw19_same.L1.j (K : KT) : Nat → Tup waybilllaw19_same.L1.l → Heap → Prop := fun n x h => waybilllaw19_same.L1 K n x.1.1 x.1.2.1 x.1.2.2 x.2.1.1 x.2.1.2.1 x.2.1.2.2 x.2.2.1 h
def waybilllaw19_same.p0 (K : KT) (a_0 : OA) (a_0l : Nat) (a_0c : Nat) (b_1 : OA) (b_1l : Nat) (b_1c : Nat) (h : Heap) : Prop :=
  ((((a_0l : Nat) : Int) != ((b_1l : Nat) : Int)) = true → K (.bool false) h) ∧ ((((a_0l : Nat) : Int) != ((b_1l : Nat) : Int)) = false → ∃ fuel9, waybilllaw19_same.L1 K fuel9 a_0 a_0l a_0c b_1 b_1l b_1c 0 h)
def waybilllaw19_same.plan (K : KT) : Plan := (.seq .go (.seq .go (.seq (.seq .go (.block (.loop waybilllaw19_same.L1.l (waybilllaw19_same.L1.j K) (fun n1 => (.seq .go (.seq (.block (.seq (.orders (.op 0 (.op 1 (.op 2 (.op 4 (.op 5 (.op 6 (.op 3 (.op 7 (.op 8 .nil)))))))))) .go)) .go)))))) .go)))
theorem waybilllaw19_same.ev_eq : waybilllaw19_same.p0 = fun K a_0 a_0l a_0c b_1 b_1l b_1c h => Ev P Try.f57 (waybilllaw19_same.plan K) K [.slice a_0 a_0l a_0c, .slice b_1 b_1l b_1c] h := by kernel_rfl
theorem waybilllaw19_same.obl (K : KT) : Obl P Try.f57 (waybilllaw19_same.plan K) K :=
  obl_of (R := (∀ x h, ¬ (waybilllaw19_same.L1.j K) 0 x h) ∧ ImpN (waybilllaw19_same.L1.j K) ∧ (∀ (n1 : Nat), DrawOK P Try.f57.ntmps (opsAt 6 (bodyOf Try.f57)) (.op 0 (.op 1 (.op 2 (.op 4 (.op 5 (.op 6 (.op 3 (.op 7 (.op 8 .nil))))))))) ∧ True) ∧ True) (by kernel_rfl) ⟨fun _ _ H => H, impN _, fun _ => ⟨draw_ok (by kernel_rfl), trivial⟩, trivial⟩
theorem waybilllaw19_same.ok {K : KT} {a_0 : OA} {a_0l : Nat} {a_0c : Nat} {b_1 : OA} {b_1l : Nat} {b_1c : Nat} {h : Heap} (H : waybilllaw19_same.p0 K a_0 a_0l a_0c b_1 b_1l b_1c h) : CallsH P F.waybilllaw19_same [.slice a_0 a_0l a_0c, .slice b_1 b_1l b_1c] K h :=
  calls_of_Ev (waybilllaw19_same.plan K) Try.func57 (by kernel_rfl) (waybilllaw19_same.obl K) (by rw [waybilllaw19_same.ev_eq] at H; exact H)

end Go.Proofs.Ytechpnlbkkfplaa.Pr
