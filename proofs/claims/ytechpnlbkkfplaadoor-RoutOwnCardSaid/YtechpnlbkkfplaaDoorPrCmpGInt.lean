/- What functions of the package CmpGInt come to, over the heap alone, and that they do: printed by gen.py out of the given program. -/
import Derived.Test.YtechpnlbkkfplaaDoorPrH
set_option linter.unusedVariables false
set_option maxRecDepth 100000
namespace Go.Proofs.YtechpnlbkkfplaaDoor.Pr
open Go Go.Lift Go.Proofs

/-! cmp.Or[int]: 36 -/
def cmp_Or_int.L1 (K : KT) : Nat → Int → OA → Nat → Nat → Int → Int → Heap → Prop
  | 0, _, _, _, _, _, _, _ => False
  | fuel + 1, zero_3, t6, t6l, t6c, t7, t8, h => ((decide (t8 < t7)) = true → ∃ p1, t6 = some p1 ∧ (0 : Int) ≤ t8 ∧ t8 < ((t6l : Nat) : Int) ∧ ∃ n2, hcell h (Addr.add p1 (Int.toNat t8 * 1)) = some (.int .i64 n2) ∧ ((n2 != zero_3) = true → K (.int .i64 n2) h) ∧ ((n2 != zero_3) = false → (cmp_Or_int.L1 K fuel) zero_3 t6 t6l t6c t7 (IntKind.i64.wrap (t8 + 1)) h)) ∧ ((decide (t8 < t7)) = false → K (.int .i64 zero_3) h)
termination_by structural n => n
def cmp_Or_int.L1.l : Live := [(3, .int .i64), (6, .slice), (7, .int .i64), (8, .int .i64)]
def cmp_Or_int.L1.j (K : KT) : Nat → Tup cmp_Or_int.L1.l → Heap → Prop := fun n x h => cmp_Or_int.L1 K n x.1 x.2.1.1 x.2.1.2.1 x.2.1.2.2 x.2.2.1 x.2.2.2.1 h
def cmp_Or_int.p0 (K : KT) (vals_0 : OA) (vals_0l : Nat) (vals_0c : Nat) (h : Heap) : Prop :=
  ∃ fuel3, cmp_Or_int.L1 K fuel3 0 vals_0 vals_0l vals_0c ((vals_0l : Nat) : Int) 0 h
def cmp_Or_int.plan (K : KT) : Plan := (.seq .go (.seq .go (.seq (.seq .go (.block (.loop cmp_Or_int.L1.l (cmp_Or_int.L1.j K) (fun n1 => .go)))) .go)))
theorem cmp_Or_int.ev_eq : cmp_Or_int.p0 = fun K vals_0 vals_0l vals_0c h => Ev P Tryd.f36 (cmp_Or_int.plan K) K [.slice vals_0 vals_0l vals_0c] h := by kernel_rfl
theorem cmp_Or_int.obl (K : KT) : Obl P Tryd.f36 (cmp_Or_int.plan K) K :=
  obl_of (R := (∀ x h, ¬ (cmp_Or_int.L1.j K) 0 x h) ∧ ImpN (cmp_Or_int.L1.j K) ∧ (∀ (n1 : Nat), True) ∧ True) (by kernel_rfl) ⟨fun _ _ H => H, impN _, fun _ => trivial, trivial⟩
theorem cmp_Or_int.ok {K : KT} {vals_0 : OA} {vals_0l : Nat} {vals_0c : Nat} {h : Heap} (H : cmp_Or_int.p0 K vals_0 vals_0l vals_0c h) : CallsH P F.cmp_Or_int [.slice vals_0 vals_0l vals_0c] K h :=
  calls_of_Ev (cmp_Or_int.plan K) Tryd.func36 (by kernel_rfl) (cmp_Or_int.obl K) (by rw [cmp_Or_int.ev_eq] at H; exact H)

end Go.Proofs.YtechpnlbkkfplaaDoor.Pr
