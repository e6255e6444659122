/- What functions of the package Slices come to, over the heap alone, and that they do: printed by gen.py out of the given program. -/
import Derived.Test.YtpfnfmlibpoleaaPrH
set_option linter.unusedVariables false
set_option maxRecDepth 100000
namespace Go.Proofs.Ytpfnfmlibpoleaa.Pr
open Go Go.Lift Go.Proofs

/-! slices.Clone[[]byte,byte]: 35 -/
def slices_Clone_byte_byte.p0 (K : KT) (s_0 : OA) (s_0l : Nat) (s_0c : Nat) (h : Heap) : Prop :=
  ((Option.isNone s_0) = true → K (.slice none 0 0) h) ∧ ((Option.isNone s_0) = false → bd (al h #[] T.uint8) fun h1 => SemH P (Builtin.append_ #[T.sl_uint8, T.sl_uint8] T.sl_uint8 #[.slice (some (top h)) 0 0, .slice s_0 s_0l s_0c]) (fun v2 h3 => ∃ a4 a4l a4c, v2 = .slice a4 a4l a4c ∧ K (.slice a4 a4l a4c) h3) h1)
def slices_Clone_byte_byte.plan (K : KT) : Plan := .go
theorem slices_Clone_byte_byte.ev_eq : slices_Clone_byte_byte.p0 = fun K s_0 s_0l s_0c h => Ev P Try.f35 (slices_Clone_byte_byte.plan K) K [.slice s_0 s_0l s_0c] h := by kernel_rfl
theorem slices_Clone_byte_byte.obl (K : KT) : Obl P Try.f35 (slices_Clone_byte_byte.plan K) K :=
  obl_true (by kernel_rfl)
theorem slices_Clone_byte_byte.ok {K : KT} {s_0 : OA} {s_0l : Nat} {s_0c : Nat} {h : Heap} (H : slices_Clone_byte_byte.p0 K s_0 s_0l s_0c h) : CallsH P F.slices_Clone_byte_byte [.slice s_0 s_0l s_0c] K h :=
  calls_of_Ev (slices_Clone_byte_byte.plan K) Try.func35 (by kernel_rfl) (slices_Clone_byte_byte.obl K) (by rw [slices_Clone_byte_byte.ev_eq] at H; exact H)

end Go.Proofs.Ytpfnfmlibpoleaa.Pr
