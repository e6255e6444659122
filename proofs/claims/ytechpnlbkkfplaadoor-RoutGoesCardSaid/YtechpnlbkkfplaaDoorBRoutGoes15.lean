/- routGoes_holds: all that the theorem needs, in a few texts (bundle.py; made of the texts that NOTES.md names). -/
import Derived.Below
import Derived.Carry
import Derived.ChangeOld
import Derived.ChangeShapes
import Derived.KernelRfl
import Derived.Laws.Append
import Derived.Laws.Bits64
import Derived.Laws.BitsAllLaws
import Derived.Laws.BitsLemmas
import Derived.Laws.IdiomStrings
import Derived.Laws.Sem
import Derived.Laws.Strings
import Derived.LoopN
import Derived.MapKept
import Derived.OpenShut
import Derived.Orders
import Derived.Test.YtechpnlbkkfplaaDoorChecked
import Derived.WideLaws
import Derived.WideShapes
import Derived.Test.YtechpnlbkkfplaaDoorBRoutGoes2
import Derived.Test.YtechpnlbkkfplaaDoorBRoutGoes3
import Derived.Test.YtechpnlbkkfplaaDoorBRoutGoes4
import Derived.Test.YtechpnlbkkfplaaDoorBRoutGoes7
import Derived.Test.YtechpnlbkkfplaaDoorBRoutGoes8
import Derived.Test.YtechpnlbkkfplaaDoorBRoutGoes13
section
set_option linter.unusedVariables false
set_option linter.unusedSimpArgs false
namespace Go.Proofs.YtechpnlbkkfplaaDoor.Ar
open Go Go.Lift Go.Proofs
abbrev X_Bind : Type := List UInt8 × List UInt8 × List UInt8
abbrev c_Bind (x : X_Bind) : List Value := [.string (mkS x.1), .string (mkS x.2.1), .string (mkS x.2.2)]
abbrev q_Bind (x : X_Bind) : Prop := x.1.length ≤ maxLen ∧ x.2.1.length ≤ maxLen ∧ x.2.2.length ≤ maxLen
theorem n_Bind : Go.Program.cellsOf Tryd.prog 33 = 3 := by kernel_rfl
theorem r_Bind {H : Type} {enc : TypeId × Value → H} {W : World} {m : Nat} {cs : List Value} (h : Rd enc Tryd.prog W m 33 cs) : ∃ x : X_Bind, cs = c_Bind x ∧ q_Bind x := by
  obtain ⟨m2, e0, hl, hf⟩ := rd_struct Tryd.underlying33 h
  rw [n_Bind] at hl
  have f0 := hf _ (List.mem_cons_self ..)
  have f1 := hf _ (List.mem_cons_of_mem _ (List.mem_cons_self ..))
  have f2 := hf _ (List.mem_cons_of_mem _ (List.mem_cons_of_mem _ (List.mem_cons_self ..)))
  clear hf h
  rcases cs with _ | ⟨b0, _ | ⟨b1, _ | ⟨b2, _ | ⟨b3, t⟩⟩⟩⟩
  · simp at hl
  · simp at hl
  · simp at hl
  · rw [show Go.Program.cellsOf Tryd.prog _ = 1 from by kernel_rfl] at f0
    obtain ⟨x0, y0, w0⟩ := rd_str Tryd.underlying9 f0
    simp only [List.drop, List.take, List.cons.injEq, and_true, List.drop_zero, List.drop_succ_cons, List.take_succ_cons, List.take_zero] at y0
    subst y0
    rw [show Go.Program.cellsOf Tryd.prog _ = 1 from by kernel_rfl] at f1
    obtain ⟨x1, y1, w1⟩ := rd_str Tryd.underlying9 f1
    simp only [List.drop, List.take, List.cons.injEq, and_true, List.drop_zero, List.drop_succ_cons, List.take_succ_cons, List.take_zero] at y1
    subst y1
    rw [show Go.Program.cellsOf Tryd.prog _ = 1 from by kernel_rfl] at f2
    obtain ⟨x2, y2, w2⟩ := rd_str Tryd.underlying9 f2
    simp only [List.drop, List.take, List.cons.injEq, and_true, List.drop_zero, List.drop_succ_cons, List.take_succ_cons, List.take_zero] at y2
    subst y2
    exact ⟨(x0, x1, x2), rfl, ⟨w0, w1, w2⟩⟩
  · simp at hl
end Go.Proofs.YtechpnlbkkfplaaDoor.Ar
end
