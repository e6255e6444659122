/- What arguments are that hold structs. -/
import Derived.Test.YtechpnlbkkfplaaLiftArg2
import Derived.Test.YtechpnlbkkfplaaChecked
import Derived.KernelRfl
set_option linter.unusedVariables false
set_option linter.unusedSimpArgs false
namespace Go.Proofs.Ytechpnlbkkfplaa.Ar
open Go Go.Lift Go.Proofs

abbrev X_Hold : Type := List UInt8 × Int
abbrev c_Hold (x : X_Hold) : List Value := [.string (mkS x.1), .int .u64 x.2]
abbrev q_Hold (x : X_Hold) : Prop := x.1.length ≤ maxLen ∧ (Lit.int .u64 x.2).wf = true
theorem n_Hold : Go.Program.cellsOf Try.prog 54 = 2 := by kernel_rfl
theorem l_Hold : ∀ x : X_Hold, (c_Hold x).length = 2 := fun _ => rfl
theorem r_Hold {H : Type} {enc : TypeId × Value → H} {W : World} {m : Nat} {cs : List Value} (h : Rd enc Try.prog W m 54 cs) : ∃ x : X_Hold, cs = c_Hold x ∧ q_Hold x := by
  obtain ⟨m2, e0, hl, hf⟩ := rd_struct Try.underlying54 h
  rw [n_Hold] at hl
  have f0 := hf _ (List.mem_cons_self ..)
  have f1 := hf _ (List.mem_cons_of_mem _ (List.mem_cons_self ..))
  clear hf h
  rcases cs with _ | ⟨b0, _ | ⟨b1, _ | ⟨b2, t⟩⟩⟩
  · simp at hl
  · simp at hl
  · rw [show Go.Program.cellsOf Try.prog _ = 1 from by kernel_rfl] at f0
    obtain ⟨x0, y0, w0⟩ := rd_str Try.underlying9 f0
    simp only [List.drop, List.take, List.cons.injEq, and_true, List.drop_zero, List.drop_succ_cons, List.take_succ_cons, List.take_zero] at y0
    subst y0
    rw [show Go.Program.cellsOf Try.prog _ = 1 from by kernel_rfl] at f1
    obtain ⟨x1, y1, w1⟩ := rd_int Try.underlying28 f1
    simp only [List.drop, List.take, List.cons.injEq, and_true, List.drop_zero, List.drop_succ_cons, List.take_succ_cons, List.take_zero] at y1
    subst y1
    exact ⟨(x0, x1), rfl, ⟨w0, w1⟩⟩
  · simp at hl

end Go.Proofs.Ytechpnlbkkfplaa.Ar
