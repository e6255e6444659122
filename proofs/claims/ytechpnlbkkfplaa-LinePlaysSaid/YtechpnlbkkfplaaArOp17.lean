/- What arguments are that hold structs. -/
import Derived.Test.YtechpnlbkkfplaaLiftArg2
import Derived.Test.YtechpnlbkkfplaaChecked
import Derived.KernelRfl
set_option linter.unusedVariables false
set_option linter.unusedSimpArgs false
namespace Go.Proofs.Ytechpnlbkkfplaa.Ar
open Go Go.Lift Go.Proofs

abbrev X_Op17 : Type := Int × Int × Bool
abbrev c_Op17 (x : X_Op17) : List Value := [.int .i64 x.1, .int .u64 x.2.1, .bool x.2.2]
abbrev q_Op17 (x : X_Op17) : Prop := (Lit.int .i64 x.1).wf = true ∧ (Lit.int .u64 x.2.1).wf = true ∧ True
theorem n_Op17 : Go.Program.cellsOf Try.prog 46 = 3 := by kernel_rfl
theorem l_Op17 : ∀ x : X_Op17, (c_Op17 x).length = 3 := fun _ => rfl
theorem r_Op17 {H : Type} {enc : TypeId × Value → H} {W : World} {m : Nat} {cs : List Value} (h : Rd enc Try.prog W m 46 cs) : ∃ x : X_Op17, cs = c_Op17 x ∧ q_Op17 x := by
  obtain ⟨m2, e0, hl, hf⟩ := rd_struct Try.underlying46 h
  rw [n_Op17] at hl
  have f0 := hf _ (List.mem_cons_self ..)
  have f1 := hf _ (List.mem_cons_of_mem _ (List.mem_cons_self ..))
  have f2 := hf _ (List.mem_cons_of_mem _ (List.mem_cons_of_mem _ (List.mem_cons_self ..)))
  clear hf h
  rcases cs with _ | ⟨b0, _ | ⟨b1, _ | ⟨b2, _ | ⟨b3, t⟩⟩⟩⟩
  · simp at hl
  · simp at hl
  · simp at hl
  · rw [show Go.Program.cellsOf Try.prog _ = 1 from by kernel_rfl] at f0
    obtain ⟨x0, y0, w0⟩ := rd_int Try.underlying3 f0
    simp only [List.drop, List.take, List.cons.injEq, and_true, List.drop_zero, List.drop_succ_cons, List.take_succ_cons, List.take_zero] at y0
    subst y0
    rw [show Go.Program.cellsOf Try.prog _ = 1 from by kernel_rfl] at f1
    obtain ⟨x1, y1, w1⟩ := rd_int Try.underlying28 f1
    simp only [List.drop, List.take, List.cons.injEq, and_true, List.drop_zero, List.drop_succ_cons, List.take_succ_cons, List.take_zero] at y1
    subst y1
    rw [show Go.Program.cellsOf Try.prog _ = 1 from by kernel_rfl] at f2
    obtain ⟨x2, y2⟩ := rd_bool Try.underlying4 f2
    simp only [List.drop, List.take, List.cons.injEq, and_true, List.drop_zero, List.drop_succ_cons, List.take_succ_cons, List.take_zero] at y2
    subst y2
    exact ⟨(x0, x1, x2), rfl, ⟨w0, w1, trivial⟩⟩
  · simp at hl

end Go.Proofs.Ytechpnlbkkfplaa.Ar
