/- What arguments are that hold structs. -/
import Derived.Test.YtechpnlbkkfplaaLiftArg2
import Derived.Test.YtechpnlbkkfplaaChecked
import Derived.KernelRfl
set_option linter.unusedVariables false
set_option linter.unusedSimpArgs false
namespace Go.Proofs.Ytechpnlbkkfplaa.Ar
open Go Go.Lift Go.Proofs

abbrev X_Con : Type := Int × Int × List UInt8 × List UInt8 × Bool
abbrev c_Con (x : X_Con) : List Value := [.int .i64 x.1, .int .i64 x.2.1, .string (mkS x.2.2.1), .string (mkS x.2.2.2.1), .bool x.2.2.2.2]
abbrev q_Con (x : X_Con) : Prop := (Lit.int .i64 x.1).wf = true ∧ (Lit.int .i64 x.2.1).wf = true ∧ x.2.2.1.length ≤ maxLen ∧ x.2.2.2.1.length ≤ maxLen ∧ True
theorem n_Con : Go.Program.cellsOf Try.prog 78 = 5 := by kernel_rfl
theorem l_Con : ∀ x : X_Con, (c_Con x).length = 5 := fun _ => rfl
theorem r_Con {H : Type} {enc : TypeId × Value → H} {W : World} {m : Nat} {cs : List Value} (h : Rd enc Try.prog W m 78 cs) : ∃ x : X_Con, cs = c_Con x ∧ q_Con x := by
  obtain ⟨m2, e0, hl, hf⟩ := rd_struct Try.underlying78 h
  rw [n_Con] at hl
  have f0 := hf _ (List.mem_cons_self ..)
  have f1 := hf _ (List.mem_cons_of_mem _ (List.mem_cons_self ..))
  have f2 := hf _ (List.mem_cons_of_mem _ (List.mem_cons_of_mem _ (List.mem_cons_self ..)))
  have f3 := hf _ (List.mem_cons_of_mem _ (List.mem_cons_of_mem _ (List.mem_cons_of_mem _ (List.mem_cons_self ..))))
  have f4 := hf _ (List.mem_cons_of_mem _ (List.mem_cons_of_mem _ (List.mem_cons_of_mem _ (List.mem_cons_of_mem _ (List.mem_cons_self ..)))))
  clear hf h
  rcases cs with _ | ⟨b0, _ | ⟨b1, _ | ⟨b2, _ | ⟨b3, _ | ⟨b4, _ | ⟨b5, t⟩⟩⟩⟩⟩⟩
  · simp at hl
  · simp at hl
  · simp at hl
  · simp at hl
  · simp at hl
  · rw [show Go.Program.cellsOf Try.prog _ = 1 from by kernel_rfl] at f0
    obtain ⟨x0, y0, w0⟩ := rd_int Try.underlying3 f0
    simp only [List.drop, List.take, List.cons.injEq, and_true, List.drop_zero, List.drop_succ_cons, List.take_succ_cons, List.take_zero] at y0
    subst y0
    rw [show Go.Program.cellsOf Try.prog _ = 1 from by kernel_rfl] at f1
    obtain ⟨x1, y1, w1⟩ := rd_int Try.underlying3 f1
    simp only [List.drop, List.take, List.cons.injEq, and_true, List.drop_zero, List.drop_succ_cons, List.take_succ_cons, List.take_zero] at y1
    subst y1
    rw [show Go.Program.cellsOf Try.prog _ = 1 from by kernel_rfl] at f2
    obtain ⟨x2, y2, w2⟩ := rd_str Try.underlying9 f2
    simp only [List.drop, List.take, List.cons.injEq, and_true, List.drop_zero, List.drop_succ_cons, List.take_succ_cons, List.take_zero] at y2
    subst y2
    rw [show Go.Program.cellsOf Try.prog _ = 1 from by kernel_rfl] at f3
    obtain ⟨x3, y3, w3⟩ := rd_str Try.underlying9 f3
    simp only [List.drop, List.take, List.cons.injEq, and_true, List.drop_zero, List.drop_succ_cons, List.take_succ_cons, List.take_zero] at y3
    subst y3
    rw [show Go.Program.cellsOf Try.prog _ = 1 from by kernel_rfl] at f4
    obtain ⟨x4, y4⟩ := rd_bool Try.underlying4 f4
    simp only [List.drop, List.take, List.cons.injEq, and_true, List.drop_zero, List.drop_succ_cons, List.take_succ_cons, List.take_zero] at y4
    subst y4
    exact ⟨(x0, x1, x2, x3, x4), rfl, ⟨w0, w1, w2, w3, trivial⟩⟩
  · simp at hl

abbrev X_Op19 : Type := Int × Int × Int × Int × List UInt8 × List UInt8 × Bool
abbrev c_Op19 (x : X_Op19) : List Value := [.int .i64 x.1, .int .i64 x.2.1, .int .i64 x.2.2.1, .int .i64 x.2.2.2.1, .string (mkS x.2.2.2.2.1), .string (mkS x.2.2.2.2.2.1), .bool x.2.2.2.2.2.2]
abbrev q_Op19 (x : X_Op19) : Prop := (Lit.int .i64 x.1).wf = true ∧ (Lit.int .i64 x.2.1).wf = true ∧ (Lit.int .i64 x.2.2.1).wf = true ∧ (Lit.int .i64 x.2.2.2.1).wf = true ∧ x.2.2.2.2.1.length ≤ maxLen ∧ x.2.2.2.2.2.1.length ≤ maxLen ∧ True
theorem n_Op19 : Go.Program.cellsOf Try.prog 94 = 7 := by kernel_rfl
theorem l_Op19 : ∀ x : X_Op19, (c_Op19 x).length = 7 := fun _ => rfl
theorem r_Op19 {H : Type} {enc : TypeId × Value → H} {W : World} {m : Nat} {cs : List Value} (h : Rd enc Try.prog W m 94 cs) : ∃ x : X_Op19, cs = c_Op19 x ∧ q_Op19 x := by
  obtain ⟨m2, e0, hl, hf⟩ := rd_struct Try.underlying94 h
  rw [n_Op19] at hl
  have f0 := hf _ (List.mem_cons_self ..)
  have f1 := hf _ (List.mem_cons_of_mem _ (List.mem_cons_self ..))
  have f2 := hf _ (List.mem_cons_of_mem _ (List.mem_cons_of_mem _ (List.mem_cons_self ..)))
  clear hf h
  rcases cs with _ | ⟨b0, _ | ⟨b1, _ | ⟨b2, _ | ⟨b3, _ | ⟨b4, _ | ⟨b5, _ | ⟨b6, _ | ⟨b7, t⟩⟩⟩⟩⟩⟩⟩⟩
  · simp at hl
  · simp at hl
  · simp at hl
  · simp at hl
  · simp at hl
  · simp at hl
  · simp at hl
  · rw [show Go.Program.cellsOf Try.prog _ = 1 from by kernel_rfl] at f0
    obtain ⟨x0, y0, w0⟩ := rd_int Try.underlying3 f0
    simp only [List.drop, List.take, List.cons.injEq, and_true, List.drop_zero, List.drop_succ_cons, List.take_succ_cons, List.take_zero] at y0
    subst y0
    rw [show Go.Program.cellsOf Try.prog _ = 1 from by kernel_rfl] at f1
    obtain ⟨x1, y1, w1⟩ := rd_int Try.underlying3 f1
    simp only [List.drop, List.take, List.cons.injEq, and_true, List.drop_zero, List.drop_succ_cons, List.take_succ_cons, List.take_zero] at y1
    subst y1
    rw [show Go.Program.cellsOf Try.prog _ = 5 from by kernel_rfl] at f2
    obtain ⟨x2, y2, w2⟩ := r_Con f2
    simp only [List.drop, List.take, List.cons.injEq, and_true, List.drop_zero, List.drop_succ_cons, List.take_succ_cons, List.take_zero] at y2
    obtain ⟨rfl, rfl, rfl, rfl, rfl⟩ := y2
    exact ⟨(x0, x1, x2.1, x2.2.1, x2.2.2.1, x2.2.2.2.1, x2.2.2.2.2), rfl, ⟨w0, w1, w2.1, w2.2.1, w2.2.2.1, w2.2.2.2.1, w2.2.2.2.2⟩⟩
  · simp at hl

end Go.Proofs.Ytechpnlbkkfplaa.Ar
