/- What arguments are that hold structs. -/
import Derived.Test.YtechpnlbkkfplaaLiftArg2
import Derived.Test.YtechpnlbkkfplaaChecked
import Derived.KernelRfl
set_option linter.unusedVariables false
set_option linter.unusedSimpArgs false
namespace Go.Proofs.Ytechpnlbkkfplaa.Ar
open Go Go.Lift Go.Proofs

abbrev X_Hold : Type := List UInt8 × Int
abbrev c_Hold (x : X_Hold) : List Value := [.string (mkS x.1), .int .u64 x.2]
abbrev q_Hold (x : X_Hold) : Prop := x.1.length ≤ maxLen ∧ (Lit.int .u64 x.2).wf = true
theorem n_Hold : Go.Program.cellsOf Try.prog 54 = 2 := by kernel_rfl
theorem l_Hold : ∀ x : X_Hold, (c_Hold x).length = 2 := fun _ => rfl
theorem r_Hold {H : Type} {enc : TypeId × Value → H} {W : World} {m : Nat} {cs : List Value} (h : Rd enc Try.prog W m 54 cs) : ∃ x : X_Hold, cs = c_Hold x ∧ q_Hold x := by
  obtain ⟨m2, e0, hl, hf⟩ := rd_struct Try.underlying54 h
  rw [n_Hold] at hl
  have f0 := hf _ (List.mem_cons_self ..)
  have f1 := hf _ (List.mem_cons_of_mem _ (List.mem_cons_self ..))
  clear hf h
  rcases cs with _ | ⟨b0, _ | ⟨b1, _ | ⟨b2, t⟩⟩⟩
  · simp at hl
  · simp at hl
  · rw [show Go.Program.cellsOf Try.prog _ = 1 from by kernel_rfl] at f0
    obtain ⟨x0, y0, w0⟩ := rd_str Try.underlying9 f0
    simp only [List.drop, List.take, List.cons.injEq, and_true, List.drop_zero, List.drop_succ_cons, List.take_succ_cons, List.take_zero] at y0
    subst y0
    rw [show Go.Program.cellsOf Try.prog _ = 1 from by kernel_rfl] at f1
    obtain ⟨x1, y1, w1⟩ := rd_int Try.underlying28 f1
    simp only [List.drop, List.take, List.cons.injEq, and_true, List.drop_zero, List.drop_succ_cons, List.take_succ_cons, List.take_zero] at y1
    subst y1
    exact ⟨(x0, x1), rfl, ⟨w0, w1⟩⟩
  · simp at hl

abbrev X_Op18 : Type := Int × Int × Bool × List UInt8 × Int
abbrev c_Op18 (x : X_Op18) : List Value := [.int .i64 x.1, .int .u64 x.2.1, .bool x.2.2.1, .string (mkS x.2.2.2.1), .int .u64 x.2.2.2.2]
abbrev q_Op18 (x : X_Op18) : Prop := (Lit.int .i64 x.1).wf = true ∧ (Lit.int .u64 x.2.1).wf = true ∧ True ∧ x.2.2.2.1.length ≤ maxLen ∧ (Lit.int .u64 x.2.2.2.2).wf = true
theorem n_Op18 : Go.Program.cellsOf Try.prog 69 = 5 := by kernel_rfl
theorem l_Op18 : ∀ x : X_Op18, (c_Op18 x).length = 5 := fun _ => rfl
theorem r_Op18 {H : Type} {enc : TypeId × Value → H} {W : World} {m : Nat} {cs : List Value} (h : Rd enc Try.prog W m 69 cs) : ∃ x : X_Op18, cs = c_Op18 x ∧ q_Op18 x := by
  obtain ⟨m2, e0, hl, hf⟩ := rd_struct Try.underlying69 h
  rw [n_Op18] at hl
  have f0 := hf _ (List.mem_cons_self ..)
  have f1 := hf _ (List.mem_cons_of_mem _ (List.mem_cons_self ..))
  have f2 := hf _ (List.mem_cons_of_mem _ (List.mem_cons_of_mem _ (List.mem_cons_self ..)))
  have f3 := hf _ (List.mem_cons_of_mem _ (List.mem_cons_of_mem _ (List.mem_cons_of_mem _ (List.mem_cons_self ..))))
  clear hf h
  rcases cs with _ | ⟨b0, _ | ⟨b1, _ | ⟨b2, _ | ⟨b3, _ | ⟨b4, _ | ⟨b5, t⟩⟩⟩⟩⟩⟩
  · simp at hl
  · simp at hl
  · simp at hl
  · simp at hl
  · simp at hl
  · rw [show Go.Program.cellsOf Try.prog _ = 1 from by kernel_rfl] at f0
    obtain ⟨x0, y0, w0⟩ := rd_int Try.underlying3 f0
    simp only [List.drop, List.take, List.cons.injEq, and_true, List.drop_zero, List.drop_succ_cons, List.take_succ_cons, List.take_zero] at y0
    subst y0
    rw [show Go.Program.cellsOf Try.prog _ = 1 from by kernel_rfl] at f1
    obtain ⟨x1, y1, w1⟩ := rd_int Try.underlying28 f1
    simp only [List.drop, List.take, List.cons.injEq, and_true, List.drop_zero, List.drop_succ_cons, List.take_succ_cons, List.take_zero] at y1
    subst y1
    rw [show Go.Program.cellsOf Try.prog _ = 1 from by kernel_rfl] at f2
    obtain ⟨x2, y2⟩ := rd_bool Try.underlying4 f2
    simp only [List.drop, List.take, List.cons.injEq, and_true, List.drop_zero, List.drop_succ_cons, List.take_succ_cons, List.take_zero] at y2
    subst y2
    rw [show Go.Program.cellsOf Try.prog _ = 2 from by kernel_rfl] at f3
    obtain ⟨x3, y3, w3⟩ := r_Hold f3
    simp only [List.drop, List.take, List.cons.injEq, and_true, List.drop_zero, List.drop_succ_cons, List.take_succ_cons, List.take_zero] at y3
    obtain ⟨rfl, rfl⟩ := y3
    exact ⟨(x0, x1, x2, x3.1, x3.2), rfl, ⟨w0, w1, trivial, w3.1, w3.2⟩⟩
  · simp at hl

end Go.Proofs.Ytechpnlbkkfplaa.Ar
