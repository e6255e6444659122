/- routPlays_holds: all that the theorem needs, in a few texts (bundle.py; made of the texts that NOTES.md names). -/
import Derived.Below
import Derived.Carry
import Derived.ChangeOld
import Derived.ChangeShapes
import Derived.KernelRfl
import Derived.Laws.Append
import Derived.Laws.Bits64
import Derived.Laws.BitsAllLaws
import Derived.Laws.BitsLemmas
import Derived.Laws.IdiomStrings
import Derived.Laws.Sem
import Derived.Laws.Strings
import Derived.LoopN
import Derived.MapKept
import Derived.OpenShut
import Derived.Orders
import Derived.Test.YtechpnlbkkfplaaGreatDoorChecked
import Derived.WideLaws
import Derived.WideShapes
import Derived.Test.YtechpnlbkkfplaaGreatDoorBRoutPlays2
import Derived.Test.YtechpnlbkkfplaaGreatDoorBRoutPlays3
import Derived.Test.YtechpnlbkkfplaaGreatDoorBRoutPlays4
import Derived.Test.YtechpnlbkkfplaaGreatDoorBRoutPlays7
import Derived.Test.YtechpnlbkkfplaaGreatDoorBRoutPlays8
import Derived.Test.YtechpnlbkkfplaaGreatDoorBRoutPlays13
section
set_option linter.unusedVariables false
set_option linter.unusedSimpArgs false
namespace Go.Proofs.YtechpnlbkkfplaaGreatDoor.Ar
open Go Go.Lift Go.Proofs
abbrev X_Exch : Type := List UInt8 × Int × Bool
abbrev c_Exch (x : X_Exch) : List Value := [.string (mkS x.1), .int .i64 x.2.1, .bool x.2.2]
abbrev q_Exch (x : X_Exch) : Prop := x.1.length ≤ maxLen ∧ (Lit.int .i64 x.2.1).wf = true ∧ True
theorem n_Exch : Go.Program.cellsOf Tryz.prog 29 = 3 := by kernel_rfl
theorem r_Exch {H : Type} {enc : TypeId × Value → H} {W : World} {m : Nat} {cs : List Value} (h : Rd enc Tryz.prog W m 29 cs) : ∃ x : X_Exch, cs = c_Exch x ∧ q_Exch x := by
  obtain ⟨m2, e0, hl, hf⟩ := rd_struct Tryz.underlying29 h
  rw [n_Exch] at hl
  have f0 := hf _ (List.mem_cons_self ..)
  have f1 := hf _ (List.mem_cons_of_mem _ (List.mem_cons_self ..))
  have f2 := hf _ (List.mem_cons_of_mem _ (List.mem_cons_of_mem _ (List.mem_cons_self ..)))
  clear hf h
  rcases cs with _ | ⟨b0, _ | ⟨b1, _ | ⟨b2, _ | ⟨b3, t⟩⟩⟩⟩
  · simp at hl
  · simp at hl
  · simp at hl
  · rw [show Go.Program.cellsOf Tryz.prog _ = 1 from by kernel_rfl] at f0
    obtain ⟨x0, y0, w0⟩ := rd_str Tryz.underlying9 f0
    simp only [List.drop, List.take, List.cons.injEq, and_true, List.drop_zero, List.drop_succ_cons, List.take_succ_cons, List.take_zero] at y0
    subst y0
    rw [show Go.Program.cellsOf Tryz.prog _ = 1 from by kernel_rfl] at f1
    obtain ⟨x1, y1, w1⟩ := rd_int Tryz.underlying3 f1
    simp only [List.drop, List.take, List.cons.injEq, and_true, List.drop_zero, List.drop_succ_cons, List.take_succ_cons, List.take_zero] at y1
    subst y1
    rw [show Go.Program.cellsOf Tryz.prog _ = 1 from by kernel_rfl] at f2
    obtain ⟨x2, y2⟩ := rd_bool Tryz.underlying4 f2
    simp only [List.drop, List.take, List.cons.injEq, and_true, List.drop_zero, List.drop_succ_cons, List.take_succ_cons, List.take_zero] at y2
    subst y2
    exact ⟨(x0, x1, x2), rfl, ⟨w0, w1, trivial⟩⟩
  · simp at hl
abbrev X_Bind : Type := List UInt8 × List UInt8 × List UInt8
abbrev c_Bind (x : X_Bind) : List Value := [.string (mkS x.1), .string (mkS x.2.1), .string (mkS x.2.2)]
abbrev q_Bind (x : X_Bind) : Prop := x.1.length ≤ maxLen ∧ x.2.1.length ≤ maxLen ∧ x.2.2.length ≤ maxLen
theorem n_Bind : Go.Program.cellsOf Tryz.prog 31 = 3 := by kernel_rfl
theorem r_Bind {H : Type} {enc : TypeId × Value → H} {W : World} {m : Nat} {cs : List Value} (h : Rd enc Tryz.prog W m 31 cs) : ∃ x : X_Bind, cs = c_Bind x ∧ q_Bind x := by
  obtain ⟨m2, e0, hl, hf⟩ := rd_struct Tryz.underlying31 h
  rw [n_Bind] at hl
  have f0 := hf _ (List.mem_cons_self ..)
  have f1 := hf _ (List.mem_cons_of_mem _ (List.mem_cons_self ..))
  have f2 := hf _ (List.mem_cons_of_mem _ (List.mem_cons_of_mem _ (List.mem_cons_self ..)))
  clear hf h
  rcases cs with _ | ⟨b0, _ | ⟨b1, _ | ⟨b2, _ | ⟨b3, t⟩⟩⟩⟩
  · simp at hl
  · simp at hl
  · simp at hl
  · rw [show Go.Program.cellsOf Tryz.prog _ = 1 from by kernel_rfl] at f0
    obtain ⟨x0, y0, w0⟩ := rd_str Tryz.underlying9 f0
    simp only [List.drop, List.take, List.cons.injEq, and_true, List.drop_zero, List.drop_succ_cons, List.take_succ_cons, List.take_zero] at y0
    subst y0
    rw [show Go.Program.cellsOf Tryz.prog _ = 1 from by kernel_rfl] at f1
    obtain ⟨x1, y1, w1⟩ := rd_str Tryz.underlying9 f1
    simp only [List.drop, List.take, List.cons.injEq, and_true, List.drop_zero, List.drop_succ_cons, List.take_succ_cons, List.take_zero] at y1
    subst y1
    rw [show Go.Program.cellsOf Tryz.prog _ = 1 from by kernel_rfl] at f2
    obtain ⟨x2, y2, w2⟩ := rd_str Tryz.underlying9 f2
    simp only [List.drop, List.take, List.cons.injEq, and_true, List.drop_zero, List.drop_succ_cons, List.take_succ_cons, List.take_zero] at y2
    subst y2
    exact ⟨(x0, x1, x2), rfl, ⟨w0, w1, w2⟩⟩
  · simp at hl
abbrev X_Op16 : Type := Int × List UInt8 × Int × Bool × List UInt8 × List UInt8 × List UInt8
abbrev c_Op16 (x : X_Op16) : List Value := [.int .i64 x.1, .string (mkS x.2.1), .int .i64 x.2.2.1, .bool x.2.2.2.1, .string (mkS x.2.2.2.2.1), .string (mkS x.2.2.2.2.2.1), .string (mkS x.2.2.2.2.2.2)]
abbrev q_Op16 (x : X_Op16) : Prop := (Lit.int .i64 x.1).wf = true ∧ x.2.1.length ≤ maxLen ∧ (Lit.int .i64 x.2.2.1).wf = true ∧ True ∧ x.2.2.2.2.1.length ≤ maxLen ∧ x.2.2.2.2.2.1.length ≤ maxLen ∧ x.2.2.2.2.2.2.length ≤ maxLen
theorem n_Op16 : Go.Program.cellsOf Tryz.prog 33 = 7 := by kernel_rfl
theorem r_Op16 {H : Type} {enc : TypeId × Value → H} {W : World} {m : Nat} {cs : List Value} (h : Rd enc Tryz.prog W m 33 cs) : ∃ x : X_Op16, cs = c_Op16 x ∧ q_Op16 x := by
  obtain ⟨m2, e0, hl, hf⟩ := rd_struct Tryz.underlying33 h
  rw [n_Op16] at hl
  have f0 := hf _ (List.mem_cons_self ..)
  have f1 := hf _ (List.mem_cons_of_mem _ (List.mem_cons_self ..))
  have f2 := hf _ (List.mem_cons_of_mem _ (List.mem_cons_of_mem _ (List.mem_cons_self ..)))
  clear hf h
  rcases cs with _ | ⟨b0, _ | ⟨b1, _ | ⟨b2, _ | ⟨b3, _ | ⟨b4, _ | ⟨b5, _ | ⟨b6, _ | ⟨b7, t⟩⟩⟩⟩⟩⟩⟩⟩
  · simp at hl
  · simp at hl
  · simp at hl
  · simp at hl
  · simp at hl
  · simp at hl
  · simp at hl
  · rw [show Go.Program.cellsOf Tryz.prog _ = 1 from by kernel_rfl] at f0
    obtain ⟨x0, y0, w0⟩ := rd_int Tryz.underlying3 f0
    simp only [List.drop, List.take, List.cons.injEq, and_true, List.drop_zero, List.drop_succ_cons, List.take_succ_cons, List.take_zero] at y0
    subst y0
    rw [show Go.Program.cellsOf Tryz.prog _ = 3 from by kernel_rfl] at f1
    obtain ⟨x1, y1, w1⟩ := r_Exch f1
    simp only [List.drop, List.take, List.cons.injEq, and_true, List.drop_zero, List.drop_succ_cons, List.take_succ_cons, List.take_zero] at y1
    obtain ⟨rfl, rfl, rfl⟩ := y1
    rw [show Go.Program.cellsOf Tryz.prog _ = 3 from by kernel_rfl] at f2
    obtain ⟨x2, y2, w2⟩ := r_Bind f2
    simp only [List.drop, List.take, List.cons.injEq, and_true, List.drop_zero, List.drop_succ_cons, List.take_succ_cons, List.take_zero] at y2
    obtain ⟨rfl, rfl, rfl⟩ := y2
    exact ⟨(x0, x1.1, x1.2.1, x1.2.2, x2.1, x2.2.1, x2.2.2), rfl, ⟨w0, w1.1, w1.2.1, w1.2.2, w2.1, w2.2.1, w2.2.2⟩⟩
  · simp at hl
end Go.Proofs.YtechpnlbkkfplaaGreatDoor.Ar
end
