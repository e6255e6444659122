/- Arguments that are slices of structs. -/
import Derived.Test.YtechpnlbkkfplaaLiftArg
set_option linter.unusedVariables false
namespace Go.Lift
open Go.WideShapes
section
variable {H : Type} {enc : TypeId × Value → H} {P : Program} {W : World}
/-- A slice of elements of n cells. -/
theorem arg_slN {r : Reach} {b0 : Nat} {t e : TypeId} {v : Value} {d : DataW H} {p : List MemPlace} {α : Type} {n : Nat} {C : α → List Value} {Q : α → Prop} (ht : P.underlying t = some (.slice e)) (hc : P.cellsOf e = n) (hC : ∀ m cs, Rd enc P W m e cs → ∃ x, cs = C x ∧ Q x)
    (hval : Value.okWide P W r b0 t v) (h : DataW.Trod enc P W 0 (fun _ => true) true t v d p) : ∃ (s : SV) (xs : List α), v = s.v ∧ Sl n W.heap s.1 s.2.1 (xs.flatMap C) ∧ s.2.1 ≤ s.2.2 ∧ s.2.2 ≤ maxLen ∧ ∀ x ∈ xs, Q x := by
  obtain ⟨a, len, cap, rfl⟩ := Go.WideShapes.okWide_slice ht hval
  obtain ⟨fuel, h⟩ := rd_of h
  obtain ⟨s, rows, m, e1, h1, h2, h3, h4, h5, h6⟩ := rd_slice ht h
  simp only [Value.cells, List.cons.injEq, and_true] at e1
  rw [hc] at h4
  have : ∃ xs : List α, rows.flatten = xs.flatMap C ∧ ∀ x ∈ xs, Q x := by
    clear h1 h4 e1
    induction rows with
    | nil => exact ⟨[], rfl, by simp⟩
    | cons y l ih =>
      obtain ⟨xs, g1, g2⟩ := ih fun r hr => h6 r (List.mem_cons_of_mem _ hr)
      obtain ⟨x, rfl, g3⟩ := hC m y (h6 y (List.mem_cons_self ..)).2
      refine ⟨x :: xs, by simp [g1], fun z hz => ?_⟩
      rcases List.mem_cons.1 hz with rfl | hz
      · exact g3
      · exact g2 z hz
  obtain ⟨xs, g1, g2⟩ := this
  rw [g1] at h4
  exact ⟨s, xs, by simpa using e1, h4, h2, h3, g2⟩
end
end Go.Lift
