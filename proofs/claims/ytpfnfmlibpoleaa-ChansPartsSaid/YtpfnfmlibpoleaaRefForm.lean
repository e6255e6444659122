/- The document's forms are those of the row of all. -/
import Derived.Test.YtpfnfmlibpoleaaMethForm
import Derived.Test.YtpfnfmlibpoleaaPrRef1
set_option linter.unusedVariables false
set_option maxRecDepth 100000
namespace Go.Proofs.Ytpfnfmlibpoleaa.Pr
open Go Go.Lift Go.Proofs

theorem refBasic.spec {K : KT} {i : Int} {h : Heap} (hK : K (.tuple #[.string (mkS ((formP (60, i)).getD [])), .bool (formP (60, i)).isSome]) h) : CallsH P F.waybillref1_basic [.int .i64 i] K h := by
  refine waybillref1_basic.ok ?_
  unfold waybillref1_basic.p0 waybillref1_basic.j1 waybillref1_basic.j2 waybillref1_basic.j3
  simp only [bd]
  repeat' first | with_reducible refine And.intro ?_ ?_ | with_reducible intro _
  all_goals (simp only [beq_iff_eq, beq_eq_false_iff_ne, ne_eq] at *)
  all_goals first
    | (subst_vars; exact hK)
    | omega
    | (have e : formP (60, i) = none := by simp [formP, get?, fnd, knownL, *]
       rw [e] at hK; exact hK)

theorem refForm.spec {K : KT} {c i : Int} {h : Heap} (hK : K (.tuple #[.string (mkS ((formP (c, i)).getD [])), .bool (formP (c, i)).isSome]) h) : CallsH P F.waybillref1_Form [.int .i64 c, .int .i64 i] K h := by
  refine waybillref1_Form.ok ?_
  unfold waybillref1_Form.p0 waybillref1_Form.j1 waybillref1_Form.j2 waybillref1_Form.j3
  simp only [bd]
  repeat' first | with_reducible refine And.intro ?_ ?_ | with_reducible intro _
  all_goals (simp only [beq_iff_eq, beq_eq_false_iff_ne, ne_eq] at *)
  all_goals first
    | (subst_vars; exact hK)
    | omega
    | (have e : formP (c, i) = none := by simp [formP, get?, fnd, knownL, *]
       rw [e] at hK; exact hK)
    | (subst_vars; refine refBasic.spec ?_; exact ⟨_, _, rfl, hK⟩)

end Go.Proofs.Ytpfnfmlibpoleaa.Pr
