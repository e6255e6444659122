/- UnakOnce: the row, out of its telling. -/
import Derived.Test.YtechpnlbkkfplaaRows
import Derived.Test.YtechpnlbkkfplaaLiftArg
import Derived.Test.YtechpnlbkkfplaaLawUnakOnce
import Derived.Test.YtechpnlbkkfplaaArHold
import Derived.WalkKit
import Derived.ProofKit
import Derived.OpenShut
import Derived.ShutString
import Derived.ChangeOld
import Derived.Below
import Derived.SizedLaws
namespace Go.Proofs.Ytechpnlbkkfplaa.unakOnce
open Go.ChangeShapes Go.WideShapes Go.ChangeAt Go.RowKit
set_option linter.unusedVariables false
theorem own : ownKnob Try.prog.godebug = none := by kernel_rfl
theorem laidOut : laidOutB Try.prog = true := by kernel_rfl
theorem readable : ∀ t ∈ [49, 22, 33], Try.prog.readableRec t = true ∧ t < Try.prog.types.size := by
  have h : ([49, 22, 33].all fun t => Try.prog.readableRec t && decide (t < Try.prog.types.size)) = true := by kernel_rfl
  intro t ht
  have := List.all_eq_true.1 h t ht
  rw [Bool.and_eq_true, decide_eq_true_eq] at this
  exact this
set_option maxRecDepth 100000 in
theorem lifted (os : Os) (started : os.Started) (H : Type) (enc : TypeId × Value → H) :
    ReturnsInHanded {} Try.checked os 6 .any (Rows.unakOnceSpec.pre6 enc Try.prog Try.f6 Rows.unakOnceRow.domain false) (Rows.unakOnceSpec.post enc Try.prog Try.f6 false true false false) := by
  refine returnsInHanded_of_change_sized (C := Try.checked) own started (by kernel_rfl) Try.func6
    (ChangeSpec.witness6 (enc := enc) (C := Try.checked) false ⟨#[], #[.slice none 0 0, .slice none 0 0, .slice none 0 0], []⟩ 8 (by kernel_rfl) (by kernel_rfl) (by kernel_rfl) (by kernel_rfl)) ?_
  intro W base args ds gs before hval0 hW hcnd hsz0 _
  have hval : ∀ (j : Nat) t v, Try.f6.params[j]? = some t → args[j]? = some v → Value.okWide Try.prog W .any base t v := hval0
  have hW' := hW
  obtain ⟨p, q, hA0, hV, rfl, hfz, hnd⟩ := hW
  have hA : DataW.TrodAll enc Try.prog W 0 (fun _ => true) true Try.f6.params.toList args.toList ds p := hA0
  rw [Try.params6] at hA hval
  have hA2 := hA
  obtain ⟨v0, vs0, d0, ds0, p0, q0, hargs, rfl, rfl, h0, r0⟩ := trodAll_cons hA
  obtain ⟨v1, vs1, d1, ds1, p1, q1, rfl, rfl, rfl, h1, r1⟩ := trodAll_cons r0
  obtain ⟨v2, vs2, d2, ds2, p2, q2, rfl, rfl, rfl, h2, r2⟩ := trodAll_cons r1
  obtain ⟨rfl, rfl, rfl⟩ := trodAll_nil r2
  obtain rfl : args = #[v0, v1, v2] := by cases args; simp_all
  obtain ⟨rfl, rfl⟩ := trodVars_none hV
  obtain ⟨s0, xs0, rfl, sl0, le0, mx0, w0⟩ := Go.Lift.arg_slN (C := Ar.c_Hold) (Q := Ar.q_Hold) Try.underlying49 Ar.n_Hold (fun m cs h => Ar.r_Hold h) (hval 0 49 v0 rfl rfl) h0
  obtain ⟨s1, xs1, rfl, sl1, le1, mx1, w1⟩ := Go.Lift.arg_sl1 (C := fun n : Int => Value.int .u64 n) (Q := fun n => (Lit.int .u64 n).wf = true) Try.underlying22 (by kernel_rfl) (fun m cs h => Go.Lift.rd_int Try.underlying28 h) (hval 1 22 v1 rfl rfl) h1
  obtain ⟨s2, xs2, rfl, sl2, le2, mx2, w2⟩ := Go.Lift.arg_sl1 (C := fun b : Bool => Value.bool b) (Q := fun _ => True) Try.underlying33 (by kernel_rfl) (fun m cs h => by obtain ⟨b, e⟩ := Go.Lift.rd_bool Try.underlying4 h; exact ⟨b, e, trivial⟩) (hval 2 33 v2 rfl rfl) h2
  clear hA0 hval0
  refine (Go.Lift.law_calls (Pr.UnakOnce.law (h := W.heap) s0 xs0 sl0 le0 mx0 w0 s1 xs1 sl1 le1 mx1 w1 s2 xs2 sl2 le2 mx2 w2) W rfl).mono fun e W' ⟨he, bel⟩ => ?_
  subst he
  exact ⟨_, rfl, _, _, _, [], _, [], hW', trodAll_mk1 (shut_bool Try.underlying4 _), Go.Lift.trodAll_below laidOut bel readable hA2 (fun x hx => by simpa using hW'.lt x (by simpa using hx)), rfl, bel.frame _, fun h => by cases h⟩
theorem over : Rows.unakOnceRow.holds Try.pinned (OpenSpec.ofChange Rows.unakOnceSpec) :=
  OpenClaim.holds_of_wide 6 Try.f6 rfl rfl rfl rfl rfl rfl rfl ⟨rfl, rfl, rfl, rfl, rfl⟩ rfl rfl rfl rfl rfl (by kernel_rfl) Try.func6 (by kernel_rfl)
    (of_decide_eq_true (by kernel_rfl)) (by unfold Func.isWrapper; first | (rw [if_pos (by decide +kernel)]; kernel_rfl) | (rw [if_neg (by decide +kernel)]; exact ⟨rfl, rfl⟩))
    (fun os started H enc _ => lifted os started H enc)
theorem proved : Rows.UnakOnceSaid := over
#print axioms proved
end Go.Proofs.Ytechpnlbkkfplaa.unakOnce
namespace Go.Proofs.Ytechpnlbkkfplaa
/-- The row, under a short name, for the claim. -/
theorem unakOnce_holds : Rows.UnakOnceSaid := unakOnce.proved
end Go.Proofs.Ytechpnlbkkfplaa
