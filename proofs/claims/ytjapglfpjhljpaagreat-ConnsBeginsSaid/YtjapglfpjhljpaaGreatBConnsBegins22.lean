/- connsBegins_holds: all that the theorem needs, in a few texts (bundle.py; made of the texts that NOTES.md names). -/
import Derived.Below
import Derived.Carry
import Derived.ChangeOld
import Derived.ChangeShapes
import Derived.KernelRfl
import Derived.Laws.Append
import Derived.Laws.Bits64
import Derived.Laws.BitsAllLaws
import Derived.Laws.BitsLemmas
import Derived.Laws.IdiomStrings
import Derived.Laws.Sem
import Derived.Laws.Strings
import Derived.Laws.StructEq
import Derived.Lib.ItoaNum
import Derived.Lib.SlBytesConst
import Derived.LoopIn
import Derived.LoopN
import Derived.LoopNIn
import Derived.MapKept
import Derived.Maps.AppendAt
import Derived.OpenShut
import Derived.Orders
import Derived.OwnWalkIn
import Derived.ProofKit
import Derived.RangeFuncGives
import Derived.RangeFuncSeq
import Derived.RegionIn
import Derived.Shelf.Abstract
import Derived.Shelf.Lay
import Derived.Shelf.SlIter.Collect
import Derived.Shelf.Small.Bits
import Derived.ShutString
import Derived.SizedLaws
import Derived.Sort.KeysCollected
import Derived.Sort.MapsRangeIn
import Derived.TacticsInMore
import Derived.Test.YtjapglfpjhljpaaGreatChecked
import Derived.Test.YtjapglfpjhljpaaGreatRows
import Derived.WalkKit
import Derived.WideLaws
import Derived.WideShapes
import Derived.Test.YtjapglfpjhljpaaGreatBConnsBegins1
import Derived.Test.YtjapglfpjhljpaaGreatBConnsBegins2
import Derived.Test.YtjapglfpjhljpaaGreatBConnsBegins3
import Derived.Test.YtjapglfpjhljpaaGreatBConnsBegins4
import Derived.Test.YtjapglfpjhljpaaGreatBConnsBegins5
import Derived.Test.YtjapglfpjhljpaaGreatBConnsBegins6
import Derived.Test.YtjapglfpjhljpaaGreatBConnsBegins7
import Derived.Test.YtjapglfpjhljpaaGreatBConnsBegins8
import Derived.Test.YtjapglfpjhljpaaGreatBConnsBegins9
import Derived.Test.YtjapglfpjhljpaaGreatBConnsBegins10
import Derived.Test.YtjapglfpjhljpaaGreatBConnsBegins11
import Derived.Test.YtjapglfpjhljpaaGreatBConnsBegins12
import Derived.Test.YtjapglfpjhljpaaGreatBConnsBegins13
import Derived.Test.YtjapglfpjhljpaaGreatBConnsBegins14
import Derived.Test.YtjapglfpjhljpaaGreatBConnsBegins15
import Derived.Test.YtjapglfpjhljpaaGreatBConnsBegins16
import Derived.Test.YtjapglfpjhljpaaGreatBConnsBegins17
import Derived.Test.YtjapglfpjhljpaaGreatBConnsBegins18
import Derived.Test.YtjapglfpjhljpaaGreatBConnsBegins19
import Derived.Test.YtjapglfpjhljpaaGreatBConnsBegins20
import Derived.Test.YtjapglfpjhljpaaGreatBConnsBegins21
section
namespace Go.Proofs.YtjapglfpjhljpaaGreat.connsBegins
open Go.ChangeShapes Go.WideShapes Go.ChangeAt Go.RowKit
set_option linter.unusedVariables false
theorem own : ownKnob Tryz.prog.godebug = none := by kernel_rfl
theorem laidOut : laidOutB Tryz.prog = true := by kernel_rfl
theorem readable : ∀ t ∈ [3, 3], Tryz.prog.readableRec t = true ∧ t < Tryz.prog.types.size := by
  have h : ([3, 3].all fun t => Tryz.prog.readableRec t && decide (t < Tryz.prog.types.size)) = true := by kernel_rfl
  intro t ht
  have := List.all_eq_true.1 h t ht
  rw [Bool.and_eq_true, decide_eq_true_eq] at this
  exact this
set_option maxRecDepth 100000 in
theorem lifted (os : Os) (started : os.Started) (H : Type) (enc : TypeId × Value → H) :
    ReturnsInHanded {} Tryz.checked os 5 .any (Rows.connsBeginsSpec.pre6 enc Tryz.prog Tryz.f5 Rows.connsBeginsRow.domain false) (Rows.connsBeginsSpec.post enc Tryz.prog Tryz.f5 false true false false) := by
  refine returnsInHanded_of_change_sized (C := Tryz.checked) own started (by kernel_rfl) Tryz.func5
    (ChangeSpec.witness6 (enc := enc) (C := Tryz.checked) false ⟨#[], #[.int .i64 0, .int .i64 0], []⟩ 8 (by kernel_rfl) (by kernel_rfl) (by kernel_rfl) (by kernel_rfl)) ?_
  intro W base args ds gs before hval0 hW hcnd hsz0 _
  have hval : ∀ (j : Nat) t v, Tryz.f5.params[j]? = some t → args[j]? = some v → Value.okWide Tryz.prog W .any base t v := hval0
  have hW' := hW
  obtain ⟨p, q, hA0, hV, rfl, hfz, hnd⟩ := hW
  have hA : DataW.TrodAll enc Tryz.prog W 0 (fun _ => true) true Tryz.f5.params.toList args.toList ds p := hA0
  rw [Tryz.params5] at hA hval
  have hA2 := hA
  obtain ⟨v0, vs0, d0, ds0, p0, q0, hargs, rfl, rfl, h0, r0⟩ := trodAll_cons hA
  obtain ⟨v1, vs1, d1, ds1, p1, q1, rfl, rfl, rfl, h1, r1⟩ := trodAll_cons r0
  obtain ⟨rfl, rfl, rfl⟩ := trodAll_nil r1
  obtain rfl : args = #[v0, v1] := by cases args; simp_all
  obtain ⟨rfl, rfl⟩ := trodVars_none hV
  obtain ⟨a0, rfl, w0⟩ := Go.Lift.arg_int Tryz.underlying3 (hval 0 3 v0 rfl rfl) h0
  obtain ⟨a1, rfl, w1⟩ := Go.Lift.arg_int Tryz.underlying3 (hval 1 3 v1 rfl rfl) h1
  clear hA0 hval0
  refine (Go.Lift.law_calls (Pr.ConnsBegins.law (h := W.heap) a0 (Go.Lift.wf_i64 w0) a1 (Go.Lift.wf_i64 w1)) W rfl).mono fun e W' ⟨he, bel⟩ => ?_
  subst he
  exact ⟨_, rfl, _, _, _, [], _, [], hW', trodAll_mk1 (shut_bool Tryz.underlying4 _), Go.Lift.trodAll_below laidOut bel readable hA2 (fun x hx => by simpa using hW'.lt x (by simpa using hx)), rfl, bel.frame _, fun h => by cases h⟩
theorem over : Rows.connsBeginsRow.holds Tryz.pinned (OpenSpec.ofChange Rows.connsBeginsSpec) :=
  OpenClaim.holds_of_wide 5 Tryz.f5 rfl rfl rfl rfl rfl rfl rfl ⟨rfl, rfl, rfl, rfl, rfl⟩ rfl rfl rfl rfl rfl (by kernel_rfl) Tryz.func5 (by kernel_rfl)
    (of_decide_eq_true (by kernel_rfl)) (by unfold Func.isWrapper; first | (rw [if_pos (by decide +kernel)]; kernel_rfl) | (rw [if_neg (by decide +kernel)]; exact ⟨rfl, rfl⟩))
    (fun os started H enc _ => lifted os started H enc)
theorem proved : Rows.ConnsBeginsSaid := over
end Go.Proofs.YtjapglfpjhljpaaGreat.connsBegins
namespace Go.Proofs.YtjapglfpjhljpaaGreat
theorem connsBegins_holds : Rows.ConnsBeginsSaid := connsBegins.proved
end Go.Proofs.YtjapglfpjhljpaaGreat
end
