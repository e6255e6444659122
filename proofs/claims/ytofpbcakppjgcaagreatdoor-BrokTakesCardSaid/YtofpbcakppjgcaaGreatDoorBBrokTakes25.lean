/- brokTakes_holds: all that the theorem needs, in a few texts (bundle.py; made of the texts that NOTES.md names). -/
import Derived.Below
import Derived.KernelRfl
import Derived.Laws.Append
import Derived.Laws.Bits64
import Derived.Laws.BitsAllLaws
import Derived.Laws.BitsLemmas
import Derived.Laws.IdiomStrings
import Derived.Laws.Sem
import Derived.Laws.Strings
import Derived.Laws.StructEq
import Derived.Lib.ItoaNum
import Derived.LoopIn
import Derived.LoopN
import Derived.LoopNIn
import Derived.MapKept
import Derived.Maps.AppendAt
import Derived.Maps.RangeRun
import Derived.Orders
import Derived.OwnWalkIn
import Derived.RangeFuncGives
import Derived.RangeFuncSeq
import Derived.RegionIn
import Derived.Shelf.Abstract
import Derived.Shelf.Lay
import Derived.Shelf.SlIter.Collect
import Derived.Shelf.Small.Bits
import Derived.Sort.KeysCollected
import Derived.Sort.MapsRangeIn
import Derived.TacticsInMore
import Derived.Test.YtofpbcakppjgcaaGreatDoorChecked
import Derived.WalkKit
import Derived.WideLaws
import Derived.Test.YtofpbcakppjgcaaGreatDoorBBrokTakes2
import Derived.Test.YtofpbcakppjgcaaGreatDoorBBrokTakes3
import Derived.Test.YtofpbcakppjgcaaGreatDoorBBrokTakes4
import Derived.Test.YtofpbcakppjgcaaGreatDoorBBrokTakes5
import Derived.Test.YtofpbcakppjgcaaGreatDoorBBrokTakes8
import Derived.Test.YtofpbcakppjgcaaGreatDoorBBrokTakes9
import Derived.Test.YtofpbcakppjgcaaGreatDoorBBrokTakes12
import Derived.Test.YtofpbcakppjgcaaGreatDoorBBrokTakes13
import Derived.Test.YtofpbcakppjgcaaGreatDoorBBrokTakes15
import Derived.Test.YtofpbcakppjgcaaGreatDoorBBrokTakes21
import Derived.Test.YtofpbcakppjgcaaGreatDoorBBrokTakes23
section
set_option linter.unusedVariables false
set_option linter.unusedSimpArgs false
namespace Go.Proofs.YtofpbcakppjgcaaGreatDoor.Pr
open Go Go.Lift Go.Proofs
theorem ent_fields : P.fieldsOf T.api_Entry = #[⟨"ID", T.uint64, 0, false, "", "", 0⟩, ⟨"Again", T.bool, 1, false, "", "", 8⟩] := by kernel_rfl
theorem ent_guard:P.eqGuardType P.depth T.api_Entry=false:=by kernel_rfl
theorem ent_und:P.underlying T.api_Entry=some (.struct (P.fieldsOf T.api_Entry)):=by kernel_rfl
theorem ent_held:P.stoodInHeld T.api_Entry=false:=by kernel_rfl
theorem u_u64:P.underlying T.uint64=some (.int .u64):=by kernel_rfl
theorem u_bool:P.underlying T.bool=some .bool:=by kernel_rfl
theorem eqFields_step {d : Nat} {xs ys : Array Value} {f : Field} {fs : List Field} {u v : Value} {c : Bool} {w : World} (hn : f.name ≠ "_") (h1 : (part f.type xs f.offset).run P w = .ok u w) (h2 : (part f.type ys f.offset).run P w = .ok v w)
    (h3:(Op.equalIn d f.type u v).run P w=.ok c w):(Op.eqFields d xs ys (f::fs)).run P w=if c=true then (Op.eqFields d xs ys fs).run P w else .ok false w:=by
  conv=>lhs; unfold Op.eqFields
  rw [if_pos hn,Sem.run_bind,h1,Result.andThen_ok,Sem.run_bind,h2,Result.andThen_ok,Sem.run_bind,h3,Result.andThen_ok]
  cases c <;> simp
theorem entFields (a b:Int × Bool) (w:World):(Op.eqFields 9999 (List.toArray (ecell a)) (List.toArray (ecell b)) (P.fieldsOf T.api_Entry).toList).run P w=.ok (decide (a=b)) w:=by
  have p0:∀ (z:Int × Bool) (w:World),(part T.uint64 (List.toArray (ecell z)) 0).run P w=.ok (.int .u64 z.1) w:=fun z w=>run_part_scalar (by kernel_rfl) rfl
  have p1:∀ (z:Int × Bool) (w:World),(part T.bool (List.toArray (ecell z)) 1).run P w=.ok (.bool z.2) w:=fun z w=>run_part_scalar (by kernel_rfl) rfl
  have i0:=run_equalIn_int (P:=P) w 9998 T.uint64 .u64 .u64 a.1 b.1 u_u64
  have i1:=run_equalIn_bool (P:=P) w 9998 T.bool a.2 b.2 u_bool
  rw [ent_fields]
  have s0 := fun fs => eqFields_step (w := w) (f := ⟨"ID", T.uint64, 0, false, "", "", 0⟩) (fs := fs) (by decide) (p0 a w) (p0 b w) i0
  have s1 := fun fs => eqFields_step (w := w) (f := ⟨"Again", T.bool, 1, false, "", "", 8⟩) (fs := fs) (by decide) (p1 a w) (p1 b w) i1
  have s3:(Op.eqFields 9999 (List.toArray (ecell a)) (List.toArray (ecell b)) []).run P w=.ok true w:=by simp [Op.eqFields]
  show (Op.eqFields 9999 _ _ [⟨"ID", T.uint64, 0, false, "", "", 0⟩, ⟨"Again", T.bool, 1, false, "", "", 8⟩]).run P w = _
  rw [s0,s1,s3]
  obtain ⟨a0,a1⟩:=a
  obtain ⟨b0,b1⟩:=b
  by_cases h0:a0=b0 <;> by_cases h1:a1=b1 <;> simp [h0,h1]
section
variable {K:KT}{h:Heap}
theorem entNeqS {a b:Int × Bool} (x y:Operand) (hK:K (.bool (decide (a≠b))) h):SemH P (eqS .neq T.api_Entry x y (.agg (List.toArray (ecell a))) (.agg (List.toArray (ecell b)))) K h:=by
  intro w hw
  refine ⟨.bool (decide (a≠b)),w,?_,by rw [hw]; exact hK,Rest.refl w⟩
  simp only [eqS,Sem.run_bind,run_eqGuard_agg _ _ _ _ _ _ _ ent_guard,Result.andThen_ok,run_neq_struct,run_equalIn_agg _ _ _ _ _ ent_und ent_held]
  rw [entFields]
  simp
end
end Go.Proofs.YtofpbcakppjgcaaGreatDoor.Pr
end
