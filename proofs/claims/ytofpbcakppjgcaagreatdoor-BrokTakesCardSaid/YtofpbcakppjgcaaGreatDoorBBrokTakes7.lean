/- brokTakes_holds: all that the theorem needs, in a few texts (bundle.py; made of the texts that NOTES.md names). -/
import Derived.Below
import Derived.KernelRfl
import Derived.Laws.Append
import Derived.Laws.BitsLemmas
import Derived.Laws.Sem
import Derived.Laws.Strings
import Derived.LoopN
import Derived.Orders
import Derived.Test.YtofpbcakppjgcaaGreatDoorChecked
import Derived.Test.YtofpbcakppjgcaaGreatDoorBBrokTakes2
import Derived.Test.YtofpbcakppjgcaaGreatDoorBBrokTakes3
import Derived.Test.YtofpbcakppjgcaaGreatDoorBBrokTakes4
import Derived.Test.YtofpbcakppjgcaaGreatDoorBBrokTakes5
import Derived.Test.YtofpbcakppjgcaaGreatDoorBBrokTakes6
section
set_option linter.unusedVariables false
namespace Go.Proofs.YtofpbcakppjgcaaGreatDoor.Pr
open Go Go.Lift Go.Proofs
theorem prefixS {K:KT}{h:Heap}{s t:List UInt8} (hK:K (.bool (decide (s.take t.length=t))) h):CallsH P F.qdd [.string (mkS s),.string (mkS t)] K h:=by
  refine qdd.ok ?_
  unfold qdd.p0
  refine qcb.ok ?_
  unfold qcb.p0
  by_cases hl:t.length≤s.length
  · refine ifT (by simp; omega) ⟨⟨by omega,by omega⟩,⟨_,rfl,?_⟩⟩
    rw [Int.toNat_natCast]
    rw [show (s.take t.length==t)=decide (s.take t.length=t) by rw [Bool.eq_iff_iff]; simp]
    exact hK
  · refine ifF (by simp; omega) ⟨_,rfl,?_⟩
    rw [show decide (s.take t.length=t)=false by
      rw [decide_eq_false_iff_not]; intro e; have:=congrArg List.length e; simp at this; omega] at hK
    exact hK
end Go.Proofs.YtofpbcakppjgcaaGreatDoor.Pr
end
