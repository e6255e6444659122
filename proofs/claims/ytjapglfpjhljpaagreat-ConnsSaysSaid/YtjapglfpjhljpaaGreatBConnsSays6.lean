/- connsSays_holds: all that the theorem needs, in a few texts (bundle.py; made of the texts that NOTES.md names). -/
import Derived.Below
import Derived.KernelRfl
import Derived.Laws.Append
import Derived.Laws.BitsLemmas
import Derived.Laws.Sem
import Derived.Laws.Strings
import Derived.LoopN
import Derived.Orders
import Derived.Test.YtjapglfpjhljpaaGreatChecked
import Derived.Test.YtjapglfpjhljpaaGreatBConnsSays1
import Derived.Test.YtjapglfpjhljpaaGreatBConnsSays2
import Derived.Test.YtjapglfpjhljpaaGreatBConnsSays3
import Derived.Test.YtjapglfpjhljpaaGreatBConnsSays4
section
set_option linter.unusedVariables false
namespace Go.Proofs.YtjapglfpjhljpaaGreat.Pr
open Go Go.Lift Go.Proofs
theorem prefixS {K:KT}{h:Heap}{s t:List UInt8} (hK:K (.bool (decide (s.take t.length=t))) h):CallsH P F.qcq [.string (mkS s),.string (mkS t)] K h:=by
  refine qcq.ok ?_
  unfold qcq.p0
  refine qbr.ok ?_
  unfold qbr.p0
  by_cases hl:t.length≤s.length
  · refine ifT (by simp; omega) ⟨⟨by omega,by omega⟩,⟨_,rfl,?_⟩⟩
    rw [Int.toNat_natCast]
    rw [show (s.take t.length==t)=decide (s.take t.length=t) by rw [Bool.eq_iff_iff]; simp]
    exact hK
  · refine ifF (by simp; omega) ⟨_,rfl,?_⟩
    rw [show decide (s.take t.length=t)=false by
      rw [decide_eq_false_iff_not]; intro e; have:=congrArg List.length e; simp at this; omega] at hK
    exact hK
end Go.Proofs.YtjapglfpjhljpaaGreat.Pr
end
