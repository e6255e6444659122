/- routPlays_holds: all that the theorem needs, in a few texts (bundle.py; made of the texts that NOTES.md names). -/
import Derived.Below
import Derived.Laws.Append
import Derived.Laws.Bits64
import Derived.Laws.BitsAllLaws
import Derived.Laws.BitsLemmas
import Derived.Laws.IdiomStrings
import Derived.Laws.Sem
import Derived.Laws.Strings
import Derived.LoopN
import Derived.MapKept
import Derived.Maps.RangeRun
import Derived.Orders
import Derived.WideLaws
import Derived.Test.YtechpnlbkkfplaaGreatDoorBRoutPlays2
import Derived.Test.YtechpnlbkkfplaaGreatDoorBRoutPlays3
import Derived.Test.YtechpnlbkkfplaaGreatDoorBRoutPlays4
import Derived.Test.YtechpnlbkkfplaaGreatDoorBRoutPlays7
import Derived.Test.YtechpnlbkkfplaaGreatDoorBRoutPlays8
section
set_option linter.unusedVariables false
namespace Go.Lift
section
variable {κ ν : Type} [DecidableEq κ] {kk : κ → Value} {vv : ν → Value} {L : List Asr} {h : Heap}
theorem St.clone {P : Program} {f : FuncId} (hb : (match P.funcs[f]? with | some fn => fn.body.isSome && fn.name != "runtime.NumGoroutine" | none => false) = true)
    (hc : ∀ (b : Nat) (es : Array MapEntry) (clock : Nat) (w : World), w.heap[b]? = some (.map es clock) → Calls P f #[.map (some b)] w fun e w' => e = .returned (.map (some w.heap.size)) ∧ w' = w.alloc (.map es clock))
    {m : Nat} {kvs : List (κ × ν)} (S : St (Mq kk vv m kvs :: L) h) {K : KT} (hK : ∀ h' m', St (Mq kk vv m' kvs :: Mq kk vv m kvs :: L) h' → K (.map (some m')) h') : CallsH P f [.map (some m)] K h := by
  refine ⟨hb, fun w hw => ?_⟩
  subst hw
  obtain ⟨es, clock, h1, h2, h3, h4, h5⟩ := S.mp
  refine (hc m es clock w h1).mono ?_
  rintro e w' ⟨rfl, rfl⟩
  refine ⟨_, rfl, ?_, ⟨rfl, rfl, rfl⟩⟩
  have e0 : (w.alloc (.map es clock)).heap = w.heap.push (.map es clock) := rfl
  rw [e0]
  refine hK _ w.heap.size (S.own_new (Keeps.push _ w.heap _) (fun b hb => by rw [hb]; simp) (Mq.lc kk vv _ _) ⟨es, clock, by simp, h2, h3, h4, h5⟩)
end
end Go.Lift
end
