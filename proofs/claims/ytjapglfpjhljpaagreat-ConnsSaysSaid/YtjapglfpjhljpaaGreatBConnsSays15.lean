/- connsSays_holds: all that the theorem needs, in a few texts (bundle.py; made of the texts that NOTES.md names). -/
import Derived.Below
import Derived.KernelRfl
import Derived.Laws.Append
import Derived.Laws.Bits64
import Derived.Laws.BitsAllLaws
import Derived.Laws.BitsLemmas
import Derived.Laws.IdiomStrings
import Derived.Laws.Sem
import Derived.Laws.Strings
import Derived.Lib.SlBytesConst
import Derived.LoopN
import Derived.MapKept
import Derived.Orders
import Derived.Test.YtjapglfpjhljpaaGreatChecked
import Derived.WideLaws
import Derived.Test.YtjapglfpjhljpaaGreatBConnsSays1
import Derived.Test.YtjapglfpjhljpaaGreatBConnsSays2
import Derived.Test.YtjapglfpjhljpaaGreatBConnsSays3
import Derived.Test.YtjapglfpjhljpaaGreatBConnsSays4
import Derived.Test.YtjapglfpjhljpaaGreatBConnsSays7
import Derived.Test.YtjapglfpjhljpaaGreatBConnsSays8
import Derived.Test.YtjapglfpjhljpaaGreatBConnsSays9
import Derived.Test.YtjapglfpjhljpaaGreatBConnsSays11
section
set_option linter.unusedVariables false
namespace Go.Proofs.YtjapglfpjhljpaaGreat.Pr
open Go Go.Lift Go.Proofs
section
variable {K:KT}{L R:List Asr}{h:Heap}
theorem bytesConst {bs:Oct}{n:Nat} (hn:bs.length=n) (S:St L h) (hK:∀ h',St (Ow 1 (some (top h),n,n) (u8s bs)::L) h'→K (.slice (some (top h)) n n) h') :
    SemH P (Go.convert T.sl_uint8 T.sl_uint8 (.slice (some (top h)) n n)) K (al h (u8s bs).toArray T.uint8):=by
  intro w hw
  have ew:w=({ w with heap:=h }:World).alloc (.cells (u8s bs).toArray T.uint8):=by
    have:w.heap=h.push (.cells (u8s bs).toArray T.uint8):=hw
    obtain ⟨wh,w2,w3,w4⟩:=w
    simp only at this
    subst this
    rfl
  have r:=Go.Lib.run_convert_bytes_const (P:=P) ({ w with heap:=h }:World) T.sl_uint8 T.uint8 (u8s bs).toArray n n u_sl u_u8
  rw [← ew] at r
  refine ⟨_,_,r,?_,⟨rfl,rfl,rfl⟩⟩
  have hsz:(u8s bs).toArray.size=(u8s bs).length:=rfl
  rw [hsz]
  refine hK _ (S.owNew (sz:=1) (p:=some (top h)) (l:=n) (c:=n) (vs:=u8s bs) ⟨by rw [u8s_length]; omega,Nat.le_refl _,[],by simp,?_⟩ (Fr.top (Nat.le_refl _)) (Keeps.push _ _ _))
  rw [List.append_nil]
  exact Mem.newF h (u8s bs) T.uint8 ((u8s bs).length+1)
end
end Go.Proofs.YtjapglfpjhljpaaGreat.Pr
end
