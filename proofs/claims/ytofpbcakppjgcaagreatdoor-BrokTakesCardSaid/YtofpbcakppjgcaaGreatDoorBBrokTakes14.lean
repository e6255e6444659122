/- brokTakes_holds: all that the theorem needs, in a few texts (bundle.py; made of the texts that NOTES.md names). -/
import Derived.Below
import Derived.KernelRfl
import Derived.Laws.Append
import Derived.Laws.Bits64
import Derived.Laws.BitsAllLaws
import Derived.Laws.BitsLemmas
import Derived.Laws.IdiomStrings
import Derived.Laws.Sem
import Derived.Laws.Strings
import Derived.LoopN
import Derived.MapKept
import Derived.Orders
import Derived.Test.YtofpbcakppjgcaaGreatDoorChecked
import Derived.WideLaws
import Derived.Test.YtofpbcakppjgcaaGreatDoorBBrokTakes2
import Derived.Test.YtofpbcakppjgcaaGreatDoorBBrokTakes3
import Derived.Test.YtofpbcakppjgcaaGreatDoorBBrokTakes4
import Derived.Test.YtofpbcakppjgcaaGreatDoorBBrokTakes5
import Derived.Test.YtofpbcakppjgcaaGreatDoorBBrokTakes8
import Derived.Test.YtofpbcakppjgcaaGreatDoorBBrokTakes9
import Derived.Test.YtofpbcakppjgcaaGreatDoorBBrokTakes10
section
set_option linter.unusedVariables false
namespace Go.Proofs.YtofpbcakppjgcaaGreatDoor.Pr
open Go Go.Lift Go.Proofs
section
variable {K:KT}{L:List Asr}{h:Heap}
theorem isl8 {s:SV}{bs:Oct} (S:St L h) [m:In (fun b=>Im 1 s (u8s b)) L bs]:Sl 1 h s.1 s.2.1 (u8s bs)∧s.2.1≤s.2.2:=S.iml m.mem
theorem cloneS {s:SV}{bs:Oct} (S:St L h) (sl:Sl 1 h s.1 s.2.1 (u8s bs)) (hb:bs.length<2199023255552)
    (hK:∀ p l c h',St (Ow 1 (p,l,c) (u8s bs)::L) h'→K (.slice p l c) h'):CallsH P F.qcv [.slice s.1 s.2.1 s.2.2] K h :=
  Clone.spec sl hb fun p l c h' o f k=>hK p l c h' (S.owNew o f k)
theorem intS {s:SV}{n v:Nat}{bs:Oct} (S:St L h) (sl:Sl 1 h s.1 s.2.1 (u8s bs)) (hb:bs.length<1099511627776) (h1:1≤n) (h8:n≤8)
    (hK:∀ p l c h',St (Ow 1 (p,l,c) (u8s (bs++octsN n v))::L) h'→K (.slice p l c) h'):CallsH P F.qdj [.slice s.1 s.2.1 s.2.2,.int .i64 n,.int .u64 v] K h :=
  Int.spec sl hb h1 h8 fun p l c h' o f k=>hK p l c h' (S.owNew o f k)
theorem shortS {s:SV}{bs cs:Oct} (S:St L h) (sl:Sl 1 h s.1 s.2.1 (u8s bs)) (hb:bs.length<1099511627776)
    (hK:∀ p l c h',St (Ow 1 (p,l,c) (u8s (if cs.length > 255 then bs else bs++octsN 1 cs.length++cs))::L) h'→K (.tuple #[.slice p l c,.bool (decide (cs.length≤255))]) h') :
    CallsH P F.qdx [.slice s.1 s.2.1 s.2.2,.string (mkS cs)] K h :=
  Short.spec sl hb fun p l c h' o f k=>hK p l c h' (S.owNew o f k)
theorem appS {s:SV}{n:Nat}{bs ws:Oct}{xv:Value}{R:List Asr} (S0:St L h) [Has (fun b=>Ow 1 s (u8s b)) L bs R] (src:Src P 1 h xv n (u8s ws)) (hl:bs.length+ws.length<4398046511104)
    (hK:∀ p l c h',St (Ow 1 (p,l,c) (u8s (bs++ws))::R) h'→K (.slice p l c) h'):SemH P (Builtin.append_ #[T.sl_uint8,T.sl_uint8] T.sl_uint8 #[.slice s.1 s.2.1 s.2.2,xv]) K h:=by
  have S:St (Ow 1 s (u8s bs)::R) h:=S0.get (fun b=>Ow 1 s (u8s b))
  have h1:=S.ow.1
  have h2:=src.1
  simp only [u8s_length,Nat.mul_one] at h1 h2
  refine S.app sl_uint8 rfl u_sl (fun k e=>by cases e) src (by omega) (by omega) fun p c h' S'=>hK p _ c h' ?_
  have e:u8s (bs++ws)=u8s bs++u8s ws:=by simp [u8s]
  rw [e]
  exact S'
end
end Go.Proofs.YtofpbcakppjgcaaGreatDoor.Pr
end
