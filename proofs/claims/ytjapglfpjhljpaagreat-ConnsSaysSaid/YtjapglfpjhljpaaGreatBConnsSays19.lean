/- connsSays_holds: all that the theorem needs, in a few texts (bundle.py; made of the texts that NOTES.md names). -/
import Derived.Below
import Derived.Carry
import Derived.ChangeOld
import Derived.ChangeShapes
import Derived.KernelRfl
import Derived.Laws.Append
import Derived.Laws.Bits64
import Derived.Laws.BitsAllLaws
import Derived.Laws.BitsLemmas
import Derived.Laws.IdiomStrings
import Derived.Laws.Sem
import Derived.Laws.Strings
import Derived.LoopN
import Derived.MapKept
import Derived.OpenShut
import Derived.Orders
import Derived.Test.YtjapglfpjhljpaaGreatChecked
import Derived.WideLaws
import Derived.WideShapes
import Derived.Test.YtjapglfpjhljpaaGreatBConnsSays1
import Derived.Test.YtjapglfpjhljpaaGreatBConnsSays2
import Derived.Test.YtjapglfpjhljpaaGreatBConnsSays3
import Derived.Test.YtjapglfpjhljpaaGreatBConnsSays7
import Derived.Test.YtjapglfpjhljpaaGreatBConnsSays8
import Derived.Test.YtjapglfpjhljpaaGreatBConnsSays17
section
set_option linter.unusedVariables false
set_option linter.unusedSimpArgs false
namespace Go.Proofs.YtjapglfpjhljpaaGreat.Ar
open Go Go.Lift Go.Proofs
abbrev X_Call24:Type:=Int × Int × Int × Int × List UInt8 × List UInt8 × List UInt8 × (SV × List UInt8)
abbrev c_Call24 (x:X_Call24):List Value:=[.int .i64 x.1,.int .i64 x.2.1,.int .i64 x.2.2.1,.int .i64 x.2.2.2.1,.string (mkS x.2.2.2.2.1),.string (mkS x.2.2.2.2.2.1),.string (mkS x.2.2.2.2.2.2.1),x.2.2.2.2.2.2.2.1.v]
abbrev q_Call24 (W:World) (x:X_Call24):Prop:=(Lit.int .i64 x.1).wf=true∧(Lit.int .i64 x.2.1).wf=true∧(Lit.int .i64 x.2.2.1).wf=true∧(Lit.int .i64 x.2.2.2.1).wf=true∧x.2.2.2.2.1.length≤maxLen∧x.2.2.2.2.2.1.length≤maxLen∧x.2.2.2.2.2.2.1.length≤maxLen∧(Sl 1 W.heap x.2.2.2.2.2.2.2.1.1 x.2.2.2.2.2.2.2.1.2.1 (u8s x.2.2.2.2.2.2.2.2)∧x.2.2.2.2.2.2.2.1.2.1≤x.2.2.2.2.2.2.2.1.2.2∧x.2.2.2.2.2.2.2.1.2.2≤maxLen)
theorem n_Call24:Go.Program.cellsOf Tryz.prog 53=8:=by kernel_rfl
theorem r_Call24 {H:Type}{enc:TypeId × Value→H}{W:World}{m:Nat}{cs:List Value} (h:Rd enc Tryz.prog W m 53 cs):∃ x:X_Call24,cs=c_Call24 x∧q_Call24 W x:=by
  obtain ⟨m2,e0,hl,hf⟩:=rd_struct Tryz.underlying53 h
  rw [n_Call24] at hl
  have f0:=hf _ (List.mem_cons_self ..)
  have f1:=hf _ (List.mem_cons_of_mem _ (List.mem_cons_self ..))
  have f2:=hf _ (List.mem_cons_of_mem _ (List.mem_cons_of_mem _ (List.mem_cons_self ..)))
  have f3:=hf _ (List.mem_cons_of_mem _ (List.mem_cons_of_mem _ (List.mem_cons_of_mem _ (List.mem_cons_self ..))))
  have f4:=hf _ (List.mem_cons_of_mem _ (List.mem_cons_of_mem _ (List.mem_cons_of_mem _ (List.mem_cons_of_mem _ (List.mem_cons_self ..)))))
  have f5:=hf _ (List.mem_cons_of_mem _ (List.mem_cons_of_mem _ (List.mem_cons_of_mem _ (List.mem_cons_of_mem _ (List.mem_cons_of_mem _ (List.mem_cons_self ..))))))
  have f6:=hf _ (List.mem_cons_of_mem _ (List.mem_cons_of_mem _ (List.mem_cons_of_mem _ (List.mem_cons_of_mem _ (List.mem_cons_of_mem _ (List.mem_cons_of_mem _ (List.mem_cons_self ..)))))))
  have f7:=hf _ (List.mem_cons_of_mem _ (List.mem_cons_of_mem _ (List.mem_cons_of_mem _ (List.mem_cons_of_mem _ (List.mem_cons_of_mem _ (List.mem_cons_of_mem _ (List.mem_cons_of_mem _ (List.mem_cons_self ..))))))))
  clear hf h
  rcases cs with _ | ⟨b0,_ | ⟨b1,_ | ⟨b2,_ | ⟨b3,_ | ⟨b4,_ | ⟨b5,_ | ⟨b6,_ | ⟨b7,_ | ⟨b8,t⟩⟩⟩⟩⟩⟩⟩⟩⟩
  · simp at hl
  · simp at hl
  · simp at hl
  · simp at hl
  · simp at hl
  · simp at hl
  · simp at hl
  · simp at hl
  · rw [show Go.Program.cellsOf Tryz.prog _=1 from by kernel_rfl] at f0
    obtain ⟨x0,y0,w0⟩:=rd_int Tryz.underlying3 f0
    simp only [List.drop,List.take,List.cons.injEq,and_true,List.drop_zero,List.drop_succ_cons,List.take_succ_cons,List.take_zero] at y0
    subst y0
    rw [show Go.Program.cellsOf Tryz.prog _=1 from by kernel_rfl] at f1
    obtain ⟨x1,y1,w1⟩:=rd_int Tryz.underlying3 f1
    simp only [List.drop,List.take,List.cons.injEq,and_true,List.drop_zero,List.drop_succ_cons,List.take_succ_cons,List.take_zero] at y1
    subst y1
    rw [show Go.Program.cellsOf Tryz.prog _=1 from by kernel_rfl] at f2
    obtain ⟨x2,y2,w2⟩:=rd_int Tryz.underlying3 f2
    simp only [List.drop,List.take,List.cons.injEq,and_true,List.drop_zero,List.drop_succ_cons,List.take_succ_cons,List.take_zero] at y2
    subst y2
    rw [show Go.Program.cellsOf Tryz.prog _=1 from by kernel_rfl] at f3
    obtain ⟨x3,y3,w3⟩:=rd_int Tryz.underlying3 f3
    simp only [List.drop,List.take,List.cons.injEq,and_true,List.drop_zero,List.drop_succ_cons,List.take_succ_cons,List.take_zero] at y3
    subst y3
    rw [show Go.Program.cellsOf Tryz.prog _=1 from by kernel_rfl] at f4
    obtain ⟨x4,y4,w4⟩:=rd_str Tryz.underlying9 f4
    simp only [List.drop,List.take,List.cons.injEq,and_true,List.drop_zero,List.drop_succ_cons,List.take_succ_cons,List.take_zero] at y4
    subst y4
    rw [show Go.Program.cellsOf Tryz.prog _=1 from by kernel_rfl] at f5
    obtain ⟨x5,y5,w5⟩:=rd_str Tryz.underlying9 f5
    simp only [List.drop,List.take,List.cons.injEq,and_true,List.drop_zero,List.drop_succ_cons,List.take_succ_cons,List.take_zero] at y5
    subst y5
    rw [show Go.Program.cellsOf Tryz.prog _=1 from by kernel_rfl] at f6
    obtain ⟨x6,y6,w6⟩:=rd_str Tryz.underlying9 f6
    simp only [List.drop,List.take,List.cons.injEq,and_true,List.drop_zero,List.drop_succ_cons,List.take_succ_cons,List.take_zero] at y6
    subst y6
    rw [show Go.Program.cellsOf Tryz.prog _=1 from by kernel_rfl] at f7
    obtain ⟨x7,y7,w7⟩:=rd_u8s Tryz.underlying23 (by kernel_rfl) (by kernel_rfl) f7
    simp only [List.drop,List.take,List.cons.injEq,and_true,List.drop_zero,List.drop_succ_cons,List.take_succ_cons,List.take_zero] at y7
    subst y7
    exact ⟨(x0,x1,x2,x3,x4,x5,x6,x7),rfl,⟨w0,w1,w2,w3,w4,w5,w6,w7⟩⟩
  · simp at hl
end Go.Proofs.YtjapglfpjhljpaaGreat.Ar
end
