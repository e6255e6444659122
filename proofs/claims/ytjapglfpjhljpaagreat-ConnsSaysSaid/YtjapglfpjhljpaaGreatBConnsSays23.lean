/- connsSays_holds: all that the theorem needs, in a few texts (bundle.py; made of the texts that NOTES.md names). -/
import Derived.Below
import Derived.Carry
import Derived.ChangeOld
import Derived.ChangeShapes
import Derived.KernelRfl
import Derived.Laws.Append
import Derived.Laws.Bits64
import Derived.Laws.BitsAllLaws
import Derived.Laws.BitsLemmas
import Derived.Laws.IdiomStrings
import Derived.Laws.Sem
import Derived.Laws.Strings
import Derived.Laws.StructEq
import Derived.Lib.ItoaNum
import Derived.Lib.SlBytesConst
import Derived.LoopIn
import Derived.LoopN
import Derived.LoopNIn
import Derived.MapKept
import Derived.Maps.AppendAt
import Derived.OpenShut
import Derived.Orders
import Derived.OwnWalkIn
import Derived.ProofKit
import Derived.RangeFuncGives
import Derived.RangeFuncSeq
import Derived.RegionIn
import Derived.Shelf.Abstract
import Derived.Shelf.Lay
import Derived.Shelf.SlIter.Collect
import Derived.Shelf.Small.Bits
import Derived.ShutString
import Derived.SizedLaws
import Derived.Sort.KeysCollected
import Derived.Sort.MapsRangeIn
import Derived.TacticsInMore
import Derived.Test.YtjapglfpjhljpaaGreatChecked
import Derived.Test.YtjapglfpjhljpaaGreatRows
import Derived.WalkKit
import Derived.WideLaws
import Derived.WideShapes
import Derived.Test.YtjapglfpjhljpaaGreatBConnsSays1
import Derived.Test.YtjapglfpjhljpaaGreatBConnsSays2
import Derived.Test.YtjapglfpjhljpaaGreatBConnsSays3
import Derived.Test.YtjapglfpjhljpaaGreatBConnsSays4
import Derived.Test.YtjapglfpjhljpaaGreatBConnsSays5
import Derived.Test.YtjapglfpjhljpaaGreatBConnsSays6
import Derived.Test.YtjapglfpjhljpaaGreatBConnsSays7
import Derived.Test.YtjapglfpjhljpaaGreatBConnsSays8
import Derived.Test.YtjapglfpjhljpaaGreatBConnsSays9
import Derived.Test.YtjapglfpjhljpaaGreatBConnsSays10
import Derived.Test.YtjapglfpjhljpaaGreatBConnsSays11
import Derived.Test.YtjapglfpjhljpaaGreatBConnsSays12
import Derived.Test.YtjapglfpjhljpaaGreatBConnsSays13
import Derived.Test.YtjapglfpjhljpaaGreatBConnsSays14
import Derived.Test.YtjapglfpjhljpaaGreatBConnsSays15
import Derived.Test.YtjapglfpjhljpaaGreatBConnsSays16
import Derived.Test.YtjapglfpjhljpaaGreatBConnsSays17
import Derived.Test.YtjapglfpjhljpaaGreatBConnsSays18
import Derived.Test.YtjapglfpjhljpaaGreatBConnsSays19
import Derived.Test.YtjapglfpjhljpaaGreatBConnsSays20
import Derived.Test.YtjapglfpjhljpaaGreatBConnsSays21
import Derived.Test.YtjapglfpjhljpaaGreatBConnsSays22
section
namespace Go.Proofs.YtjapglfpjhljpaaGreat.connsSays
open Go.ChangeShapes Go.WideShapes Go.ChangeAt Go.RowKit
set_option linter.unusedVariables false
theorem own:ownKnob Tryz.prog.godebug=none:=by kernel_rfl
theorem laidOut:laidOutB Tryz.prog=true:=by kernel_rfl
theorem readable:∀ t∈[22,23,4,3],Tryz.prog.readableRec t=true∧t<Tryz.prog.types.size:=by
  have h:([22,23,4,3].all fun t=>Tryz.prog.readableRec t && decide (t<Tryz.prog.types.size))=true:=by kernel_rfl
  intro t ht
  have:=List.all_eq_true.1 h t ht
  rw [Bool.and_eq_true,decide_eq_true_eq] at this
  exact this
set_option maxRecDepth 100000 in
theorem lifted (os:Os) (started:os.Started) (H:Type) (enc:TypeId × Value→H) :
    ReturnsInHanded {} Tryz.checked os 6 .any (Rows.connsSaysSpec.pre6 enc Tryz.prog Tryz.f6 Rows.connsSaysRow.domain false) (Rows.connsSaysSpec.post enc Tryz.prog Tryz.f6 false true false false):=by
  refine returnsInHanded_of_change_sized (C:=Tryz.checked) own started (by kernel_rfl) Tryz.func6
    (ChangeSpec.witness6 (enc:=enc) (C:=Tryz.checked) false ⟨#[],#[.slice none 0 0,.slice none 0 0,.bool false,.int .i64 0],[]⟩ 8 (by kernel_rfl) (by kernel_rfl) (by kernel_rfl) (by kernel_rfl)) ?_
  intro W base args ds gs before hval0 hW hcnd hsz0 _
  have hval:∀ (j:Nat) t v,Tryz.f6.params[j]? = some t→args[j]? = some v→Value.okWide Tryz.prog W .any base t v:=hval0
  have hW':=hW
  obtain ⟨p,q,hA0,hV,rfl,hfz,hnd⟩:=hW
  have hA:DataW.TrodAll enc Tryz.prog W 0 (fun _=>true) true Tryz.f6.params.toList args.toList ds p:=hA0
  rw [Tryz.params6] at hA hval
  have hA2:=hA
  obtain ⟨v0,vs0,d0,ds0,p0,q0,hargs,rfl,rfl,h0,r0⟩:=trodAll_cons hA
  obtain ⟨v1,vs1,d1,ds1,p1,q1,rfl,rfl,rfl,h1,r1⟩:=trodAll_cons r0
  obtain ⟨v2,vs2,d2,ds2,p2,q2,rfl,rfl,rfl,h2,r2⟩:=trodAll_cons r1
  obtain ⟨v3,vs3,d3,ds3,p3,q3,rfl,rfl,rfl,h3,r3⟩:=trodAll_cons r2
  obtain ⟨rfl,rfl,rfl⟩:=trodAll_nil r3
  obtain rfl:args=#[v0,v1,v2,v3]:=by cases args; simp_all
  obtain ⟨rfl,rfl⟩:=trodVars_none hV
  obtain ⟨s0,xs0,rfl,sl0,le0,mx0,w0⟩:=Go.Lift.arg_slN (C:=Ar.c_Call24) (Q:=Ar.q_Call24 W) Tryz.underlying22 Ar.n_Call24 (fun m cs h=>Ar.r_Call24 h) (hval 0 22 v0 rfl rfl) h0
  obtain ⟨s1,xs1,rfl,sl1,le1,mx1,w1⟩:=Go.Lift.arg_sl1 (C:=fun n:Int=>Value.int .u8 n) (Q:=fun n=>(Lit.int .u8 n).wf=true) Tryz.underlying23 (by kernel_rfl) (fun m cs h=>Go.Lift.rd_int Tryz.underlying5 h) (hval 1 23 v1 rfl rfl) h1
  obtain ⟨a2,rfl⟩:=Go.Lift.arg_bool Tryz.underlying4 (hval 2 4 v2 rfl rfl)
  obtain ⟨a3,rfl,w3⟩:=Go.Lift.arg_int Tryz.underlying3 (hval 3 3 v3 rfl rfl) h3
  clear hA0 hval0
  refine (Go.Lift.law_calls (Pr.ConnsSays.law (h:=W.heap) s0 xs0 sl0 le0 mx0 w0 s1 xs1 sl1 le1 mx1 w1 a2 a3 (Go.Lift.wf_i64 w3)) W rfl).mono fun e W' ⟨he,bel⟩=>?_
  subst he
  exact ⟨_,rfl,_,_,_,[],_,[],hW',trodAll_mk1 (shut_bool Tryz.underlying4 _),Go.Lift.trodAll_below laidOut bel readable hA2 (fun x hx=>by simpa using hW'.lt x (by simpa using hx)),rfl,bel.frame _,fun h=>by cases h⟩
theorem over:Rows.connsSaysRow.holds Tryz.pinned (OpenSpec.ofChange Rows.connsSaysSpec) :=
  OpenClaim.holds_of_wide 6 Tryz.f6 rfl rfl rfl rfl rfl rfl rfl ⟨rfl,rfl,rfl,rfl,rfl⟩ rfl rfl rfl rfl rfl (by kernel_rfl) Tryz.func6 (by kernel_rfl)
    (of_decide_eq_true (by kernel_rfl)) (by unfold Func.isWrapper; first | (rw [if_pos (by decide +kernel)]; kernel_rfl) | (rw [if_neg (by decide +kernel)]; exact ⟨rfl,rfl⟩))
    (fun os started H enc _=>lifted os started H enc)
theorem proved:Rows.ConnsSaysSaid:=over
end Go.Proofs.YtjapglfpjhljpaaGreat.connsSays
namespace Go.Proofs.YtjapglfpjhljpaaGreat
theorem connsSays_holds:Rows.ConnsSaysSaid:=connsSays.proved
end Go.Proofs.YtjapglfpjhljpaaGreat
end
