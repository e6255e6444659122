/- brokTakes_holds: all that the theorem needs, in a few texts (bundle.py; made of the texts that NOTES.md names). -/
import Derived.Below
import Derived.Carry
import Derived.ChangeOld
import Derived.ChangeShapes
import Derived.DeepKeys4
import Derived.HandedShaped
import Derived.KernelRfl
import Derived.LaidMore
import Derived.Laws.Append
import Derived.Laws.Bits64
import Derived.Laws.BitsAllLaws
import Derived.Laws.BitsLemmas
import Derived.Laws.IdiomStrings
import Derived.Laws.Sem
import Derived.Laws.Strings
import Derived.Laws.StructEq
import Derived.Lib.ItoaNum
import Derived.Lib.LaidIn
import Derived.Lib.LaidU8
import Derived.LoopIn
import Derived.LoopN
import Derived.LoopNIn
import Derived.MapKept
import Derived.Maps.AppendAt
import Derived.Maps.RangeRun
import Derived.OpenShut
import Derived.Orders
import Derived.OwnWalkIn
import Derived.ProofKit
import Derived.RangeFuncGives
import Derived.RangeFuncSeq
import Derived.RegionIn
import Derived.SevenTiedAt
import Derived.Shelf.Abstract
import Derived.Shelf.Lay
import Derived.Shelf.LaysM
import Derived.Shelf.SlIter.Collect
import Derived.Shelf.SlMaps.Clone
import Derived.Shelf.Slices.Cells
import Derived.Shelf.Slices.CompactS
import Derived.Shelf.Slices.In.SortNone
import Derived.Shelf.Small.Bits
import Derived.Shelf.Small.Strs
import Derived.Shelf.Sort.Plain
import Derived.Shelf.Strconv.Itoa0
import Derived.Shelf.Strings.Count
import Derived.Shelf.Strings.Explode
import Derived.Shelf.Strings.RuneCount
import Derived.Shelf.Strings.Search1
import Derived.Shelf.Strings.Search2
import Derived.Shelf.Strings.Search3
import Derived.Shelf.Strings.Shaped
import Derived.Shelf.Strings.Split
import Derived.Shelf.Strings.SplitShaped
import Derived.Shelf.Unicode.Decode
import Derived.Shelf.Unicode.DecodeAny
import Derived.Shelf.Unicode.DecodeSlow
import Derived.Shelf.Utf8.RuneCount
import Derived.ShutString
import Derived.SizedLaws
import Derived.Sort.KeysCollected
import Derived.Sort.MapsRangeIn
import Derived.Stop.Joined
import Derived.TacticsInMore
import Derived.Test.YtofpbcakppjgcaaGreatDoorCards
import Derived.Test.YtofpbcakppjgcaaGreatDoorChecked
import Derived.Test.YtofpbcakppjgcaaGreatDoorProg
import Derived.Test.YtofpbcakppjgcaaGreatDoorRows
import Derived.Test.YtofpbcakppjgcaaGreatDoorTie
import Derived.WalkKit
import Derived.WideLaws
import Derived.WideShapes
import Derived.Test.YtofpbcakppjgcaaGreatDoorBBrokTakes1
import Derived.Test.YtofpbcakppjgcaaGreatDoorBBrokTakes2
import Derived.Test.YtofpbcakppjgcaaGreatDoorBBrokTakes3
import Derived.Test.YtofpbcakppjgcaaGreatDoorBBrokTakes4
import Derived.Test.YtofpbcakppjgcaaGreatDoorBBrokTakes5
import Derived.Test.YtofpbcakppjgcaaGreatDoorBBrokTakes6
import Derived.Test.YtofpbcakppjgcaaGreatDoorBBrokTakes7
import Derived.Test.YtofpbcakppjgcaaGreatDoorBBrokTakes8
import Derived.Test.YtofpbcakppjgcaaGreatDoorBBrokTakes9
import Derived.Test.YtofpbcakppjgcaaGreatDoorBBrokTakes10
import Derived.Test.YtofpbcakppjgcaaGreatDoorBBrokTakes11
import Derived.Test.YtofpbcakppjgcaaGreatDoorBBrokTakes12
import Derived.Test.YtofpbcakppjgcaaGreatDoorBBrokTakes13
import Derived.Test.YtofpbcakppjgcaaGreatDoorBBrokTakes14
import Derived.Test.YtofpbcakppjgcaaGreatDoorBBrokTakes15
import Derived.Test.YtofpbcakppjgcaaGreatDoorBBrokTakes16
import Derived.Test.YtofpbcakppjgcaaGreatDoorBBrokTakes17
import Derived.Test.YtofpbcakppjgcaaGreatDoorBBrokTakes18
import Derived.Test.YtofpbcakppjgcaaGreatDoorBBrokTakes19
import Derived.Test.YtofpbcakppjgcaaGreatDoorBBrokTakes20
import Derived.Test.YtofpbcakppjgcaaGreatDoorBBrokTakes21
import Derived.Test.YtofpbcakppjgcaaGreatDoorBBrokTakes22
import Derived.Test.YtofpbcakppjgcaaGreatDoorBBrokTakes23
import Derived.Test.YtofpbcakppjgcaaGreatDoorBBrokTakes24
import Derived.Test.YtofpbcakppjgcaaGreatDoorBBrokTakes25
import Derived.Test.YtofpbcakppjgcaaGreatDoorBBrokTakes26
import Derived.Test.YtofpbcakppjgcaaGreatDoorBBrokTakes27
import Derived.Test.YtofpbcakppjgcaaGreatDoorBBrokTakes28
import Derived.Test.YtofpbcakppjgcaaGreatDoorBBrokTakes29
section
namespace Go.Proofs.YtofpbcakppjgcaaGreatDoor
theorem own:ownKnob Tryz.prog.godebug=none:=by kernel_rfl
noncomputable def laidWorld (os:Os):World :=
  let w0:=World.holding Tryz.prog os ⟨#[],#[],[]⟩
  let put (h:Array Obj) (g:Nat) (cs:Array Value):Array Obj:=h.modify g fun
    | .cells _ t frozen=>.cells cs t frozen
    | o=>o
  let h1:=put w0.heap 1 (Lib.firstTab.map fun z=>Value.int .u8 z).toArray
  let h2:=put h1 2 ((List.range 16).flatMap fun i=>[Value.int .u8 (Lib.accLo i),Value.int .u8 (Lib.accHi i)]).toArray
  { w0 with heap:=h2 }
theorem laid_met (os:Os) (args:Array Value):laidMetH Tryz.prog Rows.brokTakesRow.laid ((laidWorld os).forCall (fun _ _=>0) ⟨#[],args,[]⟩).memory :=
  laidMetH_of_parts3 (fuel:=8) (laidMet_of_run' 8 (by kernel_rfl) (by kernel_rfl)) (by kernel_rfl) (by kernel_rfl)
theorem g_of {W:World} (h:W.ShapedOpen Tryz.prog):Pr.G W.heap:=by
  obtain ⟨m,hm⟩:=Go.Proofs.cell_of_shapedOpen_int (zero:=#[.int .i64 0]) (t:=3) (g:=0) h (of_decide_eq_true (by kernel_rfl)) (by kernel_rfl) rfl (by kernel_rfl) (by kernel_rfl) Tryz.underlying3
  exact ⟨m,hm⟩
end Go.Proofs.YtofpbcakppjgcaaGreatDoor
end
section
namespace Go.Proofs.YtofpbcakppjgcaaGreatDoor.brokTakes
open Go.ChangeShapes Go.WideShapes Go.ChangeAt Go.RowKit
set_option linter.unusedVariables false
theorem laidOut:laidOutB Tryz.prog=true:=by kernel_rfl
theorem readable:∀ t∈[3,22],Tryz.prog.readableRec t=true∧t<Tryz.prog.types.size:=by
  have h:([3,22].all fun t=>Tryz.prog.readableRec t && decide (t<Tryz.prog.types.size))=true:=by kernel_rfl
  intro t ht
  have:=List.all_eq_true.1 h t ht
  rw [Bool.and_eq_true,decide_eq_true_eq] at this
  exact this
set_option maxRecDepth 100000 in
theorem lifted (os:Os) (started:os.Started) (H:Type) (enc:TypeId × Value→H) :
    ReturnsInHanded {} Tryz.checked os 4 .any (fun w args=>(Rows.brokTakesSpec.pre enc Tryz.prog Tryz.f4 [] false w args∧laidMetH Tryz.prog Rows.brokTakesRow.laid w)∧sizedMet enc Tryz.prog Tryz.f4 (OpenSpec.ofChange Rows.brokTakesSpec) false w args)
      (Rows.brokTakesSpec.post enc Tryz.prog Tryz.f4 false true false false):=by
  refine Go.Lift.row_laid (C:=Tryz.checked) (X:=fun w _=>laidMetH Tryz.prog Rows.brokTakesRow.laid w) own started (by kernel_rfl) Tryz.func4
    (ChangeSpec.witness_shaped (enc:=enc) (C:=Tryz.checked) (os:=os) (X:=fun w _=>laidMetH Tryz.prog Rows.brokTakesRow.laid w) false (laidWorld os) #[.int .i64 0,.slice none 0 0] 8 rfl (World.shaped_of_RefB (by kernel_rfl) (by kernel_rfl)) (by kernel_rfl) (by kernel_rfl) (by kernel_rfl) (laid_met os _)) ?_
  intro W base args ds gs before hval0 hW _ _ hsh
  have hval:∀ (j:Nat) t v,Tryz.f4.params[j]? = some t→args[j]? = some v→Value.okWide Tryz.prog W .any base t v:=hval0
  have hW':=hW
  obtain ⟨p,q,hA0,hV,rfl,hfz,hnd⟩:=hW
  have hA:DataW.TrodAll enc Tryz.prog W 0 (fun _=>true) true Tryz.f4.params.toList args.toList ds p:=hA0
  rw [Tryz.params4] at hA hval
  have hA2:=hA
  obtain ⟨v0,vs0,d0,ds0,p0,q0,hargs,rfl,rfl,h0,r0⟩:=trodAll_cons hA
  obtain ⟨v1,vs1,d1,ds1,p1,q1,rfl,rfl,rfl,h1,r1⟩:=trodAll_cons r0
  obtain ⟨rfl,rfl,rfl⟩:=trodAll_nil r1
  obtain rfl:args=#[v0,v1]:=by cases args; simp_all
  obtain ⟨rfl,rfl⟩:=trodVars_none hV
  obtain ⟨a0,rfl,w0⟩:=Go.Lift.arg_int Tryz.underlying3 (hval 0 3 v0 rfl rfl) h0
  obtain ⟨s1,xs1,rfl,sl1,le1,mx1,w1⟩:=Go.Lift.arg_sl1 (C:=fun n:Int=>Value.int .i64 n) (Q:=fun n=>(Lit.int .i64 n).wf=true) Tryz.underlying22 (by kernel_rfl) (fun m cs h=>Go.Lift.rd_int Tryz.underlying3 h) (hval 1 22 v1 rfl rfl) h1
  clear hA0 hval0
  refine (Go.Lift.law_calls (Pr.BrokTakes.law (h:=W.heap) a0 (Go.Lift.wf_i64 w0) s1 xs1 sl1 le1 mx1 w1 (g_of hsh)) W rfl).mono fun e W' ⟨he,bel⟩=>?_
  subst he
  exact ⟨_,rfl,_,_,_,[],_,[],hW',trodAll_mk1 (shut_bool Tryz.underlying4 _),Go.Lift.trodAll_below laidOut bel readable hA2 (fun x hx=>by simpa using hW'.lt x (by simpa using hx)),rfl,bel.frame _,fun h=>by cases h⟩
theorem andT {a b:Bool} (h:a=true) (k:b=true):(a && b)=true:=by rw [h,k]; rfl
set_option maxHeartbeats 20000000 in
theorem closed:joinedFacts Tryz.prog 4 Tryz.f4 Rows.brokTakesSpec Rows.brokTakesRow=true:=by
  unfold joinedFacts
  repeat' with_reducible refine andT ?_ ?_
  all_goals (as_aux_lemma=>kernel_rfl)
set_option maxHeartbeats 20000000 in
theorem over:Rows.BrokTakesSaid :=
  OpenClaim.holds_of_wide 4 Tryz.f4 rfl rfl rfl rfl rfl rfl rfl ⟨rfl,rfl,rfl,rfl,rfl⟩ rfl rfl rfl rfl rfl (by as_aux_lemma=>kernel_rfl) Tryz.func4 closed
    (of_decide_eq_true (by as_aux_lemma=>kernel_rfl)) (by unfold Func.isWrapper; first | (rw [if_pos (by decide +kernel)]; kernel_rfl) | (rw [if_neg (by decide +kernel)]; exact ⟨rfl,rfl⟩))
    (fun os started H enc _=>lifted os started H enc)
end Go.Proofs.YtofpbcakppjgcaaGreatDoor.brokTakes
namespace Go.Proofs.YtofpbcakppjgcaaGreatDoor
set_option maxHeartbeats 20000000 in
theorem brokTakes_holds:Rows.BrokTakesCardSaid :=
  Claim7.holds_tied_plain_at .later [] [.data, .pinned] true (true, "9318c8c336fd0a56339470ec9b044f3699fb3862a90de7f9994af0bc6ee2a5e6") true
    brokTakes.over (fun _ h=>by cases h) (by as_aux_lemma=>kernel_rfl) (fun _ h=>by cases h) brokTakes_row_tie rfl ⟨rfl,rfl⟩ (by as_aux_lemma=>kernel_rfl) rfl
    (fun f fn hf hfn=>by
      obtain rfl : f = 4 := Option.some.inj ((show Tryz.prog.funcNamed "waybill/waybilllaw20.BrokTakes" = some 4 by as_aux_lemma => kernel_rfl).symm.trans hf) |>.symm
      obtain rfl:fn=Tryz.f4:=(Option.some.inj (Tryz.func4.symm.trans hfn)).symm
      exact ⟨by as_aux_lemma=>kernel_rfl,fun j t ht=>by
        rw [Tryz.params4] at ht
        have hm:t∈[3,22]:=by
          have:=Array.mem_of_getElem? ht
          simpa using this
        have hall:([3,22].all fun u=>!Tryz.prog.wantsStandIn u)=true:=by as_aux_lemma=>kernel_rfl
        exact (show Tryz.prog.wantsStandIn t=false by simpa using List.all_eq_true.1 hall t hm)⟩)
    (by as_aux_lemma=>kernel_rfl)
end Go.Proofs.YtofpbcakppjgcaaGreatDoor
end
