/- brokTakes_holds: all that the theorem needs, in a few texts (bundle.py; made of the texts that NOTES.md names). -/
import Derived.Below
import Derived.KernelRfl
import Derived.Laws.Append
import Derived.Laws.Bits64
import Derived.Laws.BitsAllLaws
import Derived.Laws.BitsLemmas
import Derived.Laws.IdiomStrings
import Derived.Laws.Sem
import Derived.Laws.Strings
import Derived.Lib.ItoaNum
import Derived.LoopIn
import Derived.LoopN
import Derived.LoopNIn
import Derived.MapKept
import Derived.Maps.AppendAt
import Derived.Orders
import Derived.OwnWalkIn
import Derived.RangeFuncGives
import Derived.RangeFuncSeq
import Derived.RegionIn
import Derived.Shelf.Abstract
import Derived.Shelf.Lay
import Derived.Shelf.SlIter.Collect
import Derived.Shelf.Small.Bits
import Derived.Sort.KeysCollected
import Derived.Sort.MapsRangeIn
import Derived.TacticsInMore
import Derived.Test.YtofpbcakppjgcaaGreatDoorChecked
import Derived.WalkKit
import Derived.WideLaws
import Derived.Test.YtofpbcakppjgcaaGreatDoorBBrokTakes2
import Derived.Test.YtofpbcakppjgcaaGreatDoorBBrokTakes3
import Derived.Test.YtofpbcakppjgcaaGreatDoorBBrokTakes4
import Derived.Test.YtofpbcakppjgcaaGreatDoorBBrokTakes5
import Derived.Test.YtofpbcakppjgcaaGreatDoorBBrokTakes8
import Derived.Test.YtofpbcakppjgcaaGreatDoorBBrokTakes9
import Derived.Test.YtofpbcakppjgcaaGreatDoorBBrokTakes13
import Derived.Test.YtofpbcakppjgcaaGreatDoorBBrokTakes15
section
set_option linter.unusedVariables false
set_option linter.unusedSimpArgs false
namespace Go.Proofs.YtofpbcakppjgcaaGreatDoor.Pr.keys
open Go Go.Lift Go.Proofs Go.Maps Go.RowKit Go.Sort Go.Shelf
def string.apAssign : Code := (Code.region 2 #[{ dst := some 5, op := Op.assign (Operand.tmp 7), type := 9, pos := "iter.go:51", after := #[], guard := none }] false)
def string.apBody : Code := (Code.block 1 (Code.region 3 #[{ dst := some 8, op := Op.load 27 (Operand.tmp 2), type := 27, pos := "iter.go:52", after := #[], guard := none }, { dst := some 9, op := Op.move (Operand.tmp 5), type := 9, pos := "iter.go:52", after := #[], guard := none }, { dst := some 10, op := Op.buildSlice 27 1 #[(0, Operand.tmp 9)], type := 27, pos := "iter.go:52", after := #[{ on := 1, ground := Ground.data }], guard := none }, { dst := some 11, op := Op.call { callee := Callee.builtin Builtin.append, args := #[Operand.tmp 8, Operand.tmp 10], argTypes := #[27, 27] }, type := 27, pos := "iter.go:52", after := #[{ on := 0, ground := Ground.data }, { on := 2, ground := Ground.data }], guard := none }, { dst := none, op := Op.store 27 (Operand.tmp 2) (Operand.tmp 11), type := 0, pos := "iter.go:52", after := #[{ on := 3, ground := Ground.data }, { on := 3, ground := Ground.chain }, { on := 0, ground := Ground.phase }, { on := 1, ground := Ground.phase }, { on := 2, ground := Ground.phase }, { on := 3, ground := Ground.phase }], guard := none }] false))
def string.apRec (fn:FuncId) (sv:Value) (Bs D:Nat) (st:LoopState) (pend:Option Code):Loop :=
  { state:=st,pending:=pend,fn,tmps:=#[.slice none 0 0,sv,.pointer (some ⟨Bs,0,none⟩),undef,.slice none 0 0,undef,sv,undef,undef,undef,undef,undef,undef],params:=#[7],assign:=string.apAssign,body:=string.apBody,defers:=D }
structure string.ApAt (w0:World) (fn:FuncId) (sv:Value) (Bs l D:Nat) (ss:List (List UInt8)) (W:World):Prop where
  box:∃ v,W.heap[Bs]? = some (.cells #[v] 27 (0,0))∧W.ownsRow w0.heap.size 9 1 v ss.length (ss.map (encS))∧(v=.slice none 0 0↔ss=[])
  L:W.heap[l]? = some (.loop (string.apRec fn sv Bs D .ready none))
  K:W.heap[D]? = some (.deferred (some []))
  below:Below w0.heap.size w0 W
theorem string.ap_abides (w0:World) (fn:FuncId) (sv:Value) (Bs l D B:Nat) (hB:w0.heap.size≤B):AbidesFrom B (string.ApAt w0 fn sv Bs l D):=fun s W W' row h hg hrow=>by
  have hrow':∀ r,row=some r→∃ o:Obj,W.heap[r]? = some o∧o.isWalk=true:=fun r e=>(hrow r e).2
  obtain ⟨v,hv,hr,hn⟩:=h.box
  exact ⟨⟨v,(grownBy_keeps hg hrow' hv rfl).trans hv,ownsRow_abides_a hr hg hrow',hn⟩,(grownBy_keeps hg hrow' h.L rfl).trans h.L,(grownBy_keeps hg hrow' h.K rfl).trans h.K,
    h.below.grown hg h.below.size (fun k e=>Nat.le_trans hB (hrow k e).1)⟩
theorem infostring:(P.info? 9).map (fun i=>(i.zero,i.size,i.bytes))=some (some (.string ⟨#[]⟩),1,16):=by kernel_rfl
set_option maxRecDepth 100000 in
set_option maxHeartbeats 2000000 in
theorem string.apYield (F:Fence) (m:Nat) (w0:World) (fn:FuncId) (hfn:F.fn fn) (sv:Value) (Bs l D:Nat) (hBl:Bs≠l) (hDl:D≠l) (hDB:D≠Bs) (h0B:w0.heap.size≤Bs) (h0l:w0.heap.size≤l)
    (N:Nat) (hN:N≤maxLen) (hNb:N * 16≤140737488355328) (ss:List (List UInt8)) (x:List UInt8) (W:World) (h:string.ApAt w0 fn sv Bs l D ss W) (hlen:ss.length<N) :
    YieldAt F m P l #[encS x] W fun e W'=>e=.returned (.bool true)∧string.ApAt w0 fn sv Bs l D (ss++[x]) W'∧KeepsWalks W W':=by
  obtain ⟨i0,hi,hz0,hz1,hz2⟩:=info_parts infostring
  obtain ⟨v,hv,hrow,_⟩:=h.box
  refine ⟨fn,#[.slice none 0 0,sv,.pointer (some ⟨Bs,0,none⟩),undef,.slice none 0 0,undef,sv,encS x,undef,undef,undef,undef,undef],string.apAssign,string.apBody,by simpa [string.apRec] using run_yield (P:=P) (args:=#[encS x]) h.L rfl,roundIn_of_wpIn hfn ?_⟩
  have hl:l<W.heap.size:=(Array.getElem?_eq_some_iff.1 h.L).1
  have hbr:=run_beginRound (P:=P) h.L rfl
  obtain ⟨W2,hW2⟩:∃ W2,W.putObj l (.loop { string.apRec fn sv Bs D .ready none with state:=.busy })=W2:=⟨_,rfl⟩
  rw [hW2] at hbr
  have hg2:W.grownBy W2 (some l):=by rw [← hW2]; exact grownBy_putObj_a _ _ _
  have hk2:KeepsWalks W W2:=by rw [← hW2]; exact KeepsWalks.putObj _ h.L rfl
  have hv2:W2.heap[Bs]? = some (.cells #[v] 27 (0,0)):=by rw [← hW2]; exact (World.putObj_heap_other hBl).trans hv
  have hK2:W2.heap[D]? = some (.deferred (some [])):=by rw [← hW2]; exact (World.putObj_heap_other hDl).trans h.K
  have hL2:W2.heap[l]? = some (.loop { string.apRec fn sv Bs D .ready none with state:=.busy }):=by rw [← hW2]; exact World.putObj_heap_same hl
  have hrow2:W2.ownsRow w0.heap.size 9 1 v ss.length (ss.map (encS)):=hrow.kept hg2 (ownsRow_ne_a hrow h.L (fun cur e=>by first | cases e | exact absurd (Obj.cells.inj e).2.1 (by decide)))
  have hb2:Below w0.heap.size w0 W2:=h.below.grown hg2 h.below.size (fun k e=>by cases e; exact h0l)
  obtain ⟨hc2,hf2⟩:=cell_of_box_a hv2
  have hBlt:Bs<W2.heap.size:=(Array.getElem?_eq_some_iff.1 hv2).1
  have hl2:l<W2.heap.size:=(Array.getElem?_eq_some_iff.1 hL2).1
  have hDlt:D<W2.heap.size:=(Array.getElem?_eq_some_iff.1 hK2).1
  have ne_of:∀ {j:Nat}{o:Obj},W2.heap[j]? = some o→(∀ cur,o≠.cells cur 9 (0,0))→some j≠v.ownBlock:=fun hj hno=>by
    rcases ownsRow_ne_a hrow2 hj hno with e | e
    · rw [e]; simp
    · exact fun e'=>e e'.symm
  clear hW2
  unfold string.apAssign
  gi_wp2_with gi_round_op_a
  unfold string.apBody
  gi_wp2_with (first
    | (gi_at_builtin; refine wpListIn_append_own _ rfl _ _ 27 rfl w0.heap.size 9 i0 (.string ⟨#[]⟩) 1 16 Tryz.underlying27 hi hz0 hz1 hz2 rfl (by decide) _ _ _ rfl (hrow2.alloc _) ⟨W2.heap.size,0,none⟩ 1 1 [encS x] rfl rfl (cell_one_new _ _ _) (by simp [Value.oneCell']) (by omega) (by omega) (by have:=hb2.size; simp; omega) ?_; intro v' w3 hown' hg3 hnil3
       have hv3:w3.heap[Bs]? = some (.cells #[v] 27 (0,0)):=(hg3.block Bs (by simp; omega) (ne_of hv2 (fun cur e=>by first | cases e | exact absurd (Obj.cells.inj e).2.1 (by decide)))).trans ((Below.heap_alloc _ _ Bs hBlt).trans hv2)
       obtain ⟨hc3,hf3⟩:=cell_of_box_a hv3
       obtain ⟨g',cap',cur',rfl,hbase',hgb',hr1,hr2,hr3,hr4⟩:∃ g' cap' cur',v'=.slice (some ⟨g',0,none⟩) (ss.length+1) cap'∧w0.heap.size≤g'∧w3.heap[g']? = some (.cells cur' 9 (0,0))∧ss.length+1≤cap'∧cap'≤maxLen∧cur'.size=cap' * 1∧cur'.toList.take ((ss.length+1) * 1)=ss.map (encS)++[encS x]:=by
         rcases hown'.2 with ⟨_,h0⟩ | h'
         · exact absurd h0 (by omega)
         · exact h'
       go_frame)
    | gi_round_op_a)
  have hg3':(W2.alloc (.cells #[encS x] 9)).grownBy w3 v.ownBlock:=hg3
  have hL3:w3.heap[l]? = some (.loop { string.apRec fn sv Bs D .ready none with state:=.busy }):=(hg3'.block l (by simp; omega) (ne_of hL2 (fun cur e=>by first | cases e | exact absurd (Obj.cells.inj e).2.1 (by decide)))).trans ((Below.heap_alloc _ _ l hl2).trans hL2)
  have hK3:w3.heap[D]? = some (.deferred (some [])):=(hg3'.block D (by simp; omega) (ne_of hK2 (fun cur e=>by first | cases e | exact absurd (Obj.cells.inj e).2.1 (by decide)))).trans ((Below.heap_alloc _ _ D hDlt).trans hK2)
  obtain ⟨w4,hw4⟩:∃ w4,w3.setCell ⟨Bs,0,none⟩ (.slice (some ⟨g',0,none⟩) (ss.length+1) cap')=w4:=⟨_,rfl⟩
  rw [hw4]
  have hg4:w3.grownBy w4 (some Bs):=by rw [← hw4]; exact grownBy_setCell0_a _ _ _
  have hv4:w4.heap[Bs]? = some (.cells #[.slice (some ⟨g',0,none⟩) (ss.length+1) cap'] 27 (0,0)):=by rw [← hw4]; exact heap_setCell_box_a _ hv3
  have hL4:w4.heap[l]? = some (.loop { string.apRec fn sv Bs D .ready none with state:=.busy }):=(hg4.block l (Array.getElem?_eq_some_iff.1 hL3).1 (fun e=>hBl (by cases e; rfl))).trans hL3
  have hK4:w4.heap[D]? = some (.deferred (some [])):=(hg4.block D (Array.getElem?_eq_some_iff.1 hK3).1 (fun e=>hDB (by cases e; rfl))).trans hK3
  have hrow4:=hown'.kept hg4 (ownsRow_ne_a hown' hv3 (fun cur e=>by first | cases e | exact absurd (Obj.cells.inj e).2.1 (by decide)))
  have hl4:l<w4.heap.size:=(Array.getElem?_eq_some_iff.1 hL4).1
  have hb3:Below w0.heap.size w0 w3:=(hb2.alloc hb2.size _).grown hg3' (by have:=hb2.size; simp; omega) (fun k e=>(hrow2.lt k e).1)
  have hb4:Below w0.heap.size w0 w4:=hb3.grown hg4 hb3.size (fun k e=>by cases e; exact h0B)
  have hk4:KeepsWalks W w4:=((hk2.trans (KeepsWalks.alloc _ _)).trans (KeepsWalks.of_grownBy hg3' (ownsRow_not_walk_a (hrow2.alloc _)))).trans (by rw [← hw4]; exact KeepsWalks.setCell _ _ _)
  clear hw4
  refine ⟨_,_,run_endRound none hL4,rfl,⟨⟨_,(World.putObj_heap_other hBl).trans hv4,?_,by simp⟩,World.putObj_heap_same hl4,(World.putObj_heap_other hDl).trans hK4,hb4.grown (grownBy_putObj_a _ _ _) hb4.size (fun k e=>by cases e; exact h0l)⟩,hk4.trans (KeepsWalks.putObj _ hL4 rfl)⟩
  have:=hrow4.kept (grownBy_putObj_a w4 l (.loop { { string.apRec fn sv Bs D .ready none with state:=.busy } with state:=if (none:Option Code).isNone then .ready else .done,pending:=none })) (ownsRow_ne_a hrow4 hL4 (fun cur e=>by first | cases e | exact absurd (Obj.cells.inj e).2.1 (by decide)))
  simpa using this
set_option maxRecDepth 100000 in
set_option maxHeartbeats 2000000 in
theorem appendSeq_string (F:Fence) (n:Nat) (h11:F.fn 206) (hro:F.round=none) (hn:2≤n) (g:Nat) (lb:Array Value) (hFg:F.fn g) (eg:∀ args w,(callFunc g args).run P w=.ok (.enter g args) w)
    (S:List (List UInt8)→Prop) (N:Nat) (hN:N≤maxLen) (hNb:N * 16≤140737488355328) (w:World) (hseq:SeqGives F (n - 1) P g lb (encS) S N w) :
    CallsIn F n P 206 #[.slice none 0 0,.func (.func g) #[] lb] w fun e w'=>∃ (v:Value) (ss:List (List UInt8)),e=.returned v∧S ss∧w'.ownsRow w.heap.size 9 1 v ss.length (ss.map (encS))∧(v=.slice none 0 0↔ss=[])∧Below w.heap.size w w':=by
  have h1:1≤n:=by omega
  refine callsIn_of_wp_marks Tryz.func206 rfl h11 ?_ hro
  simp only [Tryz.ntmps206,List.size_toArray,List.length_cons,List.length_nil,Nat.reduceAdd,Nat.reduceSub,Array.replicate_succ,Array.replicate_zero,List.push_toArray,List.append_toArray,List.nil_append,List.cons_append]
  gi_wp2
  refine wpIn_rangeFunc ?_
  intro fn hfn
  rw [hro]
  obtain ⟨W0,hW0⟩:∃ W0,w.alloc (.cells #[.slice none 0 0] 27)=W0:=⟨_,rfl⟩
  have hs0:W0.heap.size=w.heap.size+1:=by rw [← hW0]; simp
  have hv0:W0.heap[w.heap.size]? = some (.cells #[.slice none 0 0] 27 (0,0)):=by rw [← hW0]; exact World.alloc_heap_new w _
  have hb0:Below w.heap.size w W0:=by rw [← hW0]; exact (Below.refl _ w).alloc (Nat.le_refl _) _
  rw [hW0]
  obtain ⟨W1,hW1⟩:∃ W1,(W0.alloc (.deferred (some []))).alloc (.loop (string.apRec fn (.func (.func g) #[] lb) w.heap.size W0.heap.size .ready none))=W1:=⟨_,rfl⟩
  have hold:∀ k,k<W0.heap.size→W1.heap[k]? = W0.heap[k]?:=fun k hk=>by
    rw [← hW1]; exact (Below.heap_alloc _ _ k (by simp; omega)).trans (Below.heap_alloc _ _ k hk)
  have hb1:Below w.heap.size w W1:=by rw [← hW1]; exact (hb0.alloc hb0.size _).alloc (by have:=hb0.size; simp; omega) _
  have hs1:W1.heap.size=W0.heap.size+2:=by rw [← hW1]; simp
  have hM:string.ApAt w fn (.func (.func g) #[] lb) w.heap.size (W0.heap.size+1) W0.heap.size [] W1 :=
    ⟨⟨_,(hold w.heap.size (by omega)).trans hv0,⟨rfl,.inl ⟨rfl,rfl⟩⟩,by simp⟩,
     by rw [← hW1]; have:=World.alloc_heap_new (W0.alloc (.deferred (some []))) (.loop (string.apRec fn (.func (.func g) #[] lb) w.heap.size W0.heap.size .ready none)); rwa [World.size_alloc] at this,
     by rw [← hW1]; exact (Below.heap_alloc _ _ _ (by simp)).trans (World.alloc_heap_new W0 _),hb1⟩
  refine ⟨W0.heap.size+1,[{ target:=.collected W0.heap.size,args:=#[] }],W1,{ target:=.fn (.func g) lb,args:=#[.func (.yield (W0.heap.size+1)) #[] #[]] },W1,g,
    #[.func (.yield (W0.heap.size+1)) #[] #[]]++lb,W1,?_,?_,?_,?_,fun _=>h1,?_⟩
  · rw [← hW1]; exact run_enterLoop_outer _ _ _ _ _
  · simp [resolve,go_sem]
  · intro f' hf'; simp [Target.leads] at hf'; subst hf'; exact hFg
  · simp [invoke,go_sem,eg]
  · refine (hseq (W0.heap.size+1) (string.ApAt w fn (.func (.func g) #[] lb) w.heap.size (W0.heap.size+1) W0.heap.size) W1 hb1 (string.ap_abides _ _ _ _ _ _ _ hb1.size)
      (fun pre x W hJ hl=>string.apYield F (n - 1 - 1) w fn hfn _ w.heap.size (W0.heap.size+1) W0.heap.size (by omega) (by omega) (by omega) (Nat.le_refl _) (by omega) N hN hNb pre x W hJ hl) hM).mono ?_
    rintro e W2 ⟨⟨v0,rfl⟩,ss,hS,h2⟩
    obtain ⟨v,hv,hrow,hnil⟩:=h2.box
    have hend:=run_endLoop (P:=P) h2.L (by simp [string.apRec])
    obtain ⟨W3,hW3⟩:∃ W3,W2.putObj (W0.heap.size+1) (.loop { string.apRec fn (.func (.func g) #[] lb) w.heap.size W0.heap.size .ready none with state:=.exhausted })=W3:=⟨_,rfl⟩
    rw [hW3] at hend
    have hg3:W2.grownBy W3 (some (W0.heap.size+1)):=by rw [← hW3]; exact grownBy_putObj_a _ _ _
    have hv3:W3.heap[w.heap.size]? = some (.cells #[v] 27 (0,0)):=by rw [← hW3]; exact (World.putObj_heap_other (by omega)).trans hv
    have hK3:W3.heap[W0.heap.size]? = some (.deferred (some [])):=by rw [← hW3]; exact (World.putObj_heap_other (by omega)).trans h2.K
    have hrow3:=hrow.kept hg3 (ownsRow_ne_a hrow h2.L (fun cur e=>by first | cases e | exact absurd (Obj.cells.inj e).2.1 (by decide)))
    have hb3:Below w.heap.size w W3:=h2.below.grown hg3 h2.below.size (fun k e=>by cases e; omega)
    obtain ⟨hc3,hf3⟩:=cell_of_box_a hv3
    clear hW3
    refine ⟨none,W3,hend,?_⟩
    gi_wp2
    rw [← hs0]
    refine ⟨by simp,.inl ⟨_,_,rfl,run_takeDeferred hK3,?_⟩⟩
    exact ⟨_,results_tmp rfl _ _ _,v,ss,rfl,hS,hrow3.kept (grownBy_putObj_a _ _ _) (ownsRow_ne_a hrow3 hK3 (fun cur e=>by first | cases e | exact absurd (Obj.cells.inj e).2.1 (by decide))),hnil,hb3.grown (grownBy_putObj_a _ _ _) hb3.size (fun k e=>by cases e; omega)⟩
set_option maxRecDepth 100000 in
set_option maxHeartbeats 1000000 in
theorem keys134_in (F:Fence) (n:Nat) (hC:F.fn 134) (hro:F.round=none) (hn:1≤n) (l Bm b nn:Nat) (D0:DataW Unit) (J:List (List UInt8)→World→Prop)
    (hY:∀ pre x W,J pre W→pre.length<Maps.size D0→YieldAt F (n - 1) P l #[encS x] W fun e W'=>e=.returned (.bool true)∧J (pre++[x]) W'∧KeepsWalks W W')
    (W:World) (hJ:AbidesFrom W.heap.size J) (hm:W.cell? ⟨Bm,0,none⟩=some (.map (some b))) (hown:W.ownsMap P 9 rUnit b nn D0) (h0:J [] W) (ks:List (List UInt8)) (hks:ks.Nodup) (hhas:∀ k,has D0 (Lit.string k)=true↔k∈ks) :
    CallsIn F n P 134 #[.func (.yield l) #[] #[],.pointer (some ⟨Bm,0,none⟩)] W fun e W'=>(∃ v,e=.returned v)∧∃ ss:List (List UInt8),ss.Perm ks∧J ss W':=by
  have KR:=keyR_str Tryz.underlying9
  refine callsIn_of_wp Tryz.func134 rfl hC ?_ hro
  simp only [Tryz.ntmps134,List.size_toArray,List.length_cons,List.length_nil,Nat.reduceAdd,Nat.reduceSub,Array.replicate_succ,Array.replicate_zero,List.push_toArray,List.append_toArray,List.nil_append,List.cons_append]
  gi_wp2_with (first
    | (gi_at_range; refine wpListIn_range_own _ rfl _ 100 rfl 9 117 KR.K Tryz.underlying100 _ b nn _ rfl hown ?_; intro w0 hrg0 hg0 hs0)
    | gi_in)
  go_frame
  gi_loopw [3] (fun _ wr=>∃ (left:Lit→Bool) (cnt:Nat) (ss:List (List UInt8)),wr.ranges P 9 rUnit b W.heap.size nn D0 left cnt∧ss.length+cnt≤Maps.size D0∧Col Lit.string D0 left ss∧J ss wr)
    (fun _ wr=>wr.rangeLeft b W.heap.size)
  case atStart =>
    exact ⟨_,_,[],hrg0,by simp,Col.start _ D0,hJ [] W w0 none h0 hg0 (fun r e=>by cases e)⟩
  case round =>
    obtain ⟨left,cnt,ss,hrg,hcs,hC',hJs⟩:=hrel
    gi_wp2_with (first
      | (gi_at_next; refine wpListIn_next_ranges _ rfl _ rfl 9 KR.K rUnit (encS) id (fun key kl hk=>by obtain ⟨x,hx,_⟩:=KR.inv key kl hk; exact ⟨x,hx⟩) (fun v _ _=>⟨v,rfl⟩) b W.heap.size nn _ _ _ rfl hrg ?_ ?_)
      | gi_in)
    · intro hc0 hl0
      gi_wp2
      go_end0
      exact ⟨⟨_,rfl⟩,ss,hC'.perm hl0 hks hhas,hJs⟩
    · intro x c kl yd yp w2 cnt2 hkey hlk hv hv2 hat hrg2 hlt hg2 hs2 hen
      obtain ⟨x',ex,rfl⟩:=KR.inv _ kl hkey
      obtain rfl:x=x':=KR.inj _ _ ex
      have hJ2:J ss w2:=hJ ss wr w2 (some W.heap.size) hJs hg2 (fun r e=>by cases e; exact ⟨Nat.le_refl _,hrg.iter_walk⟩)
      obtain ⟨fn,tmps,assign,body,hy,hR⟩:=hY ss x w2 hJ2 (by omega)
      clear hs2
      gi_wp2
      refine hR.mono ?_
      rintro e W3 ⟨rfl,hJ3,hk3⟩
      gi_wp2
      have hrg3:=hrg2.of_walks hk3
      go_roundw
      case rel=>exact ⟨_,cnt2,ss++[x],hrg3,by simp; omega,hC'.step KR hlk hat,hJ3⟩
      case measure=>rw [hrg3.left_eq,hrg.left_eq]; exact hlt
theorem keys134_gives (F:Fence) (n:Nat) (hC:F.fn 134) (hro:F.round=none) (hn:1≤n) (Bm b nn:Nat) (D0:DataW Unit) (w:World) (hBm:Bm<w.heap.size)
    (hm:w.cell? ⟨Bm,0,none⟩=some (.map (some b))) (hown:w.ownsMap P 9 rUnit b nn D0) (ks:List (List UInt8)) (hks:ks.Nodup) (hhas:∀ k,has D0 (Lit.string k)=true↔k∈ks) :
    SeqGives F n P 134 #[.pointer (some ⟨Bm,0,none⟩)] (encS) (fun ss=>ss.Perm ks) (Maps.size D0) w:=fun l J W hW hJ hY h0=>by
  have hown':W.ownsMap P 9 rUnit b nn D0:=by
    have hbl:=hown.lt
    obtain ⟨es,clock,hb,Ft,hs,hD⟩:=hown
    exact ⟨es,clock,(hW.block b hbl).trans hb,Ft,hs,hD⟩
  exact keys134_in F n hC hro hn l Bm b nn D0 J hY W hJ ((hW.cell (p:=⟨Bm,0,none⟩) hBm).trans hm) hown' h0 ks hks hhas
theorem sortedKeys_map_string_brok_queue_string_brok_queue {K:KT}{L:List Asr}{h:Heap}{ν:Type}{vv:ν→Value}{m:Nat}{kvs:List ((List UInt8) × ν)} (S:St (Mq encS vv m kvs::L) h) (hw:∀ k∈kvs.map Prod.fst,keyOf P 9 (encS k)=some (Lit.string k)) (hl:kvs.length≤8796093022208) (d:List UInt8)
    (hK:∀ h' s (ks:List (List UInt8)),ks.Perm (kvs.map Prod.fst)→ks.Pairwise sort_string.o.le→St (Ow 1 s (ks.map encS)::Mq encS vv m kvs::L) h'→K (.slice s.1 s.2.1 s.2.2) h') :
    CallsH P F.qbo [.map (some m)] (fun v h'=>CallsH P F.qcs [v] K h') h:=by
  refine qbo.ok ?_
  unfold qbo.p0
  simp only [bd]
  refine qcs.ok ?_
  unfold qcs.p0
  refine qcq.ok ?_
  unfold qcq.p0
  have S1:St (Bx (top h) [.map (some m)]::Mq encS vv m kvs::L) (al h #[.map (some m)] T.map_string_brok_queue):=S.al [.map (some m)] T.map_string_brok_queue
  have hn:=S.mp
  refine ⟨by kernel_rfl,fun w hwh=>?_⟩
  have e0:((al h #[.map (some m)] T.map_string_brok_queue).size)=h.size+1:=by simp [al]
  rw [← hwh] at S1 e0
  have KR:=keyR_str Tryz.underlying9
  have hmx:kvs.length≤maxLen:=by unfold maxLen; omega
  obtain ⟨D0,hown,hsz,hhas⟩:=owns_of_mp KR S1.p1.mp hw hmx
  have hnd:(kvs.map Prod.fst).Nodup:=by
    obtain ⟨_,_,_,_,hx,_⟩:=S1.p1.mp
    exact hx
  have hseq:=keys134_gives Fence.wide 1 trivial rfl (Nat.le_refl _) h.size m kvs.length D0 w (by omega) (by rw [cell_eq]; exact S1.c 0 rfl) hown _ hnd hhas
  refine (callsIn_wide.1 (appendSeq_string Fence.wide 2 trivial rfl (Nat.le_refl _) 134 #[.pointer (some ⟨h.size,0,none⟩)] trivial (enters_of Tryz.func134 (by kernel_rfl) rfl) _ (Maps.size D0) (by omega) (by omega) w hseq)).mono ?_
  rintro e w' ⟨v,ss,rfl,hS,hrow,_,hb⟩
  obtain ⟨p,l,c,rfl,ow,fr⟩:=own_of_row hrow
  refine ⟨_,rfl,?_,⟨hb.os,hb.tape,hb.output⟩⟩
  have kp:Kept w.heap w'.heap:=⟨hb.size,fun b hlt _=>hb.block b hlt⟩
  have S2:=S1.owNew ow fr kp
  refine ⟨p,l,c,rfl,⟨p,l,c,rfl,?_⟩⟩
  refine sort_string.sortS (s:=(p,l,c)) (xs:=ss) S2 (by rw [hS.length_eq,List.length_map]; omega) d fun h3 ys py sy S3=>⟨rfl,?_⟩
  exact hK h3 (p,l,c) ys (py.trans hS) sy S3.d1
set_option maxRecDepth 100000 in
set_option maxHeartbeats 1000000 in
theorem keys234_in (F:Fence) (n:Nat) (hC:F.fn 234) (hro:F.round=none) (hn:1≤n) (l Bm b nn:Nat) (D0:DataW Unit) (J:List (List UInt8)→World→Prop)
    (hY:∀ pre x W,J pre W→pre.length<Maps.size D0→YieldAt F (n - 1) P l #[encS x] W fun e W'=>e=.returned (.bool true)∧J (pre++[x]) W'∧KeepsWalks W W')
    (W:World) (hJ:AbidesFrom W.heap.size J) (hm:W.cell? ⟨Bm,0,none⟩=some (.map (some b))) (hown:W.ownsMap P 9 rUnit b nn D0) (h0:J [] W) (ks:List (List UInt8)) (hks:ks.Nodup) (hhas:∀ k,has D0 (Lit.string k)=true↔k∈ks) :
    CallsIn F n P 234 #[.func (.yield l) #[] #[],.pointer (some ⟨Bm,0,none⟩)] W fun e W'=>(∃ v,e=.returned v)∧∃ ss:List (List UInt8),ss.Perm ks∧J ss W':=by
  have KR:=keyR_str Tryz.underlying9
  refine callsIn_of_wp Tryz.func234 rfl hC ?_ hro
  simp only [Tryz.ntmps234,List.size_toArray,List.length_cons,List.length_nil,Nat.reduceAdd,Nat.reduceSub,Array.replicate_succ,Array.replicate_zero,List.push_toArray,List.append_toArray,List.nil_append,List.cons_append]
  gi_wp2_with (first
    | (gi_at_range; refine wpListIn_range_own _ rfl _ 131 rfl 9 165 KR.K Tryz.underlying131 _ b nn _ rfl hown ?_; intro w0 hrg0 hg0 hs0)
    | gi_in)
  go_frame
  gi_loopw [3] (fun _ wr=>∃ (left:Lit→Bool) (cnt:Nat) (ss:List (List UInt8)),wr.ranges P 9 rUnit b W.heap.size nn D0 left cnt∧ss.length+cnt≤Maps.size D0∧Col Lit.string D0 left ss∧J ss wr)
    (fun _ wr=>wr.rangeLeft b W.heap.size)
  case atStart =>
    exact ⟨_,_,[],hrg0,by simp,Col.start _ D0,hJ [] W w0 none h0 hg0 (fun r e=>by cases e)⟩
  case round =>
    obtain ⟨left,cnt,ss,hrg,hcs,hC',hJs⟩:=hrel
    gi_wp2_with (first
      | (gi_at_next; refine wpListIn_next_ranges _ rfl _ rfl 9 KR.K rUnit (encS) id (fun key kl hk=>by obtain ⟨x,hx,_⟩:=KR.inv key kl hk; exact ⟨x,hx⟩) (fun v _ _=>⟨v,rfl⟩) b W.heap.size nn _ _ _ rfl hrg ?_ ?_)
      | gi_in)
    · intro hc0 hl0
      gi_wp2
      go_end0
      exact ⟨⟨_,rfl⟩,ss,hC'.perm hl0 hks hhas,hJs⟩
    · intro x c kl yd yp w2 cnt2 hkey hlk hv hv2 hat hrg2 hlt hg2 hs2 hen
      obtain ⟨x',ex,rfl⟩:=KR.inv _ kl hkey
      obtain rfl:x=x':=KR.inj _ _ ex
      have hJ2:J ss w2:=hJ ss wr w2 (some W.heap.size) hJs hg2 (fun r e=>by cases e; exact ⟨Nat.le_refl _,hrg.iter_walk⟩)
      obtain ⟨fn,tmps,assign,body,hy,hR⟩:=hY ss x w2 hJ2 (by omega)
      clear hs2
      gi_wp2
      refine hR.mono ?_
      rintro e W3 ⟨rfl,hJ3,hk3⟩
      gi_wp2
      have hrg3:=hrg2.of_walks hk3
      go_roundw
      case rel=>exact ⟨_,cnt2,ss++[x],hrg3,by simp; omega,hC'.step KR hlk hat,hJ3⟩
      case measure=>rw [hrg3.left_eq,hrg.left_eq]; exact hlt
theorem keys234_gives (F:Fence) (n:Nat) (hC:F.fn 234) (hro:F.round=none) (hn:1≤n) (Bm b nn:Nat) (D0:DataW Unit) (w:World) (hBm:Bm<w.heap.size)
    (hm:w.cell? ⟨Bm,0,none⟩=some (.map (some b))) (hown:w.ownsMap P 9 rUnit b nn D0) (ks:List (List UInt8)) (hks:ks.Nodup) (hhas:∀ k,has D0 (Lit.string k)=true↔k∈ks) :
    SeqGives F n P 234 #[.pointer (some ⟨Bm,0,none⟩)] (encS) (fun ss=>ss.Perm ks) (Maps.size D0) w:=fun l J W hW hJ hY h0=>by
  have hown':W.ownsMap P 9 rUnit b nn D0:=by
    have hbl:=hown.lt
    obtain ⟨es,clock,hb,Ft,hs,hD⟩:=hown
    exact ⟨es,clock,(hW.block b hbl).trans hb,Ft,hs,hD⟩
  exact keys234_in F n hC hro hn l Bm b nn D0 J hY W hJ ((hW.cell (p:=⟨Bm,0,none⟩) hBm).trans hm) hown' h0 ks hks hhas
theorem sortedKeys_map_string_api_Exch_string_api_Exch {K:KT}{L:List Asr}{h:Heap}{ν:Type}{vv:ν→Value}{m:Nat}{kvs:List ((List UInt8) × ν)} (S:St (Mq encS vv m kvs::L) h) (hw:∀ k∈kvs.map Prod.fst,keyOf P 9 (encS k)=some (Lit.string k)) (hl:kvs.length≤8796093022208) (d:List UInt8)
    (hK:∀ h' s (ks:List (List UInt8)),ks.Perm (kvs.map Prod.fst)→ks.Pairwise sort_string.o.le→St (Ow 1 s (ks.map encS)::Mq encS vv m kvs::L) h'→K (.slice s.1 s.2.1 s.2.2) h') :
    CallsH P F.qbq [.map (some m)] (fun v h'=>CallsH P F.qcs [v] K h') h:=by
  refine qbq.ok ?_
  unfold qbq.p0
  simp only [bd]
  refine qcs.ok ?_
  unfold qcs.p0
  refine qcq.ok ?_
  unfold qcq.p0
  have S1:St (Bx (top h) [.map (some m)]::Mq encS vv m kvs::L) (al h #[.map (some m)] T.map_string_api_Exch):=S.al [.map (some m)] T.map_string_api_Exch
  have hn:=S.mp
  refine ⟨by kernel_rfl,fun w hwh=>?_⟩
  have e0:((al h #[.map (some m)] T.map_string_api_Exch).size)=h.size+1:=by simp [al]
  rw [← hwh] at S1 e0
  have KR:=keyR_str Tryz.underlying9
  have hmx:kvs.length≤maxLen:=by unfold maxLen; omega
  obtain ⟨D0,hown,hsz,hhas⟩:=owns_of_mp KR S1.p1.mp hw hmx
  have hnd:(kvs.map Prod.fst).Nodup:=by
    obtain ⟨_,_,_,_,hx,_⟩:=S1.p1.mp
    exact hx
  have hseq:=keys234_gives Fence.wide 1 trivial rfl (Nat.le_refl _) h.size m kvs.length D0 w (by omega) (by rw [cell_eq]; exact S1.c 0 rfl) hown _ hnd hhas
  refine (callsIn_wide.1 (appendSeq_string Fence.wide 2 trivial rfl (Nat.le_refl _) 234 #[.pointer (some ⟨h.size,0,none⟩)] trivial (enters_of Tryz.func234 (by kernel_rfl) rfl) _ (Maps.size D0) (by omega) (by omega) w hseq)).mono ?_
  rintro e w' ⟨v,ss,rfl,hS,hrow,_,hb⟩
  obtain ⟨p,l,c,rfl,ow,fr⟩:=own_of_row hrow
  refine ⟨_,rfl,?_,⟨hb.os,hb.tape,hb.output⟩⟩
  have kp:Kept w.heap w'.heap:=⟨hb.size,fun b hlt _=>hb.block b hlt⟩
  have S2:=S1.owNew ow fr kp
  refine ⟨p,l,c,rfl,⟨p,l,c,rfl,?_⟩⟩
  refine sort_string.sortS (s:=(p,l,c)) (xs:=ss) S2 (by rw [hS.length_eq,List.length_map]; omega) d fun h3 ys py sy S3=>⟨rfl,?_⟩
  exact hK h3 (p,l,c) ys (py.trans hS) sy S3.d1
end Go.Proofs.YtofpbcakppjgcaaGreatDoor.Pr.keys
end
section
set_option linter.unusedVariables false
set_option linter.unusedSimpArgs false
namespace Go.Proofs.YtofpbcakppjgcaaGreatDoor.Pr.keys
open Go Go.Lift Go.Proofs Go.Maps Go.RowKit Go.Sort Go.Shelf
def uint64.apAssign : Code := (Code.region 2 #[{ dst := some 5, op := Op.assign (Operand.tmp 7), type := 31, pos := "iter.go:51", after := #[], guard := none }] false)
def uint64.apBody : Code := (Code.block 1 (Code.region 3 #[{ dst := some 8, op := Op.load 66 (Operand.tmp 2), type := 66, pos := "iter.go:52", after := #[], guard := none }, { dst := some 9, op := Op.move (Operand.tmp 5), type := 31, pos := "iter.go:52", after := #[], guard := none }, { dst := some 10, op := Op.buildSlice 66 1 #[(0, Operand.tmp 9)], type := 66, pos := "iter.go:52", after := #[{ on := 1, ground := Ground.data }], guard := none }, { dst := some 11, op := Op.call { callee := Callee.builtin Builtin.append, args := #[Operand.tmp 8, Operand.tmp 10], argTypes := #[66, 66] }, type := 66, pos := "iter.go:52", after := #[{ on := 0, ground := Ground.data }, { on := 2, ground := Ground.data }], guard := none }, { dst := none, op := Op.store 66 (Operand.tmp 2) (Operand.tmp 11), type := 0, pos := "iter.go:52", after := #[{ on := 3, ground := Ground.data }, { on := 3, ground := Ground.chain }, { on := 0, ground := Ground.phase }, { on := 1, ground := Ground.phase }, { on := 2, ground := Ground.phase }, { on := 3, ground := Ground.phase }], guard := none }] false))
def uint64.apRec (fn:FuncId) (sv:Value) (Bs D:Nat) (st:LoopState) (pend:Option Code):Loop :=
  { state:=st,pending:=pend,fn,tmps:=#[.slice none 0 0,sv,.pointer (some ⟨Bs,0,none⟩),undef,.slice none 0 0,undef,sv,undef,undef,undef,undef,undef,undef],params:=#[7],assign:=uint64.apAssign,body:=uint64.apBody,defers:=D }
structure uint64.ApAt (w0:World) (fn:FuncId) (sv:Value) (Bs l D:Nat) (ss:List (Int)) (W:World):Prop where
  box:∃ v,W.heap[Bs]? = some (.cells #[v] 66 (0,0))∧W.ownsRow w0.heap.size 31 1 v ss.length (ss.map ((encI .u64)))∧(v=.slice none 0 0↔ss=[])
  L:W.heap[l]? = some (.loop (uint64.apRec fn sv Bs D .ready none))
  K:W.heap[D]? = some (.deferred (some []))
  below:Below w0.heap.size w0 W
theorem uint64.ap_abides (w0:World) (fn:FuncId) (sv:Value) (Bs l D B:Nat) (hB:w0.heap.size≤B):AbidesFrom B (uint64.ApAt w0 fn sv Bs l D):=fun s W W' row h hg hrow=>by
  have hrow':∀ r,row=some r→∃ o:Obj,W.heap[r]? = some o∧o.isWalk=true:=fun r e=>(hrow r e).2
  obtain ⟨v,hv,hr,hn⟩:=h.box
  exact ⟨⟨v,(grownBy_keeps hg hrow' hv rfl).trans hv,ownsRow_abides_a hr hg hrow',hn⟩,(grownBy_keeps hg hrow' h.L rfl).trans h.L,(grownBy_keeps hg hrow' h.K rfl).trans h.K,
    h.below.grown hg h.below.size (fun k e=>Nat.le_trans hB (hrow k e).1)⟩
theorem infouint64:(P.info? 31).map (fun i=>(i.zero,i.size,i.bytes))=some (some (.int .u64 0),1,8):=by kernel_rfl
set_option maxRecDepth 100000 in
set_option maxHeartbeats 2000000 in
theorem uint64.apYield (F:Fence) (m:Nat) (w0:World) (fn:FuncId) (hfn:F.fn fn) (sv:Value) (Bs l D:Nat) (hBl:Bs≠l) (hDl:D≠l) (hDB:D≠Bs) (h0B:w0.heap.size≤Bs) (h0l:w0.heap.size≤l)
    (N:Nat) (hN:N≤maxLen) (hNb:N * 8≤140737488355328) (ss:List (Int)) (x:Int) (W:World) (h:uint64.ApAt w0 fn sv Bs l D ss W) (hlen:ss.length<N) :
    YieldAt F m P l #[(encI .u64) x] W fun e W'=>e=.returned (.bool true)∧uint64.ApAt w0 fn sv Bs l D (ss++[x]) W'∧KeepsWalks W W':=by
  obtain ⟨i0,hi,hz0,hz1,hz2⟩:=info_parts infouint64
  obtain ⟨v,hv,hrow,_⟩:=h.box
  refine ⟨fn,#[.slice none 0 0,sv,.pointer (some ⟨Bs,0,none⟩),undef,.slice none 0 0,undef,sv,(encI .u64) x,undef,undef,undef,undef,undef],uint64.apAssign,uint64.apBody,by simpa [uint64.apRec] using run_yield (P:=P) (args:=#[(encI .u64) x]) h.L rfl,roundIn_of_wpIn hfn ?_⟩
  have hl:l<W.heap.size:=(Array.getElem?_eq_some_iff.1 h.L).1
  have hbr:=run_beginRound (P:=P) h.L rfl
  obtain ⟨W2,hW2⟩:∃ W2,W.putObj l (.loop { uint64.apRec fn sv Bs D .ready none with state:=.busy })=W2:=⟨_,rfl⟩
  rw [hW2] at hbr
  have hg2:W.grownBy W2 (some l):=by rw [← hW2]; exact grownBy_putObj_a _ _ _
  have hk2:KeepsWalks W W2:=by rw [← hW2]; exact KeepsWalks.putObj _ h.L rfl
  have hv2:W2.heap[Bs]? = some (.cells #[v] 66 (0,0)):=by rw [← hW2]; exact (World.putObj_heap_other hBl).trans hv
  have hK2:W2.heap[D]? = some (.deferred (some [])):=by rw [← hW2]; exact (World.putObj_heap_other hDl).trans h.K
  have hL2:W2.heap[l]? = some (.loop { uint64.apRec fn sv Bs D .ready none with state:=.busy }):=by rw [← hW2]; exact World.putObj_heap_same hl
  have hrow2:W2.ownsRow w0.heap.size 31 1 v ss.length (ss.map ((encI .u64))):=hrow.kept hg2 (ownsRow_ne_a hrow h.L (fun cur e=>by first | cases e | exact absurd (Obj.cells.inj e).2.1 (by decide)))
  have hb2:Below w0.heap.size w0 W2:=h.below.grown hg2 h.below.size (fun k e=>by cases e; exact h0l)
  obtain ⟨hc2,hf2⟩:=cell_of_box_a hv2
  have hBlt:Bs<W2.heap.size:=(Array.getElem?_eq_some_iff.1 hv2).1
  have hl2:l<W2.heap.size:=(Array.getElem?_eq_some_iff.1 hL2).1
  have hDlt:D<W2.heap.size:=(Array.getElem?_eq_some_iff.1 hK2).1
  have ne_of:∀ {j:Nat}{o:Obj},W2.heap[j]? = some o→(∀ cur,o≠.cells cur 31 (0,0))→some j≠v.ownBlock:=fun hj hno=>by
    rcases ownsRow_ne_a hrow2 hj hno with e | e
    · rw [e]; simp
    · exact fun e'=>e e'.symm
  clear hW2
  unfold uint64.apAssign
  gi_wp2_with gi_round_op_a
  unfold uint64.apBody
  gi_wp2_with (first
    | (gi_at_builtin; refine wpListIn_append_own _ rfl _ _ 66 rfl w0.heap.size 31 i0 (.int .u64 0) 1 8 Tryz.underlying66 hi hz0 hz1 hz2 rfl (by decide) _ _ _ rfl (hrow2.alloc _) ⟨W2.heap.size,0,none⟩ 1 1 [(encI .u64) x] rfl rfl (cell_one_new _ _ _) (by simp [Value.oneCell']) (by omega) (by omega) (by have:=hb2.size; simp; omega) ?_; intro v' w3 hown' hg3 hnil3
       have hv3:w3.heap[Bs]? = some (.cells #[v] 66 (0,0)):=(hg3.block Bs (by simp; omega) (ne_of hv2 (fun cur e=>by first | cases e | exact absurd (Obj.cells.inj e).2.1 (by decide)))).trans ((Below.heap_alloc _ _ Bs hBlt).trans hv2)
       obtain ⟨hc3,hf3⟩:=cell_of_box_a hv3
       obtain ⟨g',cap',cur',rfl,hbase',hgb',hr1,hr2,hr3,hr4⟩:∃ g' cap' cur',v'=.slice (some ⟨g',0,none⟩) (ss.length+1) cap'∧w0.heap.size≤g'∧w3.heap[g']? = some (.cells cur' 31 (0,0))∧ss.length+1≤cap'∧cap'≤maxLen∧cur'.size=cap' * 1∧cur'.toList.take ((ss.length+1) * 1)=ss.map ((encI .u64))++[(encI .u64) x]:=by
         rcases hown'.2 with ⟨_,h0⟩ | h'
         · exact absurd h0 (by omega)
         · exact h'
       go_frame)
    | gi_round_op_a)
  have hg3':(W2.alloc (.cells #[(encI .u64) x] 31)).grownBy w3 v.ownBlock:=hg3
  have hL3:w3.heap[l]? = some (.loop { uint64.apRec fn sv Bs D .ready none with state:=.busy }):=(hg3'.block l (by simp; omega) (ne_of hL2 (fun cur e=>by first | cases e | exact absurd (Obj.cells.inj e).2.1 (by decide)))).trans ((Below.heap_alloc _ _ l hl2).trans hL2)
  have hK3:w3.heap[D]? = some (.deferred (some [])):=(hg3'.block D (by simp; omega) (ne_of hK2 (fun cur e=>by first | cases e | exact absurd (Obj.cells.inj e).2.1 (by decide)))).trans ((Below.heap_alloc _ _ D hDlt).trans hK2)
  obtain ⟨w4,hw4⟩:∃ w4,w3.setCell ⟨Bs,0,none⟩ (.slice (some ⟨g',0,none⟩) (ss.length+1) cap')=w4:=⟨_,rfl⟩
  rw [hw4]
  have hg4:w3.grownBy w4 (some Bs):=by rw [← hw4]; exact grownBy_setCell0_a _ _ _
  have hv4:w4.heap[Bs]? = some (.cells #[.slice (some ⟨g',0,none⟩) (ss.length+1) cap'] 66 (0,0)):=by rw [← hw4]; exact heap_setCell_box_a _ hv3
  have hL4:w4.heap[l]? = some (.loop { uint64.apRec fn sv Bs D .ready none with state:=.busy }):=(hg4.block l (Array.getElem?_eq_some_iff.1 hL3).1 (fun e=>hBl (by cases e; rfl))).trans hL3
  have hK4:w4.heap[D]? = some (.deferred (some [])):=(hg4.block D (Array.getElem?_eq_some_iff.1 hK3).1 (fun e=>hDB (by cases e; rfl))).trans hK3
  have hrow4:=hown'.kept hg4 (ownsRow_ne_a hown' hv3 (fun cur e=>by first | cases e | exact absurd (Obj.cells.inj e).2.1 (by decide)))
  have hl4:l<w4.heap.size:=(Array.getElem?_eq_some_iff.1 hL4).1
  have hb3:Below w0.heap.size w0 w3:=(hb2.alloc hb2.size _).grown hg3' (by have:=hb2.size; simp; omega) (fun k e=>(hrow2.lt k e).1)
  have hb4:Below w0.heap.size w0 w4:=hb3.grown hg4 hb3.size (fun k e=>by cases e; exact h0B)
  have hk4:KeepsWalks W w4:=((hk2.trans (KeepsWalks.alloc _ _)).trans (KeepsWalks.of_grownBy hg3' (ownsRow_not_walk_a (hrow2.alloc _)))).trans (by rw [← hw4]; exact KeepsWalks.setCell _ _ _)
  clear hw4
  refine ⟨_,_,run_endRound none hL4,rfl,⟨⟨_,(World.putObj_heap_other hBl).trans hv4,?_,by simp⟩,World.putObj_heap_same hl4,(World.putObj_heap_other hDl).trans hK4,hb4.grown (grownBy_putObj_a _ _ _) hb4.size (fun k e=>by cases e; exact h0l)⟩,hk4.trans (KeepsWalks.putObj _ hL4 rfl)⟩
  have:=hrow4.kept (grownBy_putObj_a w4 l (.loop { { uint64.apRec fn sv Bs D .ready none with state:=.busy } with state:=if (none:Option Code).isNone then .ready else .done,pending:=none })) (ownsRow_ne_a hrow4 hL4 (fun cur e=>by first | cases e | exact absurd (Obj.cells.inj e).2.1 (by decide)))
  simpa using this
set_option maxRecDepth 100000 in
set_option maxHeartbeats 2000000 in
theorem appendSeq_uint64 (F:Fence) (n:Nat) (h11:F.fn 240) (hro:F.round=none) (hn:2≤n) (g:Nat) (lb:Array Value) (hFg:F.fn g) (eg:∀ args w,(callFunc g args).run P w=.ok (.enter g args) w)
    (S:List (Int)→Prop) (N:Nat) (hN:N≤maxLen) (hNb:N * 8≤140737488355328) (w:World) (hseq:SeqGives F (n - 1) P g lb ((encI .u64)) S N w) :
    CallsIn F n P 240 #[.slice none 0 0,.func (.func g) #[] lb] w fun e w'=>∃ (v:Value) (ss:List (Int)),e=.returned v∧S ss∧w'.ownsRow w.heap.size 31 1 v ss.length (ss.map ((encI .u64)))∧(v=.slice none 0 0↔ss=[])∧Below w.heap.size w w':=by
  have h1:1≤n:=by omega
  refine callsIn_of_wp_marks Tryz.func240 rfl h11 ?_ hro
  simp only [Tryz.ntmps240,List.size_toArray,List.length_cons,List.length_nil,Nat.reduceAdd,Nat.reduceSub,Array.replicate_succ,Array.replicate_zero,List.push_toArray,List.append_toArray,List.nil_append,List.cons_append]
  gi_wp2
  refine wpIn_rangeFunc ?_
  intro fn hfn
  rw [hro]
  obtain ⟨W0,hW0⟩:∃ W0,w.alloc (.cells #[.slice none 0 0] 66)=W0:=⟨_,rfl⟩
  have hs0:W0.heap.size=w.heap.size+1:=by rw [← hW0]; simp
  have hv0:W0.heap[w.heap.size]? = some (.cells #[.slice none 0 0] 66 (0,0)):=by rw [← hW0]; exact World.alloc_heap_new w _
  have hb0:Below w.heap.size w W0:=by rw [← hW0]; exact (Below.refl _ w).alloc (Nat.le_refl _) _
  rw [hW0]
  obtain ⟨W1,hW1⟩:∃ W1,(W0.alloc (.deferred (some []))).alloc (.loop (uint64.apRec fn (.func (.func g) #[] lb) w.heap.size W0.heap.size .ready none))=W1:=⟨_,rfl⟩
  have hold:∀ k,k<W0.heap.size→W1.heap[k]? = W0.heap[k]?:=fun k hk=>by
    rw [← hW1]; exact (Below.heap_alloc _ _ k (by simp; omega)).trans (Below.heap_alloc _ _ k hk)
  have hb1:Below w.heap.size w W1:=by rw [← hW1]; exact (hb0.alloc hb0.size _).alloc (by have:=hb0.size; simp; omega) _
  have hs1:W1.heap.size=W0.heap.size+2:=by rw [← hW1]; simp
  have hM:uint64.ApAt w fn (.func (.func g) #[] lb) w.heap.size (W0.heap.size+1) W0.heap.size [] W1 :=
    ⟨⟨_,(hold w.heap.size (by omega)).trans hv0,⟨rfl,.inl ⟨rfl,rfl⟩⟩,by simp⟩,
     by rw [← hW1]; have:=World.alloc_heap_new (W0.alloc (.deferred (some []))) (.loop (uint64.apRec fn (.func (.func g) #[] lb) w.heap.size W0.heap.size .ready none)); rwa [World.size_alloc] at this,
     by rw [← hW1]; exact (Below.heap_alloc _ _ _ (by simp)).trans (World.alloc_heap_new W0 _),hb1⟩
  refine ⟨W0.heap.size+1,[{ target:=.collected W0.heap.size,args:=#[] }],W1,{ target:=.fn (.func g) lb,args:=#[.func (.yield (W0.heap.size+1)) #[] #[]] },W1,g,
    #[.func (.yield (W0.heap.size+1)) #[] #[]]++lb,W1,?_,?_,?_,?_,fun _=>h1,?_⟩
  · rw [← hW1]; exact run_enterLoop_outer _ _ _ _ _
  · simp [resolve,go_sem]
  · intro f' hf'; simp [Target.leads] at hf'; subst hf'; exact hFg
  · simp [invoke,go_sem,eg]
  · refine (hseq (W0.heap.size+1) (uint64.ApAt w fn (.func (.func g) #[] lb) w.heap.size (W0.heap.size+1) W0.heap.size) W1 hb1 (uint64.ap_abides _ _ _ _ _ _ _ hb1.size)
      (fun pre x W hJ hl=>uint64.apYield F (n - 1 - 1) w fn hfn _ w.heap.size (W0.heap.size+1) W0.heap.size (by omega) (by omega) (by omega) (Nat.le_refl _) (by omega) N hN hNb pre x W hJ hl) hM).mono ?_
    rintro e W2 ⟨⟨v0,rfl⟩,ss,hS,h2⟩
    obtain ⟨v,hv,hrow,hnil⟩:=h2.box
    have hend:=run_endLoop (P:=P) h2.L (by simp [uint64.apRec])
    obtain ⟨W3,hW3⟩:∃ W3,W2.putObj (W0.heap.size+1) (.loop { uint64.apRec fn (.func (.func g) #[] lb) w.heap.size W0.heap.size .ready none with state:=.exhausted })=W3:=⟨_,rfl⟩
    rw [hW3] at hend
    have hg3:W2.grownBy W3 (some (W0.heap.size+1)):=by rw [← hW3]; exact grownBy_putObj_a _ _ _
    have hv3:W3.heap[w.heap.size]? = some (.cells #[v] 66 (0,0)):=by rw [← hW3]; exact (World.putObj_heap_other (by omega)).trans hv
    have hK3:W3.heap[W0.heap.size]? = some (.deferred (some [])):=by rw [← hW3]; exact (World.putObj_heap_other (by omega)).trans h2.K
    have hrow3:=hrow.kept hg3 (ownsRow_ne_a hrow h2.L (fun cur e=>by first | cases e | exact absurd (Obj.cells.inj e).2.1 (by decide)))
    have hb3:Below w.heap.size w W3:=h2.below.grown hg3 h2.below.size (fun k e=>by cases e; omega)
    obtain ⟨hc3,hf3⟩:=cell_of_box_a hv3
    clear hW3
    refine ⟨none,W3,hend,?_⟩
    gi_wp2
    rw [← hs0]
    refine ⟨by simp,.inl ⟨_,_,rfl,run_takeDeferred hK3,?_⟩⟩
    exact ⟨_,results_tmp rfl _ _ _,v,ss,rfl,hS,hrow3.kept (grownBy_putObj_a _ _ _) (ownsRow_ne_a hrow3 hK3 (fun cur e=>by first | cases e | exact absurd (Obj.cells.inj e).2.1 (by decide))),hnil,hb3.grown (grownBy_putObj_a _ _ _) hb3.size (fun k e=>by cases e; omega)⟩
set_option maxRecDepth 100000 in
set_option maxHeartbeats 1000000 in
theorem keys205_in (F:Fence) (n:Nat) (hC:F.fn 205) (hro:F.round=none) (hn:1≤n) (l Bm b nn:Nat) (D0:DataW Unit) (J:List (Int)→World→Prop)
    (hY:∀ pre x W,J pre W→pre.length<Maps.size D0→YieldAt F (n - 1) P l #[(encI .u64) x] W fun e W'=>e=.returned (.bool true)∧J (pre++[x]) W'∧KeepsWalks W W')
    (W:World) (hJ:AbidesFrom W.heap.size J) (hm:W.cell? ⟨Bm,0,none⟩=some (.map (some b))) (hown:W.ownsMap P 31 rUnit b nn D0) (h0:J [] W) (ks:List (Int)) (hks:ks.Nodup) (hhas:∀ k,has D0 ((Lit.int .u64) k)=true↔k∈ks) :
    CallsIn F n P 205 #[.func (.yield l) #[] #[],.pointer (some ⟨Bm,0,none⟩)] W fun e W'=>(∃ v,e=.returned v)∧∃ ss:List (Int),ss.Perm ks∧J ss W':=by
  have KR:=keyR_int Tryz.underlying31
  refine callsIn_of_wp Tryz.func205 rfl hC ?_ hro
  simp only [Tryz.ntmps205,List.size_toArray,List.length_cons,List.length_nil,Nat.reduceAdd,Nat.reduceSub,Array.replicate_succ,Array.replicate_zero,List.push_toArray,List.append_toArray,List.nil_append,List.cons_append]
  gi_wp2_with (first
    | (gi_at_range; refine wpListIn_range_own _ rfl _ 200 rfl 31 33 KR.K Tryz.underlying200 _ b nn _ rfl hown ?_; intro w0 hrg0 hg0 hs0)
    | gi_in)
  go_frame
  gi_loopw [3] (fun _ wr=>∃ (left:Lit→Bool) (cnt:Nat) (ss:List (Int)),wr.ranges P 31 rUnit b W.heap.size nn D0 left cnt∧ss.length+cnt≤Maps.size D0∧Col (Lit.int .u64) D0 left ss∧J ss wr)
    (fun _ wr=>wr.rangeLeft b W.heap.size)
  case atStart =>
    exact ⟨_,_,[],hrg0,by simp,Col.start _ D0,hJ [] W w0 none h0 hg0 (fun r e=>by cases e)⟩
  case round =>
    obtain ⟨left,cnt,ss,hrg,hcs,hC',hJs⟩:=hrel
    gi_wp2_with (first
      | (gi_at_next; refine wpListIn_next_ranges _ rfl _ rfl 31 KR.K rUnit ((encI .u64)) id (fun key kl hk=>by obtain ⟨x,hx,_⟩:=KR.inv key kl hk; exact ⟨x,hx⟩) (fun v _ _=>⟨v,rfl⟩) b W.heap.size nn _ _ _ rfl hrg ?_ ?_)
      | gi_in)
    · intro hc0 hl0
      gi_wp2
      go_end0
      exact ⟨⟨_,rfl⟩,ss,hC'.perm hl0 hks hhas,hJs⟩
    · intro x c kl yd yp w2 cnt2 hkey hlk hv hv2 hat hrg2 hlt hg2 hs2 hen
      obtain ⟨x',ex,rfl⟩:=KR.inv _ kl hkey
      obtain rfl:x=x':=KR.inj _ _ ex
      have hJ2:J ss w2:=hJ ss wr w2 (some W.heap.size) hJs hg2 (fun r e=>by cases e; exact ⟨Nat.le_refl _,hrg.iter_walk⟩)
      obtain ⟨fn,tmps,assign,body,hy,hR⟩:=hY ss x w2 hJ2 (by omega)
      clear hs2
      gi_wp2
      refine hR.mono ?_
      rintro e W3 ⟨rfl,hJ3,hk3⟩
      gi_wp2
      have hrg3:=hrg2.of_walks hk3
      go_roundw
      case rel=>exact ⟨_,cnt2,ss++[x],hrg3,by simp; omega,hC'.step KR hlk hat,hJ3⟩
      case measure=>rw [hrg3.left_eq,hrg.left_eq]; exact hlt
theorem keys205_gives (F:Fence) (n:Nat) (hC:F.fn 205) (hro:F.round=none) (hn:1≤n) (Bm b nn:Nat) (D0:DataW Unit) (w:World) (hBm:Bm<w.heap.size)
    (hm:w.cell? ⟨Bm,0,none⟩=some (.map (some b))) (hown:w.ownsMap P 31 rUnit b nn D0) (ks:List (Int)) (hks:ks.Nodup) (hhas:∀ k,has D0 ((Lit.int .u64) k)=true↔k∈ks) :
    SeqGives F n P 205 #[.pointer (some ⟨Bm,0,none⟩)] ((encI .u64)) (fun ss=>ss.Perm ks) (Maps.size D0) w:=fun l J W hW hJ hY h0=>by
  have hown':W.ownsMap P 31 rUnit b nn D0:=by
    have hbl:=hown.lt
    obtain ⟨es,clock,hb,Ft,hs,hD⟩:=hown
    exact ⟨es,clock,(hW.block b hbl).trans hb,Ft,hs,hD⟩
  exact keys205_in F n hC hro hn l Bm b nn D0 J hY W hJ ((hW.cell (p:=⟨Bm,0,none⟩) hBm).trans hm) hown' h0 ks hks hhas
theorem sortedKeys_map_uint64_api_Entry_uint64_api_Entry {K:KT}{L:List Asr}{h:Heap}{ν:Type}{vv:ν→Value}{m:Nat}{kvs:List ((Int) × ν)} (S:St (Mq (encI .u64) vv m kvs::L) h) (hw:∀ k∈kvs.map Prod.fst,keyOf P 31 ((encI .u64) k)=some ((Lit.int .u64) k)) (hl:kvs.length≤8796093022208) (d:Int)
    (hK:∀ h' s (ks:List (Int)),ks.Perm (kvs.map Prod.fst)→ks.Pairwise sort_uint64.o.le→St (Ow 1 s (ks.map (encI .u64))::Mq (encI .u64) vv m kvs::L) h'→K (.slice s.1 s.2.1 s.2.2) h') :
    CallsH P F.qbp [.map (some m)] (fun v h'=>CallsH P F.qct [v] K h') h:=by
  refine qbp.ok ?_
  unfold qbp.p0
  simp only [bd]
  refine qct.ok ?_
  unfold qct.p0
  refine qcp.ok ?_
  unfold qcp.p0
  have S1:St (Bx (top h) [.map (some m)]::Mq (encI .u64) vv m kvs::L) (al h #[.map (some m)] T.map_uint64_api_Entry):=S.al [.map (some m)] T.map_uint64_api_Entry
  have hn:=S.mp
  refine ⟨by kernel_rfl,fun w hwh=>?_⟩
  have e0:((al h #[.map (some m)] T.map_uint64_api_Entry).size)=h.size+1:=by simp [al]
  rw [← hwh] at S1 e0
  have KR:=keyR_int Tryz.underlying31
  have hmx:kvs.length≤maxLen:=by unfold maxLen; omega
  obtain ⟨D0,hown,hsz,hhas⟩:=owns_of_mp KR S1.p1.mp hw hmx
  have hnd:(kvs.map Prod.fst).Nodup:=by
    obtain ⟨_,_,_,_,hx,_⟩:=S1.p1.mp
    exact hx
  have hseq:=keys205_gives Fence.wide 1 trivial rfl (Nat.le_refl _) h.size m kvs.length D0 w (by omega) (by rw [cell_eq]; exact S1.c 0 rfl) hown _ hnd hhas
  refine (callsIn_wide.1 (appendSeq_uint64 Fence.wide 2 trivial rfl (Nat.le_refl _) 205 #[.pointer (some ⟨h.size,0,none⟩)] trivial (enters_of Tryz.func205 (by kernel_rfl) rfl) _ (Maps.size D0) (by omega) (by omega) w hseq)).mono ?_
  rintro e w' ⟨v,ss,rfl,hS,hrow,_,hb⟩
  obtain ⟨p,l,c,rfl,ow,fr⟩:=own_of_row hrow
  refine ⟨_,rfl,?_,⟨hb.os,hb.tape,hb.output⟩⟩
  have kp:Kept w.heap w'.heap:=⟨hb.size,fun b hlt _=>hb.block b hlt⟩
  have S2:=S1.owNew ow fr kp
  refine ⟨p,l,c,rfl,⟨p,l,c,rfl,?_⟩⟩
  refine sort_uint64.sortS (s:=(p,l,c)) (xs:=ss) S2 (by rw [hS.length_eq,List.length_map]; omega) d fun h3 ys py sy S3=>⟨rfl,?_⟩
  exact hK h3 (p,l,c) ys (py.trans hS) sy S3.d1
set_option maxRecDepth 100000 in
set_option maxHeartbeats 1000000 in
theorem keys211_in (F:Fence) (n:Nat) (hC:F.fn 211) (hro:F.round=none) (hn:1≤n) (l Bm b nn:Nat) (D0:DataW Unit) (J:List (Int)→World→Prop)
    (hY:∀ pre x W,J pre W→pre.length<Maps.size D0→YieldAt F (n - 1) P l #[(encI .u64) x] W fun e W'=>e=.returned (.bool true)∧J (pre++[x]) W'∧KeepsWalks W W')
    (W:World) (hJ:AbidesFrom W.heap.size J) (hm:W.cell? ⟨Bm,0,none⟩=some (.map (some b))) (hown:W.ownsMap P 31 rUnit b nn D0) (h0:J [] W) (ks:List (Int)) (hks:ks.Nodup) (hhas:∀ k,has D0 ((Lit.int .u64) k)=true↔k∈ks) :
    CallsIn F n P 211 #[.func (.yield l) #[] #[],.pointer (some ⟨Bm,0,none⟩)] W fun e W'=>(∃ v,e=.returned v)∧∃ ss:List (Int),ss.Perm ks∧J ss W':=by
  have KR:=keyR_int Tryz.underlying31
  refine callsIn_of_wp Tryz.func211 rfl hC ?_ hro
  simp only [Tryz.ntmps211,List.size_toArray,List.length_cons,List.length_nil,Nat.reduceAdd,Nat.reduceSub,Array.replicate_succ,Array.replicate_zero,List.push_toArray,List.append_toArray,List.nil_append,List.cons_append]
  gi_wp2_with (first
    | (gi_at_range; refine wpListIn_range_own _ rfl _ 201 rfl 31 3 KR.K Tryz.underlying201 _ b nn _ rfl hown ?_; intro w0 hrg0 hg0 hs0)
    | gi_in)
  go_frame
  gi_loopw [3] (fun _ wr=>∃ (left:Lit→Bool) (cnt:Nat) (ss:List (Int)),wr.ranges P 31 rUnit b W.heap.size nn D0 left cnt∧ss.length+cnt≤Maps.size D0∧Col (Lit.int .u64) D0 left ss∧J ss wr)
    (fun _ wr=>wr.rangeLeft b W.heap.size)
  case atStart =>
    exact ⟨_,_,[],hrg0,by simp,Col.start _ D0,hJ [] W w0 none h0 hg0 (fun r e=>by cases e)⟩
  case round =>
    obtain ⟨left,cnt,ss,hrg,hcs,hC',hJs⟩:=hrel
    gi_wp2_with (first
      | (gi_at_next; refine wpListIn_next_ranges _ rfl _ rfl 31 KR.K rUnit ((encI .u64)) id (fun key kl hk=>by obtain ⟨x,hx,_⟩:=KR.inv key kl hk; exact ⟨x,hx⟩) (fun v _ _=>⟨v,rfl⟩) b W.heap.size nn _ _ _ rfl hrg ?_ ?_)
      | gi_in)
    · intro hc0 hl0
      gi_wp2
      go_end0
      exact ⟨⟨_,rfl⟩,ss,hC'.perm hl0 hks hhas,hJs⟩
    · intro x c kl yd yp w2 cnt2 hkey hlk hv hv2 hat hrg2 hlt hg2 hs2 hen
      obtain ⟨x',ex,rfl⟩:=KR.inv _ kl hkey
      obtain rfl:x=x':=KR.inj _ _ ex
      have hJ2:J ss w2:=hJ ss wr w2 (some W.heap.size) hJs hg2 (fun r e=>by cases e; exact ⟨Nat.le_refl _,hrg.iter_walk⟩)
      obtain ⟨fn,tmps,assign,body,hy,hR⟩:=hY ss x w2 hJ2 (by omega)
      clear hs2
      gi_wp2
      refine hR.mono ?_
      rintro e W3 ⟨rfl,hJ3,hk3⟩
      gi_wp2
      have hrg3:=hrg2.of_walks hk3
      go_roundw
      case rel=>exact ⟨_,cnt2,ss++[x],hrg3,by simp; omega,hC'.step KR hlk hat,hJ3⟩
      case measure=>rw [hrg3.left_eq,hrg.left_eq]; exact hlt
theorem keys211_gives (F:Fence) (n:Nat) (hC:F.fn 211) (hro:F.round=none) (hn:1≤n) (Bm b nn:Nat) (D0:DataW Unit) (w:World) (hBm:Bm<w.heap.size)
    (hm:w.cell? ⟨Bm,0,none⟩=some (.map (some b))) (hown:w.ownsMap P 31 rUnit b nn D0) (ks:List (Int)) (hks:ks.Nodup) (hhas:∀ k,has D0 ((Lit.int .u64) k)=true↔k∈ks) :
    SeqGives F n P 211 #[.pointer (some ⟨Bm,0,none⟩)] ((encI .u64)) (fun ss=>ss.Perm ks) (Maps.size D0) w:=fun l J W hW hJ hY h0=>by
  have hown':W.ownsMap P 31 rUnit b nn D0:=by
    have hbl:=hown.lt
    obtain ⟨es,clock,hb,Ft,hs,hD⟩:=hown
    exact ⟨es,clock,(hW.block b hbl).trans hb,Ft,hs,hD⟩
  exact keys211_in F n hC hro hn l Bm b nn D0 J hY W hJ ((hW.cell (p:=⟨Bm,0,none⟩) hBm).trans hm) hown' h0 ks hks hhas
theorem sortedKeys_map_uint64_int_uint64_int {K:KT}{L:List Asr}{h:Heap}{ν:Type}{vv:ν→Value}{m:Nat}{kvs:List ((Int) × ν)} (S:St (Mq (encI .u64) vv m kvs::L) h) (hw:∀ k∈kvs.map Prod.fst,keyOf P 31 ((encI .u64) k)=some ((Lit.int .u64) k)) (hl:kvs.length≤8796093022208) (d:Int)
    (hK:∀ h' s (ks:List (Int)),ks.Perm (kvs.map Prod.fst)→ks.Pairwise sort_uint64.o.le→St (Ow 1 s (ks.map (encI .u64))::Mq (encI .u64) vv m kvs::L) h'→K (.slice s.1 s.2.1 s.2.2) h') :
    CallsH P F.qbv [.map (some m)] (fun v h'=>CallsH P F.qct [v] K h') h:=by
  refine qbv.ok ?_
  unfold qbv.p0
  simp only [bd]
  refine qct.ok ?_
  unfold qct.p0
  refine qcp.ok ?_
  unfold qcp.p0
  have S1:St (Bx (top h) [.map (some m)]::Mq (encI .u64) vv m kvs::L) (al h #[.map (some m)] T.map_uint64_int):=S.al [.map (some m)] T.map_uint64_int
  have hn:=S.mp
  refine ⟨by kernel_rfl,fun w hwh=>?_⟩
  have e0:((al h #[.map (some m)] T.map_uint64_int).size)=h.size+1:=by simp [al]
  rw [← hwh] at S1 e0
  have KR:=keyR_int Tryz.underlying31
  have hmx:kvs.length≤maxLen:=by unfold maxLen; omega
  obtain ⟨D0,hown,hsz,hhas⟩:=owns_of_mp KR S1.p1.mp hw hmx
  have hnd:(kvs.map Prod.fst).Nodup:=by
    obtain ⟨_,_,_,_,hx,_⟩:=S1.p1.mp
    exact hx
  have hseq:=keys211_gives Fence.wide 1 trivial rfl (Nat.le_refl _) h.size m kvs.length D0 w (by omega) (by rw [cell_eq]; exact S1.c 0 rfl) hown _ hnd hhas
  refine (callsIn_wide.1 (appendSeq_uint64 Fence.wide 2 trivial rfl (Nat.le_refl _) 211 #[.pointer (some ⟨h.size,0,none⟩)] trivial (enters_of Tryz.func211 (by kernel_rfl) rfl) _ (Maps.size D0) (by omega) (by omega) w hseq)).mono ?_
  rintro e w' ⟨v,ss,rfl,hS,hrow,_,hb⟩
  obtain ⟨p,l,c,rfl,ow,fr⟩:=own_of_row hrow
  refine ⟨_,rfl,?_,⟨hb.os,hb.tape,hb.output⟩⟩
  have kp:Kept w.heap w'.heap:=⟨hb.size,fun b hlt _=>hb.block b hlt⟩
  have S2:=S1.owNew ow fr kp
  refine ⟨p,l,c,rfl,⟨p,l,c,rfl,?_⟩⟩
  refine sort_uint64.sortS (s:=(p,l,c)) (xs:=ss) S2 (by rw [hS.length_eq,List.length_map]; omega) d fun h3 ys py sy S3=>⟨rfl,?_⟩
  exact hK h3 (p,l,c) ys (py.trans hS) sy S3.d1
end Go.Proofs.YtofpbcakppjgcaaGreatDoor.Pr.keys
end
