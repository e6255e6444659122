/- brokTakes_holds: all that the theorem needs, in a few texts (bundle.py; made of the texts that NOTES.md names). -/
import Derived.Below
import Derived.DeepKeys4
import Derived.KernelRfl
import Derived.Laws.Append
import Derived.Laws.Bits64
import Derived.Laws.BitsAllLaws
import Derived.Laws.BitsLemmas
import Derived.Laws.IdiomStrings
import Derived.Laws.Sem
import Derived.Laws.Strings
import Derived.Laws.StructEq
import Derived.Lib.ItoaNum
import Derived.LoopIn
import Derived.LoopN
import Derived.LoopNIn
import Derived.MapKept
import Derived.Maps.AppendAt
import Derived.Orders
import Derived.OwnWalkIn
import Derived.RangeFuncGives
import Derived.RangeFuncSeq
import Derived.RegionIn
import Derived.Shelf.Abstract
import Derived.Shelf.Lay
import Derived.Shelf.SlIter.Collect
import Derived.Shelf.Small.Bits
import Derived.Sort.KeysCollected
import Derived.Sort.MapsRangeIn
import Derived.TacticsInMore
import Derived.Test.YtofpbcakppjgcaaGreatDoorChecked
import Derived.WalkKit
import Derived.WideLaws
import Derived.Test.YtofpbcakppjgcaaGreatDoorBBrokTakes2
import Derived.Test.YtofpbcakppjgcaaGreatDoorBBrokTakes3
import Derived.Test.YtofpbcakppjgcaaGreatDoorBBrokTakes4
import Derived.Test.YtofpbcakppjgcaaGreatDoorBBrokTakes5
import Derived.Test.YtofpbcakppjgcaaGreatDoorBBrokTakes8
import Derived.Test.YtofpbcakppjgcaaGreatDoorBBrokTakes9
import Derived.Test.YtofpbcakppjgcaaGreatDoorBBrokTakes11
import Derived.Test.YtofpbcakppjgcaaGreatDoorBBrokTakes13
import Derived.Test.YtofpbcakppjgcaaGreatDoorBBrokTakes15
import Derived.Test.YtofpbcakppjgcaaGreatDoorBBrokTakes17
import Derived.Test.YtofpbcakppjgcaaGreatDoorBBrokTakes19
import Derived.Test.YtofpbcakppjgcaaGreatDoorBBrokTakes21
section
set_option linter.unusedVariables false
set_option linter.unusedSimpArgs false
namespace Go.Proofs.YtofpbcakppjgcaaGreatDoor.Pr.keys
open Go Go.Lift Go.Proofs Go.Maps Go.RowKit Go.Sort Go.Shelf
set_option maxRecDepth 100000 in
set_option maxHeartbeats 1000000 in
theorem keysB_in (F:Fence) (n:Nat) (hC:F.fn 137) (hro:F.round=none) (hn:1≤n) (l Bm b nn:Nat) (D0:DataW Unit) (J:List BN→World→Prop)
    (hY:∀ pre x W,J pre W→pre.length<Maps.size D0→YieldAt F (n - 1) P l #[kkB x] W fun e W'=>e=.returned (.bool true)∧J (pre++[x]) W'∧KeepsWalks W W')
    (W:World) (hJ:AbidesFrom W.heap.size J) (hm:W.cell? ⟨Bm,0,none⟩=some (.map (some b))) (hown:W.ownsMap P 126 rUnit b nn D0) (h0:J [] W) (ks:List BN) (hks:ks.Nodup) (hko:∀ k∈ks,okB k) (hhas:∀ k,okB k→(has D0 (litB k)=true↔k∈ks)) :
    CallsIn F n P 137 #[.func (.yield l) #[] #[],.pointer (some ⟨Bm,0,none⟩)] W fun e W'=>(∃ v,e=.returned v)∧∃ ss:List BN,ss.Perm ks∧J ss W':=by
  have KR:=keyRo_bind
  refine callsIn_of_wp Tryz.func137 rfl hC ?_ hro
  simp only [Tryz.ntmps137,List.size_toArray,List.length_cons,List.length_nil,Nat.reduceAdd,Nat.reduceSub,Array.replicate_succ,Array.replicate_zero,List.push_toArray,List.append_toArray,List.nil_append,List.cons_append]
  gi_wp2_with (first
    | (gi_at_range; refine wpListIn_range_own _ rfl _ 130 rfl 126 3 KR.K Tryz.underlying130 _ b nn _ rfl hown ?_; intro w0 hrg0 hg0 hs0)
    | gi_in)
  go_frame
  gi_loopw [3] (fun _ wr=>∃ (left:Lit→Bool) (cnt:Nat) (ss:List BN),wr.ranges P 126 rUnit b W.heap.size nn D0 left cnt∧ss.length+cnt≤Maps.size D0∧Colo litB okB D0 left ss∧J ss wr)
    (fun _ wr=>wr.rangeLeft b W.heap.size)
  case atStart =>
    exact ⟨_,_,[],hrg0,by simp,Colo.start _ _ D0,hJ [] W w0 none h0 hg0 (fun r e=>by cases e)⟩
  case round =>
    obtain ⟨left,cnt,ss,hrg,hcs,hC',hJs⟩:=hrel
    gi_wp2_with (first
      | (gi_at_next; refine wpListIn_next_ranges _ rfl _ rfl 126 KR.K rUnit kkB id (fun key kl hk=>by obtain ⟨x,hx,_⟩:=KR.inv key kl hk; exact ⟨x,hx⟩) (fun v _ _=>⟨v,rfl⟩) b W.heap.size nn _ _ _ rfl hrg ?_ ?_)
      | gi_in)
    · intro hc0 hl0
      gi_wp2
      go_end0
      exact ⟨⟨_,rfl⟩,ss,hC'.perm hl0 hks hko hhas,hJs⟩
    · intro x1 x2 x3 c kl yd yp w2 cnt2 hkey hlk hv hv2 hat hrg2 hlt hg2 hs2 hen
      obtain ⟨x',ex,rfl,hok⟩:=KR.inv _ kl hkey
      obtain rfl:(x1,x2,x3)=x':=KR.inj _ _ ex
      have hJ2:J ss w2:=hJ ss wr w2 (some W.heap.size) hJs hg2 (fun r e=>by cases e; exact ⟨Nat.le_refl _,hrg.iter_walk⟩)
      have hg3:w2.grownBy (w2.alloc (Obj.cells #[Value.string (mkS x1),Value.string (mkS x2),Value.string (mkS x3)] 126)) none:=World.grownBy_alloc w2 _ none
      have hJ3:J ss (w2.alloc (Obj.cells #[Value.string (mkS x1),Value.string (mkS x2),Value.string (mkS x3)] 126)):=hJ ss w2 _ none hJ2 hg3 (fun r e=>by cases e)
      obtain ⟨fn,tmps,assign,body,hy,hR⟩:=hY ss (x1,x2,x3) _ hJ3 (by omega)
      clear hs2
      gi_wp2
      refine hR.mono ?_
      rintro e W3 ⟨rfl,hJ4,hk3⟩
      gi_wp2
      have hrg3:=(hrg2.alloc (Obj.cells #[Value.string (mkS x1),Value.string (mkS x2),Value.string (mkS x3)] 126)).of_walks hk3
      go_roundw
      case rel=>exact ⟨_,cnt2,ss++[(x1,x2,x3)],hrg3,by simp; omega,hC'.step KR hok hlk hat,hJ4⟩
      case measure=>rw [hrg3.left_eq,hrg.left_eq]; exact hlt
theorem keysB_gives (F:Fence) (n:Nat) (hC:F.fn 137) (hro:F.round=none) (hn:1≤n) (Bm b nn:Nat) (D0:DataW Unit) (w:World) (hBm:Bm<w.heap.size)
    (hm:w.cell? ⟨Bm,0,none⟩=some (.map (some b))) (hown:w.ownsMap P 126 rUnit b nn D0) (ks:List BN) (hks:ks.Nodup) (hko:∀ k∈ks,okB k) (hhas:∀ k,okB k→(has D0 (litB k)=true↔k∈ks)) :
    SeqGives F n P 137 #[.pointer (some ⟨Bm,0,none⟩)] kkB (fun ss=>ss.Perm ks) (Maps.size D0) w:=fun l J W hW hJ hY h0=>by
  have hown':W.ownsMap P 126 rUnit b nn D0:=by
    have hbl:=hown.lt
    obtain ⟨es,clock,hb,Ft,hs,hD⟩:=hown
    exact ⟨es,clock,(hW.block b hbl).trans hb,Ft,hs,hD⟩
  exact keysB_in F n hC hro hn l Bm b nn D0 J hY W hJ ((hW.cell (p:=⟨Bm,0,none⟩) hBm).trans hm) hown' h0 ks hks hko hhas
def bnd.apAssign : Code := (Code.region 2 #[{ dst := some 5, op := Op.alloc 126, type := 0, pos := "iter.go:51", after := #[], guard := none }, { dst := none, op := Op.store 126 (Operand.tmp 5) (Operand.tmp 7), type := 0, pos := "iter.go:51", after := #[{ on := 0, ground := Ground.data }, { on := 0, ground := Ground.phase }], guard := none }] false)
def bnd.apBody : Code := (Code.block 1 (Code.region 3 #[{ dst := some 8, op := Op.load 61 (Operand.tmp 2), type := 61, pos := "iter.go:52", after := #[], guard := none }, { dst := some 9, op := Op.load 126 (Operand.tmp 5), type := 126, pos := "iter.go:52", after := #[], guard := none }, { dst := some 10, op := Op.buildSlice 61 1 #[(0, Operand.tmp 9)], type := 61, pos := "iter.go:52", after := #[{ on := 1, ground := Ground.data }], guard := none }, { dst := some 11, op := Op.call { callee := Callee.builtin Builtin.append, args := #[Operand.tmp 8, Operand.tmp 10], argTypes := #[61, 61] }, type := 61, pos := "iter.go:52", after := #[{ on := 0, ground := Ground.data }, { on := 2, ground := Ground.data }], guard := none }, { dst := none, op := Op.store 61 (Operand.tmp 2) (Operand.tmp 11), type := 0, pos := "iter.go:52", after := #[{ on := 3, ground := Ground.data }, { on := 3, ground := Ground.chain }, { on := 0, ground := Ground.phase }, { on := 1, ground := Ground.phase }, { on := 2, ground := Ground.phase }, { on := 3, ground := Ground.phase }], guard := none }] false))
def bnd.apRec (fn:FuncId) (sv:Value) (Bs D:Nat) (st:LoopState) (pend:Option Code):Loop :=
  { state:=st,pending:=pend,fn,tmps:=#[.slice none 0 0,sv,.pointer (some ⟨Bs,0,none⟩),undef,.slice none 0 0,undef,sv,undef,undef,undef,undef,undef,undef],params:=#[7],assign:=bnd.apAssign,body:=bnd.apBody,defers:=D }
structure bnd.ApAt (w0:World) (fn:FuncId) (sv:Value) (Bs l D:Nat) (ss:List BN) (W:World):Prop where
  box:∃ v,W.heap[Bs]? = some (.cells #[v] 61 (0,0))∧W.ownsRow w0.heap.size 126 3 v ss.length (ss.flatMap bc)∧(v=.slice none 0 0↔ss=[])
  L:W.heap[l]? = some (.loop (bnd.apRec fn sv Bs D .ready none))
  K:W.heap[D]? = some (.deferred (some []))
  below:Below w0.heap.size w0 W
theorem bnd.ap_abides (w0:World) (fn:FuncId) (sv:Value) (Bs l D B:Nat) (hB:w0.heap.size≤B):AbidesFrom B (bnd.ApAt w0 fn sv Bs l D):=fun s W W' row h hg hrow=>by
  have hrow':∀ r,row=some r→∃ o:Obj,W.heap[r]? = some o∧o.isWalk=true:=fun r e=>(hrow r e).2
  obtain ⟨v,hv,hr,hn⟩:=h.box
  exact ⟨⟨v,(grownBy_keeps hg hrow' hv rfl).trans hv,ownsRow_abides_a hr hg hrow',hn⟩,(grownBy_keeps hg hrow' h.L rfl).trans h.L,(grownBy_keeps hg hrow' h.K rfl).trans h.K,
    h.below.grown hg h.below.size (fun k e=>Nat.le_trans hB (hrow k e).1)⟩
theorem infoB:(P.info? 126).map (fun i=>(i.zero,i.size,i.bytes))=some (some (.agg #[.string ⟨#[]⟩,.string ⟨#[]⟩,.string ⟨#[]⟩]),3,48):=by kernel_rfl
theorem cells_new (w:World) (vs:List Value) (t:TypeId):∀ j u,vs[j]? = some u→(w.alloc (.cells vs.toArray t)).cell? ((⟨w.heap.size,0,none⟩:Addr).add j)=some u:=by
  intro j u hj
  have e:((⟨w.heap.size,0,none⟩:Addr).add j)=⟨w.heap.size,j,none⟩:=by unfold Addr.add; split <;> simp_all
  rw [e]
  have hn:(w.alloc (.cells vs.toArray t)).heap[w.heap.size]? = some (.cells vs.toArray t):=World.alloc_heap_new w _
  unfold World.cell?
  rw [hn]
  simpa using hj
set_option maxRecDepth 100000 in
set_option maxHeartbeats 2000000 in
theorem bnd.apYield (F:Fence) (m:Nat) (w0:World) (fn:FuncId) (hfn:F.fn fn) (sv:Value) (Bs l D:Nat) (hBl:Bs≠l) (hDl:D≠l) (hDB:D≠Bs) (h0B:w0.heap.size≤Bs) (h0l:w0.heap.size≤l)
    (N:Nat) (hN:N≤maxLen) (hNb:N * 48≤140737488355328) (ss:List BN) (x:BN) (W:World) (h:bnd.ApAt w0 fn sv Bs l D ss W) (hlen:ss.length<N) :
    YieldAt F m P l #[kkB x] W fun e W'=>e=.returned (.bool true)∧bnd.ApAt w0 fn sv Bs l D (ss++[x]) W'∧KeepsWalks W W':=by
  obtain ⟨i0,hi,hz0,hz1,hz2⟩:=info_parts infoB
  obtain ⟨v,hv,hrow,_⟩:=h.box
  refine ⟨fn,#[.slice none 0 0,sv,.pointer (some ⟨Bs,0,none⟩),undef,.slice none 0 0,undef,sv,kkB x,undef,undef,undef,undef,undef],bnd.apAssign,bnd.apBody,by simpa [bnd.apRec] using run_yield (P:=P) (args:=#[kkB x]) h.L rfl,roundIn_of_wpIn hfn ?_⟩
  have hl:l<W.heap.size:=(Array.getElem?_eq_some_iff.1 h.L).1
  have hBs:Bs<W.heap.size:=(Array.getElem?_eq_some_iff.1 hv).1
  have hD:D<W.heap.size:=(Array.getElem?_eq_some_iff.1 h.K).1
  unfold bnd.apAssign
  gi_wp2_with gi_round_op_a
  obtain ⟨W1,hW1⟩:∃ W1,W.alloc (Obj.cells #[Value.string (mkS x.1),Value.string (mkS x.2.1),Value.string (mkS x.2.2)] 126)=W1:=⟨_,rfl⟩
  rw [hW1]
  have hs1:W1.heap.size=W.heap.size+1:=by rw [← hW1]; simp
  have hk1:KeepsWalks W W1:=by rw [← hW1]; exact KeepsWalks.alloc _ _
  have hv1:W1.heap[Bs]? = some (.cells #[v] 61 (0,0)):=by rw [← hW1]; exact (Below.heap_alloc _ _ Bs hBs).trans hv
  have hK1:W1.heap[D]? = some (.deferred (some [])):=by rw [← hW1]; exact (Below.heap_alloc _ _ D hD).trans h.K
  have hL1:W1.heap[l]? = some (.loop (bnd.apRec fn sv Bs D .ready none)):=by rw [← hW1]; exact (Below.heap_alloc _ _ l hl).trans h.L
  have hx1:W1.heap[W.heap.size]? = some (Obj.cells #[Value.string (mkS x.1),Value.string (mkS x.2.1),Value.string (mkS x.2.2)] 126):=by rw [← hW1]; exact World.alloc_heap_new W _
  have hrow1:W1.ownsRow w0.heap.size 126 3 v ss.length (ss.flatMap bc):=by rw [← hW1]; exact hrow.alloc _
  have hb1:Below w0.heap.size w0 W1:=by rw [← hW1]; exact h.below.alloc h.below.size _
  have hne1:some W.heap.size≠v.ownBlock:=fun e=>by have:=(hrow.lt _ e.symm).2; omega
  clear hW1
  refine ⟨_,run_beginRound (P:=P) hL1 rfl,?_⟩
  obtain ⟨W2,hW2⟩:∃ W2,W1.putObj l (.loop { bnd.apRec fn sv Bs D .ready none with state:=.busy })=W2:=⟨_,rfl⟩
  rw [hW2]
  have hg2:W1.grownBy W2 (some l):=by rw [← hW2]; exact grownBy_putObj_a _ _ _
  have hk2:KeepsWalks W1 W2:=by rw [← hW2]; exact KeepsWalks.putObj _ hL1 rfl
  have hv2:W2.heap[Bs]? = some (.cells #[v] 61 (0,0)):=by rw [← hW2]; exact (World.putObj_heap_other hBl).trans hv1
  have hK2:W2.heap[D]? = some (.deferred (some [])):=by rw [← hW2]; exact (World.putObj_heap_other hDl).trans hK1
  have hx2:W2.heap[W.heap.size]? = some (Obj.cells #[Value.string (mkS x.1),Value.string (mkS x.2.1),Value.string (mkS x.2.2)] 126):=by rw [← hW2]; exact (World.putObj_heap_other (by omega)).trans hx1
  have hL2:W2.heap[l]? = some (.loop { bnd.apRec fn sv Bs D .ready none with state:=.busy }):=by rw [← hW2]; exact World.putObj_heap_same (by omega)
  have hrow2:W2.ownsRow w0.heap.size 126 3 v ss.length (ss.flatMap bc):=hrow1.kept hg2 (ownsRow_ne_a hrow1 hL1 (fun cur e=>by first | cases e | exact absurd (Obj.cells.inj e).2.1 (by decide)))
  have hb2:Below w0.heap.size w0 W2:=hb1.grown hg2 hb1.size (fun k e=>by cases e; exact h0l)
  obtain ⟨hc2,hf2⟩:=cell_of_box_a hv2
  have hx20:W2.cell? ⟨W.heap.size,0,none⟩=some (.string (mkS x.1)):=by simp [World.cell?,hx2]
  have hx21:W2.cell? ⟨W.heap.size,1,none⟩=some (.string (mkS x.2.1)):=by simp [World.cell?,hx2]
  have hx22:W2.cell? ⟨W.heap.size,2,none⟩=some (.string (mkS x.2.2)):=by simp [World.cell?,hx2]
  have hBlt:Bs<W2.heap.size:=(Array.getElem?_eq_some_iff.1 hv2).1
  have hl2:l<W2.heap.size:=(Array.getElem?_eq_some_iff.1 hL2).1
  have hDlt:D<W2.heap.size:=(Array.getElem?_eq_some_iff.1 hK2).1
  have ne_of:∀ {j:Nat}{o:Obj},W2.heap[j]? = some o→(∀ cur,o≠.cells cur 126 (0,0))→some j≠v.ownBlock:=fun hj hno=>by
    rcases ownsRow_ne_a hrow2 hj hno with e | e
    · rw [e]; simp
    · exact fun e'=>e e'.symm
  clear hW2
  unfold bnd.apBody
  gi_wp2_with (first
    | (gi_at_builtin; refine wpListIn_append_own _ rfl _ _ 61 rfl w0.heap.size 126 i0 (.agg #[.string ⟨#[]⟩,.string ⟨#[]⟩,.string ⟨#[]⟩]) 3 48 Tryz.underlying61 hi hz0 hz1 hz2 rfl (by decide) _ _ _ rfl (hrow2.alloc _) ⟨W2.heap.size,0,none⟩ 1 1 (bc x) rfl rfl (cells_new _ (bc x) _) (by simp [Value.oneCell']) (by omega) (by omega) (by have:=hb2.size; simp; omega) ?_; intro v' w3 hown' hg3 hnil3
       have hv3:w3.heap[Bs]? = some (.cells #[v] 61 (0,0)):=(hg3.block Bs (by simp; omega) (ne_of hv2 (fun cur e=>by first | cases e | exact absurd (Obj.cells.inj e).2.1 (by decide)))).trans ((Below.heap_alloc _ _ Bs hBlt).trans hv2)
       obtain ⟨hc3,hf3⟩:=cell_of_box_a hv3
       obtain ⟨g',cap',cur',rfl,hbase',hgb',hr1,hr2,hr3,hr4⟩:∃ g' cap' cur',v'=.slice (some ⟨g',0,none⟩) (ss.length+1) cap'∧w0.heap.size≤g'∧w3.heap[g']? = some (.cells cur' 126 (0,0))∧ss.length+1≤cap'∧cap'≤maxLen∧cur'.size=cap' * 3∧cur'.toList.take ((ss.length+1) * 3)=ss.flatMap bc++bc x:=by
         rcases hown'.2 with ⟨_,h0⟩ | h'
         · exact absurd h0 (by omega)
         · exact h'
       go_frame)
    | gi_round_op_a)
  have hg3':(W2.alloc (Obj.cells #[Value.string (mkS x.1),Value.string (mkS x.2.1),Value.string (mkS x.2.2)] 126)).grownBy w3 v.ownBlock:=hg3
  have hL3:w3.heap[l]? = some (.loop { bnd.apRec fn sv Bs D .ready none with state:=.busy }):=(hg3'.block l (by simp; omega) (ne_of hL2 (fun cur e=>by first | cases e | exact absurd (Obj.cells.inj e).2.1 (by decide)))).trans ((Below.heap_alloc _ _ l hl2).trans hL2)
  have hK3:w3.heap[D]? = some (.deferred (some [])):=(hg3'.block D (by simp; omega) (ne_of hK2 (fun cur e=>by first | cases e | exact absurd (Obj.cells.inj e).2.1 (by decide)))).trans ((Below.heap_alloc _ _ D hDlt).trans hK2)
  obtain ⟨w4,hw4⟩:∃ w4,w3.setCell ⟨Bs,0,none⟩ (.slice (some ⟨g',0,none⟩) (ss.length+1) cap')=w4:=⟨_,rfl⟩
  rw [hw4]
  have hg4:w3.grownBy w4 (some Bs):=by rw [← hw4]; exact grownBy_setCell0_a _ _ _
  have hv4:w4.heap[Bs]? = some (.cells #[.slice (some ⟨g',0,none⟩) (ss.length+1) cap'] 61 (0,0)):=by rw [← hw4]; exact heap_setCell_box_a _ hv3
  have hL4:w4.heap[l]? = some (.loop { bnd.apRec fn sv Bs D .ready none with state:=.busy }):=(hg4.block l (Array.getElem?_eq_some_iff.1 hL3).1 (fun e=>hBl (by cases e; rfl))).trans hL3
  have hK4:w4.heap[D]? = some (.deferred (some [])):=(hg4.block D (Array.getElem?_eq_some_iff.1 hK3).1 (fun e=>hDB (by cases e; rfl))).trans hK3
  have hrow4:=hown'.kept hg4 (ownsRow_ne_a hown' hv3 (fun cur e=>by first | cases e | exact absurd (Obj.cells.inj e).2.1 (by decide)))
  have hl4:l<w4.heap.size:=(Array.getElem?_eq_some_iff.1 hL4).1
  have hb3:Below w0.heap.size w0 w3:=(hb2.alloc hb2.size _).grown hg3' (by have:=hb2.size; simp; omega) (fun k e=>(hrow2.lt k e).1)
  have hb4:Below w0.heap.size w0 w4:=hb3.grown hg4 hb3.size (fun k e=>by cases e; exact h0B)
  have hk4:KeepsWalks W w4:=(((hk1.trans hk2).trans (KeepsWalks.alloc _ _)).trans (KeepsWalks.of_grownBy hg3' (ownsRow_not_walk_a (hrow2.alloc _)))).trans (by rw [← hw4]; exact KeepsWalks.setCell _ _ _)
  clear hw4
  refine ⟨_,_,run_endRound none hL4,rfl,⟨⟨_,(World.putObj_heap_other hBl).trans hv4,?_,by simp⟩,World.putObj_heap_same hl4,(World.putObj_heap_other hDl).trans hK4,hb4.grown (grownBy_putObj_a _ _ _) hb4.size (fun k e=>by cases e; exact h0l)⟩,hk4.trans (KeepsWalks.putObj _ hL4 rfl)⟩
  have:=hrow4.kept (grownBy_putObj_a w4 l (.loop { { bnd.apRec fn sv Bs D .ready none with state:=.busy } with state:=if (none:Option Code).isNone then .ready else .done,pending:=none })) (ownsRow_ne_a hrow4 hL4 (fun cur e=>by first | cases e | exact absurd (Obj.cells.inj e).2.1 (by decide)))
  simpa using this
set_option maxRecDepth 100000 in
set_option maxHeartbeats 2000000 in
theorem appendSeq_bnd (F:Fence) (n:Nat) (h11:F.fn 208) (hro:F.round=none) (hn:2≤n) (g:Nat) (lb:Array Value) (hFg:F.fn g) (eg:∀ args w,(callFunc g args).run P w=.ok (.enter g args) w)
    (S:List BN→Prop) (N:Nat) (hN:N≤maxLen) (hNb:N * 48≤140737488355328) (w:World) (hseq:SeqGives F (n - 1) P g lb kkB S N w) :
    CallsIn F n P 208 #[.slice none 0 0,.func (.func g) #[] lb] w fun e w'=>∃ (v:Value) (ss:List BN),e=.returned v∧S ss∧w'.ownsRow w.heap.size 126 3 v ss.length (ss.flatMap bc)∧(v=.slice none 0 0↔ss=[])∧Below w.heap.size w w':=by
  have h1:1≤n:=by omega
  refine callsIn_of_wp_marks Tryz.func208 rfl h11 ?_ hro
  simp only [Tryz.ntmps208,List.size_toArray,List.length_cons,List.length_nil,Nat.reduceAdd,Nat.reduceSub,Array.replicate_succ,Array.replicate_zero,List.push_toArray,List.append_toArray,List.nil_append,List.cons_append]
  gi_wp2
  refine wpIn_rangeFunc ?_
  intro fn hfn
  rw [hro]
  obtain ⟨W0,hW0⟩:∃ W0,w.alloc (.cells #[.slice none 0 0] 61)=W0:=⟨_,rfl⟩
  have hs0:W0.heap.size=w.heap.size+1:=by rw [← hW0]; simp
  have hv0:W0.heap[w.heap.size]? = some (.cells #[.slice none 0 0] 61 (0,0)):=by rw [← hW0]; exact World.alloc_heap_new w _
  have hb0:Below w.heap.size w W0:=by rw [← hW0]; exact (Below.refl _ w).alloc (Nat.le_refl _) _
  rw [hW0]
  obtain ⟨W1,hW1⟩:∃ W1,(W0.alloc (.deferred (some []))).alloc (.loop (bnd.apRec fn (.func (.func g) #[] lb) w.heap.size W0.heap.size .ready none))=W1:=⟨_,rfl⟩
  have hold:∀ k,k<W0.heap.size→W1.heap[k]? = W0.heap[k]?:=fun k hk=>by
    rw [← hW1]; exact (Below.heap_alloc _ _ k (by simp; omega)).trans (Below.heap_alloc _ _ k hk)
  have hb1:Below w.heap.size w W1:=by rw [← hW1]; exact (hb0.alloc hb0.size _).alloc (by have:=hb0.size; simp; omega) _
  have hs1:W1.heap.size=W0.heap.size+2:=by rw [← hW1]; simp
  have hM:bnd.ApAt w fn (.func (.func g) #[] lb) w.heap.size (W0.heap.size+1) W0.heap.size [] W1 :=
    ⟨⟨_,(hold w.heap.size (by omega)).trans hv0,⟨rfl,.inl ⟨rfl,rfl⟩⟩,by simp⟩,
     by rw [← hW1]; have:=World.alloc_heap_new (W0.alloc (.deferred (some []))) (.loop (bnd.apRec fn (.func (.func g) #[] lb) w.heap.size W0.heap.size .ready none)); rwa [World.size_alloc] at this,
     by rw [← hW1]; exact (Below.heap_alloc _ _ _ (by simp)).trans (World.alloc_heap_new W0 _),hb1⟩
  refine ⟨W0.heap.size+1,[{ target:=.collected W0.heap.size,args:=#[] }],W1,{ target:=.fn (.func g) lb,args:=#[.func (.yield (W0.heap.size+1)) #[] #[]] },W1,g,
    #[.func (.yield (W0.heap.size+1)) #[] #[]]++lb,W1,?_,?_,?_,?_,fun _=>h1,?_⟩
  · rw [← hW1]; exact run_enterLoop_outer _ _ _ _ _
  · simp [resolve,go_sem]
  · intro f' hf'; simp [Target.leads] at hf'; subst hf'; exact hFg
  · simp [invoke,go_sem,eg]
  · refine (hseq (W0.heap.size+1) (bnd.ApAt w fn (.func (.func g) #[] lb) w.heap.size (W0.heap.size+1) W0.heap.size) W1 hb1 (bnd.ap_abides _ _ _ _ _ _ _ hb1.size)
      (fun pre x W hJ hl=>bnd.apYield F (n - 1 - 1) w fn hfn _ w.heap.size (W0.heap.size+1) W0.heap.size (by omega) (by omega) (by omega) (Nat.le_refl _) (by omega) N hN hNb pre x W hJ hl) hM).mono ?_
    rintro e W2 ⟨⟨v0,rfl⟩,ss,hS,h2⟩
    obtain ⟨v,hv,hrow,hnil⟩:=h2.box
    have hend:=run_endLoop (P:=P) h2.L (by simp [bnd.apRec])
    obtain ⟨W3,hW3⟩:∃ W3,W2.putObj (W0.heap.size+1) (.loop { bnd.apRec fn (.func (.func g) #[] lb) w.heap.size W0.heap.size .ready none with state:=.exhausted })=W3:=⟨_,rfl⟩
    rw [hW3] at hend
    have hg3:W2.grownBy W3 (some (W0.heap.size+1)):=by rw [← hW3]; exact grownBy_putObj_a _ _ _
    have hv3:W3.heap[w.heap.size]? = some (.cells #[v] 61 (0,0)):=by rw [← hW3]; exact (World.putObj_heap_other (by omega)).trans hv
    have hK3:W3.heap[W0.heap.size]? = some (.deferred (some [])):=by rw [← hW3]; exact (World.putObj_heap_other (by omega)).trans h2.K
    have hrow3:=hrow.kept hg3 (ownsRow_ne_a hrow h2.L (fun cur e=>by first | cases e | exact absurd (Obj.cells.inj e).2.1 (by decide)))
    have hb3:Below w.heap.size w W3:=h2.below.grown hg3 h2.below.size (fun k e=>by cases e; omega)
    obtain ⟨hc3,hf3⟩:=cell_of_box_a hv3
    clear hW3
    refine ⟨none,W3,hend,?_⟩
    gi_wp2
    rw [← hs0]
    refine ⟨by simp,.inl ⟨_,_,rfl,run_takeDeferred hK3,?_⟩⟩
    exact ⟨_,results_tmp rfl _ _ _,v,ss,rfl,hS,hrow3.kept (grownBy_putObj_a _ _ _) (ownsRow_ne_a hrow3 hK3 (fun cur e=>by first | cases e | exact absurd (Obj.cells.inj e).2.1 (by decide))),hnil,hb3.grown (grownBy_putObj_a _ _ _) hb3.size (fun k e=>by cases e; omega)⟩
theorem sortedKeys_bnd {K:KT}{L:List Asr}{h:Heap}{ν:Type}{vv:ν→Value}{m:Nat}{kvs:List (BN × ν)} (S:St (Mq kkB vv m kvs::L) h) (hw:∀ k∈kvs.map Prod.fst,okB k) (hl:kvs.length≤12)
    (hK:∀ h' s (ks:List BN),ks.Perm (kvs.map Prod.fst)→ks.Pairwise sort_bind.o.le→St (Ow 3 s (ks.flatMap bc)::Mq kkB vv m kvs::L) h'→K (.slice s.1 s.2.1 s.2.2) h') :
    CallsH P F.qbt [.map (some m)] (fun v h'=>CallsH P F.qcl [v,sort_bind.fc] K h') h:=by
  refine qbt.ok ?_
  unfold qbt.p0
  simp only [bd]
  refine qcl.ok ?_
  unfold qcl.p0
  refine qcr.ok ?_
  unfold qcr.p0
  have S1:St (Bx (top h) [.map (some m)]::Mq kkB vv m kvs::L) (al h #[.map (some m)] T.map_api_Bind_int):=S.al [.map (some m)] T.map_api_Bind_int
  refine ⟨by kernel_rfl,fun w hwh=>?_⟩
  have e0:((al h #[.map (some m)] T.map_api_Bind_int).size)=h.size+1:=by simp [al]
  rw [← hwh] at S1 e0
  have hmx:kvs.length≤maxLen:=by unfold maxLen; omega
  obtain ⟨D0,hown,hsz,hhas⟩:=owns_of_mpo keyRo_bind S1.p1.mp hw hmx
  have hnd:(kvs.map Prod.fst).Nodup:=by
    obtain ⟨_,_,_,_,hx,_⟩:=S1.p1.mp
    exact hx
  have hseq:=keysB_gives Fence.wide 1 trivial rfl (Nat.le_refl _) h.size m kvs.length D0 w (by omega) (by rw [cell_eq]; exact S1.c 0 rfl) hown _ hnd hw hhas
  refine (callsIn_wide.1 (appendSeq_bnd Fence.wide 2 trivial rfl (Nat.le_refl _) 137 #[.pointer (some ⟨h.size,0,none⟩)] trivial (enters_of Tryz.func137 (by kernel_rfl) rfl) _ (Maps.size D0) (by omega) (by omega) w hseq)).mono ?_
  rintro e w' ⟨v,ss,rfl,hS,hrow,_,hb⟩
  obtain ⟨p,l,c,rfl,ow,fr⟩:=own_of_rowN hrow
  refine ⟨_,rfl,?_,⟨hb.os,hb.tape,hb.output⟩⟩
  have kp:Kept w.heap w'.heap:=⟨hb.size,fun b hlt _=>hb.block b hlt⟩
  have S2:=S1.owNew ow fr kp
  refine ⟨p,l,c,rfl,⟨p,l,c,rfl,?_⟩⟩
  refine sort_bind.sortS (s:=(p,l,c)) (xs:=ss) S2 (by rw [hS.length_eq,List.length_map]; omega) ([],[],[]) fun h3 ys py sy S3=>⟨rfl,?_⟩
  exact hK h3 (p,l,c) ys (py.trans hS) sy S3.d1
end Go.Proofs.YtofpbcakppjgcaaGreatDoor.Pr.keys
end
section
set_option linter.unusedVariables false
set_option linter.unusedSimpArgs false
namespace Go.Lift.Ord
variable {κ α:Type} (o:Ord κ) (f:α→κ)
abbrev Ups (l:List α):Prop:=l.Pairwise fun a b=>o.lt (f a) (f b)=true
def ins:List α→α→List α
  | [],a=>[a]
  | y::r,a=>if o.lt (f y) (f a) then y::ins r a else a::y::r
variable {o f}
theorem lt_irrefl (x:κ):o.lt x x=false:=by
  cases h:o.lt x x with
  | false=>rfl
  | true=>have:=o.asym x x h; rw [h] at this; exact this
theorem lt_trans {x y z:κ} (h:o.lt x y=true) (k:o.lt y z=true):o.lt x z=true:=by
  cases e:o.lt x z with
  | true=>rfl
  | false =>
    have:=o.trans z x y e (o.asym x y h)
    rw [k] at this; cases this
theorem Ups.nodup {l:List α} (u:Ups o f l):(l.map f).Nodup:=by
  rw [List.nodup_iff_pairwise_ne,List.pairwise_map]
  exact u.imp fun h e=>by rw [e,lt_irrefl] at h; cases h
theorem Ups.filter {l:List α} (u:Ups o f l) (p:α→Bool):Ups o f (l.filter p):=u.sublist List.filter_sublist
theorem mem_ins {l:List α}{a x:α}:x∈ins o f l a↔x=a∨x∈l:=by
  induction l with
  | nil=>simp [ins]
  | cons y r ih =>
    unfold ins
    split
    · rw [List.mem_cons,ih,List.mem_cons]
      exact ⟨fun h=>by rcases h with h | h | h <;> simp [h],fun h=>by rcases h with h | h | h <;> simp [h]⟩
    · rw [List.mem_cons]
theorem len_ins (l:List α) (a:α):(ins o f l a).length=l.length+1:=by
  induction l with
  | nil=>rfl
  | cons y r ih=>unfold ins; split <;> simp [ih]
theorem Ups.ins {l:List α}{a:α} (anti:∀ x y,o.le x y→o.le y x→x=y) (u:Ups o f l) (ha:f a ∉ l.map f):Ups o f (Ord.ins o f l a):=by
  induction l with
  | nil=>unfold Ord.ins; exact List.pairwise_singleton ..
  | cons y r ih =>
    have uy:=List.pairwise_cons.1 u
    simp only [List.map_cons,List.mem_cons,not_or] at ha
    unfold Ord.ins
    split
    · rename_i h
      refine List.pairwise_cons.2 ⟨fun z hz=>?_,ih uy.2 ha.2⟩
      rcases mem_ins.1 hz with e | e
      · subst e; exact h
      · exact uy.1 z e
    · rename_i h
      have hy:o.lt (f a) (f y)=true:=by
        cases e:o.lt (f a) (f y) with
        | true=>rfl
        | false=>exact absurd (anti (f a) (f y) (by simpa [Ord.le] using h) e) ha.1
      refine List.pairwise_cons.2 ⟨fun z hz=>?_,u⟩
      rcases List.mem_cons.1 hz with e | e
      · subst e; exact hy
      · exact lt_trans hy (uy.1 z e)
theorem Ups.ext {l m:List α} (u:Ups o f l) (v:Ups o f m) (h:∀ x,x∈l↔x∈m):l=m:=by
  induction l generalizing m with
  | nil =>
    cases m with
    | nil=>rfl
    | cons y s=>have:=(h y).2 (by simp); cases this
  | cons x r ih =>
    cases m with
    | nil=>have:=(h x).1 (by simp); cases this
    | cons y s =>
      have ux:=List.pairwise_cons.1 u
      have vy:=List.pairwise_cons.1 v
      have e:x=y:=by
        rcases List.mem_cons.1 ((h x).1 (by simp)) with e | e
        · exact e
        · rcases List.mem_cons.1 ((h y).2 (by simp)) with e2 | e2
          · exact e2.symm
          · have h1:=ux.1 _ e2
            have h2:=vy.1 _ e
            rw [o.asym _ _ h1] at h2; cases h2
      subst e
      rw [ih ux.2 vy.2 fun z=>⟨fun hz=>?_,fun hz=>?_⟩]
      · rcases List.mem_cons.1 ((h z).1 (List.mem_cons_of_mem _ hz)) with e | e
        · subst e; have:=ux.1 _ hz; rw [lt_irrefl] at this; cases this
        · exact e
      · rcases List.mem_cons.1 ((h z).2 (List.mem_cons_of_mem _ hz)) with e | e
        · subst e; have:=vy.1 _ hz; rw [lt_irrefl] at this; cases this
        · exact e
theorem ups_of_le {l:List κ} (anti:∀ x y,o.le x y→o.le y x→x=y) (s:l.Pairwise o.le) (n:l.Nodup):Ups o id l:=by
  induction l with
  | nil=>exact List.Pairwise.nil
  | cons x r ih =>
    have sx:=List.pairwise_cons.1 s
    have nx:=List.nodup_cons.1 n
    refine List.pairwise_cons.2 ⟨fun y hy=>?_,ih sx.2 nx.2⟩
    show o.lt x y=true
    cases e:o.lt x y with
    | true=>rfl
    | false=>exact absurd ((anti x y (sx.1 y hy) e) ▸ hy) nx.1
end Go.Lift.Ord
set_option linter.unusedVariables false
set_option linter.unusedSimpArgs false
namespace Go.Proofs.YtofpbcakppjgcaaGreatDoor.Pr
open Go Go.Lift Go.Proofs
abbrev XN:=List UInt8 × Int × Bool
abbrev xc (x:XN):List Value:=[.string (mkS x.1),.int .i64 x.2.1,.bool x.2.2]
abbrev zx:List Value:=[.string (mkS []),.int .i64 0,.bool false]
abbrev zb:List Value:=[.string (mkS []),.string (mkS []),.string (mkS [])]
abbrev vvX:XN→Value:=fun x=>.agg #[.string (mkS x.1),.int .i64 x.2.1,.bool x.2.2]
abbrev vvO:Int→Value:=fun n=>.int .i64 n
theorem xc3:∀ x:XN,(xc x).length=3:=fun _=>rfl
theorem xc_one (x:XN):∀ w∈xc x,one w=true:=by simp [one]
theorem umX:P.underlying T.map_string_api_Exch=some (.map T.string T.api_Exch):=by kernel_rfl
theorem zX:(P.info? T.api_Exch).bind (·.zero)=some (.agg #[.string (mkS []),.int .i64 0,.bool false]):=by kernel_rfl
theorem klS:KeyL P T.string encS:=KeyL.str (by kernel_rfl)
structure RRel (X:List XN) (B:List BN) (kx:List (List UInt8 × XN)) (kb:List (BN × Int)):Prop where
  ux:Ord.Ups sort_string.o Prod.fst X
  ub:Ord.Ups sort_bind.o id B
  ndx:(kx.map Prod.fst).Nodup
  ndb:(kb.map Prod.fst).Nodup
  x:∀ n x,get? kx n=some x↔x∈X∧x.1=n
  b:∀ b v,get? kb b=some v↔b∈B∧v=1
  okx:∀ x∈X,x.1.length≤maxLen
  okb:∀ b∈B,okB b
abbrev RtA (r:Addr) (mx mb:Nat) (kx:List (List UInt8 × XN)) (kb:List (BN × Int)) (L:List Asr):List Asr:=Bx r [.map (some mx),.map (some mb)]::Mq encS vvX mx kx::Mq kkB vvO mb kb::L
def RtW (r:Addr) (X:List XN) (B:List BN):Asr:=ex fun y:Nat × Nat × List (List UInt8 × XN) × List (BN × Int)=>sep (fact (RRel X B y.2.2.1 y.2.2.2)) (stars [Bx r [.map (some y.1),.map (some y.2.1)],Mq encS vvX y.1 y.2.2.1,Mq kkB vvO y.2.1 y.2.2.2])
section
variable {K:KT}{L:List Asr}{h:Heap}{r:Addr}{X:List XN}{B:List BN}
theorem RtW.out (S:St (RtW r X B::L) h):∃ mx mb kx kb,RRel X B kx kb∧St (RtA r mx mb kx kb L) h:=by
  obtain ⟨⟨mx,mb,kx,kb⟩,S1⟩:=St.ex S
  obtain ⟨q,S2⟩:=S1.split.fact
  exact ⟨mx,mb,kx,kb,q,S2.open⟩
theorem RtW.inn {mx mb:Nat}{kx:List (List UInt8 × XN)}{kb:List (BN × Int)} (q:RRel X B kx kb) (S:St (RtA r mx mb kx kb L) h):St (RtW r X B::L) h :=
  St.ex' (mx,mb,kx,kb) (St.join (St.fact' q (St.close (As:=[Bx r [.map (some mx),.map (some mb)],Mq encS vvX mx kx,Mq kkB vvO mb kb]) S)))
theorem RRel.nil:RRel [] [] [] []:=⟨List.Pairwise.nil,List.Pairwise.nil,by simp,by simp,by simp [get?,fnd],by simp [get?,fnd],by simp,by simp⟩
def xget (X:List XN) (n:List UInt8):Option XN:=X.find? fun x=>x.1==n
theorem xget_iff {X:List XN} (u:Ord.Ups sort_string.o Prod.fst X) {n:List UInt8}{x:XN}:xget X n=some x↔x∈X∧x.1=n:=by
  unfold xget
  constructor
  · intro h
    exact ⟨List.mem_of_find?_eq_some h,by have:=List.find?_some h; simpa using this⟩
  · rintro ⟨hm,rfl⟩
    have hn:=u.nodup
    clear u
    induction X with
    | nil=>cases hm
    | cons y s ih =>
      simp only [List.map_cons,List.nodup_cons] at hn
      rw [List.find?_cons]
      by_cases e:y.1=x.1
      · rw [show (y.1==x.1)=true by simpa using e]
        rcases List.mem_cons.1 hm with h | h
        · rw [h]
        · exact absurd (List.mem_map.2 ⟨x,h,e.symm⟩) hn.1
      · rw [show (y.1==x.1)=false by simpa using e]
        rcases List.mem_cons.1 hm with h | h
        · subst h; exact absurd rfl e
        · exact ih h hn.2
theorem RRel.xg {kx kb} (q:RRel X B kx kb) (n:List UInt8):get? kx n=xget X n:=by
  cases h:xget X n with
  | none =>
    cases k:get? kx n with
    | none=>rfl
    | some x=>rw [(xget_iff q.ux).2 ((q.x n x).1 k)] at h; cases h
  | some x=>exact (q.x n x).2 ((xget_iff q.ux).1 h)
abbrev insX (X:List XN) (x:XN):List XN:=Ord.ins sort_string.o Prod.fst X x
abbrev insB (B:List BN) (b:BN):List BN:=Ord.ins sort_bind.o id B b
theorem xget_none {X:List XN}{n:List UInt8} (h:xget X n=none):n ∉ X.map Prod.fst:=fun hm=>by
  obtain ⟨x,hx,rfl⟩:=List.mem_map.1 hm
  have:=List.find?_eq_none.1 h x hx
  simp at this
theorem RRel.addX {kx kb} (q:RRel X B kx kb) {x:XN} (h:xget X x.1=none) (hl:x.1.length≤maxLen):RRel (insX X x) B (Lift.upd kx x.1 x) kb:=by
  have hn:=xget_none h
  have ui:=q.ux.ins (a:=x) sort_string.le_anti hn
  refine ⟨ui,q.ub,(upd_keys q.ndx).1,q.ndb,fun n y=>?_,q.b,fun y hy=>?_,q.okb⟩
  · rw [get?_upd]
    by_cases e:n=x.1
    · subst e
      rw [if_pos rfl,Ord.mem_ins]
      constructor
      · intro h; cases h; exact ⟨.inl rfl,rfl⟩
      · rintro ⟨h1 | h1,h2⟩
        · rw [h1]
        · exact absurd (List.mem_map.2 ⟨y,h1,h2⟩) hn
    · rw [if_neg e,q.x,Ord.mem_ins]
      exact ⟨fun h=>⟨.inr h.1,h.2⟩,fun h=>⟨h.1.elim (fun e2=>absurd (by rw [← h.2,e2]) e) id,h.2⟩⟩
  · rcases Ord.mem_ins.1 hy with e | e
    · rw [e]; exact hl
    · exact q.okx y e
theorem RRel.permX {kx kb} (q:RRel X B kx kb):(kx.map Prod.fst).Perm (X.map Prod.fst):=by
  rw [List.perm_ext_iff_of_nodup q.ndx q.ux.nodup]
  intro n
  constructor
  · intro h
    obtain ⟨y,hy,rfl⟩:=List.mem_map.1 h
    have:=(q.x y.1 y.2).1 ((get?_iff q.ndx).2 hy)
    exact List.mem_map.2 ⟨y.2,this.1,this.2⟩
  · intro h
    obtain ⟨x,hx,rfl⟩:=List.mem_map.1 h
    exact List.mem_map.2 ⟨_,get?_mem ((q.x x.1 x).2 ⟨hx,rfl⟩),rfl⟩
theorem RRel.permB {kx kb} (q:RRel X B kx kb):(kb.map Prod.fst).Perm B:=by
  have nb:B.Nodup:=by have:=q.ub.nodup; rwa [List.map_id] at this
  rw [List.perm_ext_iff_of_nodup q.ndb nb]
  intro b
  constructor
  · intro h
    obtain ⟨y,hy,rfl⟩:=List.mem_map.1 h
    exact ((q.b y.1 y.2).1 ((get?_iff q.ndb).2 hy)).1
  · intro h
    exact List.mem_map.2 ⟨_,get?_mem ((q.b b 1).2 ⟨h,rfl⟩),rfl⟩
end
end Go.Proofs.YtofpbcakppjgcaaGreatDoor.Pr
end
section
set_option linter.unusedVariables false
set_option linter.unusedSimpArgs false
namespace Go.Proofs.YtofpbcakppjgcaaGreatDoor.Pr
open Go Go.Lift Go.Proofs
abbrev X0:List XN:=[([],1,true),([97,109,113,46,100,105,114,101,99,116],1,true),([97,109,113,46,102,97,110,111,117,116],2,true),([97,109,113,46,116,111,112,105,99],3,true)]
def xO (o:Option XN):List Value:=o.elim zx xc
theorem xO_len (o:Option XN):(xO o).length=3:=by cases o <;> rfl
theorem xO_one (o:Option XN):∀ w∈xO o,one w=true:=by cases o <;> simp [xO,one]
section
variable {K:KT}{L R:List Asr}{h:Heap}{r:Addr}{X:List XN}{B:List BN}
theorem lookX (S:St L h) {mx:Nat}{kx:List (List UInt8 × XN)} [Has (Mq encS vvX mx) L kx R] {n:List UInt8}{F':List Value→Bool→Heap→Prop} (hK:F' (xO (get? kx n)) (get? kx n).isSome h) :
    SemH P (Instr.lookup T.map_string_api_Exch (.map (some mx)) (.string (mkS n)) true) (fun v h'=>∃ cs b,v=.tuple #[.agg (List.toArray cs),.bool b]∧F' cs b h') h:=by
  refine St.lookup (k:=n) klS umX zX (S.get (Mq encS vvX mx)) ?_
  simp only [if_true]
  have e:(get? kx n).elim (.agg #[.string (mkS []),.int .i64 0,.bool false]) vvX=.agg (List.toArray (xO (get? kx n))):=by cases get? kx n <;> rfl
  rw [e]
  exact ⟨_,_,rfl,hK⟩
theorem finX {L0:List Asr} (S:St L0 h) {a:Addr}{old ws:List Value} [Has (Bx a) L0 old R] [HL:Lift.Sub L R] {Q:Heap→Prop} (hl:ws.length=old.length) (ho:∀ w∈ws,one w=true) (hK:∀ h',St L h'→Q h') :
    ∃ h',stC h a 0 ws=some h'∧Q h' :=
  (S.get (Bx a)).wrA hl ho fun h' S'=>hK h' (by
    obtain ⟨D,hD⟩:=HL.ex
    exact St.left (L:=L) (D:=D) (S'.tl.perm hD))
set_option maxHeartbeats 2000000 in
theorem addRt {x:XN} (S:St (RtW r X B::L) h) (hl:x.1.length≤maxLen) (hF:((xget X x.1).isSome=true∨x.2.1<1∨3<x.2.1)→∀ h',St (RtW r X B::L) h'→K (.bool false) h')
    (hT:xget X x.1=none→1≤x.2.1∧x.2.1≤3→∀ h',St (RtW r (insX X x) B::L) h'→K (.bool true) h'):CallsH P F.qbs [.pointer (some r),.agg (List.toArray (xc x))] K h:=by
  obtain ⟨mx,mb,kx,kb,q,S0⟩:=RtW.out S
  refine qbs.ok ?_
  unfold qbs.p0
  refine St.bd1 (cs:=xc x) S0 fun S=>⟨r,rfl,?_⟩
  generalize al h (List.toArray (xc x)) T.api_Exch=h1 at *
  generalize top h=t0 at *
  have eg:=q.xg x.1
  have j2:∀ (b:Bool) h',(b=true→(xget X x.1).isSome=true∨x.2.1<1∨3<x.2.1)→(b=false→xget X x.1=none∧1≤x.2.1∧x.2.1≤3)→St (Bx t0 (xc x)::RtA r mx mb kx kb L) h'→qbs.j2 K (some r) t0 b h':=fun b h' b1 b2 S'=>by
    unfold qbs.j2
    cases b with
    | true=>exact ifT rfl (hF (b1 rfl) h' (RtW.inn q S'.tl))
    | false =>
      obtain ⟨c1,c2⟩:=b2 rfl
      refine ifF rfl ⟨r,rfl,some mx,S'.p1.c 0 rfl,_,S'.c 0 rfl,S'.rdA (n:=3) rfl ?_⟩
      exact St.update (k:=x.1) (v:=x) klS umX S'.p2 fun u h3 S3=>hT c1 c2 h3 (RtW.inn (q.addX c1 hl) (S3.p1.tl.p1))
  have fin:∀ h',St (Bx t0 (xc x)::RtA r mx mb kx kb L) h'→qbs.j1 K (some r) t0 (get? kx x.1).isSome h':=fun h' S'=>by
    unfold qbs.j1
    rw [eg]
    cases hx:xget X x.1 with
    | some y=>exact ⟨fun e=>(by cases e),fun _=>j2 true h' (fun _=>.inl (by rw [hx]; rfl)) (fun e=>by cases e) S'⟩
    | none =>
      refine ⟨fun _=>⟨_,S'.c 1 rfl,?_⟩,fun e=>by cases e⟩
      by_cases h1:x.2.1<1
      · exact ⟨fun e=>absurd e (by simp [h1]),fun _=>j2 true h' (fun _=>.inr (.inl h1)) (fun e=>by cases e) S'⟩
      · refine ⟨fun _=>⟨_,S'.c 1 rfl,?_⟩,fun e=>absurd e (by simp [h1])⟩
        exact j2 _ h' (fun e=>.inr (.inr (by simpa using e))) (fun e=>⟨hx,by omega,by simpa using e⟩) S'
  repeat' first
    | with_reducible refine And.intro ?_ ?_
    | with_reducible refine St.bd1 S fun S=>?_
    | with_reducible refine ⟨_,S.rc r 0 rfl,?_⟩
    | with_reducible refine ⟨_,S.rc t0 0 rfl,?_⟩
    | with_reducible refine lookX S ?_
    | with_reducible exact xO_len _
    | with_reducible refine finX S ?_ (xO_one _) fin
    | exact xO_len _
theorem new_loop {t:SV}{Y:List XN} (hl:Y.length≤1000) (hK:∀ h' r' ,r'=r→St (RtW r ((Y.map fun x=>(x.1,x.2.1,true)).foldl insX X) B::L) h'→K (.pointer (some r)) h')
    (ok:∀ i x,Y[i]? = some x→x.1.length≤maxLen∧xget (((Y.take i).map fun x=>(x.1,x.2.1,true)).foldl insX X) x.1=none∧1≤x.2.1∧x.2.1≤3) :
    ∀ (fuel i:Nat) (h:Heap),Y.length - i<fuel→i≤Y.length→St (Ow 3 t (Y.flatMap xc)::RtW r (((Y.take i).map fun x=>(x.1,x.2.1,true)).foldl insX X) B::L) h→qdk.L1 K fuel (some r) t.1 t.2.1 t.2.2 ((t.2.1:Nat):Int) i h
  | 0,_,_,hf,_,_=>absurd hf (Nat.not_lt_zero _)
  | fuel+1,i,h,hf,hi,S=>by
    have el:t.2.1=Y.length:=by have:=S.ow.1; rw [flat_length xc3] at this; omega
    unfold qdk.L1
    by_cases hlt:i<Y.length
    · have hx:Y[i]? = some Y[i]:=List.getElem?_eq_getElem hlt
      obtain ⟨o1,o2,o3⟩:=ok i _ hx
      refine ifT (by simp; omega) (ixS xc3 (by decide) S.sl rfl hx ?_)
      have S1:St (Bx (top h) zx::Ow 3 t (Y.flatMap xc)::RtW r (((Y.take i).map fun x=>(x.1,x.2.1,true)).foldl insX X) B::L) (al h zx.toArray T.api_Exch):=S.al zx T.api_Exch
      refine ⟨rfl,S1.wrA (ws:=xc Y[i]) rfl (xc_one _) fun h2 S2=>S2.put1 (top h) 2 (by simp) rfl fun h3 S3=>?_⟩
      have S3:St (Bx (top h) (xc (Y[i].1,Y[i].2.1,true))::Ow 3 t (Y.flatMap xc)::RtW r (((Y.take i).map fun x=>(x.1,x.2.1,true)).foldl insX X) B::L) h3:=S3
      refine S3.rdA (n:=3) rfl (addRt (x:=(Y[i].1,Y[i].2.1,true)) S3.p2 o1 (fun e=>?_) fun _ _ h4 S4=>⟨_,rfl,?_⟩)
      · exfalso
        rcases e with e | e | e
        · rw [o2] at e; cases e
        · exact absurd o3.1 (by show ¬ 1≤Y[i].2.1; have:Y[i].2.1<1:=e; omega)
        · exact absurd o3.2 (by show ¬ Y[i].2.1≤3; have:3<Y[i].2.1:=e; omega)
      · rw [show IntKind.i64.wrap ((i:Int)+1)=((i+1:Nat):Int) from by rw [wrapI (by omega) (by omega)]; omega]
        refine new_loop hl hK ok fuel (i+1) h4 (by omega) (by omega) ?_
        have et:Y.take (i+1)=Y.take i++[Y[i]]:=by rw [List.take_add_one,hx]; rfl
        rw [et,List.map_append,List.foldl_append]
        exact S4.p1.tl.p1
    · refine ifF (by simp; omega) (hK h r rfl ?_)
      rw [List.take_of_length_le (by omega)] at S
      exact S.tl
abbrev Y0:List XN:=[([],1,false),([97,109,113,46,100,105,114,101,99,116],1,false),([97,109,113,46,102,97,110,111,117,116],2,false),([97,109,113,46,116,111,112,105,99],3,false)]
theorem newRt (S:St L h) (hK:∀ h' r,St (RtW r X0 []::L) h'→K (.pointer (some r)) h'):CallsH P F.qdk [] K h:=by
  refine qdk.ok ?_
  unfold qdk.p0
  have S1:=S.mqNew encS vvX
  have S2:=S1.mqNew kkB vvO
  simp only [bd]
  have S3:=S2.al [.map (some h.size),.map (some (h.push (.map #[] 0)).size)] T.rout_Rout
  generalize al ((h.push (.map #[] 0)).push (.map #[] 0)) (List.toArray [.map (some h.size),.map (some (h.push (.map #[] 0)).size)]) T.rout_Rout=h3 at *
  generalize top ((h.push (.map #[] 0)).push (.map #[] 0))=r at *
  have S4:St (RtW r [] []::L) h3:=RtW.inn RRel.nil S3.p2.p1
  refine ⟨Y0.flatMap xc,by show Instr.fill (Lift.places P (P.underlying T.sl_api_Exch)) (zrow (zcl P T.api_Exch).toList 4 (P.cellsOf T.api_Exch)).toArray _=some _; kernel_rfl,5,?_⟩
  have S5:=S4.al (Y0.flatMap xc) T.api_Exch
  have S6:=S5.bxOw (n:=4) (sz:=3) rfl
  refine new_loop (X:=[]) (B:=[]) (t:=(some (top h3),4,4)) (Y:=Y0) (by decide) (fun h' r' _ S'=>hK h' r ?_) (fun i x hx=>?_) 5 0 _ (by decide) (Nat.zero_le _) S6
  · have e:(Y0.map fun x=>(x.1,x.2.1,true)).foldl insX []=X0:=by decide +kernel
    rw [e] at S'
    exact S'
  · match i,hx with
    | 0,hx=>cases hx; exact ⟨by decide,by decide +kernel,by decide,by decide⟩
    | 1,hx=>cases hx; exact ⟨by decide,by decide +kernel,by decide,by decide⟩
    | 2,hx=>cases hx; exact ⟨by decide,by decide +kernel,by decide,by decide⟩
    | 3,hx=>cases hx; exact ⟨by decide,by decide +kernel,by decide,by decide⟩
theorem getRt {n:List UInt8} (S:St (RtW r X B::L) h) (hK:∀ h',St (RtW r X B::L) h'→K (.tuple #[.agg (List.toArray (xO (xget X n))),.bool (xget X n).isSome]) h'):CallsH P F.qds [.pointer (some r),.string (mkS n)] K h:=by
  obtain ⟨mx,mb,kx,kb,q,S0⟩:=RtW.out S
  refine qds.ok ?_
  unfold qds.p0
  have eg:=q.xg n
  refine St.bd1 (cs:=zx) S0 fun S1=>⟨r,rfl,some mx,S1.p1.c 0 rfl,lookX S1 ?_⟩
  rw [eg]
  refine St.bd1 (cs:=zx) S1 fun S2=>⟨xO_len _,S2.wrA (by rw [xO_len]; rfl) (xO_one _) fun h3 S3=>S3.rdA (n:=3) (xO_len _) ⟨xO_len _,?_⟩⟩
  exact S3.p1.wrA (by rw [xO_len]; rfl) (xO_one _) fun h4 S4=>S4.rdA (n:=3) (xO_len _) (hK h4 (RtW.inn q S4.tl.tl))
theorem bindsRt (S:St (RtW r X B::L) h) (hl:B.length≤12) (hK:∀ h' s,St (Ow 3 s (B.flatMap bc)::RtW r X B::L) h'→K (.slice s.1 s.2.1 s.2.2) h'):CallsH P F.qdo [.pointer (some r)] K h:=by
  obtain ⟨mx,mb,kx,kb,q,S0⟩:=RtW.out S
  refine qdo.ok ?_
  unfold qdo.p0
  have hp:=q.permB
  have hlen:kb.length=B.length:=by have:=hp.length_eq; simpa using this
  refine ⟨r,rfl,some mb,S0.c 1 rfl,?_⟩
  refine keys.sortedKeys_bnd (vv:=vvO) S0.p2 (fun k hk=>q.okb k (hp.mem_iff.1 hk)) (by omega) fun h' s ks p so S'=>⟨_,_,_,rfl,?_⟩
  have nb:B.Nodup:=by have:=q.ub.nodup; rwa [List.map_id] at this
  have e:ks=B:=(Ord.ups_of_le sort_bind.le_anti so ((p.trans hp).nodup_iff.2 nb)).ext q.ub fun x=>(p.trans hp).mem_iff
  rw [e] at S'
  exact hK h' s (RtW.inn q (show St (RtA r mx mb kx kb (Ow 3 s (B.flatMap bc)::L)) h' from S'.to)).p1
theorem namesRt (S:St (RtW r X B::L) h) (hl:X.length≤1000000) (hK:∀ h' s,St (Ow 1 s ((X.map Prod.fst).map encS)::RtW r X B::L) h'→K (.slice s.1 s.2.1 s.2.2) h'):CallsH P F.qdn [.pointer (some r)] K h:=by
  obtain ⟨mx,mb,kx,kb,q,S0⟩:=RtW.out S
  refine qdn.ok ?_
  unfold qdn.p0
  have hp:=q.permX
  have hlen:kx.length=X.length:=by have:=hp.length_eq; simpa using this
  refine ⟨r,rfl,some mx,S0.c 0 rfl,?_⟩
  refine keys.sortedKeys_map_string_api_Exch_string_api_Exch (vv:=vvX) S0.p1 (fun k hk=>?_) (by omega) [] fun h' s ks p so S'=>⟨_,_,_,rfl,?_⟩
  · obtain ⟨x,hx,rfl⟩:=List.mem_map.1 (hp.mem_iff.1 hk)
    exact keyOf_s str_und (q.okx x hx)
  · have ux:Ord.Ups sort_string.o id (X.map Prod.fst):=by
      rw [Ord.Ups,List.pairwise_map]
      exact q.ux
    have nx:=q.ux.nodup
    have e:ks=X.map Prod.fst:=(Ord.ups_of_le sort_string.le_anti so ((p.trans hp).nodup_iff.2 nx)).ext ux fun x=>(p.trans hp).mem_iff
    rw [e] at S'
    exact hK h' s (RtW.inn q (show St (RtA r mx mb kx kb (Ow 1 s ((X.map Prod.fst).map encS)::L)) h' from S'.to)).p1
end
end Go.Proofs.YtofpbcakppjgcaaGreatDoor.Pr
end
