/- brokTakes_holds: all that the theorem needs, in a few texts (bundle.py; made of the texts that NOTES.md names). -/
import Derived.Below
import Derived.DeepKeys4
import Derived.KernelRfl
import Derived.Laws.Append
import Derived.Laws.Bits64
import Derived.Laws.BitsAllLaws
import Derived.Laws.BitsLemmas
import Derived.Laws.IdiomStrings
import Derived.Laws.Sem
import Derived.Laws.Strings
import Derived.Laws.StructEq
import Derived.Lib.ItoaNum
import Derived.LoopIn
import Derived.LoopN
import Derived.LoopNIn
import Derived.MapKept
import Derived.Maps.AppendAt
import Derived.Maps.RangeRun
import Derived.Orders
import Derived.OwnWalkIn
import Derived.RangeFuncGives
import Derived.RangeFuncSeq
import Derived.RegionIn
import Derived.Shelf.Abstract
import Derived.Shelf.Lay
import Derived.Shelf.LaysM
import Derived.Shelf.SlIter.Collect
import Derived.Shelf.Slices.Cells
import Derived.Shelf.Slices.CompactS
import Derived.Shelf.Slices.In.SortNone
import Derived.Shelf.Small.Bits
import Derived.Shelf.Small.Strs
import Derived.Shelf.Sort.Plain
import Derived.Shelf.Strconv.Itoa0
import Derived.Shelf.Strings.Count
import Derived.Shelf.Strings.Explode
import Derived.Shelf.Strings.RuneCount
import Derived.Shelf.Strings.Search1
import Derived.Shelf.Strings.Search2
import Derived.Shelf.Strings.Search3
import Derived.Shelf.Strings.Shaped
import Derived.Shelf.Strings.Split
import Derived.Shelf.Strings.SplitShaped
import Derived.Shelf.Unicode.Decode
import Derived.Shelf.Unicode.DecodeAny
import Derived.Shelf.Unicode.DecodeSlow
import Derived.Shelf.Utf8.RuneCount
import Derived.Sort.KeysCollected
import Derived.Sort.MapsRangeIn
import Derived.TacticsInMore
import Derived.Test.YtofpbcakppjgcaaGreatDoorChecked
import Derived.Test.YtofpbcakppjgcaaGreatDoorProg
import Derived.WalkKit
import Derived.WideLaws
import Derived.Test.YtofpbcakppjgcaaGreatDoorBBrokTakes2
import Derived.Test.YtofpbcakppjgcaaGreatDoorBBrokTakes3
import Derived.Test.YtofpbcakppjgcaaGreatDoorBBrokTakes4
import Derived.Test.YtofpbcakppjgcaaGreatDoorBBrokTakes5
import Derived.Test.YtofpbcakppjgcaaGreatDoorBBrokTakes8
import Derived.Test.YtofpbcakppjgcaaGreatDoorBBrokTakes9
import Derived.Test.YtofpbcakppjgcaaGreatDoorBBrokTakes10
import Derived.Test.YtofpbcakppjgcaaGreatDoorBBrokTakes11
import Derived.Test.YtofpbcakppjgcaaGreatDoorBBrokTakes12
import Derived.Test.YtofpbcakppjgcaaGreatDoorBBrokTakes13
import Derived.Test.YtofpbcakppjgcaaGreatDoorBBrokTakes14
import Derived.Test.YtofpbcakppjgcaaGreatDoorBBrokTakes15
import Derived.Test.YtofpbcakppjgcaaGreatDoorBBrokTakes17
import Derived.Test.YtofpbcakppjgcaaGreatDoorBBrokTakes18
import Derived.Test.YtofpbcakppjgcaaGreatDoorBBrokTakes19
import Derived.Test.YtofpbcakppjgcaaGreatDoorBBrokTakes20
import Derived.Test.YtofpbcakppjgcaaGreatDoorBBrokTakes21
import Derived.Test.YtofpbcakppjgcaaGreatDoorBBrokTakes22
import Derived.Test.YtofpbcakppjgcaaGreatDoorBBrokTakes23
import Derived.Test.YtofpbcakppjgcaaGreatDoorBBrokTakes24
import Derived.Test.YtofpbcakppjgcaaGreatDoorBBrokTakes26
section
set_option linter.unusedVariables false
set_option linter.unusedSimpArgs false
namespace Go.Proofs.YtofpbcakppjgcaaGreatDoor.Pr
open Go Go.Lift Go.Proofs
structure KeyM where
  kind:Int
  a:Oct
  b:Oct
  c:Oct
  id:Int
def hasP (k:Int):Nat:=if k=1∨k=2 then 1 else if k=3 then 7 else if k=4 then 8 else if k=5 then 9 else 0
def nameP (s:Oct) (is:Bool):Bool:=if is then decide (s≠[]∧s.length≤30) else decide (s=[])
def goodKP (k:KeyM):Bool:=decide (hasP k.kind≠0) && nameP k.a ((hasP k.kind).testBit 0) && nameP k.b ((hasP k.kind).testBit 1) && ((hasP k.kind).testBit 2 || decide (k.c=[])) && decide (k.c.length≤60) && (decide (0<k.id)==(hasP k.kind).testBit 3)
def shortP (s:Oct):Oct:=octsN 1 s.length++s
def keyO (k:KeyM):Oct:=[UInt8.ofNat k.kind.toNat]++(if (hasP k.kind).testBit 0 then shortP k.a else [])++(if (hasP k.kind).testBit 1 then shortP k.b else [])++(if (hasP k.kind).testBit 2 then shortP k.c else [])++(if (hasP k.kind).testBit 3 then octsN 8 k.id.toNat else [])
def textP (k:KeyM):Option Oct:=if goodKP k=true then some (keyO k) else none
def textO (k:KeyM):Oct:=(textP k).getD []
structure MsgP where
  exch:Oct
  key:Oct
  typ:Oct
  mode:Int
  body:Oct
def msg0:MsgP:=⟨[],[],[],0,[]⟩
def goodMP (m:MsgP):Bool:=decide (m.exch.length≤30) && decide (m.key.length≤60) && decide (m.typ.length≤60) && decide (0≤m.mode) && decide (m.mode≤2) && decide (m.body.length≤10000)
def msgO (m:MsgP):Option Oct:=if goodMP m=true then some (shortP m.exch++shortP m.key++shortP m.typ++octsN 1 m.mode.toNat++m.body) else none
structure OpP where
  key:Oct
  del:Bool
  val:Oct
def putO (k:KeyM) (v:Oct):OpP:=⟨textO k,false,v⟩
def delO (k:KeyM):OpP:=⟨textO k,true,[]⟩
abbrev kExch (n:Oct):KeyM:=⟨1,n,[],[],0⟩
abbrev kQueue (n:Oct):KeyM:=⟨2,n,[],[],0⟩
abbrev kBind (b:BN):KeyM:=⟨3,b.1,b.2.1,b.2.2,0⟩
abbrev kMsg (id:Int):KeyM:=⟨4,[],[],[],id⟩
abbrev kEntry (n:Oct) (id:Int):KeyM:=⟨5,n,[],[],id⟩
abbrev MsgE:=MsgP × Int × Int
structure BkM where
  X:List XN
  B:List BN
  Q:List (Oct × (Bool × LRow))
  M:List (Int × MsgE)
  next:Int
structure DeedM where
  kind:Int
  name:Oct
  exch:Oct
  queue:Oct
  key:Oct
  x:Int
  n:Int
  lasts:Bool
  passive:Bool
  unused:Bool
  empty:Bool
  noack:Bool
  msg:MsgP
  holds:List (Oct × Int)
structure DidM where
  code:Int
  n:Int
  ops:List OpP
  qs:List Oct
  msg:MsgP
  ent:Int × Bool
def did0:DidM:=⟨0,0,[],[],msg0,(0,false)⟩
def codeD (c:Int):DidM:={ did0 with code:=c }
def amq:Oct:=[97,109,113,46]
def ownP (n:Oct):Bool:=decide (n.take 4=amq)
def namedP' (n:Oct):Bool:=decide (n≠[]∧n.length≤30)
def qlasts (m:BkM) (n:Oct):Bool:=((get? m.Q n).map (·.1)).getD false
def xlasts (m:BkM) (n:Oct):Bool:=((xget m.X n).map (·.2.2)).getD false
def declP (m:BkM) (d:DeedM):BkM × DidM :=
  if d.passive=false∧(d.x<1∨3<d.x) then (m,codeD 503)
  else match xget m.X d.name with
    | some x=>if d.passive=false∧(x.2.1≠d.x∨x.2.2≠d.lasts) then (m,codeD 406) else (m,did0)
    | none =>
      if d.passive then (m,codeD 404)
      else if d.name=[]∨ownP d.name=true then (m,codeD 403)
      else if namedP' d.name=false then (m,codeD 406)
      else ({ m with X:=insX m.X (d.name,d.x,d.lasts) },if d.lasts then { did0 with ops:=[putO (kExch d.name) [UInt8.ofNat d.x.toNat]] } else did0)
def exchGoneP (m:BkM) (d:DeedM):BkM × DidM :=
  if d.name=[]∨ownP d.name=true then (m,codeD 403)
  else match xget m.X d.name with
    | none=>(m,codeD 404)
    | some x =>
      if d.unused=true∧(m.B.any fun b=>b.1==d.name)=true then (m,codeD 406)
      else ({ m with X:=m.X.filter fun x=>decide (x.1≠d.name),B:=m.B.filter fun b=>!(b.1==d.name) },
        { did0 with ops:=((m.B.filter fun b=>b.1==d.name).filter fun b=>x.2.2 && qlasts m b.2.1).map (fun b=>delO (kBind b))++if x.2.2 then [delO (kExch d.name)] else [] })
def declQP (m:BkM) (d:DeedM):BkM × DidM:=match get? m.Q d.name with
  | some q=>if d.passive=false∧q.1≠d.lasts then (m,codeD 406) else (m,{ did0 with n:=(readyL q.2).length })
  | none =>
    if d.passive then (m,codeD 404)
    else if namedP' d.name=false then (m,codeD 406)
    else if ownP d.name=true then (m,codeD 403)
    else ({ m with Q:=upd m.Q d.name (d.lasts,[]) },if d.lasts then { did0 with ops:=[putO (kQueue d.name) []] } else did0)
def doneP (m:BkM) (n:Oct) (id:Int):BkM × List OpP:=match get? m.Q n with
  | none=>(m,[])
  | some q=>match get? q.2 id,get? m.M id with
    | some _,some x =>
      let lst:=decide (x.1.mode=2) && q.1
      let x':MsgE:=(x.1,x.2.1 - 1,if lst then x.2.2 - 1 else x.2.2)
      ({ m with Q:=upd m.Q n (q.1,del q.2 id),M:=if x'.2.1=0 then del (upd m.M id x') id else upd m.M id x' },
        if lst then delO (kEntry n id)::(if x'.2.2=0 then [delO (kMsg id)] else []) else [])
    | _,_=>(m,[])
def donesP (n:Oct):List Int→BkM × List OpP→BkM × List OpP
  | [],z=>z
  | id::r,z=>donesP n r ((doneP z.1 n id).1,z.2++(doneP z.1 n id).2)
def queueGoneP (m:BkM) (d:DeedM):BkM × DidM:=match get? m.Q d.name with
  | none=>(m,codeD 404)
  | some q =>
    if (d.unused=true∧0<d.n)∨(d.empty=true∧0<(readyL q.2).length) then (m,codeD 406)
    else
      let z:=donesP d.name (q.2.map Prod.fst) ({ m with B:=m.B.filter fun b=>!(b.2.1==d.name) },((m.B.filter fun b=>b.2.1==d.name).filter fun b=>xlasts m b.1 && q.1).map fun b=>delO (kBind b))
      ({ z.1 with Q:=del z.1.Q d.name },{ did0 with n:=(readyL q.2).length,ops:=z.2++if q.1 then [delO (kQueue d.name)] else [] })
def purgedP (m:BkM) (d:DeedM):BkM × DidM:=match get? m.Q d.name with
  | none=>(m,codeD 404)
  | some q =>
    let z:=donesP d.name ((readyL q.2).map Prod.fst) (m,[])
    (z.1,{ did0 with n:=(readyL q.2).length,ops:=z.2 })
def jointP (m:BkM) (d:DeedM):Sum Int (BN × Bool):=match get? m.Q d.queue,xget m.X d.exch with
  | some q,some x=>if d.exch=[] then .inl 403 else .inr ((d.exch,d.queue,d.key),q.1 && x.2.2)
  | _,_=>.inl 404
def bindD (m:BkM) (d:DeedM):BkM × DidM:=match jointP m d with
  | .inl c=>(m,codeD c)
  | .inr (b,l) =>
    if 60<d.key.length then (m,codeD 406)
    else if b∈m.B then (m,did0)
    else ({ m with B:=insB m.B b },if l then { did0 with ops:=[putO (kBind b) []] } else did0)
def unbindD (m:BkM) (d:DeedM):BkM × DidM:=match jointP m d with
  | .inl c=>(m,codeD c)
  | .inr (b,l)=>({ m with B:=m.B.filter fun c=>decide (c≠b) },if b∈m.B∧l=true then { did0 with ops:=[delO (kBind b)] } else did0)
def standW (W:LRow) (id:Int) (again:Bool):LRow:=if (get? W id).isSome∨id=0 then W else ins W id (again,false)
def putsP (msg:MsgP) (v:Oct) (id:Int):List Oct→(BkM × List OpP) × Int × Int→(BkM × List OpP) × Int × Int
  | [],z=>z
  | n::r,z=>match get? z.1.1.Q n with
    | none=>putsP msg v id r z
    | some q =>
      let lst:=q.1 && decide (msg.mode=2)
      let last:=if lst then z.2.2+1 else z.2.2
      putsP msg v id r (({ z.1.1 with Q:=upd z.1.1.Q n (q.1,standW q.2 id false) },z.1.2++if lst then (if last=1 then [putO (kMsg id) v] else [])++[putO (kEntry n id) []] else []),z.2.1+1,last)
def putD (m:BkM) (d:DeedM):BkM × DidM:=match msgO d.msg with
  | none=>(m,codeD 406)
  | some v=>match xget m.X d.exch with
    | none=>(m,codeD 404)
    | some _ =>
      let qs:=(routeP m.X m.B d.exch d.msg.key).filter fun n=>(get? m.Q n).isSome
      if qs=[] then (m,did0)
      else
        let z:=putsP d.msg v m.next qs ((m,[]),0,0)
        ({ z.1.1 with M:=upd m.M m.next (d.msg,z.2.1,z.2.2),next:=m.next+1 },{ did0 with n:=qs.length,qs:=qs,ops:=z.1.2 })
def firstR (W:LRow):Option (Int × Bool):=(W.find? fun x=>!x.2.2).map fun x=>(x.1,x.2.1)
def msgAt (m:BkM) (id:Int):MsgP:=((get? m.M id).map (·.1)).getD msg0
def takeD (m:BkM) (d:DeedM):BkM × DidM:=match get? m.Q d.queue with
  | none=>(m,codeD 404)
  | some q=>match firstR q.2 with
    | none=>(m,{ did0 with n:=-1 })
    | some e =>
      let W:=upd q.2 e.1 (e.2,true)
      let m':={ m with Q:=upd m.Q d.queue (q.1,W) }
      let z:=if d.noack then doneP m' d.queue e.1 else (m',[])
      (z.1,{ did0 with n:=(readyL W).length,ent:=e,msg:=msgAt m e.1,ops:=z.2 })
def isHeld (m:BkM) (x:Oct × Int):Bool:=((get? m.Q x.1).bind fun q=>get? q.2 x.2).any (·.2)
def settleP (back:Bool):List (Oct × Int)→BkM × List OpP→BkM × List OpP
  | [],z=>z
  | x::r,z =>
    if isHeld z.1 x=false then settleP back r z
    else if back then settleP back r (match get? z.1.Q x.1 with | some q=>{ z.1 with Q:=upd z.1.Q x.1 (q.1,upd q.2 x.2 (true,false)) } | none=>z.1,z.2)
    else settleP back r ((doneP z.1 x.1 x.2).1,z.2++(doneP z.1 x.1 x.2).2)
def settleD (m:BkM) (d:DeedM) (back:Bool):BkM × DidM :=
  let z:=settleP back d.holds (m,[])
  (z.1,{ did0 with ops:=z.2 })
def doP (m:BkM) (d:DeedM):BkM × DidM :=
  if d.kind=1 then declP m d else if d.kind=2 then exchGoneP m d else if d.kind=3 then declQP m d else if d.kind=4 then queueGoneP m d else if d.kind=5 then purgedP m d
  else if d.kind=6 then bindD m d else if d.kind=7 then unbindD m d else if d.kind=8 then putD m d else if d.kind=9 then takeD m d else if d.kind=10 then settleD m d false else if d.kind=11 then settleD m d true else (m,codeD 503)
def keepRoutesL (m:BkM):List OpP :=
  (m.X.filter fun x=>x.2.2 && decide (x.1≠[]) && !ownP x.1).map (fun x=>putO (kExch x.1) [UInt8.ofNat x.2.1.toNat])++(m.B.filter fun b=>xlasts m b.1 && qlasts m b.2.1).map fun b=>putO (kBind b) []
def keepQueueL (m:BkM) (q:Oct × (Bool × LRow)):List OpP:=putO (kQueue q.1) []::((q.2.2.map Prod.fst).filter fun id=>decide ((msgAt m id).mode=2)).map fun id=>putO (kEntry q.1 id) []
def keepMsgsL (m:BkM):List OpP:=(m.M.filter fun x=>decide (0<x.2.2.2)).map fun x=>putO (kMsg x.1) ((msgO x.2.1).getD [])
def keepL (m:BkM):List OpP:=keepRoutesL m++(m.Q.filter fun q=>q.2.1).flatMap (keepQueueL m)++keepMsgsL m
end Go.Proofs.YtofpbcakppjgcaaGreatDoor.Pr
end
section
set_option linter.unusedVariables false
set_option linter.unusedSimpArgs false
namespace Go.Proofs.YtofpbcakppjgcaaGreatDoor.Pr
open Go Go.Lift Go.Proofs
section
variable {κ ν:Type} [DecidableEq κ]
theorem get?_cons_ne {k k':κ}{v:ν}{t:List (κ × ν)} (e:k≠k'):get? ((k',v)::t) k=get? t k:=by
  have sh:=fnd_shift t k 0 1
  unfold get?
  conv=>lhs; unfold fnd
  rw [if_neg e]
  simp only [Nat.zero_add] at sh ⊢
  rw [sh,Option.map_map]
  rfl
theorem get?_cons_eq {k:κ}{v:ν}{t:List (κ × ν)}:get? ((k,v)::t) k=some v:=by simp [get?,fnd]
theorem upd_filter_len (p:κ × ν→Bool) (w:ν):∀ {W:List (κ × ν)}{k:κ}{v:ν},get? W k=some v→((upd W k w).filter p).length+(if p (k,v) then 1 else 0)=(W.filter p).length+(if p (k,w) then 1 else 0)
  | [],_,_,h=>by simp [get?,fnd] at h
  | (k',v')::t,k,v,h=>by
    by_cases e:k=k'
    · subst e
      have:v'=v:=by simpa [get?_cons_eq] using h
      subst this
      rw [show upd ((k,v')::t) k w=(k,w)::t by unfold upd; rw [if_pos rfl]]
      cases hp:p (k,v') <;> cases hq:p (k,w) <;> simp [hp,hq]
    · rw [get?_cons_ne e] at h
      have ih:=upd_filter_len p w h
      have ed:upd ((k',v')::t) k w=(k',v')::upd t k w:=by rw [upd.eq_def]; simp [e]
      rw [ed]
      cases hp:p (k',v') <;> simp [hp] <;> omega
theorem upd_same_len {W:List (κ × ν)}{k:κ}{v w:ν} (h:get? W k=some v):(upd W k w).length=W.length:=upd_len (by
  have:=get?_mem h
  exact List.mem_map.2 ⟨_,this,rfl⟩)
theorem upd_new_len {W:List (κ × ν)}{k:κ}{w:ν} (h:get? W k=none):(upd W k w).length=W.length+1:=by rw [upd_none (get?_none.1 h)]; simp
theorem get?_some_of_mem {W:List (κ × ν)}{x:κ × ν} (hn:(W.map Prod.fst).Nodup) (h:x∈W):get? W x.1=some x.2:=get?_of_mem hn h
theorem get?_isSome_mem {W:List (κ × ν)}{k:κ}:(get? W k).isSome=true↔k∈W.map Prod.fst:=by
  cases h:get? W k with
  | none=>simp [get?_none.1 h]
  | some v=>simp; exact ⟨v,get?_mem h⟩
end
abbrev QR:=List (Oct × (Bool × LRow))
def standsN (Q:QR) (j:Int):Nat:=(Q.filter fun q=>(get? q.2.2 j).isSome).length
def lastsN (Q:QR) (j:Int):Nat:=(Q.filter fun q=>q.2.1 && (get? q.2.2 j).isSome).length
theorem standsN_upd {Q:QR}{n:Oct}{q:Bool × LRow} (h:get? Q n=some q) (q':Bool × LRow) (j:Int):standsN (upd Q n q') j+(if (get? q.2 j).isSome then 1 else 0)=standsN Q j+(if (get? q'.2 j).isSome then 1 else 0):=upd_filter_len _ q' h
theorem lastsN_upd {Q:QR}{n:Oct}{q:Bool × LRow} (h:get? Q n=some q) (q':Bool × LRow) (j:Int):lastsN (upd Q n q') j+(if q.1 && (get? q.2 j).isSome then 1 else 0)=lastsN Q j+(if q'.1 && (get? q'.2 j).isSome then 1 else 0):=upd_filter_len (fun q:Oct × (Bool × LRow)=>q.2.1 && (get? q.2.2 j).isSome) q' h
theorem standsN_pos {Q:QR}{n:Oct}{q:Bool × LRow}{j:Int} (h:get? Q n=some q) (hj:(get? q.2 j).isSome=true):0<standsN Q j:=by
  unfold standsN
  exact List.length_pos_iff.2 fun e=>by
    have:(n,q)∈Q.filter fun q=>(get? q.2.2 j).isSome:=List.mem_filter.2 ⟨get?_mem h,hj⟩
    rw [e] at this; cases this
theorem standsN_le (Q:QR) (j:Int):standsN Q j≤Q.length:=List.length_filter_le _ _
theorem lastsN_le (Q:QR) (j:Int):lastsN Q j≤standsN Q j:=by
  unfold lastsN standsN
  induction Q with
  | nil=>simp
  | cons q t ih =>
    cases h1:q.2.1 <;> cases h2:(get? q.2.2 j).isSome <;> simp [h1,h2] <;> omega
structure BkOk (N:Nat) (m:BkM):Prop where
  nq:(m.Q.map Prod.fst).Nodup
  nm:(m.M.map Prod.fst).Nodup
  up:∀ n q,get? m.Q n=some q→Up q.2
  rl:∀ n q,get? m.Q n=some q→q.2.length≤N
  ids:∀ n q j,get? m.Q n=some q→(get? q.2 j).isSome=true→(get? m.M j).isSome=true
  cnt:∀ j x,get? m.M j=some x→x.2.1=(standsN m.Q j:Int)∧0<x.2.1∧x.2.2=(if x.1.mode=2 then (lastsN m.Q j:Int) else 0)∧goodMP x.1=true∧0<j∧j<m.next
  qn:∀ n q,get? m.Q n=some q→namedP' n=true∧ownP n=false
  bx:∀ b∈m.B,(xget m.X b.1).isSome=true∧(get? m.Q b.2.1).isSome=true∧b.1≠[]∧b.2.2.length≤60
  xn:∀ x∈m.X,x.1.length≤30∧1≤x.2.1∧x.2.1≤3
  ux:Ord.Ups sort_string.o Prod.fst m.X
  ub:Ord.Ups sort_bind.o id m.B
  nx:0<m.next∧m.next≤N+1
  sz:m.X.length≤N+4∧m.B.length≤N∧m.Q.length≤N∧m.M.length≤N
theorem BkOk.mono {N N':Nat}{m:BkM} (h:BkOk N m) (e:N≤N'):BkOk N' m :=
  ⟨h.nq,h.nm,h.up,fun n q a=>Nat.le_trans (h.rl n q a) e,h.ids,h.cnt,h.qn,h.bx,h.xn,h.ux,h.ub,⟨h.nx.1,by have:=h.nx.2; omega⟩,by have:=h.sz; omega⟩
theorem goodMP_iff (m:MsgP):goodMP m=true↔m.exch.length≤30∧m.key.length≤60∧m.typ.length≤60∧0≤m.mode∧m.mode≤2∧m.body.length≤10000:=by
  unfold goodMP
  simp only [Bool.and_eq_true,decide_eq_true_eq,and_assoc]
theorem doneP_ok {N:Nat}{m:BkM} (h:BkOk N m) (n:Oct) (id:Int):BkOk N (doneP m n id).1:=by
  unfold doneP
  cases hq:get? m.Q n with
  | none=>exact h
  | some q =>
    simp only
    cases he:get? q.2 id with
    | none=>exact h
    | some e =>
      cases hx:get? m.M id with
      | none=>exact h
      | some x =>
        simp only
        have uq:=h.up n q hq
        have cx:=h.cnt id x hx
        have gd:∀ j,get? (del q.2 id) j=if j=id then none else get? q.2 j:=fun j=>get?_del _ _ _ uq.nodup
        have s1:∀ j,j≠id→standsN (upd m.Q n (q.1,del q.2 id)) j=standsN m.Q j:=by
          intro j hj
          have:=standsN_upd hq (q.1,del q.2 id) j
          simp only [gd,if_neg hj] at this
          omega
        have l1:∀ j,j≠id→lastsN (upd m.Q n (q.1,del q.2 id)) j=lastsN m.Q j:=by
          intro j hj
          have:=lastsN_upd hq (q.1,del q.2 id) j
          simp only [gd,if_neg hj] at this
          omega
        have s0:standsN (upd m.Q n (q.1,del q.2 id)) id+1=standsN m.Q id:=by
          have:=standsN_upd hq (q.1,del q.2 id) id
          simpa [gd,he] using this
        have l0:lastsN (upd m.Q n (q.1,del q.2 id)) id+(if q.1 then 1 else 0)=lastsN m.Q id:=by
          have:=lastsN_upd hq (q.1,del q.2 id) id
          simpa [gd,he] using this
        have gm:∀ (e1 l1:Int) (j:Int),get? (if e1=0 then del (upd m.M id (x.1,e1,l1)) id else upd m.M id (x.1,e1,l1)) j=if j=id then (if e1=0 then none else some (x.1,e1,l1)) else get? m.M j:=by
          intro e1 l1 j
          split
          · rename_i h0
            rw [get?_del _ _ _ (upd_keys h.nm).1,get?_upd]
            split <;> simp_all
          · rw [get?_upd]
        have gq:∀ k q',get? (upd m.Q n (q.1,del q.2 id)) k=some q'→(k=n∧q'=(q.1,del q.2 id))∨get? m.Q k=some q':=by
          intro k q' e
          rw [get?_upd] at e
          split at e
          · cases e; exact .inl ⟨by assumption,rfl⟩
          · exact .inr e
        refine ⟨(upd_keys h.nq).1,?_,?_,?_,?_,?_,?_,?_,h.xn,h.ux,h.ub,h.nx,?_⟩
        · simp only
          split
          · exact del_keys (upd_keys h.nm).1
          · exact (upd_keys h.nm).1
        · intro k q' e
          rcases gq k q' e with ⟨rfl,rfl⟩ | e
          · exact uq.del
          · exact h.up k q' e
        · intro k q' e
          rcases gq k q' e with ⟨rfl,rfl⟩ | e
          · exact Nat.le_trans (del_sub q.2 id).length_le (h.rl k q hq)
          · exact h.rl k q' e
        · intro k q' j e hj
          simp only
          rw [gm]
          by_cases hji:j=id
          · subst hji
            rw [if_pos rfl]
            have hp:=standsN_pos e hj
            have c1:=cx.1
            simp only at hp
            rw [if_neg (by omega)]
            rfl
          · rw [if_neg hji]
            rcases gq k q' e with ⟨rfl,rfl⟩ | e
            · simp only [gd,if_neg hji] at hj
              exact h.ids k q j hq hj
            · exact h.ids k q' j e hj
        · intro j y e
          simp only at e ⊢
          rw [gm] at e
          by_cases hji:j=id
          · subst hji
            rw [if_pos rfl] at e
            split at e
            · cases e
            · rename_i h0
              cases e
              simp only at h0 ⊢
              refine ⟨by have:=cx.1; omega,by have:=cx.2.1; omega,?_,cx.2.2.2⟩
              have:=cx.2.2.1
              by_cases hm:x.1.mode=2
              · rw [if_pos hm] at this ⊢
                cases hq1:q.1 with
                | true=>rw [hq1,if_pos rfl] at l0; simp [hm,hq1]; omega
                | false=>rw [hq1] at l0; simp [hm,hq1]; simp at l0; omega
              · rw [if_neg hm] at this ⊢
                simp [hm,this]
          · rw [if_neg hji] at e
            rw [s1 j hji,l1 j hji]
            exact h.cnt j y e
        · intro k q' e
          rcases gq k q' e with ⟨rfl,rfl⟩ | e
          · exact h.qn k q hq
          · exact h.qn k q' e
        · intro b hb
          have:=h.bx b hb
          refine ⟨this.1,?_,this.2.2⟩
          simp only
          rw [get?_upd]
          split
          · rfl
          · exact this.2.1
        · simp only
          rw [upd_same_len hq]
          have:=h.sz
          have l2:=upd_same_len (w:=((x.1,x.2.1 - 1,if decide (x.1.mode=2) && q.1 then x.2.2 - 1 else x.2.2):MsgE)) hx
          refine ⟨this.1,this.2.1,this.2.2.1,?_⟩
          split
          · exact Nat.le_trans (del_sub _ id).length_le (by omega)
          · omega
theorem doneP_same (m:BkM) (n:Oct) (id:Int):(doneP m n id).1.X=m.X∧(doneP m n id).1.B=m.B∧(doneP m n id).1.next=m.next∧∀ k,(get? (doneP m n id).1.Q k).map (·.1)=(get? m.Q k).map (·.1):=by
  unfold doneP
  cases hq:get? m.Q n with
  | none=>exact ⟨rfl,rfl,rfl,fun _=>rfl⟩
  | some q =>
    simp only
    cases get? q.2 id with
    | none=>exact ⟨rfl,rfl,rfl,fun _=>rfl⟩
    | some e =>
      cases get? m.M id with
      | none=>exact ⟨rfl,rfl,rfl,fun _=>rfl⟩
      | some x =>
        refine ⟨rfl,rfl,rfl,fun k=>?_⟩
        simp only
        rw [get?_upd]
        split
        · rename_i e; subst e; rw [hq]; rfl
        · rfl
theorem donesP_ok {N:Nat} (n:Oct):∀ (l:List Int) (z:BkM × List OpP),BkOk N z.1→BkOk N (donesP n l z).1
  | [],_,h=>h
  | id::r,z,h=>donesP_ok n r _ (doneP_ok h n id)
theorem donesP_same (n:Oct):∀ (l:List Int) (z:BkM × List OpP),(donesP n l z).1.X=z.1.X∧(donesP n l z).1.B=z.1.B∧(donesP n l z).1.next=z.1.next∧∀ k,(get? (donesP n l z).1.Q k).map (·.1)=(get? z.1.Q k).map (·.1)
  | [],_=>⟨rfl,rfl,rfl,fun _=>rfl⟩
  | id::r,z=>by
    have a:=donesP_same n r ((doneP z.1 n id).1,z.2++(doneP z.1 n id).2)
    have b:=doneP_same z.1 n id
    exact ⟨a.1.trans b.1,a.2.1.trans b.2.1,a.2.2.1.trans b.2.2.1,fun k=>(a.2.2.2 k).trans (b.2.2.2 k)⟩
theorem xget_isSome {X:List XN} (u:Ord.Ups sort_string.o Prod.fst X) {n:Oct}:(xget X n).isSome=true↔∃ x∈X,x.1=n:=by
  constructor
  · intro h
    obtain ⟨x,hx⟩:=Option.isSome_iff_exists.1 h
    exact ⟨x,(xget_iff u).1 hx⟩
  · rintro ⟨x,h1,h2⟩
    rw [(xget_iff u).2 ⟨h1,h2⟩]; rfl
theorem declP_ok {N:Nat}{m:BkM} (h:BkOk N m) (d:DeedM):BkOk (N+1) (declP m d).1:=by
  have h1:=h.mono (Nat.le_succ N)
  unfold declP
  split
  · exact h1
  · rename_i hk
    cases hx:xget m.X d.name with
    | some x=>simp only; split <;> exact h1
    | none =>
      simp only
      split
      · exact h1
      · rename_i hp
        split
        · exact h1
        · split
          · exact h1
          · rename_i ho hn
            have ui:Ord.Ups sort_string.o Prod.fst (insX m.X (d.name,d.x,d.lasts)):=h.ux.ins (a:=(d.name,d.x,d.lasts)) sort_string.le_anti (xget_none hx)
            simp only [namedP',Bool.not_eq_false,decide_eq_true_eq,ne_eq] at hn
            have hk2:¬ (d.x<1∨3<d.x):=fun e=>hk ⟨by simpa using hp,e⟩
            refine ⟨h1.nq,h1.nm,h1.up,h1.rl,h1.ids,h1.cnt,h1.qn,?_,?_,ui,h1.ub,h1.nx,?_⟩
            · intro b hb
              have:=h.bx b hb
              refine ⟨?_,this.2⟩
              obtain ⟨x,h2,h3⟩:=(xget_isSome h.ux).1 this.1
              exact (xget_isSome ui).2 ⟨x,Ord.mem_ins.2 (.inr h2),h3⟩
            · intro x hx2
              rcases Ord.mem_ins.1 hx2 with e | e
              · subst e; exact ⟨hn.2,by simp only; omega,by simp only; omega⟩
              · exact h.xn x e
            · have:=h.sz
              simp only
              rw [Ord.len_ins]
              omega
theorem exchGoneP_ok {N:Nat}{m:BkM} (h:BkOk N m) (d:DeedM):BkOk N (exchGoneP m d).1:=by
  unfold exchGoneP
  split
  · exact h
  · cases hx:xget m.X d.name with
    | none=>exact h
    | some x =>
      simp only
      split
      · exact h
      · have uf:Ord.Ups sort_string.o Prod.fst (m.X.filter fun x=>decide (x.1≠d.name)):=h.ux.filter _
        refine ⟨h.nq,h.nm,h.up,h.rl,h.ids,h.cnt,h.qn,?_,fun x hx=>h.xn x (List.mem_filter.1 hx).1,uf,h.ub.filter _,h.nx,?_⟩
        · intro b hb
          obtain ⟨h2,h3⟩:=List.mem_filter.1 hb
          have:=h.bx b h2
          refine ⟨?_,this.2⟩
          obtain ⟨x,h4,h5⟩:=(xget_isSome h.ux).1 this.1
          refine (xget_isSome uf).2 ⟨x,List.mem_filter.2 ⟨h4,?_⟩,h5⟩
          rw [h5]
          simpa using h3
        · have:=h.sz
          have a:=List.length_filter_le (fun x:XN=>decide (x.1≠d.name)) m.X
          have b:=List.length_filter_le (fun b:BN=>!(b.1==d.name)) m.B
          simp only
          omega
theorem standsN_new {Q:QR}{n:Oct} (h:get? Q n=none) (l:Bool) (j:Int):standsN (upd Q n (l,[])) j=standsN Q j∧lastsN (upd Q n (l,[])) j=lastsN Q j:=by
  rw [upd_none (get?_none.1 h)]
  unfold standsN lastsN
  simp [get?,fnd]
theorem declQP_ok {N:Nat}{m:BkM} (h:BkOk N m) (d:DeedM):BkOk (N+1) (declQP m d).1:=by
  have h1:=h.mono (Nat.le_succ N)
  unfold declQP
  cases hq:get? m.Q d.name with
  | some q=>simp only; split <;> exact h1
  | none =>
    simp only
    split
    · exact h1
    · split
      · exact h1
      · split
        · exact h1
        · rename_i _ hn ho
          have gq:∀ k q',get? (upd m.Q d.name (d.lasts,([]:LRow))) k=some q'→(k=d.name∧q'=(d.lasts,[]))∨get? m.Q k=some q':=by
            intro k q' e
            rw [get?_upd] at e
            split at e
            · cases e; exact .inl ⟨by assumption,rfl⟩
            · exact .inr e
          refine ⟨(upd_keys h.nq).1,h1.nm,?_,?_,?_,?_,?_,?_,h1.xn,h1.ux,h1.ub,h1.nx,?_⟩
          · intro k q' e
            rcases gq k q' e with ⟨rfl,rfl⟩ | e
            · exact List.Pairwise.nil
            · exact h.up k q' e
          · intro k q' e
            rcases gq k q' e with ⟨rfl,rfl⟩ | e
            · exact Nat.zero_le _
            · exact h1.rl k q' e
          · intro k q' j e hj
            rcases gq k q' e with ⟨rfl,rfl⟩ | e
            · simp [get?,fnd] at hj
            · exact h.ids k q' j e hj
          · intro j x e
            rw [(standsN_new hq d.lasts j).1,(standsN_new hq d.lasts j).2]
            exact h.cnt j x e
          · intro k q' e
            rcases gq k q' e with ⟨rfl,rfl⟩ | e
            · exact ⟨by simpa using hn,by simpa using ho⟩
            · exact h.qn k q' e
          · intro b hb
            have:=h.bx b hb
            refine ⟨this.1,?_,this.2.2⟩
            simp only
            rw [get?_upd]
            split
            · rfl
            · exact this.2.1
          · have:=h.sz
            simp only
            rw [upd_new_len hq]
            omega
theorem doneP_Q {N:Nat}{m:BkM} (h:BkOk N m) {n:Oct}{q:Bool × LRow} (hq:get? m.Q n=some q) (id:Int) (k:Oct):get? (doneP m n id).1.Q k=if k=n then some (q.1,del q.2 id) else get? m.Q k:=by
  unfold doneP
  rw [hq]
  simp only
  have same:get? q.2 id=none→get? m.Q k=if k=n then some (q.1,del q.2 id) else get? m.Q k:=by
    intro e
    rw [del_none (get?_none.1 e)]
    split
    · rename_i e2; subst e2; exact hq
    · rfl
  cases he:get? q.2 id with
  | none=>exact same he
  | some e =>
    cases hx:get? m.M id with
    | none =>
      have:=h.ids n q id hq (by rw [he]; rfl)
      rw [hx] at this; cases this
    | some x=>simp only; rw [get?_upd]
theorem donesP_Q {N:Nat}{n:Oct}:∀ (l:List Int) (z:BkM × List OpP) (q:Bool × LRow),BkOk N z.1→get? z.1.Q n=some q→∃ W,(∀ k,get? (donesP n l z).1.Q k=if k=n then some (q.1,W) else get? z.1.Q k)∧∀ j,get? W j=if j∈l then none else get? q.2 j
  | [],z,q,h,hq=>⟨q.2,fun k=>by
      show get? z.1.Q k=_
      split
      · rename_i e; subst e; exact hq
      · rfl,fun j=>by simp⟩
  | id::r,z,q,h,hq=>by
    have hd:=doneP_ok h n id
    obtain ⟨W,h1,h2⟩:=donesP_Q r ((doneP z.1 n id).1,z.2++(doneP z.1 n id).2) (q.1,del q.2 id) hd (by
      have:=doneP_Q h hq id n
      rw [if_pos rfl] at this
      exact this)
    refine ⟨W,fun k=>?_,fun j=>?_⟩
    · show get? (donesP n r _).1.Q k=_
      rw [h1]
      by_cases e:k=n
      · rw [if_pos e,if_pos e]
      · rw [if_neg e,if_neg e,doneP_Q h hq,if_neg e]
    · rw [h2]
      simp only
      rw [get?_del _ _ _ (h.up n q hq).nodup]
      by_cases a:j∈r
      · simp [a]
      · by_cases b:j=id <;> simp [a,b]
theorem delQ_ok {N:Nat}{m:BkM} (h:BkOk N m) {n:Oct}{q:Bool × LRow} (hq:get? m.Q n=some q) (he:∀ j,get? q.2 j=none) (hb:∀ b∈m.B,b.2.1≠n):BkOk N { m with Q:=del m.Q n }:=by
  have gq:∀ k q',get? (del m.Q n) k=some q'→k≠n∧get? m.Q k=some q':=by
    intro k q' e
    rw [get?_del _ _ _ h.nq] at e
    split at e
    · cases e
    · exact ⟨by assumption,e⟩
  have s1:∀ j,standsN (del m.Q n) j=standsN m.Q j:=by
    intro j
    have:=del_filter_len (fun q:Oct × (Bool × LRow)=>(get? q.2.2 j).isSome) hq
    simp only [he,Option.isSome_none,Bool.false_eq_true,if_false,Nat.add_zero] at this
    exact this
  have l1:∀ j,lastsN (del m.Q n) j=lastsN m.Q j:=by
    intro j
    have:=del_filter_len (fun q:Oct × (Bool × LRow)=>q.2.1 && (get? q.2.2 j).isSome) hq
    simp only [he,Option.isSome_none,Bool.and_false,Bool.false_eq_true,if_false,Nat.add_zero] at this
    exact this
  refine ⟨del_keys h.nq,h.nm,fun k q' e=>h.up k q' (gq k q' e).2,fun k q' e=>h.rl k q' (gq k q' e).2,fun k q' j e hj=>h.ids k q' j (gq k q' e).2 hj,?_,fun k q' e=>h.qn k q' (gq k q' e).2,?_,h.xn,h.ux,h.ub,h.nx,?_⟩
  · intro j x e
    simp only
    rw [s1,l1]
    exact h.cnt j x e
  · intro b hb2
    have:=h.bx b hb2
    refine ⟨this.1,?_,this.2.2⟩
    simp only
    rw [get?_del _ _ _ h.nq,if_neg (hb b hb2)]
    exact this.2.1
  · have:=h.sz
    have:=(del_sub m.Q n).length_le
    simp only
    omega
theorem cutB_ok {N:Nat}{m:BkM} (h:BkOk N m) (p:BN→Bool):BkOk N { m with B:=m.B.filter p } :=
  ⟨h.nq,h.nm,h.up,h.rl,h.ids,h.cnt,h.qn,fun b hb=>h.bx b (List.mem_filter.1 hb).1,h.xn,h.ux,h.ub.filter _,h.nx,by have:=h.sz; have:=List.length_filter_le p m.B; simp only; omega⟩
theorem queueGoneP_ok {N:Nat}{m:BkM} (h:BkOk N m) (d:DeedM):BkOk N (queueGoneP m d).1:=by
  unfold queueGoneP
  cases hq:get? m.Q d.name with
  | none=>exact h
  | some q =>
    simp only
    split
    · exact h
    · have h1:=cutB_ok h fun b=>!(b.2.1==d.name)
      obtain ⟨W,h2,h3⟩:=donesP_Q (n:=d.name) (q.2.map Prod.fst) ({ m with B:=m.B.filter fun b=>!(b.2.1==d.name) },((m.B.filter fun b=>b.2.1==d.name).filter fun b=>xlasts m b.1 && q.1).map fun b=>delO (kBind b)) q h1 hq
      have h4:=donesP_ok d.name (q.2.map Prod.fst) ({ m with B:=m.B.filter fun b=>!(b.2.1==d.name) },((m.B.filter fun b=>b.2.1==d.name).filter fun b=>xlasts m b.1 && q.1).map fun b=>delO (kBind b)) h1
      have h5:=(donesP_same d.name (q.2.map Prod.fst) ({ m with B:=m.B.filter fun b=>!(b.2.1==d.name) },((m.B.filter fun b=>b.2.1==d.name).filter fun b=>xlasts m b.1 && q.1).map fun b=>delO (kBind b))).2.1
      refine delQ_ok h4 (q:=(q.1,W)) (by rw [h2]; simp) (fun j=>?_) (fun b hb=>?_)
      · rw [h3]
        split
        · rfl
        · rename_i hj
          exact get?_none.2 hj
      · rw [h5] at hb
        have:=(List.mem_filter.1 hb).2
        simpa using this
theorem purgedP_ok {N:Nat}{m:BkM} (h:BkOk N m) (d:DeedM):BkOk N (purgedP m d).1:=by
  unfold purgedP
  cases hq:get? m.Q d.name with
  | none=>exact h
  | some q=>exact donesP_ok d.name _ (m,[]) h
theorem jointP_some {m:BkM}{d:DeedM}{b:BN}{l:Bool} (h:jointP m d=.inr (b,l)):b=(d.exch,d.queue,d.key)∧(xget m.X d.exch).isSome=true∧(get? m.Q d.queue).isSome=true∧d.exch≠[]∧l=(qlasts m d.queue && xlasts m d.exch):=by
  unfold jointP at h
  cases hq:get? m.Q d.queue with
  | none=>rw [hq] at h; cases h
  | some q =>
    cases hx:xget m.X d.exch with
    | none=>rw [hq,hx] at h; cases h
    | some x =>
      rw [hq,hx] at h
      simp only at h
      split at h
      · cases h
      · rename_i he
        cases h
        exact ⟨rfl,rfl,rfl,he,by unfold qlasts xlasts; rw [hq,hx]; rfl⟩
theorem bindD_ok {N:Nat}{m:BkM} (h:BkOk N m) (d:DeedM):BkOk (N+1) (bindD m d).1:=by
  have h1:=h.mono (Nat.le_succ N)
  unfold bindD
  cases hj:jointP m d with
  | inl c=>exact h1
  | inr bl =>
    obtain ⟨b,l⟩:=bl
    obtain ⟨rfl,j1,j2,j3,_⟩:=jointP_some hj
    simp only
    split
    · exact h1
    · split
      · exact h1
      · rename_i hk hb
        refine ⟨h1.nq,h1.nm,h1.up,h1.rl,h1.ids,h1.cnt,h1.qn,?_,h1.xn,h1.ux,h.ub.ins (a:=(d.exch,d.queue,d.key)) sort_bind.le_anti (by rw [List.map_id]; exact hb),h1.nx,?_⟩
        · intro b hb2
          rcases Ord.mem_ins.1 hb2 with e | e
          · subst e; exact ⟨j1,j2,j3,by simp only; omega⟩
          · exact h.bx b e
        · have:=h.sz
          simp only
          rw [Ord.len_ins]
          omega
theorem unbindD_ok {N:Nat}{m:BkM} (h:BkOk N m) (d:DeedM):BkOk N (unbindD m d).1:=by
  unfold unbindD
  cases hj:jointP m d with
  | inl c=>exact h
  | inr bl=>exact cutB_ok h _
theorem rowset_ok {N:Nat}{m:BkM} (h:BkOk N m) {n:Oct}{q:Bool × LRow} (hq:get? m.Q n=some q) {W:LRow} (hW:∀ j,(get? W j).isSome=(get? q.2 j).isSome) (hu:Up W) (hl:W.length≤N):BkOk N { m with Q:=upd m.Q n (q.1,W) }:=by
  have gq:∀ k q',get? (upd m.Q n (q.1,W)) k=some q'→(k=n∧q'=(q.1,W))∨get? m.Q k=some q':=by
    intro k q' e
    rw [get?_upd] at e
    split at e
    · cases e; exact .inl ⟨by assumption,rfl⟩
    · exact .inr e
  have s1:∀ j,standsN (upd m.Q n (q.1,W)) j=standsN m.Q j:=fun j=>by
    have:=standsN_upd hq (q.1,W) j
    simp only [hW] at this
    omega
  have l1:∀ j,lastsN (upd m.Q n (q.1,W)) j=lastsN m.Q j:=fun j=>by
    have:=lastsN_upd hq (q.1,W) j
    simp only [hW] at this
    omega
  refine ⟨(upd_keys h.nq).1,h.nm,?_,?_,?_,?_,?_,?_,h.xn,h.ux,h.ub,h.nx,?_⟩
  · intro k q' e
    rcases gq k q' e with ⟨rfl,rfl⟩ | e
    · exact hu
    · exact h.up k q' e
  · intro k q' e
    rcases gq k q' e with ⟨rfl,rfl⟩ | e
    · exact hl
    · exact h.rl k q' e
  · intro k q' j e hj
    rcases gq k q' e with ⟨rfl,rfl⟩ | e
    · rw [hW] at hj
      exact h.ids k q j hq hj
    · exact h.ids k q' j e hj
  · intro j x e
    simp only
    rw [s1,l1]
    exact h.cnt j x e
  · intro k q' e
    rcases gq k q' e with ⟨rfl,rfl⟩ | e
    · exact h.qn k q hq
    · exact h.qn k q' e
  · intro b hb
    have:=h.bx b hb
    refine ⟨this.1,?_,this.2.2⟩
    simp only
    rw [get?_upd]
    split
    · rfl
    · exact this.2.1
  · simp only
    rw [upd_same_len hq]
    exact h.sz
theorem upd_row_same {W:LRow}{id:Int}{e e':Bool × Bool} (h:get? W id=some e) (j:Int):(get? (upd W id e') j).isSome=(get? W j).isSome:=by
  rw [get?_upd]
  split
  · rename_i x; subst x; rw [h]; rfl
  · rfl
theorem upd_row_ok {N:Nat}{m:BkM} (h:BkOk N m) {n:Oct}{q:Bool × LRow} (hq:get? m.Q n=some q) {id:Int}{e e':Bool × Bool} (he:get? q.2 id=some e):BkOk N { m with Q:=upd m.Q n (q.1,upd q.2 id e') } :=
  rowset_ok h hq (upd_row_same he) ((h.up n q hq).upd (List.mem_map.2 ⟨_,get?_mem he,rfl⟩)) (by rw [upd_same_len he]; exact h.rl n q hq)
theorem firstR_some {W:LRow}{e:Int × Bool} (h:firstR W=some e):(e.1,(e.2,false))∈W:=by
  unfold firstR at h
  rw [Option.map_eq_some_iff] at h
  obtain ⟨x,h1,rfl⟩:=h
  have h2:=List.find?_some h1
  have h3:=List.mem_of_find?_eq_some h1
  obtain ⟨a,b,c⟩:=x
  simp only [Bool.not_eq_true'] at h2
  subst h2
  exact h3
theorem takeD_ok {N:Nat}{m:BkM} (h:BkOk N m) (d:DeedM):BkOk N (takeD m d).1:=by
  unfold takeD
  cases hq:get? m.Q d.queue with
  | none=>exact h
  | some q =>
    simp only
    cases hf:firstR q.2 with
    | none=>exact h
    | some e =>
      simp only
      have hg:get? q.2 e.1=some (e.2,false):=get?_of_mem (h.up _ _ hq).nodup (firstR_some hf)
      have h1:=upd_row_ok (e':=(e.2,true)) h hq hg
      split
      · exact doneP_ok h1 _ _
      · exact h1
theorem settleP_ok {N:Nat} (back:Bool):∀ (l:List (Oct × Int)) (z:BkM × List OpP),BkOk N z.1→BkOk N (settleP back l z).1
  | [],_,h=>h
  | x::r,z,h=>by
    unfold settleP
    split
    · exact settleP_ok back r z h
    · rename_i hh
      split
      · refine settleP_ok back r _ ?_
        simp only
        cases hq:get? z.1.Q x.1 with
        | none=>exact h
        | some q =>
          simp only
          unfold isHeld at hh
          rw [hq] at hh
          cases he:get? q.2 x.2 with
          | none=>simp [he] at hh
          | some e=>exact upd_row_ok h hq he
      · exact settleP_ok back r _ (doneP_ok h x.1 x.2)
theorem routeP_up {X:List XN}{B:List BN} (u:Ord.Ups sort_bind.o id B) (exch key:Oct):(routeP X B exch key).Pairwise fun a b=>sort_string.o.lt a b=true:=by
  unfold routeP
  cases xget X exch with
  | none=>exact List.Pairwise.nil
  | some x =>
    simp only
    split
    · exact List.pairwise_singleton ..
    · refine ddL_up ?_
      rw [List.pairwise_map]
      have uf:(B.filter fun b=>b.1==exch && takesP x b key).Pairwise fun a b=>sort_bind.o.lt a b=true:=u.filter _
      refine uf.imp_of_mem fun {a b} ha hb h=>?_
      have ea:a.1=exch:=by have:=(List.mem_filter.1 ha).2; rw [Bool.and_eq_true] at this; exact beq_iff_eq.1 this.1
      have eb:b.1=exch:=by have:=(List.mem_filter.1 hb).2; rw [Bool.and_eq_true] at this; exact beq_iff_eq.1 this.1
      have h:(sort_string.o.lt a.1 b.1 || (!sort_string.o.lt b.1 a.1 && (sort_string.o.lt a.2.1 b.2.1 || (!sort_string.o.lt b.2.1 a.2.1 && sort_string.o.lt a.2.2 b.2.2))))=true:=h
      rw [ea,eb,Ord.lt_irrefl] at h
      show sort_string.o.lt b.2.1 a.2.1=false
      cases e:sort_string.o.lt b.2.1 a.2.1 with
      | false=>rfl
      | true=>rw [e,sort_string.o.asym _ _ e] at h; cases h
theorem routeP_nodup {X:List XN}{B:List BN} (u:Ord.Ups sort_bind.o id B) (exch key:Oct):(routeP X B exch key).Nodup:=by
  rw [List.nodup_iff_pairwise_ne]
  exact (routeP_up u exch key).imp fun h e=>by rw [e,Ord.lt_irrefl] at h; cases h
theorem stand1 {Q:QR}{n:Oct}{q:Bool × LRow}{id:Int} (hq:get? Q n=some q) (hu:Up q.2) (hn:get? q.2 id=none) (j:Int) :
    standsN (upd Q n (q.1,ins q.2 id (false,false))) j=standsN Q j+(if j=id then 1 else 0)∧lastsN (upd Q n (q.1,ins q.2 id (false,false))) j=lastsN Q j+(if j=id∧q.1=true then 1 else 0):=by
  have a:=standsN_upd hq (q.1,ins q.2 id (false,false)) j
  have b:=lastsN_upd hq (q.1,ins q.2 id (false,false)) j
  simp only [hu.get?_ins (get?_none.1 hn) j] at a b
  by_cases e:j=id
  · subst e
    simp only [if_true,hn] at a b ⊢
    simp at a b
    refine ⟨by omega,?_⟩
    cases h:q.1 <;> simp [h] at b ⊢ <;> omega
  · simp only [if_neg e] at a b ⊢
    simp [e]
    omega
structure Puts (id:Int) (m:BkM) (l:List Oct) (two:Bool) (f:Oct→Bool) (z z':BkM × Int × Int):Prop where
  same:z'.1.X=z.1.X∧z'.1.B=z.1.B∧z'.1.M=z.1.M∧z'.1.next=z.1.next
  nq:(z'.1.Q.map Prod.fst).Nodup
  len:z'.1.Q.length=z.1.Q.length
  g:∀ k,get? z'.1.Q k=if k∈l then (get? z.1.Q k).map (fun q=>(q.1,ins q.2 id (false,false))) else get? z.1.Q k
  ce:z'.2.1=z.2.1+l.length
  cl:z'.2.2=z.2.2+if two then ((l.filter f).length:Int) else 0
  s:∀ j,standsN z'.1.Q j=standsN z.1.Q j+if j=id then l.length else 0
  t:∀ j,lastsN z'.1.Q j=lastsN z.1.Q j+if j=id then (l.filter f).length else 0
theorem putsP_spec {msg:MsgP}{v:Oct}{id:Int} (hid:id≠0) {f:Oct→Bool}:∀ (l:List Oct) (z:(BkM × List OpP) × Int × Int),l.Nodup→(z.1.1.Q.map Prod.fst).Nodup→(∀ n∈l,∃ q,get? z.1.1.Q n=some q∧get? q.2 id=none∧Up q.2∧q.1=f n) →
    Puts id z.1.1 l (decide (msg.mode=2)) f (z.1.1,z.2) ((putsP msg v id l z).1.1,(putsP msg v id l z).2)
  | [],z,_,hk,_=>by
    refine ⟨⟨rfl,rfl,rfl,rfl⟩,hk,rfl,fun k=>by simp [putsP],by simp [putsP],by simp [putsP],fun j=>by simp [putsP],fun j=>by simp [putsP]⟩
  | n::r,z,hl,hk,hq=>by
    obtain ⟨q,h1,h2,h3,h4⟩:=hq n (List.mem_cons_self ..)
    have hnr:=(List.nodup_cons.1 hl).1
    have estep:putsP msg v id (n::r) z=putsP msg v id r (({ z.1.1 with Q:=upd z.1.1.Q n (q.1,standW q.2 id false) },z.1.2++if (q.1 && decide (msg.mode=2)) then (if (if (q.1 && decide (msg.mode=2)) then z.2.2+1 else z.2.2)=1 then [putO (kMsg id) v] else [])++[putO (kEntry n id) []] else []),z.2.1+1,if (q.1 && decide (msg.mode=2)) then z.2.2+1 else z.2.2):=by
      conv=>lhs; unfold putsP
      rw [h1]
    have es:standW q.2 id false=ins q.2 id (false,false):=by
      unfold standW
      rw [if_neg (by rw [h2]; simp [hid])]
    rw [es] at estep
    rw [estep]
    have ih:=putsP_spec (msg:=msg) (v:=v) hid (f:=f) r (({ z.1.1 with Q:=upd z.1.1.Q n (q.1,ins q.2 id (false,false)) },z.1.2++if (q.1 && decide (msg.mode=2)) then (if (if (q.1 && decide (msg.mode=2)) then z.2.2+1 else z.2.2)=1 then [putO (kMsg id) v] else [])++[putO (kEntry n id) []] else []),z.2.1+1,if (q.1 && decide (msg.mode=2)) then z.2.2+1 else z.2.2) (List.nodup_cons.1 hl).2 (upd_keys hk).1 (fun k hkr=>by
      obtain ⟨q',a1,a2⟩:=hq k (List.mem_cons_of_mem _ hkr)
      refine ⟨q',?_,a2⟩
      simp only
      rw [get?_upd,if_neg (by intro e; subst e; exact hnr hkr)]
      exact a1)
    have st:=stand1 h1 h3 h2
    refine ⟨ih.same,ih.nq,ih.len.trans (upd_same_len h1),fun k=>?_,?_,?_,fun j=>?_,fun j=>?_⟩
    · rw [ih.g k]
      simp only
      rw [get?_upd]
      by_cases e:k=n
      · subst e
        rw [if_neg hnr,if_pos rfl,if_pos (List.mem_cons_self ..),h1]
        rfl
      · rw [if_neg e]
        by_cases e2:k∈r
        · rw [if_pos e2,if_pos (List.mem_cons_of_mem _ e2)]
        · rw [if_neg e2,if_neg (by simp [e,e2])]
    · rw [ih.ce]
      simp only [List.length_cons]
      omega
    · rw [ih.cl]
      simp only
      by_cases h2:msg.mode=2
      · simp only [decide_eq_true h2,if_true,Bool.and_true]
        cases hf:q.1 with
        | true=>rw [List.filter_cons_of_pos (by rw [← h4]; exact hf)]; simp; omega
        | false=>rw [List.filter_cons_of_neg (by rw [← h4]; simp [hf])]; simp
      · simp [decide_eq_false h2]
    · rw [ih.s j]
      simp only
      rw [(st j).1]
      by_cases e:j=id <;> simp [e]; omega
    · rw [ih.t j]
      simp only
      rw [(st j).2]
      by_cases e:j=id
      · subst e
        cases hf:q.1 with
        | true=>rw [List.filter_cons_of_pos (by rw [← h4]; exact hf)]; simp; omega
        | false=>rw [List.filter_cons_of_neg (by rw [← h4]; simp [hf])]; simp
      · simp [e]
theorem msgO_good {m:MsgP}{v:Oct} (h:msgO m=some v):goodMP m=true:=by
  unfold msgO at h
  split at h
  · assumption
  · cases h
theorem fresh_row {N:Nat}{m:BkM} (h:BkOk N m) {n:Oct}{q:Bool × LRow} (hq:get? m.Q n=some q):get? q.2 m.next=none:=by
  cases he:get? q.2 m.next with
  | none=>rfl
  | some e =>
    obtain ⟨x,hx⟩:=Option.isSome_iff_exists.1 (h.ids n q m.next hq (by rw [he]; rfl))
    have:=(h.cnt _ x hx).2.2.2.2.2
    omega
theorem fresh_M {N:Nat}{m:BkM} (h:BkOk N m):get? m.M m.next=none:=by
  cases hx:get? m.M m.next with
  | none=>rfl
  | some x=>have:=(h.cnt _ x hx).2.2.2.2.2; omega
def goesP (m:BkM) (exch key:Oct):List Oct:=(routeP m.X m.B exch key).filter fun n=>(get? m.Q n).isSome
theorem goesP_nodup {N:Nat}{m:BkM} (h:BkOk N m) (exch key:Oct):(goesP m exch key).Nodup:=(routeP_nodup h.ub exch key).sublist List.filter_sublist
theorem puts_ok {N:Nat}{m:BkM} (h:BkOk N m) (exch key:Oct) (msg:MsgP) (v:Oct):Puts m.next m (goesP m exch key) (decide (msg.mode=2)) (qlasts m) (m,(0,0)) ((putsP msg v m.next (goesP m exch key) ((m,[]),0,0)).1.1,(putsP msg v m.next (goesP m exch key) ((m,[]),0,0)).2):=by
  refine putsP_spec (by have:=h.nx; omega) _ ((m,[]),0,0) (goesP_nodup h exch key) h.nq fun n hn=>?_
  obtain ⟨q,hq⟩:=Option.isSome_iff_exists.1 (List.mem_filter.1 hn).2
  exact ⟨q,hq,fresh_row h hq,h.up n q hq,by unfold qlasts; rw [hq]; rfl⟩
theorem putD_ok {N:Nat}{m:BkM} (h:BkOk N m) (d:DeedM):BkOk (N+1) (putD m d).1:=by
  have h1:=h.mono (Nat.le_succ N)
  unfold putD
  cases hv:msgO d.msg with
  | none=>exact h1
  | some v =>
    simp only
    cases hx:xget m.X d.exch with
    | none=>exact h1
    | some x =>
      simp only
      have p:=puts_ok h d.exch d.msg.key d.msg v
      change BkOk (N+1) (if goesP m d.exch d.msg.key=[] then (m,did0) else _).1
      by_cases hne:goesP m d.exch d.msg.key=[]
      · rw [if_pos hne]; exact h1
      · rw [if_neg hne]
        simp only
        change Puts m.next m (goesP m d.exch d.msg.key) (decide (d.msg.mode=2)) (qlasts m) (m,(0,0)) _ at p
        generalize hz:putsP d.msg v m.next (goesP m d.exch d.msg.key) ((m,[]),0,0)=z at p
        have hz2:putsP d.msg v m.next (List.filter (fun n=>(get? m.Q n).isSome) (routeP m.X m.B d.exch d.msg.key)) ((m,[]),0,0)=z:=hz
        rw [hz2]
        have s0:standsN m.Q m.next=0:=by
          unfold standsN
          rw [List.length_eq_zero_iff,List.filter_eq_nil_iff]
          intro q hq
          have:=fresh_row h (get?_some_of_mem h.nq hq)
          rw [this]; simp
        have l0:lastsN m.Q m.next=0:=by have:=lastsN_le m.Q m.next; omega
        obtain ⟨⟨p1,p2,p3,p4⟩,p5,p6,p7,p8,p9,p10,p11⟩:=p
        simp only at p1 p2 p3 p4 p5 p6 p7 p8 p9 p10 p11
        have gq:∀ k q',get? z.1.1.Q k=some q'→∃ q,get? m.Q k=some q∧q'.1=q.1∧((q'.2=q.2)∨q'.2=ins q.2 m.next (false,false)):=by
          intro k q' e
          rw [p7 k] at e
          split at e
          · rw [Option.map_eq_some_iff] at e
            obtain ⟨q,e1,rfl⟩:=e
            exact ⟨q,e1,rfl,.inr rfl⟩
          · exact ⟨q',e,rfl,.inl rfl⟩
        refine ⟨p5,?_,?_,?_,?_,?_,?_,?_,?_,?_,?_,?_,?_⟩
        · simp only [p3]; exact (upd_keys h.nm).1
        · intro k q' e
          obtain ⟨q,e1,e2,e3 | e3⟩:=gq k q' e
          · rw [e3]; exact h.up k q e1
          · rw [e3]; exact (h.up k q e1).ins (get?_none.1 (fresh_row h e1))
        · intro k q' e
          obtain ⟨q,e1,e2,e3 | e3⟩:=gq k q' e
          · rw [e3]; exact h1.rl k q e1
          · rw [e3,ins_len]; have:=h.rl k q e1; omega
        · intro k q' j e hj
          simp only [p3]
          rw [get?_upd]
          split
          · rfl
          · rename_i hjn
            obtain ⟨q,e1,e2,e3 | e3⟩:=gq k q' e
            · rw [e3] at hj; exact h.ids k q j e1 hj
            · rw [e3,(h.up k q e1).get?_ins (get?_none.1 (fresh_row h e1)),if_neg hjn] at hj
              exact h.ids k q j e1 hj
        · intro j y e
          simp only [p3] at e ⊢
          rw [get?_upd] at e
          rw [p10,p11]
          split at e
          · rename_i hj
            subst hj
            cases e
            simp only [if_true]
            refine ⟨by rw [p8,s0]; simp,by rw [p8]; have:=List.length_pos_iff.2 hne; omega,?_,msgO_good hv,h.nx.1,by omega⟩
            rw [p9,l0]
            by_cases hm:d.msg.mode=2 <;> simp [hm]
          · rename_i hj
            rw [if_neg hj,if_neg hj,Nat.add_zero,Nat.add_zero]
            have:=h.cnt j y e
            exact ⟨this.1,this.2.1,this.2.2.1,this.2.2.2.1,this.2.2.2.2.1,by omega⟩
        · intro k q' e
          obtain ⟨q,e1,e2,e3⟩:=gq k q' e
          exact h.qn k q e1
        · simp only [p1,p2]
          intro b hb
          have:=h.bx b hb
          refine ⟨this.1,?_,this.2.2⟩
          rw [p7]
          split
          · rw [Option.isSome_map]; exact this.2.1
          · exact this.2.1
        · simp only [p1]; exact h.xn
        · simp only [p1]; exact h.ux
        · simp only [p2]; exact h.ub
        · simp only; have:=h.nx; omega
        · simp only
          rw [p1,p2,p6,upd_new_len (fresh_M h)]
          have:=h.sz
          omega
theorem doP_ok {N:Nat}{m:BkM} (h:BkOk N m) (d:DeedM):BkOk (N+1) (doP m d).1:=by
  have u:∀ {m':BkM},BkOk N m'→BkOk (N+1) m':=fun h=>h.mono (Nat.le_succ N)
  unfold doP
  split
  · exact declP_ok h d
  split
  · exact u (exchGoneP_ok h d)
  split
  · exact declQP_ok h d
  split
  · exact u (queueGoneP_ok h d)
  split
  · exact u (purgedP_ok h d)
  split
  · exact bindD_ok h d
  split
  · exact u (unbindD_ok h d)
  split
  · exact putD_ok h d
  split
  · exact u (takeD_ok h d)
  split
  · exact u (settleP_ok false d.holds (m,[]) h)
  split
  · exact u (settleP_ok true d.holds (m,[]) h)
  · exact u h
end Go.Proofs.YtofpbcakppjgcaaGreatDoor.Pr
end
section
set_option linter.unusedVariables false
set_option linter.unusedSimpArgs false
namespace Go.Proofs.YtofpbcakppjgcaaGreatDoor.Pr
open Go Go.Lift Go.Proofs
def deed0:DeedM:=⟨0,[],[],[],[],0,0,false,false,false,false,false,msg0,[]⟩
theorem doP_queue {m:BkM}{d:DeedM} (h:d.kind=3):doP m d=declQP m d:=by unfold doP; simp [h]
theorem doP_put {m:BkM}{d:DeedM} (h:d.kind=8):doP m d=putD m d:=by unfold doP; simp [h]
theorem doP_take {m:BkM}{d:DeedM} (h:d.kind=9):doP m d=takeD m d:=by unfold doP; simp [h]
theorem doP_back {m:BkM}{d:DeedM} (h:d.kind=11):doP m d=settleD m d true:=by unfold doP; simp [h]
theorem firstR_nil {W:LRow} (h:readyL W=[]):firstR W=none:=by
  unfold firstR
  rw [Option.map_eq_none_iff,List.find?_eq_none]
  intro x hx e
  have:x∈W.filter fun x=>!x.2.2:=List.mem_filter.2 ⟨hx,e⟩
  rw [List.map_eq_nil_iff.1 h] at this
  cases this
theorem readyL_held {k:Int}{a:Bool}{r:LRow}:readyL ((k,(a,true))::r)=readyL r:=rfl
theorem readyL_free {k:Int}{a:Bool}{r:LRow}:readyL ((k,(a,false))::r)=(k,a)::readyL r:=rfl
theorem first_ready:∀ {W:LRow}{k:Int}{a:Bool}{t:List (Int × Bool)},(W.map Prod.fst).Nodup→readyL W=(k,a)::t →
    firstR W=some (k,a)∧get? W k=some (a,false)∧readyL (upd W k (a,true))=t∧readyL (upd W k (true,false))=(k,true)::t∧readyL (del W k)=t∧∀ j,get? (del W k) j=if j=k then none else get? W j
  | [],_,_,_,_,h=>by cases h
  | (k',(a',true))::r,k,a,t,hn,h=>by
    have hn2:=List.nodup_cons.1 hn
    have h2:readyL r=(k,a)::t:=by rw [readyL_held] at h; exact h
    obtain ⟨i1,i2,i3,i4,i5,i6⟩:=first_ready hn2.2 h2
    have hk:k≠k':=by
      intro e
      subst e
      exact hn2.1 (List.mem_map.2 ⟨_,get?_mem i2,rfl⟩)
    have u1:∀ w:Bool × Bool,upd ((k',(a',true))::r) k w=(k',(a',true))::upd r k w:=fun w=>by rw [upd.eq_def]; simp [hk]
    have u2:del ((k',(a',true))::r) k=(k',(a',true))::del r k:=by rw [del.eq_def]; simp [hk]
    refine ⟨?_,?_,?_,?_,?_,fun j=>get?_del _ _ _ hn⟩
    · unfold firstR at i1 ⊢
      simpa using i1
    · rw [get?_cons_ne hk]; exact i2
    · rw [u1,readyL_held]; exact i3
    · rw [u1,readyL_held]; exact i4
    · rw [u2,readyL_held]; exact i5
  | (k',(a',false))::r,k,a,t,hn,h=>by
    have h2:(k',a')::readyL r=(k,a)::t:=by rw [readyL_free] at h; exact h
    simp only [List.cons.injEq,Prod.mk.injEq] at h2
    obtain ⟨⟨rfl,rfl⟩,h3⟩:=h2
    have u1:∀ w:Bool × Bool,upd ((k',(a',false))::r) k' w=(k',w)::r:=fun w=>by rw [upd.eq_def]; simp
    have u2:del ((k',(a',false))::r) k'=r:=by rw [del.eq_def]; simp
    refine ⟨by simp [firstR],get?_cons_eq,?_,?_,?_,fun j=>get?_del _ _ _ hn⟩
    · rw [u1,readyL_held]; exact h3
    · rw [u1,readyL_free,h3]
    · rw [u2]; exact h3
theorem upd_upd {κ ν:Type} [DecidableEq κ]:∀ (W:List (κ × ν)) (k:κ) (a b:ν),upd (upd W k a) k b=upd W k b
  | [],k,a,b=>by
    show upd [(k,a)] k b=[(k,b)]
    unfold upd; rw [if_pos rfl]
  | (k',v)::t,k,a,b=>by
    by_cases e:k=k'
    · subst e
      have u:∀ w:ν,upd ((k,v)::t) k w=(k,w)::t:=fun w=>by rw [upd.eq_def]; simp
      have u':upd ((k,a)::t) k b=(k,b)::t:=by rw [upd.eq_def]; simp
      rw [u,u,u']
    · have u:∀ (s:List (κ × ν)) (w:ν),upd ((k',v)::s) k w=(k',v)::upd s k w:=fun s w=>by rw [upd.eq_def]; simp [e]
      rw [u,u,u,upd_upd t k a b]
theorem del_upd {κ ν:Type} [DecidableEq κ]:∀ {W:List (κ × ν)}{k:κ}{v:ν} (a:ν),get? W k=some v→del (upd W k a) k=del W k
  | [],_,_,_,h=>by simp [get?,fnd] at h
  | (k',v)::t,k,w,a,h=>by
    by_cases e:k=k'
    · subst e
      have u:upd ((k,v)::t) k a=(k,a)::t:=by rw [upd.eq_def]; simp
      have u2:∀ w:ν,del ((k,w)::t) k=t:=fun w=>by rw [del.eq_def]; simp
      rw [u,u2,u2]
    · rw [get?_cons_ne e] at h
      have u1:upd ((k',v)::t) k a=(k',v)::upd t k a:=by rw [upd.eq_def]; simp [e]
      have u2:del ((k',v)::t) k=(k',v)::del t k:=by rw [del.eq_def]; simp [e]
      have u3:del ((k',v)::upd t k a) k=(k',v)::del (upd t k a) k:=by rw [del.eq_def]; simp [e]
      rw [u1,u2,u3,del_upd a h]
abbrev nQ:Oct:=[113]
def tkM (W:LRow) (M:List (Int × MsgE)) (nx:Int):BkM:=⟨X0,[],[(nQ,(true,W))],M,nx⟩
abbrev bk0:BkM:=⟨X0,[],[],[],1⟩
theorem bk0_ok:BkOk 0 bk0:=by
  refine ⟨by simp,by simp,by simp [get?,fnd],by simp [get?,fnd],by simp [get?,fnd],by simp [get?,fnd],by simp [get?,fnd],by simp,?_,?_,by simp,by simp,by simp⟩
  · decide
  · exact of_decide_eq_true (by kernel_rfl)
abbrev dQueue (n:Oct) (l:Bool):DeedM:={ deed0 with kind:=3,name:=n,lasts:=l }
theorem tk_decl:doP bk0 (dQueue nQ true)=(tkM [] [] 1,{ did0 with ops:=[putO (kQueue nQ) []] }):=by kernel_rfl
abbrev tkMsg (i:Nat):MsgP:=⟨[],nQ,[],2,[UInt8.ofNat i]⟩
abbrev dPut (m:MsgP):DeedM:={ deed0 with kind:=8,msg:=m }
theorem route_q:routeP X0 [] [] nQ=[nQ]:=by decide +kernel
theorem xget_nil:xget X0 []=some ([],1,true):=by decide +kernel
theorem tk_put {W:LRow}{M:List (Int × MsgE)}{nx:Int} (hW:get? W nx=none) (h0:nx≠0) (i:Nat) :
    ∃ v,doP (tkM W M nx) (dPut (tkMsg i))=(tkM (ins W nx (false,false)) (upd M nx (tkMsg i,1,1)) (nx+1),{ did0 with n:=1,qs:=[nQ],ops:=[putO (kMsg nx) v,putO (kEntry nQ nx) []] }):=by
  refine ⟨shortP []++shortP nQ++shortP []++octsN 1 2++[UInt8.ofNat i],?_⟩
  have hv:msgO (tkMsg i)=some (shortP []++shortP nQ++shortP []++octsN 1 2++[UInt8.ofNat i]):=by
    unfold msgO
    rw [if_pos (by rfl)]
    rfl
  have hv':msgO (dPut (tkMsg i)).msg=some (shortP []++shortP nQ++shortP []++octsN 1 2++[UInt8.ofNat i]):=hv
  have hx:xget (tkM W M nx).X (dPut (tkMsg i)).exch=some ([],1,true):=xget_nil
  have hq:List.filter (fun n=>(get? (tkM W M nx).Q n).isSome) (routeP (tkM W M nx).X (tkM W M nx).B (dPut (tkMsg i)).exch (dPut (tkMsg i)).msg.key)=[nQ]:=by
    show List.filter (fun n=>(get? (tkM W M nx).Q n).isSome) (routeP X0 [] [] nQ)=_
    rw [route_q]
    rfl
  have hs:standW W nx false=ins W nx (false,false):=by
    unfold standW
    rw [if_neg (by rw [hW]; simp [h0])]
  have hp:∀ v,putsP (dPut (tkMsg i)).msg v (tkM W M nx).next [nQ] ((tkM W M nx,[]),0,0)=((tkM (ins W nx (false,false)) M nx,[putO (kMsg nx) v,putO (kEntry nQ nx) []]),1,1):=by
    intro v
    rw [← hs]
    rfl
  show putD (tkM W M nx) (dPut (tkMsg i))=_
  unfold putD
  rw [hv']
  simp only
  rw [hx]
  simp only
  rw [hq,if_neg (by simp),hp]
  rfl
structure TK (n:Nat) (next:Nat) (again:Option Nat) (W:LRow) (M:List (Int × MsgE)):Prop where
  ready:readyL W=(match again with | some a=>[((a:Int)+1,true)] | none=>[])++((List.range' next (n - next)).map fun i=>(((i:Nat):Int)+1,false))
  up:Up W
  ms:∀ e∈readyL W,∃ i:Nat,e.1=(i:Int)+1∧i<n∧get? M e.1=some (tkMsg i,1,1)
  le:next≤n
theorem tk_take {n next:Nat}{again:Option Nat}{W:LRow}{M:List (Int × MsgE)}{nx:Int} (t:TK n next again W M) {d:DeedM} (hk:d.kind=9) (hq:d.queue=nQ) {want:Nat} (hw:want=again.getD next) (hlt:want<n) (hm:(M.map Prod.fst).Nodup) :
    let left:=if again.isSome then n - next else n - next - 1
    let next':=if again.isSome then next else next+1
    ∃ W' M' ops,doP (tkM W M nx) d=(tkM W' M' nx,{ did0 with n:=left,ent:=((want:Int)+1,again.isSome),msg:=tkMsg want,ops:=ops })∧ops.length=(if d.noack then 2 else 0) ∧
      TK n next' none W' M'∧(M'.map Prod.fst).Nodup ∧
      (d.noack=false→∃ W2,TK n next' (some want) W2 M'∧∀ d':DeedM,d'.kind=11→d'.holds=[(nQ,(want:Int)+1)]→doP (tkM W' M' nx) d'=(tkM W2 M' nx,did0)):=by
  intro left next'
  have hr:∃ tl,readyL W=((want:Int)+1,again.isSome)::tl∧tl.length=left∧tl=(List.range' next' (n - next')).map fun i=>(((i:Nat):Int)+1,false):=by
    rw [t.ready]
    cases again with
    | some a =>
      simp only [Option.getD_some] at hw
      subst hw
      exact ⟨_,rfl,by simp [left],rfl⟩
    | none =>
      simp only [Option.getD_none] at hw
      subst hw
      have e:n - want=(n - want - 1)+1:=by omega
      refine ⟨(List.range' (want+1) (n - want - 1)).map fun i=>(((i:Nat):Int)+1,false),?_,by simp [left],?_⟩
      · rw [e,List.range'_succ]
        simp
      · simp [next',Nat.sub_sub]
  obtain ⟨tl,h1,h2,h3⟩:=hr
  obtain ⟨f1,f2,f3,f4,f5,f6⟩:=first_ready t.up.nodup h1
  obtain ⟨i,m1,m2,m3⟩:=t.ms _ (by rw [h1]; exact List.mem_cons_self ..)
  simp only at m1 m3
  have ei:i=want:=by omega
  subst ei
  have hmem:((i:Int)+1)∈W.map Prod.fst:=List.mem_map.2 ⟨_,get?_mem f2,rfl⟩
  have up1:∀ w,Up (upd W ((i:Int)+1) w):=fun w=>t.up.upd hmem
  have hms:∀ e∈tl,∃ j:Nat,e.1=(j:Int)+1∧j<n∧get? M e.1=some (tkMsg j,1,1):=fun e he=>t.ms e (by rw [h1]; exact List.mem_cons_of_mem _ he)
  have nd:((readyL W).map Prod.fst).Nodup:=by
    have:((W.filter fun x=>!x.2.2).map Prod.fst).Nodup:=(List.filter_sublist.map _).nodup t.up.nodup
    unfold readyL
    rw [List.map_map]
    exact this
  have hne:∀ e∈tl,e.1≠(i:Int)+1:=by
    intro e he e2
    rw [h1,List.map_cons,List.nodup_cons] at nd
    exact nd.1 (List.mem_map.2 ⟨e,he,e2⟩)
  have hat:msgAt (tkM W M nx) ((i:Int)+1)=tkMsg i:=by unfold msgAt; show ((get? M _).map _).getD _=_; rw [m3]; rfl
  have step:∀ z,(if d.noack=true then doneP (tkM (upd W ((i:Int)+1) (again.isSome,true)) M nx) nQ ((i:Int)+1) else (tkM (upd W ((i:Int)+1) (again.isSome,true)) M nx,[]))=z →
      doP (tkM W M nx) d=(z.1,{ did0 with n:=left,ent:=((i:Int)+1,again.isSome),msg:=tkMsg i,ops:=z.2 }):=by
    intro z hz
    rw [doP_take hk]
    unfold takeD
    have hg:get? (tkM W M nx).Q nQ=some (true,W):=rfl
    rw [hq,hg]
    simp only [f1,hat]
    have e:({ tkM W M nx with Q:=upd (tkM W M nx).Q nQ (true,upd W ((i:Int)+1) (again.isSome,true)) }:BkM)=tkM (upd W ((i:Int)+1) (again.isSome,true)) M nx:=rfl
    show ((if d.noack=true then doneP { tkM W M nx with Q:=upd (tkM W M nx).Q nQ (true,upd W ((i:Int)+1) (again.isSome,true)) } nQ ((i:Int)+1) else ({ tkM W M nx with Q:=upd (tkM W M nx).Q nQ (true,upd W ((i:Int)+1) (again.isSome,true)) },[])).1,_)=_
    rw [e,hz,f3,h2]
  cases hna:d.noack with
  | false =>
    rw [hna] at step
    refine ⟨_,M,[],step _ rfl,rfl,⟨?_,up1 _,?_,?_⟩,hm,fun _=>⟨upd W ((i:Int)+1) (true,false),⟨?_,up1 _,?_,?_⟩,?_⟩⟩
    · rw [f3,h3]; rfl
    · rw [f3]; exact hms
    · cases again with
      | some a=>exact t.le
      | none=>simp at hw; show next+1≤n; omega
    · rw [f4,h3]; rfl
    · rw [f4]
      intro e he
      rcases List.mem_cons.1 he with e2 | e2
      · subst e2; exact ⟨i,rfl,hlt,m3⟩
      · exact hms e e2
    · cases again with
      | some a=>exact t.le
      | none=>simp at hw; show next+1≤n; omega
    · intro d' hk' hh'
      rw [doP_back hk']
      unfold settleD
      rw [hh']
      show ((settleP true [(nQ,(i:Int)+1)] (tkM (upd W ((i:Int)+1) (again.isSome,true)) M nx,[])).1,_)=_
      have hh:isHeld (tkM (upd W ((i:Int)+1) (again.isSome,true)) M nx) (nQ,(i:Int)+1)=true:=by
        unfold isHeld
        show ((some (true,upd W ((i:Int)+1) (again.isSome,true))).bind fun q=>get? q.2 ((i:Int)+1)).any (·.2)=true
        simp only [Option.bind_some]
        rw [get?_upd,if_pos rfl]
        rfl
      have hs:settleP true [(nQ,(i:Int)+1)] (tkM (upd W ((i:Int)+1) (again.isSome,true)) M nx,[])=(tkM (upd W ((i:Int)+1) (true,false)) M nx,[]):=by
        unfold settleP
        simp only [hh]
        rw [if_neg (by decide),if_pos trivial]
        unfold settleP
        have hg:get? (tkM (upd W ((i:Int)+1) (again.isSome,true)) M nx).Q nQ=some (true,upd W ((i:Int)+1) (again.isSome,true)):=rfl
        rw [hg]
        simp only
        rw [upd_upd]
        rfl
      rw [hs]
      rfl
  | true =>
    rw [hna] at step
    have gi:get? (upd W ((i:Int)+1) (again.isSome,true)) ((i:Int)+1)=some (again.isSome,true):=by rw [get?_upd,if_pos rfl]
    have hd:doneP (tkM (upd W ((i:Int)+1) (again.isSome,true)) M nx) nQ ((i:Int)+1)=(tkM (del W ((i:Int)+1)) (del (upd M ((i:Int)+1) (tkMsg i,0,0)) ((i:Int)+1)) nx,[delO (kEntry nQ ((i:Int)+1)),delO (kMsg ((i:Int)+1))]):=by
      unfold doneP
      have hg:get? (tkM (upd W ((i:Int)+1) (again.isSome,true)) M nx).Q nQ=some (true,upd W ((i:Int)+1) (again.isSome,true)):=rfl
      rw [hg]
      simp only
      rw [gi]
      have m4:get? (tkM (upd W ((i:Int)+1) (again.isSome,true)) M nx).M ((i:Int)+1)=some (tkMsg i,1,1):=m3
      rw [m4]
      rw [del_upd _ f2]
      rfl
    refine ⟨_,_,_,step _ hd,by simp,⟨?_,t.up.del,?_,?_⟩,del_keys (upd_keys hm).1,fun e=>by cases e⟩
    · rw [f5,h3]; rfl
    · rw [f5]
      intro e he
      obtain ⟨j,j1,j2,j3⟩:=hms e he
      refine ⟨j,j1,j2,?_⟩
      rw [get?_del _ _ _ (upd_keys hm).1,if_neg (hne e he),get?_upd,if_neg (hne e he)]
      exact j3
    · cases again with
      | some a=>exact t.le
      | none=>simp at hw; show next+1≤n; omega
theorem tk_none {n next:Nat}{again:Option Nat}{W:LRow}{M:List (Int × MsgE)}{nx:Int} (t:TK n next again W M) {d:DeedM} (hk:d.kind=9) (hq:d.queue=nQ) (hw:n≤again.getD next) (ha:∀ a,again=some a→a<n):doP (tkM W M nx) d=(tkM W M nx,{ did0 with n:=-1 }):=by
  have hr:readyL W=[]:=by
    rw [t.ready]
    cases again with
    | some a=>have:=ha a rfl; simp at hw; omega
    | none =>
      simp at hw
      have:n - next=0:=by omega
      rw [this]; rfl
  rw [doP_take hk]
  unfold takeD
  have hg:get? (tkM W M nx).Q nQ=some (true,W):=rfl
  rw [hq,hg]
  simp only [firstR_nil hr]
end Go.Proofs.YtofpbcakppjgcaaGreatDoor.Pr
end
