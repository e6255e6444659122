/- brokTakes_holds: all that the theorem needs, in a few texts (bundle.py; made of the texts that NOTES.md names). -/
import Derived.Below
import Derived.DeepKeys4
import Derived.KernelRfl
import Derived.Laws.Append
import Derived.Laws.Bits64
import Derived.Laws.BitsAllLaws
import Derived.Laws.BitsLemmas
import Derived.Laws.IdiomStrings
import Derived.Laws.Sem
import Derived.Laws.Strings
import Derived.Laws.StructEq
import Derived.Lib.ItoaNum
import Derived.LoopIn
import Derived.LoopN
import Derived.LoopNIn
import Derived.MapKept
import Derived.Maps.AppendAt
import Derived.Maps.RangeRun
import Derived.Orders
import Derived.OwnWalkIn
import Derived.RangeFuncGives
import Derived.RangeFuncSeq
import Derived.RegionIn
import Derived.Shelf.Abstract
import Derived.Shelf.Lay
import Derived.Shelf.LaysM
import Derived.Shelf.SlIter.Collect
import Derived.Shelf.SlMaps.Clone
import Derived.Shelf.Slices.Cells
import Derived.Shelf.Slices.CompactS
import Derived.Shelf.Slices.In.SortNone
import Derived.Shelf.Small.Bits
import Derived.Shelf.Small.Strs
import Derived.Shelf.Sort.Plain
import Derived.Shelf.Strconv.Itoa0
import Derived.Shelf.Strings.Count
import Derived.Shelf.Strings.Explode
import Derived.Shelf.Strings.RuneCount
import Derived.Shelf.Strings.Search1
import Derived.Shelf.Strings.Search2
import Derived.Shelf.Strings.Search3
import Derived.Shelf.Strings.Shaped
import Derived.Shelf.Strings.Split
import Derived.Shelf.Strings.SplitShaped
import Derived.Shelf.Unicode.Decode
import Derived.Shelf.Unicode.DecodeAny
import Derived.Shelf.Unicode.DecodeSlow
import Derived.Shelf.Utf8.RuneCount
import Derived.Sort.KeysCollected
import Derived.Sort.MapsRangeIn
import Derived.TacticsInMore
import Derived.Test.YtofpbcakppjgcaaGreatDoorChecked
import Derived.Test.YtofpbcakppjgcaaGreatDoorProg
import Derived.WalkKit
import Derived.WideLaws
import Derived.Test.YtofpbcakppjgcaaGreatDoorBBrokTakes2
import Derived.Test.YtofpbcakppjgcaaGreatDoorBBrokTakes3
import Derived.Test.YtofpbcakppjgcaaGreatDoorBBrokTakes4
import Derived.Test.YtofpbcakppjgcaaGreatDoorBBrokTakes5
import Derived.Test.YtofpbcakppjgcaaGreatDoorBBrokTakes6
import Derived.Test.YtofpbcakppjgcaaGreatDoorBBrokTakes7
import Derived.Test.YtofpbcakppjgcaaGreatDoorBBrokTakes8
import Derived.Test.YtofpbcakppjgcaaGreatDoorBBrokTakes9
import Derived.Test.YtofpbcakppjgcaaGreatDoorBBrokTakes10
import Derived.Test.YtofpbcakppjgcaaGreatDoorBBrokTakes11
import Derived.Test.YtofpbcakppjgcaaGreatDoorBBrokTakes12
import Derived.Test.YtofpbcakppjgcaaGreatDoorBBrokTakes13
import Derived.Test.YtofpbcakppjgcaaGreatDoorBBrokTakes14
import Derived.Test.YtofpbcakppjgcaaGreatDoorBBrokTakes15
import Derived.Test.YtofpbcakppjgcaaGreatDoorBBrokTakes17
import Derived.Test.YtofpbcakppjgcaaGreatDoorBBrokTakes18
import Derived.Test.YtofpbcakppjgcaaGreatDoorBBrokTakes19
import Derived.Test.YtofpbcakppjgcaaGreatDoorBBrokTakes20
import Derived.Test.YtofpbcakppjgcaaGreatDoorBBrokTakes21
import Derived.Test.YtofpbcakppjgcaaGreatDoorBBrokTakes22
import Derived.Test.YtofpbcakppjgcaaGreatDoorBBrokTakes23
import Derived.Test.YtofpbcakppjgcaaGreatDoorBBrokTakes24
import Derived.Test.YtofpbcakppjgcaaGreatDoorBBrokTakes26
import Derived.Test.YtofpbcakppjgcaaGreatDoorBBrokTakes27
section
set_option linter.unusedVariables false
namespace Go.Proofs
open Go.Shelf
shelf_lay_g SlLaysW.n5 Slmc 5 at Tryz 161 as Tryz.cloneX
shelf_lay_g SlLaysW.n5 Slmc 5 at Tryz 162 as Tryz.cloneB
end Go.Proofs
namespace Go.Proofs.YtofpbcakppjgcaaGreatDoor.Pr
open Go Go.Lift Go.Proofs
section
variable {K:KT}{L:List Asr}{h:Heap}{r:Addr}{X:List XN}{B:List BN}
end
end Go.Proofs.YtofpbcakppjgcaaGreatDoor.Pr
end
section
set_option linter.unusedVariables false
set_option linter.unusedSimpArgs false
namespace Go.Proofs.YtofpbcakppjgcaaGreatDoor.Pr
open Go Go.Lift Go.Proofs
section
variable {κ ν μ:Type} [DecidableEq κ]
def mapk (f:κ→ν→μ) (W:List (κ × ν)):List (κ × μ):=W.map fun x=>(x.1,f x.1 x.2)
theorem get?_mapk (f:κ→ν→μ):∀ (W:List (κ × ν)) (k:κ),get? (mapk f W) k=(get? W k).map (f k)
  | [],k=>rfl
  | (k',v)::t,k=>by
    show get? ((k',f k' v)::mapk f t) k=_
    by_cases e:k=k'
    · subst e; rw [get?_cons_eq,get?_cons_eq]; rfl
    · rw [get?_cons_ne e,get?_cons_ne e,get?_mapk f t k]
theorem upd_cons_eq {k:κ}{v w:ν}{t:List (κ × ν)}:upd ((k,v)::t) k w=(k,w)::t:=by unfold upd; rw [if_pos rfl]
theorem upd_cons_ne {k k':κ}{v w:ν}{t:List (κ × ν)} (e:k≠k'):upd ((k',v)::t) k w=(k',v)::upd t k w:=by rw [upd.eq_def]; simp [e]
theorem del_cons_eq {k:κ}{v:ν}{t:List (κ × ν)}:del ((k,v)::t) k=t:=by unfold del; rw [if_pos rfl]
theorem del_cons_ne {k k':κ}{v:ν}{t:List (κ × ν)} (e:k≠k'):del ((k',v)::t) k=(k',v)::del t k:=by rw [del.eq_def]; simp [e]
theorem upd_mapk (f:κ→ν→μ):∀ (W:List (κ × ν)) (k:κ) (v:ν),upd (mapk f W) k (f k v)=mapk f (upd W k v)
  | [],k,v=>rfl
  | (k',w)::t,k,v=>by
    show upd ((k',f k' w)::mapk f t) k _=_
    by_cases e:k=k'
    · subst e; rw [upd_cons_eq,upd_cons_eq]; rfl
    · rw [upd_cons_ne e,upd_cons_ne e,upd_mapk f t k v]; rfl
theorem del_mapk (f:κ→ν→μ):∀ (W:List (κ × ν)) (k:κ),del (mapk f W) k=mapk f (del W k)
  | [],k=>rfl
  | (k',w)::t,k=>by
    show del ((k',f k' w)::mapk f t) k=_
    by_cases e:k=k'
    · subst e; rw [del_cons_eq,del_cons_eq]
    · rw [del_cons_ne e,del_cons_ne e,del_mapk f t k]; rfl
theorem mapk_upd_same {f:κ→ν→μ}:∀ {W:List (κ × ν)}{k:κ}{v w:ν},get? W k=some v→f k w=f k v→mapk f (upd W k w)=mapk f W
  | [],_,_,_,h,_=>by simp [get?,fnd] at h
  | (k',u)::t,k,v,w,h,e=>by
    by_cases e2:k=k'
    · subst e2
      rw [get?_cons_eq] at h
      cases h
      rw [upd_cons_eq]
      show (k,f k w)::mapk f t=(k,f k _)::mapk f t
      rw [e]
    · rw [get?_cons_ne e2] at h
      rw [upd_cons_ne e2]
      show (k',f k' u)::mapk f (upd t k w)=(k',f k' u)::mapk f t
      rw [mapk_upd_same h e]
theorem perm_del:∀ {W:List (κ × ν)}{k:κ}{v:ν},get? W k=some v→W.Perm ((k,v)::del W k)
  | [],_,_,h=>by simp [get?,fnd] at h
  | (k',u)::t,k,v,h=>by
    by_cases e:k=k'
    · subst e; rw [get?_cons_eq] at h; cases h; rw [del_cons_eq]
    · rw [get?_cons_ne e] at h; rw [del_cons_ne e]; exact ((perm_del h).cons _).trans (.swap ..)
theorem perm_upd (w:ν):∀ {W:List (κ × ν)}{k:κ}{v:ν},get? W k=some v→(upd W k w).Perm ((k,w)::del W k)
  | [],_,_,h=>by simp [get?,fnd] at h
  | (k',u)::t,k,v,h=>by
    by_cases e:k=k'
    · subst e; rw [del_cons_eq,upd_cons_eq]
    · rw [get?_cons_ne e] at h; rw [del_cons_ne e,upd_cons_ne e]; exact ((perm_upd w h).cons _).trans (.swap ..)
end
theorem St.starsPerm {As Bs L:List Asr}{h:Heap} (p:As.Perm Bs) (S:St (stars As::L) h):St (stars Bs::L) h:=St.close ((St.open S).perm (p.append_right L))
theorem St.starsPop {A:Asr}{As L:List Asr}{h:Heap} (S:St (stars (A::As)::L) h):St (A::stars As::L) h:=by
  have S1:St (A::(As++L)) h:=St.open S
  have S2:St ((As++L)++[A]) h:=S1.perm (List.perm_append_comm (l₁:=[A]) (l₂:=As++L))
  rw [List.append_assoc] at S2
  have S3:St (stars As::(L++[A])) h:=St.close S2
  exact S3.perm (((List.perm_append_comm (l₁:=L) (l₂:=[A])).cons _).trans (.swap ..))
theorem St.starsPush {A:Asr}{As L:List Asr}{h:Heap} (S:St (A::stars As::L) h):St (stars (A::As)::L) h:=by
  have S3:St (stars As::(L++[A])) h:=S.perm ((List.Perm.swap ..).trans ((List.perm_append_comm (l₁:=[A]) (l₂:=L)).cons _))
  have S2:=St.open S3
  rw [← List.append_assoc] at S2
  exact St.close (As:=A::As) (S2.perm (List.perm_append_comm (l₁:=As++L) (l₂:=[A])))
def LnsW (ad:Oct→Addr) (Q:QR):Asr:=stars (Q.map fun x=>LnW (ad x.1) x.2.2)
def BdsW (bv:Int→SV) (M:List (Int × MsgE)):Asr:=stars (M.map fun x=>Im 1 (bv x.1) (u8s x.2.1.body))
section
variable {K:KT}{L:List Asr}{h:Heap}{ad:Oct→Addr}{bv:Int→SV}{Q:QR}{M:List (Int × MsgE)}
theorem LnsW.take {n:Oct}{q:Bool × LRow} (hq:get? Q n=some q) (S:St (LnsW ad Q::L) h):St (LnW (ad n) q.2::LnsW ad (del Q n)::L) h :=
  St.starsPop (St.starsPerm ((perm_del hq).map fun x=>LnW (ad x.1) x.2.2) S)
theorem LnsW.put {n:Oct}{q:Bool × LRow} (l:Bool) (W:LRow) (hq:get? Q n=some q) (S:St (LnW (ad n) W::LnsW ad (del Q n)::L) h):St (LnsW ad (upd Q n (l,W))::L) h :=
  St.starsPerm ((perm_upd (l,W) hq).map fun x=>LnW (ad x.1) x.2.2).symm (St.starsPush (A:=LnW (ad n) W) S)
theorem LnsW.back {n:Oct}{q:Bool × LRow} (hq:get? Q n=some q) (S:St (LnW (ad n) q.2::LnsW ad (del Q n)::L) h):St (LnsW ad Q::L) h :=
  St.starsPerm ((perm_del hq).map fun x=>LnW (ad x.1) x.2.2).symm (St.starsPush (A:=LnW (ad n) q.2) S)
theorem LnsW.new {n:Oct}{a:Addr} (l:Bool) {W:LRow} (hq:get? Q n=none) (S:St (LnW a W::LnsW ad Q::L) h):St (LnsW (fun k=>if k=n then a else ad k) (upd Q n (l,W))::L) h:=by
  unfold LnsW at S ⊢
  rw [upd_none (get?_none.1 hq),List.map_append,List.map_cons,List.map_nil]
  refine St.starsPerm (List.perm_append_comm (l₁:=[_])) (St.starsPush ?_)
  simp only [if_true]
  have e:(Q.map fun x=>LnW (if x.1=n then a else ad x.1) x.2.2)=Q.map fun x=>LnW (ad x.1) x.2.2:=List.map_congr_left fun x hx=>by
    rw [if_neg]
    intro e
    exact get?_none.1 hq (e ▸ List.mem_map.2 ⟨x,hx,rfl⟩)
  rw [e]
  exact S
theorem BdsW.get {id:Int}{x:MsgE} (hx:get? M id=some x) (S:St (BdsW bv M::L) h):St (Im 1 (bv id) (u8s x.1.body)::BdsW bv M::L) h:=by
  have S1:St (Im 1 (bv id) (u8s x.1.body)::stars ((del M id).map fun x=>Im 1 (bv x.1) (u8s x.2.1.body))::L) h:=St.starsPop (St.starsPerm ((perm_del hx).map fun x=>Im 1 (bv x.1) (u8s x.2.1.body)) S)
  have S2:=S1.imDup (List.mem_cons_self ..)
  have S3:St (stars (((id,x)::del M id).map fun x=>Im 1 (bv x.1) (u8s x.2.1.body))::Im 1 (bv id) (u8s x.1.body)::L) h:=St.starsPush (A:=Im 1 (bv id) (u8s x.1.body)) (S2.perm ((List.Perm.swap ..).cons _))
  exact (St.starsPerm ((perm_del hx).map fun x=>Im 1 (bv x.1) (u8s x.2.1.body)).symm S3).perm (.swap ..)
theorem BdsW.upd {id:Int}{x x':MsgE} (hx:get? M id=some x) (e:x'.1.body=x.1.body):BdsW bv (Lift.upd M id x')=BdsW bv M:=by
  unfold BdsW
  have:=mapk_upd_same (f:=fun (i:Int) (x:MsgE)=>Im 1 (bv i) (u8s x.1.body)) (w:=x') hx (by simp only [e])
  have:=congrArg (List.map Prod.snd) this
  unfold mapk at this
  simp only [List.map_map] at this
  exact congrArg stars this
theorem BdsW.del (id:Int) (S:St (BdsW bv M::L) h):St (BdsW bv (Lift.del M id)::L) h:=by
  cases hx:get? M id with
  | none=>rw [del_none (get?_none.1 hx)]; exact S
  | some x=>exact St.tl (St.starsPop (A:=Im 1 (bv id) (u8s x.1.body)) (St.starsPerm ((perm_del hx).map fun x=>Im 1 (bv x.1) (u8s x.2.1.body)) S))
theorem BdsW.new {id:Int}{s:SV}{x:MsgE} (hx:get? M id=none) (S:St (Im 1 s (u8s x.1.body)::BdsW bv M::L) h):St (BdsW (fun k=>if k=id then s else bv k) (Lift.upd M id x)::L) h:=by
  unfold BdsW at S ⊢
  rw [upd_none (get?_none.1 hx),List.map_append,List.map_cons,List.map_nil]
  refine St.starsPerm (List.perm_append_comm (l₁:=[_])) (St.starsPush ?_)
  simp only [if_true]
  have e:(M.map fun x=>Im 1 (if x.1=id then s else bv x.1) (u8s x.2.1.body))=M.map fun x=>Im 1 (bv x.1) (u8s x.2.1.body):=List.map_congr_left fun y hy=>by
    rw [if_neg]
    intro e
    exact get?_none.1 hx (e ▸ List.mem_map.2 ⟨y,hy,rfl⟩)
  rw [e]
  exact S
abbrev vvQ:Bool × Addr→Value:=fun x=>.agg #[.bool x.1,.pointer (some x.2)]
abbrev mcell (m:MsgP) (s:SV):List Value:=[.string (mkS m.exch),.string (mkS m.key),.string (mkS m.typ),.int .i64 m.mode,s.v]
abbrev mecell (x:MsgE) (s:SV):List Value:=[.string (mkS x.1.exch),.string (mkS x.1.key),.string (mkS x.1.typ),.int .i64 x.1.mode,s.v,.int .i64 x.2.1,.int .i64 x.2.2]
abbrev vvM:MsgE × SV→Value:=fun x=>.agg (List.toArray (mecell x.1 x.2))
abbrev hQ (ad:Oct→Addr) (Q:QR):List (Oct × (Bool × Addr)):=mapk (fun n (q:Bool × LRow)=>(q.1,ad n)) Q
abbrev hM (bv:Int→SV) (M:List (Int × MsgE)):List (Int × (MsgE × SV)):=mapk (fun i (x:MsgE)=>(x,bv i)) M
abbrev BkA (b r:Addr) (mq mm:Nat) (ad:Oct→Addr) (bv:Int→SV) (m:BkM) (L:List Asr):List Asr :=
  Bx b [.pointer (some r),.map (some mq),.map (some mm),.int .u64 m.next]::RtW r m.X m.B::Mq Lift.encS vvQ mq (hQ ad m.Q)::Mq kkU vvM mm (hM bv m.M)::LnsW ad m.Q::BdsW bv m.M::L
def BkW (b:Addr) (m:BkM):Asr:=ex fun y:Addr × Nat × Nat × (Oct→Addr) × (Int→SV) =>
  stars [Bx b [.pointer (some y.1),.map (some y.2.1),.map (some y.2.2.1),.int .u64 m.next],RtW y.1 m.X m.B,Mq Lift.encS vvQ y.2.1 (hQ y.2.2.2.1 m.Q),Mq kkU vvM y.2.2.1 (hM y.2.2.2.2 m.M),LnsW y.2.2.2.1 m.Q,BdsW y.2.2.2.2 m.M]
theorem BkW.out {b:Addr}{m:BkM} (S:St (BkW b m::L) h):∃ r mq mm ad bv,St (BkA b r mq mm ad bv m L) h:=by
  obtain ⟨⟨r,mq,mm,ad,bv⟩,S1⟩:=St.ex S
  exact ⟨r,mq,mm,ad,bv,S1.open⟩
theorem BkW.inn {b r:Addr}{mq mm:Nat}{ad:Oct→Addr}{bv:Int→SV}{m:BkM} (S:St (BkA b r mq mm ad bv m L) h):St (BkW b m::L) h :=
  St.ex' (r,mq,mm,ad,bv) (St.close (As:=[Bx b [.pointer (some r),.map (some mq),.map (some mm),.int .u64 m.next],RtW r m.X m.B,Mq Lift.encS vvQ mq (hQ ad m.Q),Mq kkU vvM mm (hM bv m.M),LnsW ad m.Q,BdsW bv m.M]) S)
abbrev oc (x:OpP × SV):List Value:=[.string (mkS x.1.key),.bool x.1.del,x.2.v]
theorem oc3:∀ x:OpP × SV,(oc x).length=3:=fun _=>rfl
theorem oc_one (x:OpP × SV):∀ w∈oc x,Lift.one w=true:=by simp [Lift.one]
def OpsA (s:SV) (ops:List OpP):Asr:=ex fun vs:List SV=>sep (fact (vs.length=ops.length)) (sep (Ow 3 s ((ops.zip vs).flatMap oc)) (stars ((ops.zip vs).map fun x=>Im 1 x.2 (u8s x.1.val))))
theorem OpsA.out {s:SV}{ops:List OpP} (S:St (OpsA s ops::L) h):∃ vs:List SV,vs.length=ops.length∧St (Ow 3 s ((ops.zip vs).flatMap oc)::stars ((ops.zip vs).map fun x=>Im 1 x.2 (u8s x.1.val))::L) h:=by
  obtain ⟨vs,S1⟩:=St.ex S
  obtain ⟨e,S2⟩:=S1.split.fact
  exact ⟨vs,e,S2.split⟩
theorem OpsA.inn {s:SV}{ops:List OpP} (vs:List SV) (e:vs.length=ops.length) (S:St (Ow 3 s ((ops.zip vs).flatMap oc)::stars ((ops.zip vs).map fun x=>Im 1 x.2 (u8s x.1.val))::L) h):St (OpsA s ops::L) h :=
  St.ex' vs (St.join (St.fact' e (St.join S)))
theorem OpsA.nil (S:St L h):St (OpsA (none,0,0) []::L) h:=OpsA.inn [] rfl (St.owNil 3 (S.emp'))
theorem OpsA.len {s:SV}{ops:List OpP} (S:St (OpsA s ops::L) h):s.2.1=ops.length:=by
  obtain ⟨vs,e,S1⟩:=OpsA.out S
  have:=S1.ow.1
  rw [flat_length oc3,List.length_zip] at this
  omega
end
end Go.Proofs.YtofpbcakppjgcaaGreatDoor.Pr
end
section
set_option linter.unusedVariables false
set_option linter.unusedSimpArgs false
namespace Go.Proofs.YtofpbcakppjgcaaGreatDoor.Pr
open Go Go.Lift Go.Proofs
abbrev kcells (k:KeyM):List Value:=[.int .i64 k.kind,.string (mkS k.a),.string (mkS k.b),.string (mkS k.c),.int .u64 k.id]
theorem hasP_lt (k:Int):hasP k<16:=by
  unfold hasP
  repeat' split
  all_goals decide
theorem hasBits:∀ n:Fin 16,(bitsI .and .i64 ((n.val:Nat):Int) 1 != 0)=n.val.testBit 0∧(bitsI .and .i64 ((n.val:Nat):Int) 2 != 0)=n.val.testBit 1∧(bitsI .and .i64 ((n.val:Nat):Int) 4==0)=!n.val.testBit 2∧(bitsI .and .i64 ((n.val:Nat):Int) 8 != 0)=n.val.testBit 3 ∧
    ∀ i:Fin 3,(bitsI .and .i64 (shrI .i64 ((n.val:Nat):Int) (IntKind.u64.wrap ((i.val:Nat):Int))) 1==1)=n.val.testBit i.val:=by decide +kernel
theorem has_kind {k:Int} (h:hasP k≠0):1≤k∧k≤5:=by
  unfold hasP at h
  repeat' split at h
  all_goals first | omega | exact absurd rfl h
section
variable {K:KT}{L:List Asr}{h:Heap}
theorem hasS {k:Int} (hK:K (.int .i64 ((hasP k:Nat):Int)) h):CallsH P F.qdp [.int .i64 k] K h:=by
  refine qdp.ok ?_
  unfold qdp.p0 qdp.j1
  unfold hasP at hK
  simp only [bd]
  by_cases h1:k=1
  · subst h1; simpa using hK
  by_cases h2:k=2
  · subst h2; simpa using hK
  by_cases h3:k=3
  · subst h3; simpa using hK
  by_cases h4:k=4
  · subst h4; simpa using hK
  by_cases h5:k=5
  · subst h5; simpa using hK
  simpa [h1,h2,h3,h4,h5] using hK
theorem nameS {s:Oct}{is:Bool} (hK:K (.bool (nameP s is)) h):CallsH P F.qeb [.string (mkS s),.bool is] K h:=by
  refine qeb.ok ?_
  unfold qeb.p0
  unfold nameP at hK
  simp only [bd]
  cases is with
  | false =>
    refine ifT rfl ?_
    rw [show (s==([]:Oct))=decide (s=[]) by rw [Bool.eq_iff_iff]; simp]
    exact hK
  | true =>
    refine ifF rfl ?_
    by_cases hs:s=[]
    · subst hs
      exact ifF rfl hK
    · refine ifT (by simpa using hs) ?_
      have:decide (((List.length s:Nat):Int)≤30)=decide (s≠[]∧s.length≤30):=by
        rw [decide_eq_decide]
        exact ⟨fun e=>⟨hs,by omega⟩,fun e=>by have:=e.2; omega⟩
      rw [this]
      exact hK
theorem goodS {k:KeyM} (S:St L h) (hK:∀ h',St L h'→K (.bool (goodKP k)) h'):CallsH P F.qcf [.agg (List.toArray (kcells k))] K h:=by
  refine qcf.ok ?_
  unfold qcf.p0
  refine (bdE _ _).2 ?_
  have S1:=S.al (kcells k) T.api_Key
  generalize al h (List.toArray (kcells k)) T.api_Key=h1 at *
  generalize top h=t at *
  have hb:=hasBits ⟨hasP k.kind,hasP_lt k.kind⟩
  simp only at hb
  obtain ⟨b0,b1,b2,b3,_⟩:=hb
  have no:goodKP k=false→qcf.j1 K t ((hasP k.kind:Nat):Int) true h1:=by
    intro e
    unfold qcf.j1
    have:=hK h1 S1.tl
    rw [e] at this
    exact ifT rfl this
  refine ⟨_,S1.rc t 0 rfl,hasS ⟨_,rfl,?_⟩⟩
  by_cases h0:hasP k.kind=0
  · exact ifT' (by simp [h0]) (no (by unfold goodKP; rw [decide_eq_false (by simpa using h0)]; rfl))
  have e0:decide (hasP k.kind≠0)=true:=decide_eq_true h0
  refine ifF' (by simp [h0]) ⟨_,S1.rc t 1 rfl,nameS ⟨_,rfl,?_⟩⟩
  rw [b0]
  cases ha:nameP k.a ((hasP k.kind).testBit 0) with
  | false=>exact ifT' rfl (no (by unfold goodKP; rw [ha,e0]; rfl))
  | true =>
  refine ifF' rfl ⟨_,S1.rc t 2 rfl,nameS ⟨_,rfl,?_⟩⟩
  rw [b1]
  cases hbb:nameP k.b ((hasP k.kind).testBit 1) with
  | false=>exact no (by unfold goodKP; rw [ha,hbb,e0]; rfl)
  | true =>
  unfold qcf.j1
  refine ifF rfl ⟨_,S1.rc t 3 rfl,?_⟩
  have j2:∀ b,b=true→goodKP k=false→qcf.j2 K t ((hasP k.kind:Nat):Int) b h1:=by
    intro b hb e
    unfold qcf.j2
    have:=hK h1 S1.tl
    rw [e] at this
    exact ifT hb this
  have j3:(((hasP k.kind).testBit 2 || decide (k.c=[]))=true)→qcf.j2 K t ((hasP k.kind:Nat):Int) (decide (((List.length k.c:Nat):Int) > 60)) h1:=by
    intro hc
    by_cases hl:k.c.length≤60
    · unfold qcf.j2
      refine ifF (by simp; omega) ⟨_,S1.rc t 4 rfl,?_⟩
      simp only [bd]
      rw [b3]
      have:goodKP k=(decide (k.id > 0)==(hasP k.kind).testBit 3):=by
        unfold goodKP
        rw [e0,ha,hbb,hc,decide_eq_true hl]
        simp
      have k2:=hK h1 S1.tl
      rw [this] at k2
      exact k2
    · refine j2 _ (by simp; omega) (by unfold goodKP; rw [decide_eq_false hl]; simp)
  by_cases hc:k.c=[]
  · refine ifF (by simp [hc]) ⟨_,S1.rc t 3 rfl,j3 (by simp [hc])⟩
  · refine ifT (by simpa using hc) ?_
    rw [b2]
    cases h2:(hasP k.kind).testBit 2 with
    | false=>exact ifT' rfl (j2 true rfl (by unfold goodKP; rw [h2,decide_eq_false hc]; simp))
    | true=>exact ifF' rfl ⟨_,S1.rc t 3 rfl,j3 (by rw [h2]; rfl)⟩
def stepK (k:KeyM) (i:Nat):Oct:=if (hasP k.kind).testBit i then shortP (if i=0 then k.a else if i=1 then k.b else k.c) else []
theorem text_j1 {k:KeyM}{t:Addr}{b:SV}{bs:Oct} (S:St (Ow 1 b (u8s bs)::Bx t (kcells k)::L) h) (hb:bs.length<1000) (hid:0≤k.id) (hK:∀ h',St L h'→K (.tuple #[.string (mkS (bs++if (hasP k.kind).testBit 3 then octsN 8 k.id.toNat else [])),.bool true]) h') :
    qbr.j1 K t ((hasP k.kind:Nat):Int) b.1 b.2.1 b.2.2 h:=by
  unfold qbr.j1
  have hb3:=(hasBits ⟨hasP k.kind,hasP_lt k.kind⟩).2.2.2.1
  simp only at hb3
  rw [hb3]
  cases h3:(hasP k.kind).testBit 3 with
  | true =>
    refine ifT rfl ⟨_,S.rc t 4 rfl,?_⟩
    have e:k.id=((k.id.toNat:Nat):Int):=by omega
    rw [e]
    refine intS (s:=b) (n:=8) (v:=k.id.toNat) S (S.osl 1 b) (by omega) (by decide) (by decide) fun p l c h2 S2=>⟨_,_,_,rfl,?_⟩
    unfold qbr.j2
    refine str_ok (e:=T.uint8) (by kernel_rfl) (by kernel_rfl) (by kernel_rfl) (S2.osl 1 (p,l,c)) ⟨_,rfl,?_⟩
    have:=hK h2 S2.tl.tl.tl
    rw [h3,if_pos rfl] at this
    exact this
  | false =>
    refine ifF rfl ?_
    unfold qbr.j2
    refine str_ok (e:=T.uint8) (by kernel_rfl) (by kernel_rfl) (by kernel_rfl) (S.osl 1 b) ⟨_,rfl,?_⟩
    have:=hK h S.tl.tl
    rw [h3,if_neg (by decide),List.append_nil] at this
    exact this
theorem text_step {k:KeyM}{t:Addr}{b:SV}{bs:Oct}{w:SV}{f:Nat}{i:Nat} (hi:i<3) (S:St (Ow 1 b (u8s bs)::Bx t (kcells k)::Im 1 w [.string (mkS k.a),.string (mkS k.b),.string (mkS k.c)]::L) h) (hb:bs.length+61 * (3 - i)<1000) (hl:k.a.length≤60∧k.b.length≤60∧k.c.length≤60)
    (hN:∀ b' h',St (Ow 1 b' (u8s (bs++stepK k i))::Bx t (kcells k)::Im 1 w [.string (mkS k.a),.string (mkS k.b),.string (mkS k.c)]::L) h'→qbr.L3 K f t ((hasP k.kind:Nat):Int) b'.1 b'.2.1 b'.2.2 w.1 w.2.1 w.2.2 3 ((i+1:Nat):Int) h') :
    qbr.L3 K (f+1) t ((hasP k.kind:Nat):Int) b.1 b.2.1 b.2.2 w.1 w.2.1 w.2.2 3 (i:Int) h:=by
  unfold qbr.L3
  have hw:=S.isl 1 w
  have hsb:=(hasBits ⟨hasP k.kind,hasP_lt k.kind⟩).2.2.2.2 ⟨i,hi⟩
  simp only at hsb
  have wi:IntKind.i64.wrap ((i:Int)+1)=((i+1:Nat):Int):=by rw [IntKind.wrap_i64]; omega
  have hw0:0≤IntKind.u64.wrap ((i:Nat):Int):=by rw [IntKind.wrap_u64]; omega
  have hget:([.string (mkS k.a),.string (mkS k.b),.string (mkS k.c)]:List Value)[i]? = some (.string (mkS (if i=0 then k.a else if i=1 then k.b else k.c))):=by
    have:i=0∨i=1∨i=2:=by omega
    rcases this with rfl | rfl | rfl <;> rfl
  have hlen:(if i=0 then k.a else if i=1 then k.b else k.c).length≤60:=by
    have:i=0∨i=1∨i=2:=by omega
    rcases this with rfl | rfl | rfl
    · exact hl.1
    · exact hl.2.1
    · exact hl.2.2
  refine ifT (by simp; omega) (ixV hw (i:=(i:Int)) (n:=i) rfl hget fun q eq cq=>?_)
  simp only [rdT cq]
  refine ⟨hw0,?_⟩
  rw [hsb]
  unfold stepK at hN
  generalize (if i=0 then k.a else if i=1 then k.b else k.c)=s at *
  cases hbi:(hasP k.kind).testBit i with
  | true =>
    rw [hbi,if_pos rfl] at hN
    refine ifT rfl (shortS (s:=b) (cs:=s) S (S.osl 1 b) (by omega) fun p l c h2 S2=>⟨_,_,_,_,rfl,?_⟩)
    unfold qbr.j4
    rw [wi]
    refine hN (p,l,c) h2 ?_
    rw [if_neg (by omega)] at S2
    have e:bs++octsN 1 s.length++s=bs++shortP s:=by unfold shortP; rw [List.append_assoc]
    rw [e] at S2
    exact S2.d1
  | false =>
    rw [hbi,if_neg (by decide),List.append_nil] at hN
    refine ifF rfl ?_
    unfold qbr.j4
    rw [wi]
    exact hN b h S
theorem goodKP_lens {k:KeyM} (h:goodKP k=true):hasP k.kind≠0∧k.a.length≤60∧k.b.length≤60∧k.c.length≤60:=by
  unfold goodKP at h
  simp only [Bool.and_eq_true,decide_eq_true_eq] at h
  obtain ⟨⟨⟨⟨⟨h0,ha⟩,hb⟩,_⟩,hc⟩,_⟩:=h
  have len:∀ {s:Oct}{is:Bool},nameP s is=true→s.length≤60:=by
    intro s is e
    unfold nameP at e
    split at e
    · have:=(of_decide_eq_true e).2; omega
    · rw [of_decide_eq_true e]; decide
  exact ⟨h0,len ha,len hb,hc⟩
theorem textS {k:KeyM} (S:St L h) (hid:0≤k.id) (hK:∀ h',St L h'→K (.tuple #[.string (mkS (textO k)),.bool (textP k).isSome]) h'):CallsH P F.qbr [.agg (List.toArray (kcells k))] K h:=by
  refine qbr.ok ?_
  unfold qbr.p0
  refine (bdE _ _).2 ?_
  have S1:=S.al (kcells k) T.api_Key
  generalize al h (List.toArray (kcells k)) T.api_Key=h1 at *
  generalize top h=t at *
  refine ⟨_,S1.rall t 5 rfl,goodS S1 fun h2 S2=>⟨_,rfl,?_⟩⟩
  unfold textO textP at hK
  cases hg:goodKP k with
  | false =>
    rw [hg] at hK
    exact ifT rfl (hK h2 S2.tl)
  | true =>
    rw [hg] at hK
    refine ifF rfl ⟨_,S2.rc t 0 rfl,hasS ⟨_,rfl,_,S2.rc t 0 rfl,(bdE _ _).2 ((bdE _ _).2 ((bdE _ _).2 ((bdE _ _).2 ?_)))⟩⟩
    obtain ⟨h0,la,lb,lc⟩:=goodKP_lens hg
    have hk:=has_kind h0
    have ek:IntKind.u8.wrap k.kind=(((UInt8.ofNat k.kind.toNat).toNat:Nat):Int):=by rw [IntKind.wrap_u8',UInt8.toNat_ofNat']; omega
    rw [ek]
    have S3:St (Ow 1 (some (top h2),1,1) (u8s [UInt8.ofNat k.kind.toNat])::Bx t (kcells k)::L) (al h2 #[.int .u8 (((UInt8.ofNat k.kind.toNat).toNat:Nat):Int)] T.uint8):=(S2.al [.int .u8 (((UInt8.ofNat k.kind.toNat).toNat:Nat):Int)] T.uint8).bxOw (sz:=1) (by simp)
    generalize al h2 #[.int .u8 (((UInt8.ofNat k.kind.toNat).toNat:Nat):Int)] T.uint8=h3 at *
    refine ⟨_,S3.rc t 1 rfl,_,S3.rc t 2 rfl,_,S3.rc t 3 rfl,(bdE _ _).2 ?_⟩
    have S4:=S3.lit [.string (mkS k.a),.string (mkS k.b),.string (mkS k.c)] T.string 3 rfl
    have S5:St (Ow 1 (some (top h2),1,1) (u8s [UInt8.ofNat k.kind.toNat])::Bx t (kcells k)::Im 1 (some (top h3),3,3) [.string (mkS k.a),.string (mkS k.b),.string (mkS k.c)]::L) _:=S4.to
    refine ⟨4,?_⟩
    refine text_step (i:=0) (w:=(some (top h3),3,3)) (b:=(some (top h2),1,1)) (by decide) S5 (by simp) ⟨la,lb,lc⟩ fun b1 h4 S6=>?_
    have l1:(stepK k 0).length≤61:=by unfold stepK shortP; split <;> simp [octsN_length]; omega
    have l2:(stepK k 1).length≤61:=by unfold stepK shortP; split <;> simp [octsN_length]; omega
    have l3:(stepK k 2).length≤61:=by unfold stepK shortP; split <;> simp [octsN_length]; omega
    refine text_step (i:=1) (w:=(some (top h3),3,3)) (b:=b1) (by decide) S6 (by simp; omega) ⟨la,lb,lc⟩ fun b2 h5 S7=>?_
    refine text_step (i:=2) (w:=(some (top h3),3,3)) (b:=b2) (by decide) S7 (by simp; omega) ⟨la,lb,lc⟩ fun b3 h6 S8=>?_
    unfold qbr.L3
    refine ifF (by decide) (text_j1 (b:=b3) S8 (by simp; omega) hid fun h7 S9=>?_)
    have e:[UInt8.ofNat k.kind.toNat]++stepK k 0++stepK k 1++stepK k 2++(if (hasP k.kind).testBit 3=true then octsN 8 k.id.toNat else [])=keyO k:=by unfold keyO stepK; simp
    rw [e]
    exact hK h7 S9.tl
theorem textB {k:KeyM} (S:St L h) (hid:0≤k.id) (hK:∀ h',St L h'→K (.string (mkS (textO k))) h'):CallsH P F.qec [.agg (List.toArray (kcells k))] K h:=by
  refine qec.ok ?_
  unfold qec.p0
  refine (bdE _ _).2 ?_
  have S1:=S.al (kcells k) T.api_Key
  exact ⟨_,S1.rall (top h) 5 rfl,textS S1 hid fun h2 S2=>⟨_,_,rfl,hK h2 S2.tl⟩⟩
theorem putB {k:KeyM}{v:SV}{val:Oct} (S:St L h) (hid:0≤k.id) (hK:∀ h',St L h'→K (.agg (List.toArray (oc (putO k val,v)))) h'):CallsH P F.qeg [.agg (List.toArray (kcells k)),.slice v.1 v.2.1 v.2.2] K h:=by
  refine qeg.ok ?_
  unfold qeg.p0
  refine (bdE _ _).2 ((bdE _ _).2 ?_)
  have S1:=S.al (kcells k) T.api_Key
  generalize al h (List.toArray (kcells k)) T.api_Key=h1 at *
  have S2:=S1.al [.string (mkS []),.bool false,.slice none 0 0] T.api_Op
  refine ⟨_,S2.rall (top h) 5 rfl,textB S2 hid fun h2 S3=>⟨_,rfl,rfl,?_⟩⟩
  refine S3.putA (top h1) (ws:=[.string (mkS (textO k)),.bool false,.slice v.1 v.2.1 v.2.2]) rfl (by simp [Lift.one]) fun h3 S4=>?_
  exact ⟨_,S4.rall (top h1) 3 rfl,hK h3 S4.tl.tl⟩
theorem delB {k:KeyM} (S:St L h) (hid:0≤k.id) (hK:∀ h',St L h'→K (.agg (List.toArray (oc (delO k,(none,0,0))))) h'):CallsH P F.qeh [.agg (List.toArray (kcells k))] K h:=by
  refine qeh.ok ?_
  unfold qeh.p0
  refine (bdE _ _).2 ((bdE _ _).2 ?_)
  have S1:=S.al (kcells k) T.api_Key
  generalize al h (List.toArray (kcells k)) T.api_Key=h1 at *
  have S2:=S1.al [.string (mkS []),.bool false,.slice none 0 0] T.api_Op
  refine ⟨_,S2.rall (top h) 5 rfl,textB S2 hid fun h2 S3=>⟨_,rfl,rfl,?_⟩⟩
  refine S3.putA (top h1) (ws:=[.string (mkS (textO k)),.bool true,.slice none 0 0]) rfl (by simp [Lift.one]) fun h3 S4=>?_
  exact ⟨_,S4.rall (top h1) 3 rfl,hK h3 S4.tl.tl⟩
end
section
variable {K:KT}{L:List Asr}{h:Heap}
theorem goodMS {m:MsgP}{mb:SV} (hm:mb.2.1=m.body.length) (S:St L h) (hK:∀ h',St L h'→K (.bool (goodMP m)) h'):CallsH P F.qdt [.agg (List.toArray (mcell m mb))] K h:=by
  refine qdt.ok ?_
  unfold qdt.p0
  refine (bdE _ _).2 ?_
  have S1:=S.al (mcell m mb) T.api_Msg
  generalize al h (List.toArray (mcell m mb)) T.api_Msg=h1 at *
  generalize top h=t at *
  have no:goodMP m=false→K (.bool false) h1:=fun e=>by
    have:=hK h1 S1.tl
    rwa [e] at this
  have g:=goodMP_iff m
  refine ⟨_,S1.rc t 0 rfl,?_⟩
  by_cases a1:m.exch.length≤30
  case neg=>exact ifF (by simp; omega) (no (by rw [Bool.eq_false_iff]; intro e; exact a1 (g.1 e).1))
  refine ifT (by simp; omega) ⟨_,S1.rc t 1 rfl,?_⟩
  by_cases a2:m.key.length≤60
  case neg=>exact ifF (by simp; omega) (no (by rw [Bool.eq_false_iff]; intro e; exact a2 (g.1 e).2.1))
  refine ifT (by simp; omega) ⟨_,S1.rc t 2 rfl,?_⟩
  by_cases a3:m.typ.length≤60
  case neg=>exact ifF (by simp; omega) (no (by rw [Bool.eq_false_iff]; intro e; exact a3 (g.1 e).2.2.1))
  refine ifT (by simp; omega) ⟨_,S1.rc t 3 rfl,?_⟩
  by_cases a4:0≤m.mode
  case neg=>exact ifF (by simp; omega) (no (by rw [Bool.eq_false_iff]; intro e; exact a4 (g.1 e).2.2.2.1))
  refine ifT (by simp; omega) ⟨_,S1.rc t 3 rfl,?_⟩
  by_cases a5:m.mode≤2
  case neg=>exact ifF (by simp; omega) (no (by rw [Bool.eq_false_iff]; intro e; exact a5 (g.1 e).2.2.2.2.1))
  refine ifT (by simp; omega) ⟨_,_,_,S1.rc t 4 rfl,?_⟩
  simp only [bd]
  have:=hK h1 S1.tl
  have e:goodMP m=decide (((mb.2.1:Nat):Int)≤10000):=by
    rw [Bool.eq_iff_iff,g,decide_eq_true_eq]
    constructor
    · intro x; have:=x.2.2.2.2.2; omega
    · intro x; exact ⟨a1,a2,a3,a4,a5,by omega⟩
  rwa [e] at this
theorem msg_step {m:MsgP}{t:Addr}{mb b:SV}{bs:Oct}{w:SV}{f i:Nat} (hi:i<3) (S:St (Ow 1 b (u8s bs)::Bx t (mcell m mb)::Im 1 w [.string (mkS m.exch),.string (mkS m.key),.string (mkS m.typ)]::L) h) (hb:bs.length+61 * (3 - i)<1000) (hl:m.exch.length≤60∧m.key.length≤60∧m.typ.length≤60)
    (hN:∀ b' h',St (Ow 1 b' (u8s (bs++shortP (if i=0 then m.exch else if i=1 then m.key else m.typ)))::Bx t (mcell m mb)::Im 1 w [.string (mkS m.exch),.string (mkS m.key),.string (mkS m.typ)]::L) h'→qcu.L2 K f t b'.1 b'.2.1 b'.2.2 w.1 w.2.1 w.2.2 3 ((i+1:Nat):Int) h') :
    qcu.L2 K (f+1) t b.1 b.2.1 b.2.2 w.1 w.2.1 w.2.2 3 (i:Int) h:=by
  unfold qcu.L2
  have hw:=S.isl 1 w
  have wi:IntKind.i64.wrap ((i:Int)+1)=((i+1:Nat):Int):=by rw [IntKind.wrap_i64]; omega
  have hget:([.string (mkS m.exch),.string (mkS m.key),.string (mkS m.typ)]:List Value)[i]? = some (.string (mkS (if i=0 then m.exch else if i=1 then m.key else m.typ))):=by
    have:i=0∨i=1∨i=2:=by omega
    rcases this with rfl | rfl | rfl <;> rfl
  have hlen:(if i=0 then m.exch else if i=1 then m.key else m.typ).length≤60:=by
    have:i=0∨i=1∨i=2:=by omega
    rcases this with rfl | rfl | rfl
    · exact hl.1
    · exact hl.2.1
    · exact hl.2.2
  refine ifT (by simp; omega) (ixV hw (i:=(i:Int)) (n:=i) rfl hget fun q eq cq=>?_)
  simp only [rdT cq]
  generalize (if i=0 then m.exch else if i=1 then m.key else m.typ)=s at *
  refine shortS (s:=b) (cs:=s) S (S.osl 1 b) (by omega) fun p l c h2 S2=>⟨_,_,_,_,rfl,?_⟩
  rw [wi]
  refine hN (p,l,c) h2 ?_
  rw [if_neg (by omega)] at S2
  have e:bs++octsN 1 s.length++s=bs++shortP s:=by unfold shortP; rw [List.append_assoc]
  rw [e] at S2
  exact S2.d1
theorem msgS {m:MsgP}{mb:SV} (S:St L h) [Hm:In (fun z=>Im 1 mb (u8s z)) L m.body] (hK:∀ p l c h',St (Im 1 (p,l,c) (u8s ((msgO m).getD []))::L) h'→K (.tuple #[.slice p l c,.bool (msgO m).isSome]) h'):CallsH P F.qcu [.agg (List.toArray (mcell m mb))] K h:=by
  have em:mb.2.1=m.body.length:=Sl.len (isl8 S (s:=mb) (bs:=m.body)).1
  refine qcu.ok ?_
  unfold qcu.p0
  refine (bdE _ _).2 ?_
  have S1:=S.al (mcell m mb) T.api_Msg
  generalize al h (List.toArray (mcell m mb)) T.api_Msg=h1 at *
  generalize top h=t at *
  refine ⟨_,S1.rall t 5 rfl,goodMS em S1 fun h2 S2=>⟨_,rfl,?_⟩⟩
  unfold msgO at hK
  cases hg:goodMP m with
  | false =>
    rw [hg] at hK
    exact ifT rfl (hK none 0 0 h2 (S2.tl.imNil 1 0))
  | true =>
    rw [hg] at hK
    have g:=(goodMP_iff m).1 hg
    refine ifF rfl ⟨_,S2.rc t 0 rfl,_,S2.rc t 1 rfl,_,S2.rc t 2 rfl,(bdE _ _).2 ?_⟩
    have S3:=S2.lit [.string (mkS m.exch),.string (mkS m.key),.string (mkS m.typ)] T.string 3 rfl
    have S4:St (Ow 1 (none,0,0) (u8s [])::Bx t (mcell m mb)::Im 1 (some (top h2),3,3) [.string (mkS m.exch),.string (mkS m.key),.string (mkS m.typ)]::L) _:=(show St (Ow 1 (none,0,0) (u8s [])::_) _ from S3.owNil 1).to
    refine ⟨4,?_⟩
    have ln:∀ s:Oct,s.length≤60→(shortP s).length≤61:=fun s hs=>by unfold shortP; simp [octsN_length]; omega
    refine msg_step (i:=0) (w:=(some (top h2),3,3)) (b:=(none,0,0)) (by decide) S4 (by simp) ⟨by omega,g.2.1,g.2.2.1⟩ fun b1 h4 S6=>?_
    simp only [if_true,List.nil_append] at S6
    have q1:=ln m.exch (by omega)
    have q2:=ln m.key g.2.1
    have q3:=ln m.typ g.2.2.1
    refine msg_step (i:=1) (w:=(some (top h2),3,3)) (b:=b1) (by decide) S6 (by omega) ⟨by omega,g.2.1,g.2.2.1⟩ fun b2 h5 S7=>?_
    refine msg_step (i:=2) (w:=(some (top h2),3,3)) (b:=b2) (by decide) S7 (by simp; omega) ⟨by omega,g.2.1,g.2.2.1⟩ fun b3 h6 S8=>?_
    unfold qcu.L2
    refine ifF (by decide) ?_
    unfold qcu.j1
    have S9:St (Ow 1 b3 (u8s (shortP m.exch++shortP m.key++shortP m.typ))::Bx t (mcell m mb)::Im 1 (some (top h2),3,3) [.string (mkS m.exch),.string (mkS m.key),.string (mkS m.typ)]::L) h6:=S8
    have ew:IntKind.u64.wrap m.mode=((m.mode.toNat:Nat):Int):=by rw [IntKind.wrap_u64]; have:=g.2.2.2; omega
    have fin:∀ {p:OA}{l c:Nat}{h':Heap},St (Ow 1 (p,l,c) (u8s (shortP m.exch++shortP m.key++shortP m.typ++octsN 1 m.mode.toNat))::Bx t (mcell m mb)::L) h' →
        SemH P (Builtin.append_ #[T.sl_uint8,T.sl_uint8] T.sl_uint8 #[.slice p l c,.slice mb.1 mb.2.1 mb.2.2]) (fun v h'=>∃ a al ac,v=.slice a al ac∧K (.tuple #[.slice a al ac,.bool true]) h') h':=by
      intro p l c h' S10
      have r1:=isl8 S10 (s:=mb) (bs:=m.body)
      refine appS (s:=(p,l,c)) (bs:=shortP m.exch++shortP m.key++shortP m.typ++octsN 1 m.mode.toNat) (ws:=m.body) S10 (Src.slice r1.1 (u8s_one _)) (by simp [octsN_length]; omega) fun p2 l2 c2 h3 S11=>⟨_,_,_,rfl,?_⟩
      have S12:=S11.fz 1 (p2,l2,c2)
      exact hK p2 l2 c2 h3 S12.d1
    refine ⟨_,S9.rc t 3 rfl,?_⟩
    rw [ew]
    have r0:(shortP m.exch++shortP m.key++shortP m.typ).length<1099511627776:=by simp; omega
    refine ⟨intS (s:=b3) (n:=1) (v:=m.mode.toNat) S9 (S9.osl 1 b3) r0 (by decide) (by decide) fun p l c h2 S10=>⟨_,_,_,rfl,_,_,_,S10.rc t 4 rfl,fin ?_⟩,_,_,_,S9.rc t 4 rfl,intS (s:=b3) (n:=1) (v:=m.mode.toNat) S9 (S9.osl 1 b3) r0 (by decide) (by decide) fun p l c h2 S10=>⟨_,_,_,rfl,fin ?_⟩⟩
    · exact S10.to
    · exact S10.to
theorem stillB {m:MsgP}{mb:SV} (S:St L h) [Hm:In (fun z=>Im 1 mb (u8s z)) L m.body] (hl:m.body.length<1000000) (hK:∀ s h',St (Im 1 s (u8s m.body)::L) h'→K (.agg (List.toArray (mcell m s))) h'):CallsH P F.qdz [.agg (List.toArray (mcell m mb))] K h:=by
  refine qdz.ok ?_
  unfold qdz.p0
  refine (bdE _ _).2 ((bdE _ _).2 ?_)
  have S1:=S.al (mcell m mb) T.api_Msg
  generalize al h (List.toArray (mcell m mb)) T.api_Msg=h1 at *
  have S2:=S1.al (mcell msg0 (none,0,0)) T.api_Msg
  have eh:al h1 #[.string (mkS []),.string (mkS []),.string (mkS []),.int .i64 0,.slice none 0 0] T.api_Msg=al h1 (List.toArray (mcell msg0 (none,0,0))) T.api_Msg:=rfl
  rw [eh]
  generalize al h1 (List.toArray (mcell msg0 (none,0,0))) T.api_Msg=h2 at *
  generalize top h=t at *
  generalize top h1=t2 at *
  refine ⟨_,_,_,S2.rc t 4 rfl,?_⟩
  refine cloneS (s:=mb) (bs:=m.body) S2 (isl8 S2 (s:=mb) (bs:=m.body)).1 (by omega) fun p l c h3 S3=>⟨_,_,_,rfl,S3.put1 t 4 (v:=.slice p l c) (by simp) rfl fun h4 S4=>?_⟩
  simp only [List.set_cons_succ,List.set_cons_zero] at S4
  refine ⟨_,S4.rall t 5 rfl,rfl,?_⟩
  refine S4.putA t2 (ws:=mcell m (p,l,c)) rfl (by simp [Lift.one]) fun h5 S5=>⟨_,S5.rall t2 5 rfl,?_⟩
  exact hK (p,l,c) h5 (S5.fz 1 (p,l,c)).d1.d1
end
end Go.Proofs.YtofpbcakppjgcaaGreatDoor.Pr
end
section
set_option linter.unusedVariables false
set_option linter.unusedSimpArgs false
namespace Go.Proofs.YtofpbcakppjgcaaGreatDoor.Pr
open Go Go.Lift Go.Proofs
theorem umQ:P.underlying T.map_string_brok_queue=some (.map T.string T.brok_queue):=by kernel_rfl
theorem umM:P.underlying T.map_uint64_brok_message=some (.map T.uint64 T.brok_message):=by kernel_rfl
theorem zQ:(P.info? T.brok_queue).bind (·.zero)=some (.agg #[.bool false,.pointer none]):=by kernel_rfl
theorem zM:(P.info? T.brok_message).bind (·.zero)=some (.agg #[.string (mkS []),.string (mkS []),.string (mkS []),.int .i64 0,.slice none 0 0,.int .i64 0,.int .i64 0]):=by kernel_rfl
theorem sl_op:SlT P T.sl_api_Op T.api_Op 3 48 [.string (mkS []),.bool false,.slice none 0 0]:=slT (by kernel_rfl) (by kernel_rfl)
theorem u_slo:P.underlying T.sl_api_Op=some (.slice T.api_Op):=by kernel_rfl
theorem bld_op':(fun a b c:Value=>Instr.fill (Lift.places P (P.underlying T.sl_api_Op)) (zrow (zcl P T.api_Op).toList 1 (P.cellsOf T.api_Op)).toArray [(0,.agg (List.toArray [a,b,c]))])=fun a b c=>some (List.toArray [a,b,c]):=by kernel_rfl
theorem bld_op (x:OpP × SV):bldS P T.sl_api_Op T.api_Op 1 [(0,.agg (List.toArray (oc x)))] (oc x):=congrFun (congrFun (congrFun bld_op' _) _) _
def qO (ad:Oct→Addr) (n:Oct):Option (Bool × LRow)→List Value
  | none=>[.bool false,.pointer none]
  | some q=>[.bool q.1,.pointer (some (ad n))]
theorem qO_len (ad:Oct→Addr) (n:Oct) (o:Option (Bool × LRow)):(qO ad n o).length=2:=by cases o <;> rfl
theorem qO_one (ad:Oct→Addr) (n:Oct) (o:Option (Bool × LRow)):∀ w∈qO ad n o,Lift.one w=true:=by cases o <;> simp [qO,Lift.one]
theorem qO_val (ad:Oct→Addr) (n:Oct) (o:Option (Bool × LRow)):(o.map fun q=>(q.1,ad n)).elim (.agg #[.bool false,.pointer none]) vvQ=.agg (List.toArray (qO ad n o)):=by cases o <;> rfl
def mO (bv:Int→SV) (i:Int):Option MsgE→List Value
  | none=>[.string (mkS []),.string (mkS []),.string (mkS []),.int .i64 0,.slice none 0 0,.int .i64 0,.int .i64 0]
  | some x=>mecell x (bv i)
theorem mO_val (bv:Int→SV) (i:Int) (o:Option MsgE):(o.map fun x=>(x,bv i)).elim (.agg #[.string (mkS []),.string (mkS []),.string (mkS []),.int .i64 0,.slice none 0 0,.int .i64 0,.int .i64 0]) vvM=.agg (List.toArray (mO bv i o)):=by cases o <;> rfl
abbrev dcells (d:DidM) (so sq mb:SV):List Value:=[.int .i64 d.code,.int .i64 d.n,so.v,sq.v,.string (mkS d.msg.exch),.string (mkS d.msg.key),.string (mkS d.msg.typ),.int .i64 d.msg.mode,mb.v,.int .u64 d.ent.1,.bool d.ent.2]
theorem dcells_one (d:DidM) (so sq mb:SV):∀ w∈dcells d so sq mb,Lift.one w=true:=by
  intro w hw; simp [dcells] at hw; rcases hw with rfl | rfl | rfl | rfl | rfl | rfl | rfl | rfl | rfl | rfl | rfl <;> rfl
abbrev snil:SV:=(none,0,0)
abbrev ddcells (d:DeedM) (mb hs:SV):List Value:=[.int .i64 d.kind,.string (mkS d.name),.string (mkS d.exch),.string (mkS d.queue),.string (mkS d.key),.int .i64 d.x,.int .i64 d.n,.bool d.lasts,.bool d.passive,.bool d.unused,.bool d.empty,.bool d.noack,
  .string (mkS d.msg.exch),.string (mkS d.msg.key),.string (mkS d.msg.typ),.int .i64 d.msg.mode,mb.v,hs.v]
abbrev hc (x:Oct × Int):List Value:=[.string (mkS x.1),.int .u64 x.2]
theorem hc2:∀ x:Oct × Int,(hc x).length=2:=fun _=>rfl
theorem hc_one (x:Oct × Int):∀ w∈hc x,Lift.one w=true:=by simp [Lift.one]
def DidK (K:KT) (L:List Asr) (d:DidM):Prop:=∀ so sq mb h',St (OpsA so d.ops::Im 1 sq (d.qs.map Lift.encS)::Im 1 mb (u8s d.msg.body)::L) h'→K (.agg (List.toArray (dcells d so sq mb))) h'
section
variable {K:KT}{L R:List Asr}{h:Heap}
theorem OpsA.to1 {s:SV}{x:OpP}{v:SV} (S:St (Im 1 v (u8s x.val)::Ow 3 s (oc (x,v))::L) h):St (OpsA s [x]::L) h:=by
  refine OpsA.inn [v] rfl ?_
  have e:(([x].zip [v]).flatMap oc)=oc (x,v):=by simp
  rw [e]
  have S1:St (Im 1 v (u8s x.val)::stars []::Ow 3 s (oc (x,v))::L) h:=(S.emp').p1
  exact (St.starsPush (A:=Im 1 v (u8s x.val)) (As:=[]) S1).p1
theorem flatMap_zip_app {a b:List OpP}{va vb:List SV} (e:va.length=a.length):((a++b).zip (va++vb)).flatMap oc=(a.zip va).flatMap oc++(b.zip vb).flatMap oc:=by rw [List.zip_append e.symm,List.flatMap_append]
theorem appOps {s t:SV}{a b:List OpP} (S:St (OpsA s a::OpsA t b::L) h) (hl:a.length+b.length≤1000000) (hK:∀ p l c h',St (OpsA (p,l,c) (a++b)::L) h'→K (.slice p l c) h') :
    SemH P (Builtin.append_ #[T.sl_api_Op,T.sl_api_Op] T.sl_api_Op #[.slice s.1 s.2.1 s.2.2,.slice t.1 t.2.1 t.2.2]) K h:=by
  have ls:=OpsA.len S
  have lt:=OpsA.len S.p1
  obtain ⟨va,ea,S1⟩:=OpsA.out S
  have S2:St (OpsA t b::Ow 3 s ((a.zip va).flatMap oc)::stars ((a.zip va).map fun x=>Im 1 x.2 (u8s x.1.val))::L) h:=S1.p2
  obtain ⟨vb,eb,S3⟩:=OpsA.out S2
  have sl:Sl 3 h t.1 t.2.1 ((b.zip vb).flatMap oc):=S3.sl
  have S4:St (Ow 3 s ((a.zip va).flatMap oc)::Ow 3 t ((b.zip vb).flatMap oc)::stars ((b.zip vb).map fun x=>Im 1 x.2 (u8s x.1.val))::stars ((a.zip va).map fun x=>Im 1 x.2 (u8s x.1.val))::L) h:=S3.to
  refine S4.app (s:=s) (n:=t.2.1) sl_op rfl u_slo (fun k e=>by cases e) (Src.slice (n:=t.2.1) (c:=t.2.2) sl (fun w hw=>by obtain ⟨x,_,hx⟩:=List.mem_flatMap.1 hw; exact oc_one x w hx)) (by omega) (by omega) fun p' c' h' S5=>hK p' _ c' h' ?_
  refine OpsA.inn (va++vb) (by simp [ea,eb]) ?_
  rw [flatMap_zip_app ea,List.zip_append ea.symm,List.map_append]
  have S6:St (stars ((a.zip va).map fun x=>Im 1 x.2 (u8s x.1.val))::stars ((b.zip vb).map fun x=>Im 1 x.2 (u8s x.1.val))::Ow 3 (p',s.2.1+t.2.1,c') ((a.zip va).flatMap oc++(b.zip vb).flatMap oc)::L) h':=S5.to
  have S7:=St.open S6
  have S8:St (stars ((b.zip vb).map fun x=>Im 1 x.2 (u8s x.1.val))::(((a.zip va).map fun x=>Im 1 x.2 (u8s x.1.val))++Ow 3 (p',s.2.1+t.2.1,c') ((a.zip va).flatMap oc++(b.zip vb).flatMap oc)::L)) h':=S7.perm (List.perm_middle)
  have S9:=St.open S8
  have S10:St ((((a.zip va).map fun x=>Im 1 x.2 (u8s x.1.val))++((b.zip vb).map fun x=>Im 1 x.2 (u8s x.1.val)))++Ow 3 (p',s.2.1+t.2.1,c') ((a.zip va).flatMap oc++(b.zip vb).flatMap oc)::L) h':=by
    refine S9.perm ?_
    rw [← List.append_assoc]
    exact List.perm_append_comm.append_right _
  exact (St.close S10).p1
theorem appOp {s v:SV}{a:List OpP}{x:OpP} (S:St (Im 1 v (u8s x.val)::OpsA s a::L) h) (hl:a.length+1≤1000000) (hK:∀ p l c h',St (OpsA (p,l,c) (a++[x])::L) h'→K (.slice p l c) h') :
    bd (al h (List.toArray (oc (x,v))) T.api_Op) fun h1=>SemH P (Builtin.append_ #[T.sl_api_Op,T.sl_api_Op] T.sl_api_Op #[.slice s.1 s.2.1 s.2.2,.slice (some (top h)) 1 1]) K h1:=by
  refine St.bd1 (cs:=oc (x,v)) S fun S1=>?_
  have S2:St (Ow 3 (some (top h),1,1) (oc (x,v))::Im 1 v (u8s x.val)::OpsA s a::L) _:=S1.bxOw (n:=1) (sz:=3) rfl
  have S3:St (OpsA (some (top h),1,1) [x]::OpsA s a::L) _:=OpsA.to1 S2.p1
  exact appOps (s:=s) (t:=(some (top h),1,1)) (b:=[x]) S3.p1 (by simpa using hl) hK
theorem litOp {v:SV}{x:OpP} (S:St (Im 1 v (u8s x.val)::L) h) {F:Heap→Prop} (hF:∀ h',St (OpsA (some (top h),1,1) [x]::L) h'→F h'):bd (al h (List.toArray (oc (x,v))) T.api_Op) F:=by
  refine St.bd1 (cs:=oc (x,v)) S fun S1=>?_
  have S2:St (Ow 3 (some (top h),1,1) (oc (x,v))::Im 1 v (u8s x.val)::L) _:=S1.bxOw (n:=1) (sz:=3) rfl
  exact hF _ (OpsA.to1 S2.p1)
theorem ret11 {t:Addr}{z cs:List Value} (S:St (Bx t z::L) h) (hz:z.length=11) (hc:cs.length=11) (ho:∀ w∈cs,Lift.one w=true) (hK:∀ h',St (Bx t cs::L) h'→K (.agg (List.toArray cs)) h') :
    cs.length=11∧∃ h6,stC h t 0 cs=some h6∧∃ cs7,rdC h6 t 0 11=some cs7∧K (.agg (List.toArray cs7)) h6 :=
  ⟨hc,S.wrA (by rw [hz,hc]) ho fun h2 S2=>⟨_,S2.mem.1.rd hc,hK h2 S2⟩⟩
theorem codeB {c:Int} (S:St L h) (hK:∀ h',St L h'→K (.agg (List.toArray (dcells (codeD c) snil snil snil))) h'):CallsH P F.qed [.int .i64 c] K h:=by
  refine qed.ok ?_
  unfold qed.p0
  refine (bdE _ _).2 ?_
  have S1:St (Bx (top h) (dcells did0 snil snil snil)::L) _:=S.al (dcells did0 snil snil snil) T.api_Did
  exact ret11 (cs:=dcells (codeD c) snil snil snil) S1 rfl rfl (dcells_one _ _ _ _) fun h2 S2=>hK h2 S2.tl
theorem didNil {d:DidM} (e1:d.ops=[]) (e2:d.qs=[]) (e3:d.msg.body=[]) (S:St L h) (hK:DidK K L d):K (.agg (List.toArray (dcells d snil snil snil))) h:=by
  refine hK snil snil snil h ?_
  rw [e1,e2,e3]
  exact OpsA.nil ((S.imNil 1 0).imNil 1 0)
theorem retCode {t:Addr}{z:List Value}{c:Int} (S:St (Bx t z::L) h) (hz:z.length=11) (hK:DidK K L (codeD c)) :
    CallsH P F.qed [.int .i64 c] (fun v3 h4=>∃ cs5,v3=.agg (List.toArray cs5)∧cs5.length=11∧∃ h6,stC h4 t 0 cs5=some h6∧∃ cs7,rdC h6 t 0 11=some cs7∧K (.agg (List.toArray cs7)) h6) h :=
  codeB S fun h2 S2=>⟨_,rfl,ret11 S2 hz rfl (dcells_one _ _ _ _) fun h3 S3=>didNil rfl rfl rfl S3.tl hK⟩
variable {b r:Addr}{mq mm:Nat}{ad:Oct→Addr}{bv:Int→SV}{m:BkM}
theorem lookQ {n:Oct}{Q:QR}{ok:Bool} (S:St L h) [Has (Mq Lift.encS vvQ mq) L (hQ ad Q) R] (hK:K (if ok then .tuple #[.agg (List.toArray (qO ad n (get? Q n))),.bool (get? Q n).isSome] else .agg (List.toArray (qO ad n (get? Q n)))) h) :
    SemH P (Instr.lookup T.map_string_brok_queue (.map (some mq)) (.string (mkS n)) ok) K h:=by
  refine St.lookup (kk:=Lift.encS) (k:=n) klS umQ zQ (S.get (Mq Lift.encS vvQ mq)) ?_
  rw [get?_mapk]
  have:=qO_val ad n (get? Q n)
  change Option.elim (Option.map (fun q:Bool × LRow=>(q.1,ad n)) (get? Q n)) _ vvQ=_ at this
  change K (if ok=true then Value.tuple #[Option.elim (Option.map (fun q:Bool × LRow=>(q.1,ad n)) (get? Q n)) _ vvQ,Value.bool (Option.map (fun q:Bool × LRow=>(q.1,ad n)) (get? Q n)).isSome] else Option.elim (Option.map (fun q:Bool × LRow=>(q.1,ad n)) (get? Q n)) _ vvQ) h
  rw [this,Option.isSome_map]
  exact hK
theorem lookM {i:Int}{M:List (Int × MsgE)}{ok:Bool} (S:St L h) [Has (Mq kkU vvM mm) L (hM bv M) R] (hK:K (if ok then .tuple #[.agg (List.toArray (mO bv i (get? M i))),.bool (get? M i).isSome] else .agg (List.toArray (mO bv i (get? M i)))) h) :
    SemH P (Instr.lookup T.map_uint64_brok_message (.map (some mm)) (.int .u64 i) ok) K h:=by
  refine St.lookup (kk:=kkU) (k:=i) klU umM zM (S.get (Mq kkU vvM mm)) ?_
  rw [get?_mapk]
  have:=mO_val bv i (get? M i)
  change Option.elim (Option.map (fun x:MsgE=>(x,bv i)) (get? M i)) _ vvM=_ at this
  change K (if ok=true then Value.tuple #[Option.elim (Option.map (fun x:MsgE=>(x,bv i)) (get? M i)) _ vvM,Value.bool (Option.map (fun x:MsgE=>(x,bv i)) (get? M i)).isSome] else Option.elim (Option.map (fun x:MsgE=>(x,bv i)) (get? M i)) _ vvM) h
  rw [this,Option.isSome_map]
  exact hK
theorem newB (S:St L h) (hK:∀ h' b,St (BkW b ⟨X0,[],[],[],1⟩::L) h'→K (.pointer (some b)) h'):CallsH P F.qee [] K h:=by
  refine qee.ok ?_
  unfold qee.p0
  refine newRt S fun h1 r S1=>⟨_,rfl,(bdE _ _).2 ((bdE _ _).2 ((bdE _ _).2 ?_))⟩
  have S2:=S1.mqNew Lift.encS vvQ
  have S3:=S2.mqNew kkU vvM
  have S4:=S3.al [.pointer (some r),.map (some h1.size),.map (some (h1.push (.map #[] 0)).size),.int .u64 1] T.brok_Broker
  have S5:St (LnsW (fun _=>r) []::_) _:=S4.emp'
  have S6:St (BdsW (fun _=>snil) []::_) _:=S5.emp'
  refine hK _ _ (BkW.inn (r:=r) (mq:=h1.size) (mm:=(h1.push (.map #[] 0)).size) (ad:=fun _=>r) (bv:=fun _=>snil) ?_)
  have S7:St (Bx (top ((h1.push (.map #[] 0)).push (.map #[] 0))) [.pointer (some r),.map (some h1.size),.map (some (h1.push (.map #[] 0)).size),.int .u64 1]::RtW r X0 []::Mq Lift.encS vvQ h1.size []::Mq kkU vvM (h1.push (.map #[] 0)).size []::LnsW (fun _=>r) []::BdsW (fun _=>snil) []::L) _:=S6.to
  exact S7
end
end Go.Proofs.YtofpbcakppjgcaaGreatDoor.Pr
end
section
set_option linter.unusedVariables false
set_option linter.unusedSimpArgs false
namespace Go.Proofs.YtofpbcakppjgcaaGreatDoor.Pr
open Go Go.Lift Go.Proofs
section
variable {K:KT}{L R:List Asr}{h:Heap}{b r:Addr}{mq mm:Nat}{ad:Oct→Addr}{bv:Int→SV}{m:BkM}{N:Nat}
theorem done_j2 {x x':MsgE}{ops:List OpP}{s:SV}{t2:Addr}{id:Int} (hx:get? m.M id=some x) (hb:x'.1.body=x.1.body) (S:St (OpsA s ops::Bx t2 (mecell x' (bv id))::BkA b r mq mm ad bv m L) h)
    (hK:∀ h',St (OpsA s ops::BkW b { m with M:=if x'.2.1=0 then del (upd m.M id x') id else upd m.M id x' }::L) h'→K (.slice s.1 s.2.1 s.2.2) h'):qbl.j2 K (some b) id t2 s.1 s.2.1 s.2.2 h:=by
  unfold qbl.j2
  refine ⟨b,rfl,_,S.rc b 2 rfl,_,S.rall t2 7 rfl,?_⟩
  refine St.update (kk:=kkU) (vv:=vvM) (k:=id) (v:=(x',bv id)) klU umM (S.get (Mq kkU vvM mm)) fun u h2 S2=>?_
  rw [show Lift.upd (hM bv m.M) id (x',bv id)=hM bv (Lift.upd m.M id x') from upd_mapk (fun (i:Int) (x:MsgE)=>(x,bv i)) m.M id x'] at S2
  have S3:St (Mq kkU vvM mm (hM bv (Lift.upd m.M id x'))::OpsA s ops::Bx t2 (mecell x' (bv id))::Bx b [.pointer (some r),.map (some mq),.map (some mm),.int .u64 m.next]::RtW r m.X m.B::Mq Lift.encS vvQ mq (hQ ad m.Q)::LnsW ad m.Q::BdsW bv (Lift.upd m.M id x')::L) h2:=by
    rw [BdsW.upd hx hb]; exact S2.to
  refine ⟨_,S3.rc t2 5 rfl,?_⟩
  by_cases h0:x'.2.1=0
  · rw [if_pos h0] at hK
    refine ifT (by simp [h0]) ⟨b,rfl,_,S3.rc b 2 rfl,St.delete (kk:=kkU) (vv:=vvM) (k:=id) klU umM S3 fun h3 S4=>hK h3 ?_⟩
    rw [del_mapk] at S4
    have S5:St (BdsW bv (Lift.upd m.M id x')::Mq kkU vvM mm (hM bv (del (Lift.upd m.M id x') id))::OpsA s ops::Bx b [.pointer (some r),.map (some mq),.map (some mm),.int .u64 m.next]::RtW r m.X m.B::Mq Lift.encS vvQ mq (hQ ad m.Q)::LnsW ad m.Q::L) h3:=S4.to
    have S6:=BdsW.del id S5
    exact St.p1 (BkW.inn (b:=b) (m:={ m with M:=del (Lift.upd m.M id x') id }) (L:=OpsA s ops::L) (show St (BkA b r mq mm ad bv { m with M:=del (Lift.upd m.M id x') id } (OpsA s ops::L)) h3 from S6.to))
  · rw [if_neg h0] at hK
    refine ifF (by simp [h0]) (hK h2 ?_)
    exact St.p1 (BkW.inn (b:=b) (m:={ m with M:=Lift.upd m.M id x' }) (L:=OpsA s ops::L) (show St (BkA b r mq mm ad bv { m with M:=Lift.upd m.M id x' } (OpsA s ops::L)) h2 from S3.to))
theorem doneB {n:Oct}{id:Int} (ok:BkOk N m) (hN:N≤100000) (S:St (BkW b m::L) h) (hK:∀ s h',St (OpsA s (doneP m n id).2::BkW b (doneP m n id).1::L) h'→K (.slice s.1 s.2.1 s.2.2) h') :
    CallsH P F.qbl [.pointer (some b),.string (mkS n),.int .u64 id] K h:=by
  obtain ⟨r,mq,mm,ad,bv,S0⟩:=BkW.out S
  refine qbl.ok ?_
  unfold qbl.p0
  refine ⟨b,rfl,_,S0.rc b 1 rfl,lookQ (n:=n) (Q:=m.Q) (ad:=ad) (mq:=mq) (ok:=false) S0 ?_⟩
  simp only [Bool.false_eq_true,if_false]
  refine ⟨_,rfl,St.bd1 (cs:=[.bool false,.pointer none]) S0 fun S1=>⟨qO_len _ _ _,S1.wrA (by rw [qO_len]; rfl) (qO_one _ _ _) fun h2 S2=>?_⟩⟩
  generalize top h=t at *
  unfold doneP at hK
  cases hq:get? m.Q n with
  | none =>
    rw [hq] at hK S2
    refine ⟨none,S2.c 1 rfl,ifT' rfl ?_⟩
    unfold qbl.j1
    exact ifT rfl (hK snil h2 (OpsA.nil (BkW.inn S2.tl)))
  | some q =>
    rw [hq] at hK S2
    have S2:St (Bx t [.bool q.1,.pointer (some (ad n))]::BkA b r mq mm ad bv m L) h2:=S2
    simp only at hK
    refine ⟨some (ad n),S2.c 1 rfl,ifF' rfl ⟨some (ad n),S2.c 1 rfl,?_⟩⟩
    have S3:=LnsW.take hq (S2.get (LnsW ad))
    refine dropLineW S3 fun h3 S4=>⟨_,rfl,?_⟩
    unfold qbl.j1
    cases he:get? q.2 id with
    | none =>
      rw [he] at hK
      rw [del_none (get?_none.1 he)] at S4
      have S5:=LnsW.back hq S4
      exact ifT rfl (hK snil h3 (OpsA.nil (BkW.inn (r:=r) (mq:=mq) (mm:=mm) (ad:=ad) (bv:=bv) (S5.to))))
    | some e =>
      obtain ⟨x,hx⟩:=Option.isSome_iff_exists.1 (ok.ids n q id hq (by rw [he]; rfl))
      have cx:=ok.cnt id x hx
      have lx:=lastsN_le m.Q id
      have sx:=standsN_le m.Q id
      have qx:=ok.sz.2.2.1
      rw [he,hx] at hK
      simp only at hK
      have S5:=LnsW.put q.1 (del q.2 id) hq S4
      have eQ:hQ ad (Lift.upd m.Q n (q.1,del q.2 id))=hQ ad m.Q:=mapk_upd_same hq rfl
      have S6:St (Bx t [.bool q.1,.pointer (some (ad n))]::BkA b r mq mm ad bv { m with Q:=Lift.upd m.Q n (q.1,del q.2 id) } L) h3:=by
        show St (Bx t _::Bx b [.pointer (some r),.map (some mq),.map (some mm),.int .u64 m.next]::RtW r m.X m.B::Mq Lift.encS vvQ mq (hQ ad (Lift.upd m.Q n (q.1,del q.2 id)))::Mq kkU vvM mm (hM bv m.M)::LnsW ad (Lift.upd m.Q n (q.1,del q.2 id))::BdsW bv m.M::L) h3
        rw [eQ]; exact S5.to
      generalize hm2:({ m with Q:=Lift.upd m.Q n (q.1,del q.2 id) }:BkM)=m2 at *
      have eM:m2.M=m.M:=by rw [← hm2]
      refine ifF rfl ⟨b,rfl,_,S6.rc b 2 rfl,lookM (i:=id) (M:=m2.M) (bv:=bv) (mm:=mm) (ok:=false) S6 ?_⟩
      simp only [Bool.false_eq_true,if_false]
      have hx2:get? m2.M id=some x:=by rw [eM]; exact hx
      rw [hx2]
      refine ⟨_,rfl,St.bd1 (cs:=mecell (msg0,0,0) snil) S6 fun S7=>⟨rfl,S7.wrA (ws:=mecell x (bv id)) rfl (by simp [Lift.one]) fun h4 S8=>?_⟩⟩
      generalize top h3=t2 at *
      refine ⟨_,S8.c 5 rfl,S8.wr 5 (v:=.int .i64 (IntKind.i64.wrap (x.2.1 - 1))) (by simp) rfl fun h5 S9=>?_⟩
      simp only [List.set_cons_succ,List.set_cons_zero] at S9
      have w1:IntKind.i64.wrap (x.2.1 - 1)=x.2.1 - 1:=by rw [IntKind.wrap_i64]; omega
      rw [w1] at S9
      refine ⟨_,S9.cc 0 3 rfl,?_⟩
      have fin:∀ {lst:Bool}{x':MsgE}{ops:List OpP}{s:SV}{h':Heap},lst=(decide (x.1.mode=2) && q.1)→x'=(x.1,x.2.1 - 1,if lst then x.2.2 - 1 else x.2.2)→ops=(if lst then delO (kEntry n id)::(if x'.2.2=0 then [delO (kMsg id)] else []) else []) →
          St (OpsA s ops::Bx t2 (mecell x' (bv id))::BkA b r mq mm ad bv m2 L) h'→qbl.j2 K (some b) id t2 s.1 s.2.1 s.2.2 h':=by
        intro lst x' ops s h' e1 e2 e3 S'
        refine done_j2 (m:=m2) (x:=x) hx2 (by rw [e2]) S' fun h6 S10=>hK s h6 ?_
        subst e1
        subst e2
        subst e3
        subst hm2
        exact S10
      have fls:(decide (x.1.mode=2) && q.1)=false→St (Bx t2 (mecell (x.1,x.2.1 - 1,x.2.2) (bv id))::BkA b r mq mm ad bv m2 L) h5→qbl.j3 K (some b) n id t2 none 0 0 false h5:=by
        intro e S'
        unfold qbl.j3
        exact ifF rfl (fin (s:=snil) (lst:=false) (x':=(x.1,x.2.1 - 1,x.2.2)) e.symm rfl rfl (OpsA.nil S'))
      have S9':St (Bx t2 (mecell (x.1,x.2.1 - 1,x.2.2) (bv id))::Bx t [.bool q.1,.pointer (some (ad n))]::BkA b r mq mm ad bv m2 L) h5:=S9
      by_cases hm:x.1.mode=2
      case neg=>exact ifF (by simp [hm]) (fls (by simp [hm]) S9'.d1)
      refine ifT (by simp [hm]) ⟨_,S9'.rc t 0 rfl,?_⟩
      cases hq1:q.1 with
      | false=>exact fls (by simp [hq1]) S9'.d1
      | true =>
        have hl0:lastsN m.Q id > 0:=by
          unfold lastsN
          exact List.length_pos_iff.2 fun e2=>by
            have:(n,q)∈m.Q.filter fun q=>q.2.1 && (get? q.2.2 id).isSome:=List.mem_filter.2 ⟨get?_mem hq,by simp [hq1,he]⟩
            rw [e2] at this; cases this
        have c3:=cx.2.2.1
        rw [if_pos hm] at c3
        unfold qbl.j3
        refine ifT rfl ⟨_,S9'.c 6 rfl,S9'.wr 6 (v:=.int .i64 (IntKind.i64.wrap (x.2.2 - 1))) (by simp) rfl fun h6 S10=>?_⟩
        simp only [List.set_cons_succ,List.set_cons_zero] at S10
        have w2:IntKind.i64.wrap (x.2.2 - 1)=x.2.2 - 1:=by rw [IntKind.wrap_i64]; omega
        rw [w2] at S10
        have S11:St (Bx t2 (mecell (x.1,x.2.1 - 1,x.2.2 - 1) (bv id))::BkA b r mq mm ad bv m2 L) h6:=S10.d1
        refine delB (k:=kEntry n id) S11 (by have:=cx.2.2.2.2.1; simp only; omega) fun h7 S12=>⟨_,rfl,_,bld_op _,?_⟩
        refine appOp (s:=snil) (v:=snil) (a:=[]) (x:=delO (kEntry n id)) ((OpsA.nil S12).imNil 1 0) (by simp) fun p l c h8 S13=>⟨_,_,_,rfl,_,S13.p1.c 6 rfl,?_⟩
        have elst:(true=(decide (x.1.mode=2) && q.1)):=by rw [hq1,decide_eq_true hm]; rfl
        by_cases h0:x.2.2 - 1=0
        · refine ifT (by simp [h0]) (delB (k:=kMsg id) S13 (by have:=cx.2.2.2.2.1; simp only; omega) fun h9 S14=>⟨_,rfl,_,bld_op _,?_⟩)
          refine appOp (s:=(p,l,c)) (v:=snil) (a:=[]++[delO (kEntry n id)]) (x:=delO (kMsg id)) (S14.imNil 1 0) (by simp) fun p2 l2 c2 h10 S15=>⟨_,_,_,rfl,?_⟩
          exact fin (s:=(p2,l2,c2)) (lst:=true) (x':=(x.1,x.2.1 - 1,x.2.2 - 1)) (ops:=[]++[delO (kEntry n id)]++[delO (kMsg id)]) elst rfl (by simp [h0]) S15
        · refine ifF (by simp [h0]) ?_
          exact fin (s:=(p,l,c)) (lst:=true) (x':=(x.1,x.2.1 - 1,x.2.2 - 1)) (ops:=[]++[delO (kEntry n id)]) elst rfl (by simp [h0]) S13
end
end Go.Proofs.YtofpbcakppjgcaaGreatDoor.Pr
end
section
set_option linter.unusedVariables false
set_option linter.unusedSimpArgs false
namespace Go.Proofs.YtofpbcakppjgcaaGreatDoor.Pr
open Go Go.Lift Go.Proofs
section
variable {K:KT}{L R:List Asr}{h:Heap}{b r:Addr}{mq mm:Nat}{ad:Oct→Addr}{bv:Int→SV}{m:BkM}{N:Nat}
theorem lookQt {n:Oct}{Q:QR} (S:St L h) [Has (Mq Lift.encS vvQ mq) L (hQ ad Q) R] (hK:K (.tuple #[.agg (List.toArray (qO ad n (get? Q n))),.bool (get? Q n).isSome]) h) :
    SemH P (Instr.lookup T.map_string_brok_queue (.map (some mq)) (.string (mkS n)) true) K h:=lookQ (ad:=ad) (Q:=Q) (ok:=true) S hK
theorem lookQf {n:Oct}{Q:QR} (S:St L h) [Has (Mq Lift.encS vvQ mq) L (hQ ad Q) R] (hK:K (.agg (List.toArray (qO ad n (get? Q n)))) h) :
    SemH P (Instr.lookup T.map_string_brok_queue (.map (some mq)) (.string (mkS n)) false) K h:=lookQ (ad:=ad) (Q:=Q) (ok:=false) S hK
theorem lookMf {i:Int}{M:List (Int × MsgE)} (S:St L h) [Has (Mq kkU vvM mm) L (hM bv M) R] (hK:K (.agg (List.toArray (mO bv i (get? M i)))) h) :
    SemH P (Instr.lookup T.map_uint64_brok_message (.map (some mm)) (.int .u64 i) false) K h:=lookM (bv:=bv) (M:=M) (ok:=false) S hK
theorem bdQ {t:TypeId} (S:St L h) (cs:List Value) {F:Heap→Prop} (hK:St (Bx (top h) cs::L) (Lift.al h (List.toArray cs) t)→F (Lift.al h (List.toArray cs) t)):bd (Lift.al h (List.toArray cs) t) F:=hK (S.al cs t)
theorem wrQ {t:Addr}{n:Oct}{o:Option (Bool × LRow)} (S:St (Bx t [.bool false,.pointer none]::L) h) {F:Heap→Prop} (hF:∀ h',St (Bx t (qO ad n o)::L) h'→F h'):∃ h',stC h t 0 (qO ad n o)=some h'∧F h':=S.wrA (by rw [qO_len]; rfl) (qO_one _ _ _) hF
theorem lineAsk {n:Oct}{q:Bool × LRow} (hq:get? m.Q n=some q) (S:St (BkA b r mq mm ad bv m L) h) {F:Heap→Prop} (hF:∀ {L':List Asr},St (LnW (ad n) q.2::L') h→(∀ {A:List Asr}{h':Heap},St (A++LnW (ad n) q.2::L') h'→St (A++BkA b r mq mm ad bv m L) h')→F h):F h:=by
  have S1:=LnsW.take hq (S.get (LnsW ad))
  refine hF S1 fun {A h'} S2=>?_
  have S3:St (LnW (ad n) q.2::LnsW ad (del m.Q n)::(A++Bx b [.pointer (some r),.map (some mq),.map (some mm),.int .u64 m.next]::RtW r m.X m.B::Mq Lift.encS vvQ mq (hQ ad m.Q)::Mq kkU vvM mm (hM bv m.M)::BdsW bv m.M::L)) h':=by
    refine S2.perm ?_
    refine List.perm_middle.trans (List.Perm.cons _ ?_)
    exact List.perm_middle
  have S4:=LnsW.back hq S3
  refine S4.perm ?_
  refine List.perm_middle.symm.trans ?_
  refine List.Perm.append_left A ?_
  exact (List.perm_middle (l₁:=[Bx b [.pointer (some r),.map (some mq),.map (some mm),.int .u64 m.next],RtW r m.X m.B,Mq Lift.encS vvQ mq (hQ ad m.Q),Mq kkU vvM mm (hM bv m.M)])).symm
theorem readyB {n:Oct} (ok:BkOk N m) (hN:N≤100000) (S:St (BkW b m::L) h) (hK:∀ o h',St (Ow 2 o ((((get? m.Q n).map fun q=>readyL q.2).getD []).flatMap ecell)::BkW b m::L) h'→K (.slice o.1 o.2.1 o.2.2) h') :
    CallsH P F.qde [.pointer (some b),.string (mkS n)] K h:=by
  obtain ⟨r,mq,mm,ad,bv,S0⟩:=BkW.out S
  refine qde.ok ?_
  unfold qde.p0
  refine ⟨b,rfl,_,S0.rc b 1 rfl,lookQt (n:=n) (Q:=m.Q) (ad:=ad) (mq:=mq) S0 ⟨_,_,rfl,St.bd1 (cs:=[.bool false,.pointer none]) S0 fun S1=>⟨qO_len _ _ _,S1.wrA (by rw [qO_len]; rfl) (qO_one _ _ _) fun h2 S2=>?_⟩⟩⟩
  cases hq:get? m.Q n with
  | none =>
    rw [hq] at hK S2
    exact ifF rfl (hK snil h2 (St.owNil 2 (BkW.inn S2.tl)))
  | some q =>
    rw [hq] at hK S2
    refine ifT rfl ⟨some (ad n),S2.c 1 rfl,?_⟩
    refine lineAsk (F:=fun h=>CallsH P F.qce [.pointer (some (ad n))] _ h) hq S2.tl fun S3 back=>readyLineW S3 (by have:=ok.rl n q hq; omega) fun h3 o S4=>⟨_,_,_,rfl,hK o h3 ?_⟩
    exact (BkW.inn (b:=b) (m:=m) (L:=Ow 2 o ((readyL q.2).flatMap ecell)::L) (show St (BkA b r mq mm ad bv m (Ow 2 o ((readyL q.2).flatMap ecell)::L)) h3 from (show St (Ow 2 o ((readyL q.2).flatMap ecell)::BkA b r mq mm ad bv m L) h3 from back (A:=[Ow 2 o ((readyL q.2).flatMap ecell)]) S4).to)).p1
theorem heldB {n:Oct} (ok:BkOk N m) (hN:N≤100000) (S:St (BkW b m::L) h) (hK:∀ o h',St (Ow 1 o ((((get? m.Q n).map fun q=>heldL q.2).getD []).map kkU)::BkW b m::L) h'→K (.slice o.1 o.2.1 o.2.2) h') :
    CallsH P F.qdh [.pointer (some b),.string (mkS n)] K h:=by
  obtain ⟨r,mq,mm,ad,bv,S0⟩:=BkW.out S
  refine qdh.ok ?_
  unfold qdh.p0
  refine ⟨b,rfl,_,S0.rc b 1 rfl,lookQt (n:=n) (Q:=m.Q) (ad:=ad) (mq:=mq) S0 ⟨_,_,rfl,St.bd1 (cs:=[.bool false,.pointer none]) S0 fun S1=>⟨qO_len _ _ _,S1.wrA (by rw [qO_len]; rfl) (qO_one _ _ _) fun h2 S2=>?_⟩⟩⟩
  cases hq:get? m.Q n with
  | none =>
    rw [hq] at hK S2
    exact ifF rfl (hK snil h2 (St.owNil 1 (BkW.inn S2.tl)))
  | some q =>
    rw [hq] at hK S2
    refine ifT rfl ⟨some (ad n),S2.c 1 rfl,?_⟩
    refine lineAsk (F:=fun h=>CallsH P F.qdr [.pointer (some (ad n))] _ h) hq S2.tl fun S3 back=>heldLineW S3 (by have:=ok.rl n q hq; omega) fun h3 o S4=>⟨_,_,_,rfl,hK o h3 ?_⟩
    exact (BkW.inn (b:=b) (m:=m) (L:=Ow 1 o ((heldL q.2).map kkU)::L) (show St (BkA b r mq mm ad bv m (Ow 1 o ((heldL q.2).map kkU)::L)) h3 from (show St (Ow 1 o ((heldL q.2).map kkU)::BkA b r mq mm ad bv m L) h3 from back (A:=[Ow 1 o ((heldL q.2).map kkU)]) S4).to)).p1
theorem eh0 (h:Heap):al h #[.int .i64 0,.int .i64 0,.slice none 0 0,.slice none 0 0,.string (mkS []),.string (mkS []),.string (mkS []),.int .i64 0,.slice none 0 0,.int .u64 0,.bool false] T.api_Did=al h (List.toArray (dcells did0 snil snil snil)) T.api_Did:=rfl
theorem namedB {s:Oct} (hK:K (.bool (namedP' s)) h):CallsH P F.qdw [.string (mkS s)] K h:=by
  refine qdw.ok ?_
  unfold qdw.p0
  unfold namedP' at hK
  simp only [bd]
  by_cases hs:s=[]
  · subst hs
    exact ifF rfl hK
  · refine ifT (by simpa using hs) ?_
    have:decide (((List.length s:Nat):Int)≤30)=decide (s≠[]∧s.length≤30):=by
      rw [decide_eq_decide]
      exact ⟨fun e=>⟨hs,by omega⟩,fun e=>by have:=e.2; omega⟩
    rw [this]
    exact hK
theorem ownB {s:Oct} (hK:K (.bool (ownP s)) h):CallsH P F.qei [.string (mkS s)] K h:=by
  refine qei.ok ?_
  unfold qei.p0
  exact prefixS ⟨_,rfl,hK⟩
theorem declQ_j3 {d:DeedM}{mb hs:SV}{t4 da:Addr}{z:List Value} (hz:z.length=11) (S:St (Bx t4 z::Bx da (ddcells d mb hs)::L) h) (hK:DidK K L (if d.lasts then { did0 with ops:=[putO (kQueue d.name) []] } else did0)):qat.j3 K da t4 h:=by
  unfold qat.j3
  refine ⟨_,S.rc da 7 rfl,?_⟩
  cases hl:d.lasts with
  | false =>
    rw [hl] at hK
    exact ifT rfl (ret11 (cs:=dcells did0 snil snil snil) S hz rfl (dcells_one _ _ _ _) fun h2 S2=>didNil rfl rfl rfl S2.tl.tl hK)
  | true =>
    rw [hl] at hK
    refine ifF rfl ⟨_,S.rc da 1 rfl,putB (k:=kQueue d.name) (v:=snil) (val:=[]) S (Int.le_refl 0) fun h2 S2=>⟨_,rfl,_,bld_op _,?_⟩⟩
    refine litOp (v:=snil) (x:=putO (kQueue d.name) []) (S2.imNil 1 0) fun h3 S3=>?_
    refine ret11 (cs:=dcells { did0 with ops:=[putO (kQueue d.name) []] } (some (top h2),1,1) snil snil) S3.p1 hz rfl (dcells_one _ _ _ _) fun h4 S4=>?_
    exact hK (some (top h2),1,1) snil snil h4 (show St (OpsA (some (top h2),1,1) [putO (kQueue d.name) []]::Im 1 snil []::Im 1 snil []::L) h4 from ((S4.tl.imNil 1 0).imNil 1 0).to)
theorem declQB {d:DeedM}{mb hs:SV} (ok:BkOk N m) (hN:N≤100000) (S:St (BkW b m::L) h) (hK:DidK K (BkW b (declQP m d).1::L) (declQP m d).2) :
    CallsH P F.qat [.pointer (some b),.agg (List.toArray (ddcells d mb hs))] K h:=by
  obtain ⟨r,mq,mm,ad,bv,S0⟩:=BkW.out S
  refine qat.ok ?_
  unfold qat.p0
  refine (bdE _ _).2 ((bdE _ _).2 ⟨b,rfl,?_⟩)
  have S1:=S0.al (ddcells d mb hs) T.api_Deed
  generalize al h (List.toArray (ddcells d mb hs)) T.api_Deed=h1 at *
  have S2:=S1.al (dcells did0 snil snil snil) T.api_Did
  rw [eh0]
  generalize al h1 (List.toArray (dcells did0 snil snil snil)) T.api_Did=h2 at *
  generalize top h=da at *
  generalize top h1=t4 at *
  have fin:∀ {t5:Addr}{h':Heap},St (Bx t5 (qO ad d.name (get? m.Q d.name))::Bx t4 (dcells did0 snil snil snil)::Bx da (ddcells d mb hs)::BkA b r mq mm ad bv m L) h'→qat.j1 K (some b) da t4 t5 (get? m.Q d.name).isSome h':=by
    intro t5 h' S'
    unfold declQP at hK
    have code:∀ {c:Int}{h':Heap},DidK K (BkW b m::L) (codeD c)→St (Bx t4 (dcells did0 snil snil snil)::Bx da (ddcells d mb hs)::BkA b r mq mm ad bv m L) h' →
        CallsH P F.qed [.int .i64 c] (fun v3 h4=>∃ cs5,v3=.agg (List.toArray cs5)∧cs5.length=11∧∃ h6,stC h4 t4 0 cs5=some h6∧∃ cs7,rdC h6 t4 0 11=some cs7∧K (.agg (List.toArray cs7)) h6) h':=by
      intro c h' hk S'
      exact retCode (L:=BkW b m::L) (St.p1 (BkW.inn (L:=Bx t4 (dcells did0 snil snil snil)::L) (show St (BkA b r mq mm ad bv m (Bx t4 (dcells did0 snil snil snil)::L)) h' from S'.to))) rfl hk
    unfold qat.j1
    cases hq:get? m.Q d.name with
    | some q =>
      rw [hq] at hK S'
      have S':St (Bx t5 [.bool q.1,.pointer (some (ad d.name))]::Bx t4 (dcells did0 snil snil snil)::Bx da (ddcells d mb hs)::BkA b r mq mm ad bv m L) h':=S'
      simp only at hK
      have j2:∀ c,c=decide (d.passive=false∧q.1≠d.lasts)→qat.j2 K (some b) da t4 t5 true c h':=by
        intro c hc
        unfold qat.j2
        by_cases e:d.passive=false∧q.1≠d.lasts
        · rw [if_pos e] at hK
          exact ifT (by rw [hc,decide_eq_true e]) (code hK S'.tl)
        · rw [if_neg e] at hK
          refine ifF (by rw [hc,decide_eq_false e]) (ifT rfl ⟨some (ad d.name),S'.c 1 rfl,?_⟩)
          refine lineAsk (F:=fun h=>CallsH P F.qce [.pointer (some (ad d.name))] _ h) (L:=Bx t4 (dcells did0 snil snil snil)::L) hq (show St (BkA b r mq mm ad bv m (Bx t4 (dcells did0 snil snil snil)::L)) h' from S'.to) fun S3 back=>readyLineW S3 (by have:=ok.rl _ q hq; omega) fun h3 o S4=>⟨_,_,_,rfl,?_⟩
          have lo:o.2.1=(readyL q.2).length:=by have:=S4.ow.1; rw [flat_length (n:=2) (fun _=>rfl)] at this; omega
          have S5:=St.p1 (BkW.inn (b:=b) (L:=Bx t4 (dcells did0 snil snil snil)::L) (back (A:=[]) S4.tl))
          refine ret11 (cs:=dcells { did0 with n:=(o.2.1:Nat) } snil snil snil) S5 rfl rfl (dcells_one _ _ _ _) fun h4 S6=>?_
          rw [lo]
          exact didNil (d:={ did0 with n:=((readyL q.2).length:Nat) }) rfl rfl rfl S6.tl hK
      refine ifT rfl ⟨_,S'.rc da 8 rfl,?_⟩
      cases hp:d.passive with
      | true=>exact ifF rfl (j2 false (by simp [hp]))
      | false =>
        refine ifT rfl ⟨_,S'.c 0 rfl,_,S'.rc da 7 rfl,(bdE _ _).2 (j2 _ ?_)⟩
        rw [hp]
        cases q.1 <;> cases d.lasts <;> rfl
    | none =>
      rw [hq] at hK S'
      simp only at hK
      refine ifF rfl ?_
      unfold qat.j2
      refine ifF rfl (ifF rfl ⟨_,S'.rc da 8 rfl,?_⟩)
      cases hp:d.passive with
      | true =>
        rw [hp] at hK
        exact ifT rfl (code hK S'.tl)
      | false =>
        rw [hp] at hK
        simp only [Bool.false_eq_true,if_false] at hK
        refine ifF rfl ⟨_,S'.rc da 1 rfl,?_⟩
        refine namedB ⟨_,rfl,(bdE _ _).2 ?_⟩
        by_cases hn:namedP' d.name=false
        · rw [if_pos hn] at hK
          rw [hn]
          exact ifT rfl (code hK S'.tl)
        · rw [if_neg hn] at hK
          have hn':namedP' d.name=true:=by simpa using hn
          rw [hn']
          refine ifF rfl ⟨_,S'.rc da 1 rfl,ownB ⟨_,rfl,?_⟩⟩
          by_cases ho:ownP d.name=true
          · rw [if_pos ho] at hK
            rw [ho]
            exact ifT rfl (code hK S'.tl)
          · rw [if_neg ho] at hK
            have ho':ownP d.name=false:=by simpa using ho
            rw [ho']
            refine ifF rfl ⟨b,rfl,?_⟩
            have go:∀ {a:Addr}{h':Heap},St (LnW a []::Bx t4 (dcells did0 snil snil snil)::Bx da (ddcells d mb hs)::BkA b r mq mm ad bv m L) h'→SemH P (unit (Instr.mapUpdate T.map_string_brok_queue (.map (some mq)) (.string (mkS d.name)) (.agg #[.bool d.lasts,.pointer (some a)]))) (fun v h'=>qat.j3 K da t4 h') h':=by
              intro a h' S3
              refine St.update (kk:=Lift.encS) (vv:=vvQ) (k:=d.name) (v:=(d.lasts,a)) klS umQ (S3.get (Mq Lift.encS vvQ mq)) fun u h4 S4=>?_
              have eQ:Lift.upd (hQ ad m.Q) d.name (d.lasts,a)=hQ (fun k=>if k=d.name then a else ad k) (Lift.upd m.Q d.name (d.lasts,([]:LRow))):=by
                have e1:hQ ad m.Q=hQ (fun k=>if k=d.name then a else ad k) m.Q:=List.map_congr_left fun x hx=>by
                  have:x.1≠d.name:=fun e=>get?_none.1 hq (e ▸ List.mem_map.2 ⟨x,hx,rfl⟩)
                  simp only [if_neg this]
                rw [e1]
                have:=upd_mapk (fun n (q:Bool × LRow)=>(q.1,(fun k=>if k=d.name then a else ad k) n)) m.Q d.name (d.lasts,([]:LRow))
                simpa using this
              rw [eQ] at S4
              have S5:St (LnW a []::LnsW ad m.Q::Mq Lift.encS vvQ mq (hQ (fun k=>if k=d.name then a else ad k) (Lift.upd m.Q d.name (d.lasts,([]:LRow))))::Bx t4 (dcells did0 snil snil snil)::Bx da (ddcells d mb hs)::Bx b [.pointer (some r),.map (some mq),.map (some mm),.int .u64 m.next]::RtW r m.X m.B::Mq kkU vvM mm (hM bv m.M)::BdsW bv m.M::L) h4:=S4.to
              have S6:=LnsW.new d.lasts hq S5
              have S7:=BkW.inn (b:=b) (m:={ m with Q:=Lift.upd m.Q d.name (d.lasts,([]:LRow)) }) (L:=Bx t4 (dcells did0 snil snil snil)::Bx da (ddcells d mb hs)::L) (show St (BkA b r mq mm (fun k=>if k=d.name then a else ad k) bv { m with Q:=Lift.upd m.Q d.name (d.lasts,([]:LRow)) } (Bx t4 (dcells did0 snil snil snil)::Bx da (ddcells d mb hs)::L)) h4 from S6.to)
              exact declQ_j3 (z:=dcells did0 snil snil snil) (mb:=mb) (hs:=hs) (L:=BkW b { m with Q:=Lift.upd m.Q d.name (d.lasts,([]:LRow)) }::L) rfl S7.to hK
            have S'':=S'.tl
            repeat' first
              | with_reducible refine And.intro ?_ ?_
              | with_reducible refine ⟨_,S''.rc b 1 rfl,?_⟩
              | with_reducible refine ⟨_,S''.rc da 1 rfl,?_⟩
              | with_reducible refine ⟨_,S''.rc da 7 rfl,?_⟩
              | with_reducible refine newLineW S'' fun _ _ S''=>⟨_,rfl,?_⟩
              | with_reducible exact go S''
  repeat' first
    | with_reducible refine And.intro (qO_len _ _ _) ?_
    | with_reducible refine And.intro ?_ ?_
    | with_reducible refine ⟨_,S2.rc b 1 rfl,?_⟩
    | with_reducible refine ⟨_,S2.rc da 1 rfl,?_⟩
    | with_reducible refine bdQ S2 [.bool false,.pointer none] fun S2=>?_
    | with_reducible refine lookQt (n:=d.name) (Q:=m.Q) (ad:=ad) (mq:=mq) S2 ⟨_,_,rfl,?_⟩
    | with_reducible refine wrQ S2 fun _ S2=>fin S2
end
end Go.Proofs.YtofpbcakppjgcaaGreatDoor.Pr
end
section
set_option linter.unusedVariables false
set_option linter.unusedSimpArgs false
namespace Go.Proofs.YtofpbcakppjgcaaGreatDoor.Pr
open Go Go.Lift Go.Proofs
theorem doneP_ops (m:BkM) (n:Oct) (id:Int):(doneP m n id).2.length≤2:=by
  unfold doneP
  cases get? m.Q n with
  | none=>simp
  | some q =>
    simp only
    cases get? q.2 id with
    | none=>simp
    | some e =>
      cases get? m.M id with
      | none=>simp
      | some x =>
        simp only
        repeat' split
        all_goals simp
section
variable {K:KT}{L R:List Asr}{h:Heap}{b r:Addr}{mq mm:Nat}{ad:Oct→Addr}{bv:Int→SV}{m:BkM}{N:Nat}
theorem ecell2:∀ x:Int × Bool,(ecell x).length=2:=fun _=>rfl
theorem ecell_one (x:Int × Bool):∀ w∈ecell x,Lift.one w=true:=by simp [Lift.one]
theorem purge_loop {d:DeedM}{mb hs o:SV}{t4 out da:Addr}{D:DidM}{es:List (Int × Bool)}{res:BkM × List OpP} (hN:N≤100000) (hes:es.length≤100000) (hD:D.qs=[]∧D.msg.body=[]) (hK:DidK K (BkW b res.1::L) { D with ops:=res.2 }) :
    ∀ (fuel i:Nat) (z:BkM × List OpP) (so:SV) (h:Heap),es.length - i<fuel→i≤es.length→BkOk N z.1→donesP d.name ((es.drop i).map Prod.fst) z=res→z.2.length≤2 * i →
      St (Bx out (dcells D so snil snil)::OpsA so z.2::Ow 2 o (es.flatMap ecell)::Bx t4 (dcells did0 snil snil snil)::Bx da (ddcells d mb hs)::BkW b z.1::L) h →
      qbb.L3 K fuel (some b) da t4 out o.1 o.2.1 o.2.2 ((o.2.1:Nat):Int) (i:Int) h
  | 0,_,_,_,_,hf,_,_,_,_,_=>absurd hf (Nat.not_lt_zero _)
  | fuel+1,i,z,so,h,hf,hi,ok,hz,ho,S=>by
    have lo:o.2.1=es.length:=by have:=(S.ows 2 o).1; rw [flat_length ecell2] at this; omega
    unfold qbb.L3
    by_cases hlt:i<es.length
    · have hx:es[i]? = some es[i]:=List.getElem?_eq_getElem hlt
      refine ifT (by simp; omega) (ixS ecell2 (by decide) (S.osl 2 o) rfl hx ?_)
      refine St.bd1 (cs:=[.int .u64 0,.bool false]) S fun S1=>⟨rfl,S1.wrA (ws:=ecell es[i]) rfl (ecell_one _) fun h2 S2=>⟨_,S2.rc da 1 rfl,_,S2.c 0 rfl,?_⟩⟩
      generalize top h=t at *
      have ed:es.drop i=es[i]::es.drop (i+1):=List.drop_eq_getElem_cons hlt
      rw [ed,List.map_cons] at hz
      have hz2:donesP d.name ((es.drop (i+1)).map Prod.fst) ((doneP z.1 d.name es[i].1).1,z.2++(doneP z.1 d.name es[i].1).2)=res:=hz
      have l2:=doneP_ops z.1 d.name es[i].1
      have next:∀ {p:OA}{l c:Nat}{h':Heap},St (Bx out (dcells D (p,l,c) snil snil)::OpsA (p,l,c) (z.2++(doneP z.1 d.name es[i].1).2)::Ow 2 o (es.flatMap ecell)::Bx t4 (dcells did0 snil snil snil)::Bx da (ddcells d mb hs)::BkW b (doneP z.1 d.name es[i].1).1::L) h' →
          qbb.j4 K (qbb.L3 K fuel) (some b) da t4 out o.1 o.2.1 o.2.2 ((o.2.1:Nat):Int) (i:Int) h':=by
        intro p l c h' S'
        unfold qbb.j4
        rw [show IntKind.i64.wrap ((i:Int)+1)=((i+1:Nat):Int) by rw [IntKind.wrap_i64]; omega]
        exact purge_loop (d:=d) (mb:=mb) (hs:=hs) hN hes hD hK fuel (i+1) ((doneP z.1 d.name es[i].1).1,z.2++(doneP z.1 d.name es[i].1).2) (p,l,c) h' (by omega) (by omega) (doneP_ok ok _ _) hz2 (by simp; omega) S'
      have app:∀ {s:SV}{h':Heap},St (OpsA s (doneP z.1 d.name es[i].1).2::BkW b (doneP z.1 d.name es[i].1).1::Bx t (ecell es[i])::Bx out (dcells D so snil snil)::OpsA so z.2::Ow 2 o (es.flatMap ecell)::Bx t4 (dcells did0 snil snil snil)::Bx da (ddcells d mb hs)::L) h' →
          SemH P (Builtin.append_ #[T.sl_api_Op,T.sl_api_Op] T.sl_api_Op #[.slice so.1 so.2.1 so.2.2,.slice s.1 s.2.1 s.2.2]) (fun v h'=>∃ p l c,v=.slice p l c∧∃ h2,stC h' (out.add 2) 0 [.slice p l c]=some h2∧qbb.j4 K (qbb.L3 K fuel) (some b) da t4 out o.1 o.2.1 o.2.2 ((o.2.1:Nat):Int) (i:Int) h2) h':=by
        intro s h' S'
        have S4:St (OpsA so z.2::OpsA s (doneP z.1 d.name es[i].1).2::Bx out (dcells D so snil snil)::Ow 2 o (es.flatMap ecell)::Bx t4 (dcells did0 snil snil snil)::Bx da (ddcells d mb hs)::BkW b (doneP z.1 d.name es[i].1).1::L) h':=S'.to
        refine appOps S4 (by omega) fun p l c h3 S5=>⟨_,_,_,rfl,S5.put1 out 2 (v:=.slice p l c) (by simp) rfl fun h4 S6=>next (p:=p) (l:=l) (c:=c) ?_⟩
        simp only [List.set_cons_succ,List.set_cons_zero] at S6
        exact S6.to
      have S3:St (BkW b z.1::Bx t (ecell es[i])::Bx out (dcells D so snil snil)::OpsA so z.2::Ow 2 o (es.flatMap ecell)::Bx t4 (dcells did0 snil snil snil)::Bx da (ddcells d mb hs)::L) h2:=S2.to
      refine ⟨⟨_,_,_,S3.rc out 2 rfl,doneB ok hN S3 fun s h3 S4=>⟨_,_,_,rfl,app S4⟩⟩,doneB ok hN S3 fun s h3 S4=>⟨_,_,_,rfl,_,_,_,S4.rc out 2 rfl,app S4⟩⟩
    · refine ifF (by simp; omega) ?_
      have:es.drop i=[]:=List.drop_eq_nil_of_le (by omega)
      rw [this] at hz
      have hz2:z=res:=hz
      subst hz2
      unfold qbb.j2
      refine ⟨_,S.rall out 11 rfl,?_⟩
      have S1:St (Bx t4 (dcells did0 snil snil snil)::OpsA so z.2::BkW b z.1::L) h:=S.to
      refine ret11 (cs:=dcells D so snil snil) S1 rfl rfl (dcells_one _ _ _ _) fun h2 S2=>?_
      refine hK so snil snil h2 ?_
      simp only [hD.1,hD.2]
      exact (show St (OpsA so z.2::Im 1 snil []::Im 1 snil []::BkW b z.1::L) h2 from ((S2.tl.imNil 1 0).imNil 1 0).to)
theorem purgedB {d:DeedM}{mb hs:SV} (ok:BkOk N m) (hN:N≤100000) (S:St (BkW b m::L) h) (hK:DidK K (BkW b (purgedP m d).1::L) (purgedP m d).2) :
    CallsH P F.qbb [.pointer (some b),.agg (List.toArray (ddcells d mb hs))] K h:=by
  obtain ⟨r,mq,mm,ad,bv,S0⟩:=BkW.out S
  refine qbb.ok ?_
  unfold qbb.p0
  refine (bdE _ _).2 ((bdE _ _).2 ⟨b,rfl,?_⟩)
  have S1:=S0.al (ddcells d mb hs) T.api_Deed
  generalize al h (List.toArray (ddcells d mb hs)) T.api_Deed=h1 at *
  have S2:=S1.al (dcells did0 snil snil snil) T.api_Did
  rw [eh0]
  generalize al h1 (List.toArray (dcells did0 snil snil snil)) T.api_Did=h2 at *
  generalize top h=da at *
  generalize top h1=t4 at *
  have fin:∀ {t5:Addr}{h':Heap},St (Bx t5 (qO ad d.name (get? m.Q d.name))::Bx t4 (dcells did0 snil snil snil)::Bx da (ddcells d mb hs)::BkA b r mq mm ad bv m L) h'→qbb.j1 K (some b) da t4 t5 (get? m.Q d.name).isSome h':=by
    intro t5 h' S'
    unfold purgedP at hK
    unfold qbb.j1
    cases hq:get? m.Q d.name with
    | none =>
      rw [hq] at hK S'
      refine ifT rfl (retCode (L:=BkW b m::L) (St.p1 (BkW.inn (L:=Bx t4 (dcells did0 snil snil snil)::L) (show St (BkA b r mq mm ad bv m (Bx t4 (dcells did0 snil snil snil)::L)) h' from S'.to))) rfl hK)
    | some q =>
      rw [hq] at hK S'
      simp only at hK
      have S':St (Bx t5 [.bool q.1,.pointer (some (ad d.name))]::Bx t4 (dcells did0 snil snil snil)::Bx da (ddcells d mb hs)::BkA b r mq mm ad bv m L) h':=S'
      have rl:=ok.rl _ q hq
      have lr:(readyL q.2).length≤N:=by
        have:(readyL q.2).length≤q.2.length:=by simp only [readyL,List.length_map]; exact List.length_filter_le _ _
        omega
      refine ifF rfl ⟨some (ad d.name),S'.c 1 rfl,?_⟩
      refine lineAsk (F:=fun h=>CallsH P F.qce [.pointer (some (ad d.name))] _ h) (L:=Bx t4 (dcells did0 snil snil snil)::Bx da (ddcells d mb hs)::L) hq (show St (BkA b r mq mm ad bv m (Bx t4 (dcells did0 snil snil snil)::Bx da (ddcells d mb hs)::L)) h' from S'.to) fun S3 back=>readyLineW S3 (by omega) fun h3 o S4=>⟨_,_,_,rfl,(bdE _ _).2 ?_⟩
      have lo:o.2.1=(readyL q.2).length:=by have:=S4.ow.1; rw [flat_length ecell2] at this; omega
      have S5:St (Ow 2 o ((readyL q.2).flatMap ecell)::BkA b r mq mm ad bv m (Bx t4 (dcells did0 snil snil snil)::Bx da (ddcells d mb hs)::L)) h3:=back (A:=[Ow 2 o ((readyL q.2).flatMap ecell)]) S4
      have S6:=BkW.inn (b:=b) (L:=Ow 2 o ((readyL q.2).flatMap ecell)::Bx t4 (dcells did0 snil snil snil)::Bx da (ddcells d mb hs)::L) (show St (BkA b r mq mm ad bv m (Ow 2 o ((readyL q.2).flatMap ecell)::Bx t4 (dcells did0 snil snil snil)::Bx da (ddcells d mb hs)::L)) h3 from S5.to)
      have S7:=S6.al (dcells did0 snil snil snil) T.api_Did
      rw [eh0]
      rw [← lo] at hK
      refine ⟨rfl,S7.wrA (ws:=dcells { did0 with n:=(o.2.1:Nat) } snil snil snil) rfl (dcells_one _ _ _ _) fun h5 S8=>⟨(readyL q.2).length+1,?_⟩⟩
      have S9:St (Bx (top h3) (dcells { did0 with n:=(o.2.1:Nat) } snil snil snil)::OpsA snil []::Ow 2 o ((readyL q.2).flatMap ecell)::Bx t4 (dcells did0 snil snil snil)::Bx da (ddcells d mb hs)::BkW b m::L) h5:=(OpsA.nil S8).to
      exact purge_loop (d:=d) (mb:=mb) (hs:=hs) (o:=o) (t4:=t4) (out:=top h3) (da:=da) (D:={ did0 with n:=(o.2.1:Nat) }) (es:=readyL q.2) hN (by omega) ⟨rfl,rfl⟩ hK ((readyL q.2).length+1) 0 (m,[]) snil h5 (by omega) (Nat.zero_le _) ok (by rw [List.drop_zero]) (Nat.zero_le _) S9
  repeat' first
    | with_reducible refine And.intro (qO_len _ _ _) ?_
    | with_reducible refine And.intro ?_ ?_
    | with_reducible refine ⟨_,S2.rc b 1 rfl,?_⟩
    | with_reducible refine ⟨_,S2.rc da 1 rfl,?_⟩
    | with_reducible refine bdQ S2 [.bool false,.pointer none] fun S2=>?_
    | with_reducible refine lookQt (n:=d.name) (Q:=m.Q) (ad:=ad) (mq:=mq) S2 ⟨_,_,rfl,?_⟩
    | with_reducible refine wrQ S2 fun _ S2=>fin S2
end
end Go.Proofs.YtofpbcakppjgcaaGreatDoor.Pr
end
section
set_option linter.unusedVariables false
set_option linter.unusedSimpArgs false
namespace Go.Proofs.YtofpbcakppjgcaaGreatDoor.Pr
open Go Go.Lift Go.Proofs
theorem held_mem {W:LRow} (u:Up W) (id:Int):id∈heldL W↔(get? W id).any (·.2)=true:=by
  unfold heldL
  rw [List.mem_map]
  constructor
  · rintro ⟨x,hx,rfl⟩
    obtain ⟨h1,h2⟩:=List.mem_filter.1 hx
    rw [get?_some_of_mem u.nodup h1]
    exact h2
  · intro h
    cases hg:get? W id with
    | none=>rw [hg] at h; cases h
    | some v =>
      rw [hg] at h
      exact ⟨(id,v),List.mem_filter.2 ⟨get?_mem hg,h⟩,rfl⟩
section
variable {K:KT}{L R:List Asr}{h:Heap}{b r:Addr}{mq mm:Nat}{ad:Oct→Addr}{bv:Int→SV}{m:BkM}{N:Nat}
theorem index_loop {s:SV}{l:List Int}{v:Int} (hl:l.length<4611686018427387904) (hs:Sl 1 h s.1 s.2.1 (l.map kkU)) (hF:v ∉ l→K (.int .i64 (-1)) h) (hT:∀ j:Nat,v∈l→K (.int .i64 (j:Int)) h) :
    ∀ (fuel i:Nat),l.length - i<fuel→i≤l.length→(∀ j,j<i→l[j]?≠some v)→qbn.L1 K fuel s.1 s.2.1 s.2.2 v ((s.2.1:Nat):Int) (i:Int) h
  | 0,_,hf,_,_=>absurd hf (Nat.not_lt_zero _)
  | fuel+1,i,hf,hi,hj=>by
    have ls:s.2.1=l.length:=by have:=hs.1; simp at this; omega
    unfold qbn.L1
    by_cases hlt:i<l.length
    · refine ifT (by simp; omega) (ixV hs (n:=i) rfl (w:=.int .u64 l[i]) (by simp [hlt]) fun p ep cp=>⟨_,cp,?_⟩)
      by_cases e:v=l[i]
      · exact ifT (by simp [e]) (hT i (by rw [e]; exact List.getElem_mem hlt))
      · refine ifF (by simp [e]) ?_
        rw [show IntKind.i64.wrap ((i:Int)+1)=((i+1:Nat):Int) by rw [wrapI (by omega) (by omega)]; omega]
        refine index_loop hl hs hF hT fuel (i+1) (by omega) (by omega) fun j hj2=>?_
        rcases Nat.lt_or_ge j i with h1 | h1
        · exact hj j h1
        · have:j=i:=by omega
          subst this
          rw [List.getElem?_eq_getElem hlt]
          intro e2; exact e (Option.some.inj e2).symm
    · refine ifF (by simp; omega) (hF fun hm=>?_)
      obtain ⟨j,h1,h2⟩:=List.mem_iff_getElem.1 hm
      exact hj j (by omega) (by rw [List.getElem?_eq_getElem h1,h2])
theorem containsS {s:SV}{l:List Int}{v:Int} (hl:l.length<4611686018427387904) (hs:Sl 1 h s.1 s.2.1 (l.map kkU)) (hK:K (.bool (decide (v∈l))) h):CallsH P F.qcc [.slice s.1 s.2.1 s.2.2,.int .u64 v] K h:=by
  refine qcc.ok ?_
  unfold qcc.p0
  refine qbn.ok ?_
  unfold qbn.p0
  refine ⟨l.length+1,index_loop hl hs (fun hm=>⟨_,rfl,(bdE _ _).2 ?_⟩) (fun j hm=>⟨_,rfl,(bdE _ _).2 ?_⟩) _ 0 (by omega) (Nat.zero_le _) (fun j hj=>absurd hj (Nat.not_lt_zero _))⟩
  · rw [decide_eq_false hm] at hK
    exact hK
  · rw [decide_eq_true hm] at hK
    rw [show decide ((j:Int) ≥ 0)=true by simp]
    exact hK
theorem isHeldB {x:Oct × Int} (ok:BkOk N m) (hN:N≤100000) (S:St (BkW b m::L) h) (hK:∀ h',St (BkW b m::L) h'→K (.bool (isHeld m x)) h'):CallsH P F.qdf [.pointer (some b),.agg (List.toArray (hc x))] K h:=by
  refine qdf.ok ?_
  unfold qdf.p0
  refine bdQ S (hc x) fun S1=>⟨_,S1.c 0 rfl,?_⟩
  have e:isHeld m x=decide (x.2∈((get? m.Q x.1).map fun q=>heldL q.2).getD []):=by
    unfold isHeld
    cases hq:get? m.Q x.1 with
    | none=>rfl
    | some q =>
      show (get? q.2 x.2).any (·.2)=decide (x.2∈heldL q.2)
      rw [Bool.eq_iff_iff,decide_eq_true_eq,held_mem (ok.up _ q hq)]
  have ll:(((get? m.Q x.1).map fun q=>heldL q.2).getD []).length≤N:=by
    cases hq:get? m.Q x.1 with
    | none=>exact Nat.zero_le _
    | some q =>
      have:=ok.rl _ q hq
      have h2:(heldL q.2).length≤q.2.length:=by simp only [heldL,List.length_map]; exact List.length_filter_le _ _
      show (heldL q.2).length≤N
      omega
  have fin:∀ {o:SV}{t:Addr}{h':Heap},St (Ow 1 o ((((get? m.Q x.1).map fun q=>heldL q.2).getD []).map kkU)::BkW b m::Bx t (hc x)::L) h'→CallsH P F.qcc [.slice o.1 o.2.1 o.2.2,.int .u64 x.2] (fun v7 h8=>∃ b9,v7=.bool b9∧K (.bool b9) h8) h':=by
    intro o t h' S2
    refine containsS (by omega) S2.sl ⟨_,rfl,?_⟩
    rw [← e]
    exact hK h' S2.tl.d1
  refine ⟨heldB ok hN S1.p1 fun o h2 S2=>⟨_,_,_,rfl,_,S2.rc (top h) 1 rfl,fin S2⟩,_,S1.c 1 rfl,heldB ok hN S1.p1 fun o h2 S2=>⟨_,_,_,rfl,fin S2⟩⟩
theorem backB {x:Oct × Int}{m:BkM} (hh:isHeld m x=true) (S:St (BkA b r mq mm ad bv m L) h) {F:Heap→Prop} (hF:∀ q,get? m.Q x.1=some q→∀ {L':List Asr},St (LnW (ad x.1) q.2::L') h→(∀ {h':Heap},St (LnW (ad x.1) (upd q.2 x.2 (true,false))::L') h'→St (BkA b r mq mm ad bv { m with Q:=upd m.Q x.1 (q.1,upd q.2 x.2 (true,false)) } L) h')→F h):F h:=by
  cases hq:get? m.Q x.1 with
  | none=>unfold isHeld at hh; rw [hq] at hh; cases hh
  | some q =>
    have S1:=LnsW.take hq (S.get (LnsW ad))
    refine hF q hq S1 fun {h'} S2=>?_
    have S3:=LnsW.put q.1 (upd q.2 x.2 (true,false)) hq S2
    have eQ:hQ ad (Lift.upd m.Q x.1 (q.1,upd q.2 x.2 (true,false)))=hQ ad m.Q:=mapk_upd_same hq rfl
    show St (Bx b [.pointer (some r),.map (some mq),.map (some mm),.int .u64 m.next]::RtW r m.X m.B::Mq Lift.encS vvQ mq (hQ ad (Lift.upd m.Q x.1 (q.1,upd q.2 x.2 (true,false))))::Mq kkU vvM mm (hM bv m.M)::LnsW ad (Lift.upd m.Q x.1 (q.1,upd q.2 x.2 (true,false)))::BdsW bv m.M::L) h'
    rw [eQ]
    exact S3.to
theorem settle_loop {hs:SV}{t6 out:Addr}{l:List (Oct × Int)}{back:Bool}{res:BkM × List OpP} (hN:N≤100000) (hl:l.length≤100000) [H:In (Im 2 hs) L (l.flatMap hc)] (hK:DidK K (BkW b res.1::L) { did0 with ops:=res.2 }) :
    ∀ (fuel i:Nat) (z:BkM × List OpP) (so:SV) (h:Heap),l.length - i<fuel→i≤l.length→BkOk N z.1→settleP back (l.drop i) z=res→z.2.length≤2 * i →
      St (Bx out (dcells did0 so snil snil)::OpsA so z.2::Bx t6 (dcells did0 snil snil snil)::BkW b z.1::L) h→qbf.L2 K fuel (some b) back t6 out hs.1 hs.2.1 hs.2.2 ((hs.2.1:Nat):Int) (i:Int) h
  | 0,_,_,_,_,hf,_,_,_,_,_=>absurd hf (Nat.not_lt_zero _)
  | fuel+1,i,z,so,h,hf,hi,ok,hz,ho,S=>by
    have lo:hs.2.1=l.length:=by have:=(S.isl 2 hs).1; rw [flat_length hc2] at this; omega
    unfold qbf.L2
    by_cases hlt:i<l.length
    · have hx:l[i]? = some l[i]:=List.getElem?_eq_getElem hlt
      have ed:l.drop i=l[i]::l.drop (i+1):=List.drop_eq_getElem_cons hlt
      rw [ed] at hz
      refine ifT (by simp; omega) (ixS hc2 (by decide) (S.isl 2 hs) rfl hx ?_)
      refine bdQ S [.string (mkS []),.int .u64 0] fun S1=>⟨rfl,S1.wrA (ws:=hc l[i]) rfl (hc_one _) fun h2 S2=>⟨_,S2.rall (top h) 2 rfl,?_⟩⟩
      generalize top h=t at *
      generalize hxi:l[i]=x at *
      have S3:St (BkW b z.1::Bx t (hc x)::Bx out (dcells did0 so snil snil)::OpsA so z.2::Bx t6 (dcells did0 snil snil snil)::L) h2:=S2.to
      have next:∀ {z':BkM × List OpP}{so':SV}{h':Heap},BkOk N z'.1→settleP back (l.drop (i+1)) z'=res→z'.2.length≤2 * (i+1)→St (Bx out (dcells did0 so' snil snil)::OpsA so' z'.2::Bx t6 (dcells did0 snil snil snil)::BkW b z'.1::L) h' →
          qbf.j3 K (qbf.L2 K fuel) (some b) back t6 out hs.1 hs.2.1 hs.2.2 ((hs.2.1:Nat):Int) (i:Int) h':=by
        intro z' so' h' ok' hz' ho' S'
        unfold qbf.j3
        rw [show IntKind.i64.wrap ((i:Int)+1)=((i+1:Nat):Int) by rw [IntKind.wrap_i64]; omega]
        exact settle_loop hN hl hK fuel (i+1) z' so' h' (by omega) (by omega) ok' hz' ho' S'
      refine isHeldB (x:=x) ok hN S3 fun h3 S4=>⟨_,rfl,(bdE _ _).2 ?_⟩
      unfold settleP at hz
      cases hh:isHeld z.1 x with
      | false =>
        rw [hh,if_pos rfl] at hz
        exact ifT rfl (next (z':=z) (so':=so) ok hz (by omega) S4.to)
      | true =>
        rw [hh,if_neg (by decide)] at hz
        refine ifF rfl ?_
        cases back with
        | true =>
          rw [if_pos rfl] at hz
          obtain ⟨r,mq,mm,ad,bv,S5⟩:=BkW.out S4
          obtain ⟨q,a,q1,q2⟩:∃ q a,get? z.1.Q x.1=some q∧get? q.2 x.2=some (a,true):=by
            unfold isHeld at hh
            cases hq:get? z.1.Q x.1 with
            | none=>rw [hq] at hh; cases hh
            | some q =>
              cases he:get? q.2 x.2 with
              | none=>rw [hq] at hh; simp [he] at hh
              | some e =>
                obtain ⟨a,c⟩:=e
                rw [hq] at hh
                simp [he] at hh
                subst hh
                exact ⟨q,a,rfl,he⟩
          rw [q1] at hz
          have ok':BkOk N { z.1 with Q:=upd z.1.Q x.1 (q.1,upd q.2 x.2 (true,false)) }:=upd_row_ok ok q1 q2
          have go:CallsH P F.qdq [.pointer (some (ad x.1)),.int .u64 x.2] (fun v h'=>∃ b25,v=.bool b25∧qbf.j3 K (qbf.L2 K fuel) (some b) true t6 out hs.1 hs.2.1 hs.2.2 ((hs.2.1:Nat):Int) (i:Int) h') h3:=by
            refine backB (x:=x) (F:=fun h=>CallsH P F.qdq [.pointer (some (ad x.1)),.int .u64 x.2] _ h) hh S5 fun q' q1' {L'} S6 back=>?_
            rw [q1] at q1'
            cases q1'
            refine backLineW S6 (fun e=>absurd (get?_mem q2) (e a)) fun a' _ h4 S7=>⟨_,rfl,next (z':=({ z.1 with Q:=upd z.1.Q x.1 (q.1,upd q.2 x.2 (true,false)) },z.2)) (so':=so) ok' hz (by simp only; omega) ?_⟩
            have S8:=BkW.inn (back S7)
            exact S8.to
          have gv:∀ {Kx:KT},Kx (.agg (List.toArray [.bool q.1,.pointer (some (ad x.1))])) h3→SemH P (Instr.lookup T.map_string_brok_queue (.map (some mq)) (.string (mkS x.1)) false) Kx h3:=by
            intro Kx hk
            refine lookQf (n:=x.1) (Q:=z.1.Q) (ad:=ad) (mq:=mq) S5 ?_
            rw [q1]
            exact hk
          refine ifT rfl ⟨b,rfl,_,S5.rc b 1 rfl,_,S5.rc t 0 rfl,gv ⟨_,rfl,some (ad x.1),rfl,_,S5.rc t 1 rfl,go⟩,_,S5.rc t 1 rfl,gv ⟨_,rfl,some (ad x.1),rfl,go⟩⟩
        | false =>
          rw [if_neg (by decide)] at hz
          have l2:=doneP_ops z.1 x.1 x.2
          have app:∀ {s:SV}{h':Heap},St (OpsA s (doneP z.1 x.1 x.2).2::BkW b (doneP z.1 x.1 x.2).1::Bx t (hc x)::Bx out (dcells did0 so snil snil)::OpsA so z.2::Bx t6 (dcells did0 snil snil snil)::L) h' →
              SemH P (Builtin.append_ #[T.sl_api_Op,T.sl_api_Op] T.sl_api_Op #[.slice so.1 so.2.1 so.2.2,.slice s.1 s.2.1 s.2.2]) (fun v h'=>∃ p l c,v=.slice p l c∧∃ h2,stC h' (out.add 2) 0 [.slice p l c]=some h2∧qbf.j3 K (qbf.L2 K fuel) (some b) false t6 out hs.1 hs.2.1 hs.2.2 ((hs.2.1:Nat):Int) (i:Int) h2) h':=by
            intro s h' S'
            have S5:St (OpsA so z.2::OpsA s (doneP z.1 x.1 x.2).2::Bx out (dcells did0 so snil snil)::Bx t6 (dcells did0 snil snil snil)::BkW b (doneP z.1 x.1 x.2).1::L) h':=S'.to
            refine appOps S5 (by omega) fun p l c h4 S6=>⟨_,_,_,rfl,S6.put1 out 2 (v:=.slice p l c) (by simp) rfl fun h5 S7=>next (z':=((doneP z.1 x.1 x.2).1,z.2++(doneP z.1 x.1 x.2).2)) (so':=(p,l,c)) (doneP_ok ok x.1 x.2) hz (by simp; omega) ?_⟩
            simp only [List.set_cons_succ,List.set_cons_zero] at S7
            exact S7.to
          refine ifF rfl ⟨_,S4.rc t 0 rfl,_,S4.rc t 1 rfl,⟨_,_,_,S4.rc out 2 rfl,doneB ok hN S4 fun s h4 S5=>⟨_,_,_,rfl,app S5⟩⟩,doneB ok hN S4 fun s h4 S5=>⟨_,_,_,rfl,_,_,_,S5.rc out 2 rfl,app S5⟩⟩
    · refine ifF (by simp; omega) ?_
      have:l.drop i=[]:=List.drop_eq_nil_of_le (by omega)
      rw [this] at hz
      have hz2:z=res:=hz
      subst hz2
      unfold qbf.j1
      refine ⟨_,S.rall out 11 rfl,?_⟩
      have S1:St (Bx t6 (dcells did0 snil snil snil)::OpsA so z.2::BkW b z.1::L) h:=S.to
      refine ret11 (cs:=dcells did0 so snil snil) S1 rfl rfl (dcells_one _ _ _ _) fun h2 S2=>?_
      exact hK so snil snil h2 (show St (OpsA so z.2::Im 1 snil []::Im 1 snil []::BkW b z.1::L) h2 from ((S2.tl.imNil 1 0).imNil 1 0).to)
theorem settleB {hs:SV}{l:List (Oct × Int)}{back:Bool} (ok:BkOk N m) (hN:N≤100000) (hl:l.length≤100000) (S:St (BkW b m::L) h) [H:In (Im 2 hs) L (l.flatMap hc)] (hK:DidK K (BkW b (settleP back l (m,[])).1::L) { did0 with ops:=(settleP back l (m,[])).2 }) :
    CallsH P F.qbf [.pointer (some b),.slice hs.1 hs.2.1 hs.2.2,.bool back] K h:=by
  refine qbf.ok ?_
  unfold qbf.p0
  refine (bdE _ _).2 ((bdE _ _).2 ?_)
  rw [eh0,eh0]
  have S1:=S.al (dcells did0 snil snil snil) T.api_Did
  generalize al h (List.toArray (dcells did0 snil snil snil)) T.api_Did=h1 at *
  have S2:=S1.al (dcells did0 snil snil snil) T.api_Did
  refine ⟨l.length+1,settle_loop hN hl hK _ 0 (m,[]) snil _ (by omega) (Nat.zero_le _) ok (by rw [List.drop_zero]) (Nat.zero_le _) ?_⟩
  exact (OpsA.nil S2).to
end
end Go.Proofs.YtofpbcakppjgcaaGreatDoor.Pr
end
section
set_option linter.unusedVariables false
set_option linter.unusedSimpArgs false
namespace Go.Proofs.YtofpbcakppjgcaaGreatDoor.Pr
open Go Go.Lift Go.Proofs
theorem firstR_all {W:LRow} (h:∀ x∈W,x.2.2=true):firstR W=none:=by
  unfold firstR
  rw [Option.map_eq_none_iff,List.find?_eq_none]
  intro x hx
  rw [h x hx]; decide
theorem firstR_of:∀ {W:LRow}{k:Int}{a:Bool},Up W→(k,(a,false))∈W→(∀ x∈W,x.1<k→x.2.2=true)→firstR W=some (k,a)
  | [],_,_,_,h,_=>by cases h
  | (k',(a',hh))::t,k,a,u,h,hl=>by
    have u2:=List.pairwise_cons.1 u
    rcases List.mem_cons.1 h with e | e
    · cases e; simp [firstR]
    · have hlt:=u2.1 _ e
      have hh2:=hl (k',(a',hh)) (List.mem_cons_self ..) hlt
      simp only at hh2
      subst hh2
      have ih:=firstR_of u2.2 e fun x hx=>hl x (List.mem_cons_of_mem _ hx)
      unfold firstR at ih ⊢
      simpa using ih
def svOf (cs:List Value):SV:=match cs[4]? with
  | some (Value.slice a l c)=>(a,l,c)
  | _=>snil
theorem bld_did':(fun (n:Int) (e1 e2 m1 m2 m3 m4 m5:Value)=>Instr.fill (Lift.places P (P.underlying T.api_Did)) (zcl P T.api_Did) [(1,.int .i64 n),(5,.agg (List.toArray [e1,e2])),(4,.agg (List.toArray [m1,m2,m3,m4,m5]))]) =
    fun n e1 e2 m1 m2 m3 m4 m5=>some (List.toArray [.int .i64 0,.int .i64 n,.slice none 0 0,.slice none 0 0,m1,m2,m3,m4,m5,e1,e2]):=by kernel_rfl
theorem bld_did (n:Int) (e:Int × Bool) (m:MsgP) (s:SV):bld P T.api_Did [(1,.int .i64 n),(5,.agg (List.toArray (ecell e))),(4,.agg (List.toArray (mcell m s)))] (dcells { did0 with n:=n,ent:=e,msg:=m } snil snil s) :=
  congrFun (congrFun (congrFun (congrFun (congrFun (congrFun (congrFun (congrFun bld_did' _) _) _) _) _) _) _) _
section
variable {K:KT}{L R:List Asr}{h:Heap}{b r:Addr}{mq mm:Nat}{ad:Oct→Addr}{bv:Int→SV}{m:BkM}{N:Nat}
theorem take_j2 {d:DeedM}{mb hs s:SV}{t4 te out da:Addr}{k:Int}{D:DidM}{m:BkM} (ok:BkOk N m) (hN:N≤100000) (hD:D.qs=[]) (S:St (Im 1 s (u8s D.msg.body)::Bx out (dcells D snil snil s)::Bx te (ecell (k,D.ent.2))::Bx t4 (dcells did0 snil snil snil)::Bx da (ddcells d mb hs)::BkW b m::L) h)
    (hK:DidK K (BkW b (if d.noack then doneP m d.queue k else (m,[])).1::L) { D with ops:=(if d.noack then doneP m d.queue k else (m,[])).2 }):qas.j2 K (some b) da t4 te out h:=by
  unfold qas.j2
  have j3:∀ {so:SV}{ops:List OpP}{m':BkM}{h':Heap},DidK K (BkW b m'::L) { D with ops:=ops }→St (Im 1 s (u8s D.msg.body)::Bx out (dcells D so snil s)::OpsA so ops::Bx t4 (dcells did0 snil snil snil)::BkW b m'::L) h'→qas.j3 K t4 out h':=by
    intro so ops m' h' hk S'
    unfold qas.j3
    refine ⟨_,S'.rall out 11 rfl,?_⟩
    have S1:St (Bx t4 (dcells did0 snil snil snil)::OpsA so ops::Im 1 s (u8s D.msg.body)::BkW b m'::L) h':=S'.to
    refine ret11 (cs:=dcells D so snil s) S1 rfl rfl (dcells_one _ _ _ _) fun h2 S2=>?_
    refine hk so snil s h2 ?_
    simp only [hD]
    exact (show St (OpsA so ops::Im 1 snil []::Im 1 s (u8s D.msg.body)::BkW b m'::L) h2 from (S2.tl.imNil 1 0).to)
  refine ⟨_,S.rc da 11 rfl,?_⟩
  cases hn:d.noack with
  | false =>
    rw [hn] at hK
    exact ifF rfl (j3 (so:=snil) (ops:=[]) (m':=m) hK ((OpsA.nil S).to))
  | true =>
    rw [hn] at hK
    refine ifT rfl ⟨_,S.rc da 3 rfl,_,S.rc te 0 rfl,?_⟩
    have S1:St (BkW b m::Im 1 s (u8s D.msg.body)::Bx out (dcells D snil snil s)::Bx t4 (dcells did0 snil snil snil)::L) h:=S.to
    refine doneB ok hN S1 fun so h2 S2=>⟨_,_,_,rfl,S2.put1 out 2 (v:=.slice so.1 so.2.1 so.2.2) (by simp) rfl fun h3 S3=>?_⟩
    simp only [List.set_cons_succ,List.set_cons_zero] at S3
    refine j3 (so:=so) (ops:=(doneP m d.queue k).2) (m':=(doneP m d.queue k).1) hK ?_
    have S4:St (Bx out (dcells D so snil s)::OpsA so (doneP m d.queue k).2::BkW b (doneP m d.queue k).1::Im 1 s (u8s D.msg.body)::Bx t4 (dcells did0 snil snil snil)::L) h3:=S3
    exact S4.to
theorem takeB {d:DeedM}{mb hs:SV} (ok:BkOk N m) (hN:N≤100000) (S:St (BkW b m::L) h) (hK:DidK K (BkW b (takeD m d).1::L) (takeD m d).2) :
    CallsH P F.qas [.pointer (some b),.agg (List.toArray (ddcells d mb hs))] K h:=by
  obtain ⟨r,mq,mm,ad,bv,S0⟩:=BkW.out S
  refine qas.ok ?_
  unfold qas.p0
  refine (bdE _ _).2 ((bdE _ _).2 ⟨b,rfl,?_⟩)
  have S1:=S0.al (ddcells d mb hs) T.api_Deed
  generalize al h (List.toArray (ddcells d mb hs)) T.api_Deed=h1 at *
  have S2:=S1.al (dcells did0 snil snil snil) T.api_Did
  rw [eh0]
  generalize al h1 (List.toArray (dcells did0 snil snil snil)) T.api_Did=h2 at *
  generalize top h=da at *
  generalize top h1=t4 at *
  have fin:∀ {t5:Addr}{h':Heap},St (Bx t5 (qO ad d.queue (get? m.Q d.queue))::Bx t4 (dcells did0 snil snil snil)::Bx da (ddcells d mb hs)::BkA b r mq mm ad bv m L) h'→qas.j1 K (some b) da t4 t5 (get? m.Q d.queue).isSome h':=by
    intro t5 h' S'
    unfold takeD at hK
    unfold qas.j1
    cases hq:get? m.Q d.queue with
    | none =>
      rw [hq] at hK S'
      refine ifT rfl (retCode (L:=BkW b m::L) (St.p1 (BkW.inn (L:=Bx t4 (dcells did0 snil snil snil)::L) (show St (BkA b r mq mm ad bv m (Bx t4 (dcells did0 snil snil snil)::L)) h' from S'.to))) rfl hK)
    | some q =>
      rw [hq] at hK S'
      simp only at hK
      have S':St (Bx t5 [.bool q.1,.pointer (some (ad d.queue))]::Bx t4 (dcells did0 snil snil snil)::Bx da (ddcells d mb hs)::BkA b r mq mm ad bv m L) h':=S'
      have rl:=ok.rl _ q hq
      have uq:=ok.up _ q hq
      refine ifF rfl ⟨some (ad d.queue),S'.c 1 rfl,?_⟩
      have S3:=LnsW.take hq (S'.get (LnsW ad))
      refine takeLineW S3 (fun hall h3 S4=>⟨_,_,rfl,bdQ S4 [.int .u64 0,.bool false] fun S5=>⟨rfl,S5.wrA (ws:=[.int .u64 0,.bool false]) rfl (by simp [Lift.one]) fun h4 S6=>?_⟩⟩) fun k a hm hlt h3 S4=>⟨_,_,rfl,bdQ S4 [.int .u64 0,.bool false] fun S5=>⟨rfl,S5.wrA (ws:=ecell (k,a)) rfl (ecell_one _) fun h4 S6=>?_⟩⟩
      · rw [firstR_all hall] at hK
        simp only at hK
        have S7:=LnsW.back hq S6.tl
        have S8:=St.p1 (BkW.inn (b:=b) (m:=m) (L:=Bx t4 (dcells did0 snil snil snil)::L) (show St (BkA b r mq mm ad bv m (Bx t4 (dcells did0 snil snil snil)::L)) h4 from S7.to))
        refine ifT rfl (ret11 (cs:=dcells { did0 with n:=-1 } snil snil snil) S8 rfl rfl (dcells_one _ _ _ _) fun h5 S9=>?_)
        exact didNil (d:={ did0 with n:=-1 }) rfl rfl rfl S9.tl hK
      · refine ifF rfl ?_
        have hf:=firstR_of uq hm hlt
        have hg:get? q.2 k=some (a,false):=get?_of_mem uq.nodup hm
        rw [hf] at hK
        simp only at hK
        obtain ⟨x,hx⟩:=Option.isSome_iff_exists.1 (ok.ids _ q k hq (by rw [hg]; rfl))
        have gx:=(goodMP_iff x.1).1 (ok.cnt k x hx).2.2.2.1
        have ex:msgAt m k=x.1:=by unfold msgAt; rw [hx]; rfl
        rw [ex] at hK
        have ok':=upd_row_ok (e':=(a,true)) ok hq hg
        have S6':St (LnW (ad d.queue) (Lift.upd q.2 k (a,true))::LnsW ad (del m.Q d.queue)::Bx (top h3) (ecell (k,a))::Bx t5 [.bool q.1,.pointer (some (ad d.queue))]::Bx t4 (dcells did0 snil snil snil)::Bx da (ddcells d mb hs)::Bx b [.pointer (some r),.map (some mq),.map (some mm),.int .u64 m.next]::RtW r m.X m.B::Mq Lift.encS vvQ mq (hQ ad m.Q)::Mq kkU vvM mm (hM bv m.M)::BdsW bv m.M::L) h4:=S6.to
        have S7:=LnsW.put q.1 (upd q.2 k (a,true)) hq S6'
        have eQ:hQ ad (Lift.upd m.Q d.queue (q.1,upd q.2 k (a,true)))=hQ ad m.Q:=mapk_upd_same hq rfl
        generalize top h3=te at *
        have hq':get? ({ m with Q:=Lift.upd m.Q d.queue (q.1,upd q.2 k (a,true)) }:BkM).Q d.queue=some (q.1,upd q.2 k (a,true)):=by
          show get? (Lift.upd m.Q d.queue (q.1,upd q.2 k (a,true))) d.queue=_
          rw [get?_upd,if_pos rfl]
        have rl':(Lift.upd q.2 k (a,true)).length≤N:=ok'.rl d.queue _ hq'
        have S8:St (Bx te (ecell (k,a))::Bx t5 [.bool q.1,.pointer (some (ad d.queue))]::Bx t4 (dcells did0 snil snil snil)::Bx da (ddcells d mb hs)::BkA b r mq mm ad bv { m with Q:=Lift.upd m.Q d.queue (q.1,upd q.2 k (a,true)) } L) h4:=by
          show St (Bx te (ecell (k,a))::Bx t5 [.bool q.1,.pointer (some (ad d.queue))]::Bx t4 (dcells did0 snil snil snil)::Bx da (ddcells d mb hs)::Bx b [.pointer (some r),.map (some mq),.map (some mm),.int .u64 m.next]::RtW r m.X m.B::Mq Lift.encS vvQ mq (hQ ad (Lift.upd m.Q d.queue (q.1,upd q.2 k (a,true))))::Mq kkU vvM mm (hM bv m.M)::LnsW ad (Lift.upd m.Q d.queue (q.1,upd q.2 k (a,true)))::BdsW bv m.M::L) h4
          rw [eQ]
          exact S7.to
        have hx':get? ({ m with Q:=Lift.upd m.Q d.queue (q.1,upd q.2 k (a,true)) }:BkM).M k=some x:=hx
        generalize ({ m with Q:=Lift.upd m.Q d.queue (q.1,upd q.2 k (a,true)) }:BkM)=m2 at *
        have S9:=(S8.emp').emp'
        have D2:(readyL (upd q.2 k (a,true))).length≤N:=by
          have:(readyL (upd q.2 k (a,true))).length≤(upd q.2 k (a,true)).length:=by simp only [readyL,List.length_map]; exact List.length_filter_le _ _
          omega
        have rl'':(upd q.2 k (a,true)).length≤100000:=by omega
        exact qas.r4.rule (p27:=some (ad d.queue)) (cs36:=ecell (k,a)) (p37:=b) (m38:=some mm) (n39:=k)
          (fun d' a31 a31l a31c cs43 cs51 cs57 a61 h=>(d' 2=true→a31l=(readyL (upd q.2 k (a,true))).length)∧(d' 11=true→cs43=mecell x (bv k))∧(d' 13=true→cs51=mcell x.1 (svOf cs51)) ∧
            (d' 14=true→cs57=dcells { did0 with n:=((readyL (upd q.2 k (a,true))).length:Nat),ent:=(k,a),msg:=x.1 } snil snil (svOf cs51)) ∧
            St (cond (d' 13) (Im 1 (svOf cs51) (u8s x.1.body)) (stars [])::cond (d' 15) (Bx a61 (cond (d' 16) cs57 (dcells did0 snil snil snil))) (stars [])::Bx te (ecell (k,a))::Bx t5 [.bool q.1,.pointer (some (ad d.queue))]::Bx t4 (dcells did0 snil snil snil)::Bx da (ddcells d mb hs)::BkA b r mq mm ad bv m2 L) h)
          ⟨fun e=>(by cases e),fun e=>(by cases e),fun e=>(by cases e),fun e=>(by cases e),S9⟩
          (fun d' _ _ _ _ _ _ _ h _ _ _ _ ⟨_,_,_,_,S⟩=>S.rc t5 1 rfl)
          (fun d' _ _ _ cs43 cs51 cs57 a61 h k2 _ _ _ _ ⟨_,j2,j3,j4,S⟩ hk=>by
            refine lineAsk (b:=b) (r:=r) (mq:=mq) (mm:=mm) (ad:=ad) (bv:=bv) (m:=m2) (L:=cond (d' 13) (Im 1 (svOf cs51) (u8s x.1.body)) (stars [])::cond (d' 15) (Bx a61 (cond (d' 16) cs57 (dcells did0 snil snil snil))) (stars [])::Bx te (ecell (k,a))::Bx t5 [.bool q.1,.pointer (some (ad d.queue))]::Bx t4 (dcells did0 snil snil snil)::Bx da (ddcells d mb hs)::L) (F:=fun h=>CallsH P F.qce [.pointer (some (ad d.queue))] _ h) hq' S.to fun S3 back=>readyLineW S3 (by show (Lift.upd q.2 k (a,true)).length<_; omega) fun h3 o S4=>⟨_,_,_,rfl,hk _ _ _ _ ⟨fun _=>?_,j2,j3,j4,?_⟩⟩
            · have:((readyL (Lift.upd q.2 k (a,true))).flatMap ecell).length=o.2.1 * 2:=S4.ow.1
              rw [flat_length ecell2] at this; omega
            · have S5:=back (A:=[]) S4.tl
              show St (cond (d' 13) (Im 1 (svOf cs51) (u8s x.1.body)) (stars [])::cond (d' 15) (Bx a61 (cond (d' 16) cs57 (dcells did0 snil snil snil))) (stars [])::Bx te (ecell (k,a))::Bx t5 [.bool q.1,.pointer (some (ad d.queue))]::Bx t4 (dcells did0 snil snil snil)::Bx da (ddcells d mb hs)::BkA b r mq mm ad bv m2 L) h3
              exact (show St (BkA b r mq mm ad bv m2 _) h3 from S5).to)
          (fun d' _ _ _ _ _ _ _ h _ _ ⟨_,_,_,_,S⟩=>S.rall te 2 rfl)
          (fun d' _ _ _ _ _ _ _ h _ _ _ _ _=>rfl)
          (fun d' _ _ _ _ _ _ _ h _ _ _ _ ⟨_,_,_,_,S⟩=>S.rc b 2 rfl)
          (fun d' _ _ _ _ _ _ _ h _ _ _ _ ⟨_,_,_,_,S⟩=>S.rc te 0 rfl)
          (fun d' _ _ _ _ _ _ _ h k11 _ _ _ _ ⟨j1,_,j3,j4,S⟩ hk=>by
            refine lookMf (i:=k) (M:=m2.M) (bv:=bv) (mm:=mm) S ⟨_,rfl,hk _ _ ⟨j1,fun _=>?_,j3,j4,S⟩⟩
            rw [hx']; rfl)
          (fun d' _ _ _ cs43 cs51 cs57 a61 h k13 h13 h2 h11 h14 _ ⟨j1,j2,_,_,S⟩ hk=>by
            rw [j2 h11]
            have S4:=BdsW.get hx' (S.get (BdsW bv))
            refine stillB (m:=x.1) (mb:=bv k) S4 (by omega) fun s h5 S5=>⟨_,rfl,hk (mcell x.1 s) h5 ⟨j1,j2,fun _=>rfl,fun e=>?_,?_⟩⟩
            · have e:d' 14=true:=e
              rw [h14] at e; cases e
            · show St (Im 1 s (u8s x.1.body)::cond (d' 15) (Bx a61 (cond (d' 16) cs57 (dcells did0 snil snil snil))) (stars [])::_) h5
              exact S5.to)
          (fun d' a31 a31l a31c cs43 cs51 cs57 a61 h k14 _ h2 _ h13 h16 ⟨j1,j2,j3,_,S⟩ hk=>by
            have e:=j3 h13
            have e2:=j1 h2
            have hb:=bld_did ((readyL (Lift.upd q.2 k (a,true))).length:Nat) (k,a) x.1 (svOf cs51)
            rw [← e,← e2] at hb
            refine ⟨_,hb,hk _ _ ⟨j1,j2,j3,fun _=>by rw [e2],?_⟩⟩
            rw [h16] at S
            show St (cond (d' 13) (Im 1 (svOf cs51) (u8s x.1.body)) (stars [])::cond (d' 15) (Bx a61 (cond (d' 16) _ (dcells did0 snil snil snil))) (stars [])::_) h
            rw [h16]
            exact S)
          (fun d' _ _ _ cs43 cs51 cs57 a61 h k15 h15 h16 ⟨j1,j2,j3,j4,S⟩ hk=>by
            rw [eh0]
            refine bdQ S (dcells did0 snil snil snil) fun S3=>hk _ _ ⟨j1,j2,j3,j4,?_⟩
            show St (cond (d' 13) _ _::Bx (top h) (cond (d' 16) cs57 (dcells did0 snil snil snil))::_) _
            rw [h16]
            exact (show St (cond (d' 13) (Im 1 (svOf cs51) (u8s x.1.body)) (stars [])::Bx (top h) (dcells did0 snil snil snil)::Bx te (ecell (k,a))::Bx t5 [.bool q.1,.pointer (some (ad d.queue))]::Bx t4 (dcells did0 snil snil snil)::Bx da (ddcells d mb hs)::BkA b r mq mm ad bv m2 L) _ from S3.to))
          (fun d' _ _ _ cs43 cs51 cs57 a61 h k16 h16 _ _ _ h14 h15 ⟨j1,j2,j3,j4,S⟩ hk=>by
            have e:=j4 h14
            rw [h15,h16] at S
            have S3:St (Bx a61 (dcells did0 snil snil snil)::cond (d' 13) (Im 1 (svOf cs51) (u8s x.1.body)) (stars [])::Bx te (ecell (k,a))::Bx t5 [.bool q.1,.pointer (some (ad d.queue))]::Bx t4 (dcells did0 snil snil snil)::Bx da (ddcells d mb hs)::BkA b r mq mm ad bv m2 L) h:=S.p1
            refine ⟨by rw [e]; rfl,S3.wrA (by rw [e]; rfl) (by rw [e]; exact dcells_one _ _ _ _) fun h5 S4=>hk _ ⟨j1,j2,j3,j4,?_⟩⟩
            show St (cond (d' 13) _ _::cond (d' 15) (Bx a61 cs57) _::_) _
            rw [h15]
            exact S4.p1)
          (fun d' _ _ _ cs43 cs51 cs57 a61 h _ _ h13 h14 h15 h16 ⟨_,_,_,j4,S⟩=>by
            have e:=j4 h14
            rw [h13,h15,h16] at S
            have S3:St (Im 1 (svOf cs51) (u8s x.1.body)::Bx a61 cs57::Bx te (ecell (k,a))::Bx t4 (dcells did0 snil snil snil)::Bx da (ddcells d mb hs)::BkA b r mq mm ad bv m2 L) h:=(show St (Im 1 (svOf cs51) (u8s x.1.body)::Bx a61 cs57::Bx te (ecell (k,a))::Bx t5 [.bool q.1,.pointer (some (ad d.queue))]::Bx t4 (dcells did0 snil snil snil)::Bx da (ddcells d mb hs)::BkA b r mq mm ad bv m2 L) h from S).to
            rw [e] at S3
            have S4:=BkW.inn (b:=b) (m:=m2) (L:=Im 1 (svOf cs51) (u8s x.1.body)::Bx a61 (dcells { did0 with n:=((readyL (upd q.2 k (a,true))).length:Nat),ent:=(k,a),msg:=x.1 } snil snil (svOf cs51))::Bx te (ecell (k,a))::Bx t4 (dcells did0 snil snil snil)::Bx da (ddcells d mb hs)::L) (show St (BkA b r mq mm ad bv m2 _) h from S3.to)
            exact take_j2 (d:=d) (mb:=mb) (hs:=hs) (s:=svOf cs51) (k:=k) (D:={ did0 with n:=((readyL (upd q.2 k (a,true))).length:Nat),ent:=(k,a),msg:=x.1 }) (m:=m2) ok' hN rfl S4.to hK)
  repeat' first
    | with_reducible refine And.intro (qO_len _ _ _) ?_
    | with_reducible refine And.intro ?_ ?_
    | with_reducible refine ⟨_,S2.rc b 1 rfl,?_⟩
    | with_reducible refine ⟨_,S2.rc da 3 rfl,?_⟩
    | with_reducible refine bdQ S2 [.bool false,.pointer none] fun S2=>?_
    | with_reducible refine lookQt (n:=d.queue) (Q:=m.Q) (ad:=ad) (mq:=mq) S2 ⟨_,_,rfl,?_⟩
    | with_reducible refine wrQ S2 fun _ S2=>fin S2
end
end Go.Proofs.YtofpbcakppjgcaaGreatDoor.Pr
end
section
set_option linter.unusedVariables false
set_option linter.unusedSimpArgs false
namespace Go.Proofs.YtofpbcakppjgcaaGreatDoor.Pr
open Go Go.Lift Go.Proofs
theorem bld_msg':(fun m1 m2 m3 m4 m5:Value=>Instr.fill (Lift.places P (P.underlying T.brok_message)) (zcl P T.brok_message) [(0,.agg (List.toArray [m1,m2,m3,m4,m5]))])=fun m1 m2 m3 m4 m5=>some (List.toArray [m1,m2,m3,m4,m5,.int .i64 0,.int .i64 0]):=by kernel_rfl
theorem bld_msg (m:MsgP) (s:SV):bld P T.brok_message [(0,.agg (List.toArray (mcell m s)))] (mecell (m,0,0) s):=congrFun (congrFun (congrFun (congrFun (congrFun bld_msg' _) _) _) _) _
section
variable {K:KT}{L R:List Asr}{h:Heap}{b r:Addr}{mq mm:Nat}{ad:Oct→Addr}{bv:Int→SV}{m:BkM}{N:Nat}
theorem getX {n:Oct}{X:List XN}{B:List BN} (S:St L h) [Has (RtW r X) L B R] (hK:∀ h',St (RtW r X B::R) h'→K (.tuple #[.agg (List.toArray (xO (xget X n))),.bool (xget X n).isSome]) h'):CallsH P F.qds [.pointer (some r),.string (mkS n)] K h :=
  getRt (S.get (RtW r X)) hK
theorem wrX {t:Addr}{o:Option XN} (S:St L h) [Has (Bx t) L zx R] {F:Heap→Prop} (hF:∀ h',St (Bx t (xO o)::R) h'→F h'):∃ h',stC h t 0 (xO o)=some h'∧F h':=(S.get (Bx t)).wrA (by rw [xO_len]; rfl) (xO_one _) hF
abbrev nxM (m:BkM) (id:Int):BkM:={ m with next:=id+1 }
theorem putin_j3 {msg:MsgP}{e l:Int}{s so sq:SV}{t4 t15 out:Addr}{id:Int}{D:DidM} (hn:get? m.M id=none) (S:St (Bx out (dcells D so sq snil)::OpsA so D.ops::Im 1 sq (D.qs.map Lift.encS)::Im 1 s (u8s msg.body)::Bx t15 (mecell (msg,e,l) s)::Bx t4 (dcells did0 snil snil snil)::BkA b r mq mm ad bv m L) h) (hD:D.msg.body=[])
    (hK:DidK K (BkW b { m with M:=upd m.M id (msg,e,l) }::L) D):qap.j3 K (some b) t4 out id t15 h:=by
  unfold qap.j3
  refine ⟨b,rfl,_,S.rc b 2 rfl,_,S.rall t15 7 rfl,?_⟩
  refine St.update (kk:=kkU) (vv:=vvM) (k:=id) (v:=((msg,e,l),s)) klU umM (S.get (Mq kkU vvM mm)) fun u h2 S2=>?_
  have eM:Lift.upd (hM bv m.M) id ((msg,e,l),s)=hM (fun k=>if k=id then s else bv k) (Lift.upd m.M id (msg,e,l)):=by
    have e1:hM bv m.M=hM (fun k=>if k=id then s else bv k) m.M:=List.map_congr_left fun x hx=>by
      have:x.1≠id:=fun e=>get?_none.1 hn (e ▸ List.mem_map.2 ⟨x,hx,rfl⟩)
      simp only [if_neg this]
    rw [e1]
    have:=upd_mapk (fun (i:Int) (x:MsgE)=>(x,(fun k=>if k=id then s else bv k) i)) m.M id (msg,e,l)
    simpa using this
  rw [eM] at S2
  have S3:St (Im 1 s (u8s ((msg,e,l):MsgE).1.body)::BdsW bv m.M::Mq kkU vvM mm (hM (fun k=>if k=id then s else bv k) (Lift.upd m.M id (msg,e,l)))::Bx out (dcells D so sq snil)::OpsA so D.ops::Im 1 sq (D.qs.map Lift.encS)::Bx t4 (dcells did0 snil snil snil)::Bx b [.pointer (some r),.map (some mq),.map (some mm),.int .u64 m.next]::RtW r m.X m.B::Mq Lift.encS vvQ mq (hQ ad m.Q)::LnsW ad m.Q::L) h2:=S2.to
  have S4:=BdsW.new (x:=(msg,e,l)) hn S3
  have S5:=BkW.inn (b:=b) (m:={ m with M:=Lift.upd m.M id (msg,e,l) }) (L:=Bx out (dcells D so sq snil)::OpsA so D.ops::Im 1 sq (D.qs.map Lift.encS)::Bx t4 (dcells did0 snil snil snil)::L) (show St (BkA b r mq mm ad (fun k=>if k=id then s else bv k) { m with M:=Lift.upd m.M id (msg,e,l) } (Bx out (dcells D so sq snil)::OpsA so D.ops::Im 1 sq (D.qs.map Lift.encS)::Bx t4 (dcells did0 snil snil snil)::L)) h2 from S4.to)
  refine ⟨_,S5.rall out 11 rfl,?_⟩
  have S6:St (Bx t4 (dcells did0 snil snil snil)::OpsA so D.ops::Im 1 sq (D.qs.map Lift.encS)::BkW b { m with M:=Lift.upd m.M id (msg,e,l) }::L) h2:=S5.to
  refine ret11 (cs:=dcells D so sq snil) S6 rfl rfl (dcells_one _ _ _ _) fun h3 S7=>hK so sq snil h3 ?_
  rw [hD]
  exact (show St (OpsA so D.ops::Im 1 sq (D.qs.map Lift.encS)::Im 1 snil []::BkW b { m with M:=Lift.upd m.M id (msg,e,l) }::L) h3 from (S7.tl.imNil 1 0).to)
theorem puts_loop {d:DeedM}{mb hs s sv sq:SV}{v:Oct}{t4 t15 out da:Addr}{id:Int}{qs:List Oct}{D:DidM}{m0:BkM} (hl:qs.length≤100001) (hid:0≤id∧id<18446744073709551616) (hD:D.msg.body=[]∧D.qs=qs) (hM0:get? m0.M id=none)
    (hK:DidK K (BkW b { (putsP d.msg v id qs ((m0,[]),0,0)).1.1 with M:=upd m0.M id (d.msg,(putsP d.msg v id qs ((m0,[]),0,0)).2.1,(putsP d.msg v id qs ((m0,[]),0,0)).2.2),next:=id+1 }::L) { D with ops:=(putsP d.msg v id qs ((m0,[]),0,0)).1.2 }) :
    ∀ (fuel i:Nat) (z:(BkM × List OpP) × Int × Int) (so:SV) (ad:Oct→Addr) (h:Heap),qs.length - i<fuel→i≤qs.length→putsP d.msg v id (qs.drop i) z=putsP d.msg v id qs ((m0,[]),0,0)→z.1.1.M=m0.M→(∀ n∈qs,(get? z.1.1.Q n).isSome=true)→0≤z.2.1∧z.2.1≤i∧0≤z.2.2∧z.2.2≤i→z.1.2.length≤2 * i →
      St (Bx out (dcells D so sq snil)::OpsA so z.1.2::Im 1 sq (qs.map Lift.encS)::Im 1 sv (u8s v)::Im 1 s (u8s d.msg.body)::Bx t15 (mecell (d.msg,z.2.1,z.2.2) s)::Bx t4 (dcells did0 snil snil snil)::Bx da (ddcells d mb hs)::BkA b r mq mm ad bv (nxM z.1.1 id) L) h →
      qap.L4 K fuel (some b) da t4 sv.1 sv.2.1 sv.2.2 out id t15 sq.1 sq.2.1 sq.2.2 ((sq.2.1:Nat):Int) (i:Int) h
  | 0,_,_,_,_,_,hf,_,_,_,_,_,_,_=>absurd hf (Nat.not_lt_zero _)
  | fuel+1,i,z,so,ad,h,hf,hi,hz,hzM,hzQ,hzb,hzo,S=>by
    have lq:sq.2.1=qs.length:=by have:=(S.isl 1 sq).1; simp at this; omega
    unfold qap.L4
    by_cases hlt:i<qs.length
    · have hx:qs[i]? = some qs[i]:=List.getElem?_eq_getElem hlt
      have ed:qs.drop i=qs[i]::qs.drop (i+1):=List.drop_eq_getElem_cons hlt
      rw [ed] at hz
      have hmem:qs[i]∈qs:=List.getElem_mem hlt
      refine ifT (by simp; omega) (ixV (S.isl 1 sq) (n:=i) rfl (w:=.string (mkS qs[i])) (by simp [hlt]) fun p ep cp=>?_)
      simp only [rdT cp]
      generalize qs[i]=n at *
      obtain ⟨q,hq⟩:=Option.isSome_iff_exists.1 (hzQ n hmem)
      have ez:putsP d.msg v id (n::qs.drop (i+1)) z=putsP d.msg v id (qs.drop (i+1)) (({ z.1.1 with Q:=upd z.1.1.Q n (q.1,standW q.2 id false) },z.1.2++if (q.1 && decide (d.msg.mode=2)) then (if (if (q.1 && decide (d.msg.mode=2)) then z.2.2+1 else z.2.2)=1 then [putO (kMsg id) v] else [])++[putO (kEntry n id) []] else []),z.2.1+1,if (q.1 && decide (d.msg.mode=2)) then z.2.2+1 else z.2.2):=by
        conv=>lhs; unfold putsP
        rw [hq]
      rw [ez] at hz
      refine ⟨b,rfl,_,S.rc b 1 rfl,lookQf (n:=n) (Q:=z.1.1.Q) (ad:=ad) (mq:=mq) S ⟨_,rfl,bdQ S [.bool false,.pointer none] fun S1=>⟨qO_len _ _ _,wrQ S1 fun h2 S2=>?_⟩⟩⟩
      rw [hq] at S2
      generalize top h=t at *
      have S2:St (Bx t [.bool q.1,.pointer (some (ad n))]::Bx out (dcells D so sq snil)::OpsA so z.1.2::Im 1 sq (qs.map Lift.encS)::Im 1 sv (u8s v)::Im 1 s (u8s d.msg.body)::Bx t15 (mecell (d.msg,z.2.1,z.2.2) s)::Bx t4 (dcells did0 snil snil snil)::Bx da (ddcells d mb hs)::BkA b r mq mm ad bv (nxM z.1.1 id) L) h2:=S2
      refine ⟨some (ad n),S2.c 1 rfl,?_⟩
      have S3:=LnsW.take (Q:=z.1.1.Q) hq (S2.get (LnsW ad))
      -- behind the line's put
      have go:∀ {c:Bool}{h':Heap},St (LnW (ad n) (standW q.2 id false)::LnsW ad (del z.1.1.Q n)::Bx t [.bool q.1,.pointer (some (ad n))]::Bx out (dcells D so sq snil)::OpsA so z.1.2::Im 1 sq (qs.map Lift.encS)::Im 1 sv (u8s v)::Im 1 s (u8s d.msg.body)::Bx t15 (mecell (d.msg,z.2.1,z.2.2) s)::Bx t4 (dcells did0 snil snil snil)::Bx da (ddcells d mb hs) ::
          Bx b [.pointer (some r),.map (some mq),.map (some mm),.int .u64 (id+1)]::RtW r z.1.1.X z.1.1.B::Mq Lift.encS vvQ mq (hQ ad z.1.1.Q)::Mq kkU vvM mm (hM bv z.1.1.M)::BdsW bv z.1.1.M::L) h' →
          ∃ b59,Value.bool c=.bool b59∧∃ n60,hcell h' (t15.add 5)=some (.int .i64 n60)∧∃ h61,stC h' (t15.add 5) 0 [.int .i64 (IntKind.i64.wrap (n60+1))]=some h61∧∃ b119,hcell h61 (t.add 0)=some (.bool b119) ∧
            (b119=true→∃ n120,hcell h61 ((da.add 12).add 3)=some (.int .i64 n120)∧qap.j6 K (qap.L4 K fuel) (some b) da t4 sv.1 sv.2.1 sv.2.2 out id t15 n sq.1 sq.2.1 sq.2.2 ((sq.2.1:Nat):Int) (i:Int) (n120==2) h61) ∧
            (b119=false→qap.j6 K (qap.L4 K fuel) (some b) da t4 sv.1 sv.2.1 sv.2.2 out id t15 n sq.1 sq.2.1 sq.2.2 ((sq.2.1:Nat):Int) (i:Int) false h61):=by
        intro c h' S4
        have S5:=LnsW.put q.1 (standW q.2 id false) hq S4
        have eQ:hQ ad (Lift.upd z.1.1.Q n (q.1,standW q.2 id false))=hQ ad z.1.1.Q:=mapk_upd_same hq rfl
        refine ⟨_,rfl,_,S5.rc t15 5 rfl,S5.put1 t15 5 (v:=.int .i64 (IntKind.i64.wrap (z.2.1+1))) (by simp) rfl fun h5 S6=>⟨_,S6.rc t 0 rfl,?_⟩⟩
        simp only [List.set_cons_succ,List.set_cons_zero] at S6
        have w1:IntKind.i64.wrap (z.2.1+1)=z.2.1+1:=by rw [wrapI (by omega) (by omega)]
        rw [w1] at S6
        generalize hm2:({ z.1.1 with Q:=Lift.upd z.1.1.Q n (q.1,standW q.2 id false) }:BkM)=m2 at *
        have S7:St (Bx out (dcells D so sq snil)::OpsA so z.1.2::Im 1 sq (qs.map Lift.encS)::Im 1 sv (u8s v)::Im 1 s (u8s d.msg.body)::Bx t15 (mecell (d.msg,z.2.1+1,z.2.2) s)::Bx t4 (dcells did0 snil snil snil)::Bx da (ddcells d mb hs)::BkA b r mq mm ad bv (nxM m2 id) L) h5:=by
          rw [← hm2]
          show St (Bx out (dcells D so sq snil)::OpsA so z.1.2::Im 1 sq (qs.map Lift.encS)::Im 1 sv (u8s v)::Im 1 s (u8s d.msg.body)::Bx t15 (mecell (d.msg,z.2.1+1,z.2.2) s)::Bx t4 (dcells did0 snil snil snil)::Bx da (ddcells d mb hs)::Bx b [.pointer (some r),.map (some mq),.map (some mm),.int .u64 (id+1)]::RtW r z.1.1.X z.1.1.B::Mq Lift.encS vvQ mq (hQ ad (Lift.upd z.1.1.Q n (q.1,standW q.2 id false)))::Mq kkU vvM mm (hM bv z.1.1.M)::LnsW ad (Lift.upd z.1.1.Q n (q.1,standW q.2 id false))::BdsW bv z.1.1.M::L) h5
          rw [eQ]
          exact (show St (Bx t15 (mecell (d.msg,z.2.1+1,z.2.2) s)::_) h5 from S6).to
        have hzQ2:∀ n'∈qs,(get? m2.Q n').isSome=true:=by
          intro n' hn'
          rw [← hm2]
          simp only
          rw [get?_upd]
          split
          · rfl
          · exact hzQ n' hn'
        have hzM2:m2.M=m0.M:=by rw [← hm2]; exact hzM
        have next:∀ {z':(BkM × List OpP) × Int × Int}{so':SV}{h':Heap},putsP d.msg v id (qs.drop (i+1)) z'=putsP d.msg v id qs ((m0,[]),0,0)→z'.1.1=m2→0≤z'.2.1∧z'.2.1≤(i+1:Nat)∧0≤z'.2.2∧z'.2.2≤(i+1:Nat)→z'.1.2.length≤2 * (i+1) →
            St (Bx out (dcells D so' sq snil)::OpsA so' z'.1.2::Im 1 sq (qs.map Lift.encS)::Im 1 sv (u8s v)::Im 1 s (u8s d.msg.body)::Bx t15 (mecell (d.msg,z'.2.1,z'.2.2) s)::Bx t4 (dcells did0 snil snil snil)::Bx da (ddcells d mb hs)::BkA b r mq mm ad bv (nxM m2 id) L) h' →
            qap.j5 K (qap.L4 K fuel) (some b) da t4 sv.1 sv.2.1 sv.2.2 out id t15 sq.1 sq.2.1 sq.2.2 ((sq.2.1:Nat):Int) (i:Int) h':=by
          intro z' so' h' e1 e2 e3 e4 S'
          unfold qap.j5
          rw [show IntKind.i64.wrap ((i:Int)+1)=((i+1:Nat):Int) by rw [IntKind.wrap_i64]; omega]
          exact puts_loop hl hid hD hM0 hK fuel (i+1) z' so' ad h' (by omega) (by omega) e1 (by rw [e2]; exact hzM2) (by rw [e2]; exact hzQ2) e3 e4 (by rw [e2]; exact S')
        have no:(q.1 && decide (d.msg.mode=2))=false→qap.j6 K (qap.L4 K fuel) (some b) da t4 sv.1 sv.2.1 sv.2.2 out id t15 n sq.1 sq.2.1 sq.2.2 ((sq.2.1:Nat):Int) (i:Int) false h5:=by
          intro e
          unfold qap.j6
          rw [e] at hz
          simp only [Bool.false_eq_true,if_false,List.append_nil] at hz
          exact ifF rfl (next (z':=((m2,z.1.2),z.2.1+1,z.2.2)) (so':=so) hz rfl (by simp only; omega) (by simp only; omega) S7)
        cases hq1:q.1 with
        | false =>
          rw [hq1] at no
          exact ⟨fun e=>(by cases e),fun _=>no rfl⟩
        | true =>
          refine ⟨fun _=>⟨_,S7.rcc da 12 3 rfl,?_⟩,fun e=>by cases e⟩
          by_cases hm:d.msg.mode=2
          case neg =>
            rw [show (d.msg.mode==2)=false by simpa using hm]
            exact no (by simp [hm])
          rw [show (d.msg.mode==2)=true by simpa using hm]
          have el:(q.1 && decide (d.msg.mode=2))=true:=by simp [hq1,hm]
          rw [el] at hz
          simp only [if_true] at hz
          unfold qap.j6
          refine ifT rfl ⟨_,S7.rc t15 6 rfl,S7.put1 t15 6 (v:=.int .i64 (IntKind.i64.wrap (z.2.2+1))) (by simp) rfl fun h6 S8=>⟨_,S8.c 6 rfl,?_⟩⟩
          simp only [List.set_cons_succ,List.set_cons_zero] at S8
          have w2:IntKind.i64.wrap (z.2.2+1)=z.2.2+1:=by rw [wrapI (by omega) (by omega)]
          rw [w2] at S8 ⊢
          have REST:St (Bx out (dcells D so sq snil)::OpsA so z.1.2::Im 1 sq (qs.map Lift.encS)::Im 1 sv (u8s v)::Im 1 s (u8s d.msg.body)::Bx t15 (mecell (d.msg,z.2.1+1,z.2.2+1) s)::Bx t4 (dcells did0 snil snil snil)::Bx da (ddcells d mb hs)::BkA b r mq mm ad bv (nxM m2 id) L) h6:=(show St (Bx t15 (mecell (d.msg,z.2.1+1,z.2.2+1) s)::_) h6 from S8).to
          have j7:∀ {so':SV}{ops:List OpP}{h':Heap},ops=z.1.2++(if z.2.2+1=1 then [putO (kMsg id) v] else [])→St (Bx out (dcells D so' sq snil)::OpsA so' ops::Im 1 sq (qs.map Lift.encS)::Im 1 sv (u8s v)::Im 1 s (u8s d.msg.body)::Bx t15 (mecell (d.msg,z.2.1+1,z.2.2+1) s)::Bx t4 (dcells did0 snil snil snil)::Bx da (ddcells d mb hs)::BkA b r mq mm ad bv (nxM m2 id) L) h' →
              qap.j7 K (qap.L4 K fuel) (some b) da t4 sv.1 sv.2.1 sv.2.2 out id t15 n sq.1 sq.2.1 sq.2.2 ((sq.2.1:Nat):Int) (i:Int) h':=by
            intro so' ops h' eo S'
            have lops:ops.length≤2 * i+1:=by rw [eo,List.length_append]; split <;> simp <;> omega
            have app:∀ {h':Heap},St (Bx out (dcells D so' sq snil)::OpsA so' ops::Im 1 sq (qs.map Lift.encS)::Im 1 sv (u8s v)::Im 1 s (u8s d.msg.body)::Bx t15 (mecell (d.msg,z.2.1+1,z.2.2+1) s)::Bx t4 (dcells did0 snil snil snil)::Bx da (ddcells d mb hs)::BkA b r mq mm ad bv (nxM m2 id) L) h' →
                bd (al h' (List.toArray (oc (putO (kEntry n id) [],snil))) T.api_Op) fun h1=>SemH P (Builtin.append_ #[T.sl_api_Op,T.sl_api_Op] T.sl_api_Op #[.slice so'.1 so'.2.1 so'.2.2,.slice (some (top h')) 1 1]) (fun v h2=>∃ p l c,v=.slice p l c∧∃ h3,stC h2 (out.add 2) 0 [.slice p l c]=some h3∧qap.j5 K (qap.L4 K fuel) (some b) da t4 sv.1 sv.2.1 sv.2.2 out id t15 sq.1 sq.2.1 sq.2.2 ((sq.2.1:Nat):Int) (i:Int) h3) h1:=by
              intro h' S'
              refine appOp (s:=so') (v:=snil) (a:=ops) (x:=putO (kEntry n id) []) ((St.p1 S').imNil 1 0) (by omega) fun p l c h8 S9=>⟨_,_,_,rfl,S9.put1 out 2 (v:=.slice p l c) (by simp) rfl fun h9 S10=>?_⟩
              simp only [List.set_cons_succ,List.set_cons_zero] at S10
              refine next (z':=((m2,ops++[putO (kEntry n id) []]),z.2.1+1,z.2.2+1)) (so':=(p,l,c)) ?_ rfl (by simp only; omega) (by simp; omega) (show St (Bx out (dcells D (p,l,c) sq snil)::_) h9 from S10)
              rw [← hz,eo]
              simp only [List.append_assoc]
            unfold qap.j7
            refine ⟨⟨_,_,_,S'.rc out 2 rfl,putB (k:=kEntry n id) (v:=snil) (val:=[]) S' hid.1 fun h7 S9=>⟨_,rfl,_,bld_op _,app S9⟩⟩,putB (k:=kEntry n id) (v:=snil) (val:=[]) S' hid.1 fun h7 S9=>⟨_,rfl,⟨_,_,_,S9.rc out 2 rfl,_,bld_op _,app S9⟩,_,bld_op _,(bdE _ _).2 ⟨_,_,_,(S9.al (oc (putO (kEntry n id) [],snil)) T.api_Op).rc out 2 rfl,(bdE _ _).1 (app S9)⟩⟩⟩
          by_cases h1:z.2.2+1=1
          · refine ifT (by simpa using h1) ?_
            have app:∀ {h':Heap},St (Bx out (dcells D so sq snil)::OpsA so z.1.2::Im 1 sq (qs.map Lift.encS)::Im 1 sv (u8s v)::Im 1 s (u8s d.msg.body)::Bx t15 (mecell (d.msg,z.2.1+1,z.2.2+1) s)::Bx t4 (dcells did0 snil snil snil)::Bx da (ddcells d mb hs)::BkA b r mq mm ad bv (nxM m2 id) L) h' →
                bd (al h' (List.toArray (oc (putO (kMsg id) v,sv))) T.api_Op) fun h1=>SemH P (Builtin.append_ #[T.sl_api_Op,T.sl_api_Op] T.sl_api_Op #[.slice so.1 so.2.1 so.2.2,.slice (some (top h')) 1 1]) (fun v' h2=>∃ p l c,v'=.slice p l c∧∃ h3,stC h2 (out.add 2) 0 [.slice p l c]=some h3∧qap.j7 K (qap.L4 K fuel) (some b) da t4 sv.1 sv.2.1 sv.2.2 out id t15 n sq.1 sq.2.1 sq.2.2 ((sq.2.1:Nat):Int) (i:Int) h3) h1:=by
              intro h' S'
              have S9:=(St.p1 S').imDup (sz:=1) (s:=sv) (vs:=u8s v) (by simp)
              refine appOp (s:=so) (v:=sv) (a:=z.1.2) (x:=putO (kMsg id) v) S9 (by omega) fun p l c h8 S9=>⟨_,_,_,rfl,S9.put1 out 2 (v:=.slice p l c) (by simp) rfl fun h9 S10=>?_⟩
              simp only [List.set_cons_succ,List.set_cons_zero] at S10
              exact j7 (so':=(p,l,c)) (ops:=z.1.2++[putO (kMsg id) v]) (by rw [if_pos h1]) S10
            refine ⟨⟨_,_,_,REST.rc out 2 rfl,putB (k:=kMsg id) (v:=sv) (val:=v) REST hid.1 fun h7 S9=>⟨_,rfl,_,bld_op _,app S9⟩⟩,putB (k:=kMsg id) (v:=sv) (val:=v) REST hid.1 fun h7 S9=>⟨_,rfl,⟨_,_,_,S9.rc out 2 rfl,_,bld_op _,app S9⟩,_,bld_op _,(bdE _ _).2 ⟨_,_,_,(S9.al (oc (putO (kMsg id) v,sv)) T.api_Op).rc out 2 rfl,(bdE _ _).1 (app S9)⟩⟩⟩
          · exact ifF (by simpa using h1) (j7 (so':=so) (ops:=z.1.2) (by rw [if_neg h1,List.append_nil]) REST)
      refine putLineW S3 hid (fun e h' S4=>go (c:=false) ?_) fun e1 e2 h' S4=>go (c:=true) ?_
      · have e3:standW q.2 id false=q.2:=if_pos e
        rw [e3]; exact S4
      · have e3:standW q.2 id false=ins q.2 id (false,false):=if_neg (by rw [e1]; simpa using e2)
        rw [e3]; exact S4
    · refine ifF (by simp; omega) ?_
      have:qs.drop i=[]:=List.drop_eq_nil_of_le (by omega)
      rw [this] at hz
      have hz2:z=putsP d.msg v id qs ((m0,[]),0,0):=hz
      rw [← hz2,← hzM] at hK
      have S1:St (Bx out (dcells { D with ops:=z.1.2 } so sq snil)::OpsA so z.1.2::Im 1 sq (({ D with ops:=z.1.2 }:DidM).qs.map Lift.encS)::Im 1 s (u8s d.msg.body)::Bx t15 (mecell (d.msg,z.2.1,z.2.2) s)::Bx t4 (dcells did0 snil snil snil)::BkA b r mq mm ad bv (nxM z.1.1 id) L) h:=by
        simp only [hD.2]
        exact S.to
      exact putin_j3 (m:=nxM z.1.1 id) (msg:=d.msg) (D:={ D with ops:=z.1.2 }) (by show get? z.1.1.M id=none; rw [hzM]; exact hM0) S1 hD.1 hK
end
end Go.Proofs.YtofpbcakppjgcaaGreatDoor.Pr
end
section
set_option linter.unusedVariables false
set_option linter.unusedSimpArgs false
namespace Go.Proofs.YtofpbcakppjgcaaGreatDoor.Pr
open Go Go.Lift Go.Proofs
theorem routeP_len (X:List XN) (B:List BN) (exch key:Oct):(routeP X B exch key).length≤B.length+1:=by
  unfold routeP
  cases xget X exch with
  | none=>exact Nat.zero_le _
  | some x =>
    simp only
    split
    · simp
    · unfold ddL
      rw [rF_len]
      refine Nat.le_trans (cnt_le _ _) ?_
      rw [List.length_map]
      have:=List.length_filter_le (fun b:BN=>b.1==exch && takesP x b key) B
      omega
theorem enc_eq:_root_.Go.Proofs.encS=Lift.encS:=rfl
section
variable {K:KT}{L R:List Asr}{h:Heap}{b r:Addr}{mq mm:Nat}{ad:Oct→Addr}{bv:Int→SV}{m:BkM}{N:Nat}
theorem goes_loop {d:DeedM}{mb hs sv o:SV}{v:Oct}{t4 out da:Addr}{ns:List Oct} (ok:BkOk N m) (hN:N≤100000) (hv:msgO d.msg=some v) (hns:ns.length≤100001) (hmb:In (fun z=>Im 1 mb (u8s z)) L d.msg.body)
    (hK:∀ (sq:SV) (h':Heap),St (Bx out (dcells did0 snil sq snil)::Ow 1 sq ((ns.filter fun n=>(get? m.Q n).isSome).map Lift.encS)::Im 1 sv (u8s v)::Bx t4 (dcells did0 snil snil snil)::Bx da (ddcells d mb hs)::BkA b r mq mm ad bv m L) h'→qap.j2 K (some b) da t4 sv.1 sv.2.1 sv.2.2 out h') :
    ∀ (fuel i:Nat) (sq:SV) (h:Heap),ns.length - i<fuel→i≤ns.length →
      St (Bx out (dcells did0 snil sq snil)::Ow 1 sq (((ns.take i).filter fun n=>(get? m.Q n).isSome).map Lift.encS)::Ow 1 o (ns.map Lift.encS)::Im 1 sv (u8s v)::Bx t4 (dcells did0 snil snil snil)::Bx da (ddcells d mb hs)::BkA b r mq mm ad bv m L) h →
      qap.L8 K fuel (some b) da t4 sv.1 sv.2.1 sv.2.2 out o.1 o.2.1 o.2.2 ((o.2.1:Nat):Int) (i:Int) h
  | 0,_,_,_,hf,_,_=>absurd hf (Nat.not_lt_zero _)
  | fuel+1,i,sq,h,hf,hi,S=>by
    have lo:o.2.1=ns.length:=by have:=(S.ows 1 o).1; simp at this; omega
    unfold qap.L8
    by_cases hlt:i<ns.length
    · have hx:ns[i]? = some ns[i]:=List.getElem?_eq_getElem hlt
      have et:ns.take (i+1)=ns.take i++[ns[i]]:=by rw [List.take_add_one,hx]; rfl
      refine ifT (by simp; omega) (ixV (S.osl 1 o) (n:=i) rfl (w:=.string (mkS ns[i])) (by simp [hlt]) fun p ep cp=>?_)
      simp only [rdT cp]
      have next:∀ {sq':SV}{h':Heap},St (Bx out (dcells did0 snil sq' snil)::Ow 1 sq' (((ns.take (i+1)).filter fun n=>(get? m.Q n).isSome).map Lift.encS)::Ow 1 o (ns.map Lift.encS)::Im 1 sv (u8s v)::Bx t4 (dcells did0 snil snil snil)::Bx da (ddcells d mb hs)::BkA b r mq mm ad bv m L) h' →
          qap.j9 K (qap.L8 K fuel) (some b) da t4 sv.1 sv.2.1 sv.2.2 out o.1 o.2.1 o.2.2 ((o.2.1:Nat):Int) (i:Int) h':=by
        intro sq' h' S'
        unfold qap.j9
        rw [show IntKind.i64.wrap ((i:Int)+1)=((i+1:Nat):Int) by rw [IntKind.wrap_i64]; omega]
        exact goes_loop ok hN hv hns hmb hK fuel (i+1) sq' h' (by omega) (by omega) S'
      refine ⟨b,rfl,_,S.rc b 1 rfl,lookQt (n:=ns[i]) (Q:=m.Q) (ad:=ad) (mq:=mq) S ⟨_,_,rfl,bdQ S [.bool false,.pointer none] fun S1=>⟨qO_len _ _ _,wrQ S1 fun h2 S2=>?_⟩⟩⟩
      have ls:sq.2.1≤i:=by
        have:=(S2.ows 1 sq).1
        have h3:((ns.take i).filter fun n=>(get? m.Q n).isSome).length≤(ns.take i).length:=List.length_filter_le _ _
        rw [List.length_take] at h3
        simp only [List.length_map] at this
        omega
      cases hq:get? m.Q ns[i] with
      | none =>
        refine ifF rfl (next (sq':=sq) ?_)
        rw [et,List.filter_append,List.filter_cons_of_neg (by rw [hq]; decide),List.filter_nil,List.append_nil]
        exact S2.tl
      | some q =>
        refine ifT rfl ⟨_,_,_,S2.rc out 3 rfl,?_⟩
        have S3:St (Ow 1 sq (((ns.take i).filter fun n=>(get? m.Q n).isSome).map Lift.encS)::Bx out (dcells did0 snil sq snil)::Ow 1 o (ns.map Lift.encS)::Im 1 sv (u8s v)::Bx t4 (dcells did0 snil snil snil)::Bx da (ddcells d mb hs)::BkA b r mq mm ad bv m L) h2:=S2.to
        refine appSt (p:=sq.1) (l:=sq.2.1) (c:=sq.2.2) S3 ns[i] (by omega) fun p' c' h5 S5=>⟨_,_,_,rfl,S5.put1 out 3 (v:=.slice p' (sq.2.1+1) c') (by simp) rfl fun h6 S6=>next (sq':=(p',sq.2.1+1,c')) ?_⟩
        simp only [List.set_cons_succ,List.set_cons_zero] at S6
        rw [enc_eq] at S6
        rw [et,List.filter_append,List.filter_cons_of_pos (by rw [hq]; rfl),List.filter_nil,List.map_append,List.map_cons,List.map_nil]
        exact (show St (Bx out (dcells did0 snil (p',sq.2.1+1,c') snil)::_) h6 from S6).to
    · refine ifF (by simp; omega) (hK sq h ?_)
      rw [List.take_of_length_le (by omega)] at S
      exact S.to
theorem putInB {h0:Heap} (g:G h0) (mo:Old h0∈L) {d:DeedM}{mb hs:SV} (ok:BkOk N m) (hN:N≤100000) (hb:m.B.length≤blim) (S:St (BkW b m::L) h) [hmb:In (fun z=>Im 1 mb (u8s z)) L d.msg.body] (hK:DidK K (BkW b (putD m d).1::L) (putD m d).2) :
    CallsH P F.qap [.pointer (some b),.agg (List.toArray (ddcells d mb hs))] K h:=by
  obtain ⟨r,mq,mm,ad,bv,S0⟩:=BkW.out S
  refine qap.ok ?_
  unfold qap.p0
  refine (bdE _ _).2 ((bdE _ _).2 ?_)
  have S1:=S0.al (ddcells d mb hs) T.api_Deed
  generalize al h (List.toArray (ddcells d mb hs)) T.api_Deed=h1 at *
  have S2:=S1.al (dcells did0 snil snil snil) T.api_Did
  rw [eh0]
  generalize al h1 (List.toArray (dcells did0 snil snil snil)) T.api_Did=h2 at *
  generalize top h=da at *
  generalize top h1=t4 at *
  have rd:rdC h2 (da.add 12) 0 5=some (mcell d.msg mb):=(((S2.get (Bx da)).mem.1.drop 12).take 5).rd rfl
  refine ⟨_,rd,?_⟩
  unfold putD at hK
  refine msgS (m:=d.msg) (mb:=mb) S2 fun p l c h3 S3=>⟨_,_,_,_,rfl,?_⟩
  cases hv:msgO d.msg with
  | none =>
    rw [hv] at hK
    refine ifT rfl (retCode (L:=BkW b m::L) (St.p1 (BkW.inn (L:=Bx t4 (dcells did0 snil snil snil)::L) (show St (BkA b r mq mm ad bv m (Bx t4 (dcells did0 snil snil snil)::L)) h3 from S3.to))) rfl hK)
  | some v =>
    rw [hv] at hK S3
    simp only [Option.getD_some] at hK S3
    have good:=(goodMP_iff d.msg).1 (msgO_good hv)
    refine ifF rfl ⟨b,rfl,?_⟩
    have fin:∀ {h':Heap},St (Im 1 (p,l,c) (u8s v)::Bx t4 (dcells did0 snil snil snil)::Bx da (ddcells d mb hs)::BkA b r mq mm ad bv m L) h'→qap.j1 K (some b) da t4 p l c (xget m.X d.exch).isSome h':=by
      intro h' S'
      unfold qap.j1
      cases hx:xget m.X d.exch with
      | none =>
        rw [hx] at hK
        refine ifT rfl (retCode (L:=BkW b m::L) (St.p1 (BkW.inn (L:=Bx t4 (dcells did0 snil snil snil)::L) (show St (BkA b r mq mm ad bv m (Bx t4 (dcells did0 snil snil snil)::L)) h' from S'.to))) rfl hK)
      | some x =>
        rw [hx] at hK
        simp only at hK
        refine ifF rfl ?_
        rw [eh0]
        refine bdQ S' (dcells did0 snil snil snil) fun S4=>⟨b,rfl,some r,S4.rc b 0 rfl,_,S4.rc da 2 rfl,_,S4.rcc da 12 1 rfl,?_⟩
        generalize top h'=out at *
        have S5:St (RtW r m.X m.B::Bx out (dcells did0 snil snil snil)::Im 1 (p,l,c) (u8s v)::Bx t4 (dcells did0 snil snil snil)::Bx da (ddcells d mb hs)::Bx b [.pointer (some r),.map (some mq),.map (some mm),.int .u64 m.next]::Mq Lift.encS vvQ mq (hQ ad m.Q)::Mq kkU vvM mm (hM bv m.M)::LnsW ad m.Q::BdsW bv m.M::L) _:=S4.to
        have lB:=ok.sz.2.1
        refine routeRt (exch:=d.exch) (key:=d.msg.key) g (by simp [mo]) hb (fun b hb=>by have:=(ok.bx b hb).2.2.2; omega) (by omega) S5 fun h6 o S6=>⟨_,_,_,rfl,(routeP m.X m.B d.exch d.msg.key).length+1,?_⟩
        rw [enc_eq] at S6
        have lr:=routeP_len m.X m.B d.exch d.msg.key
        have lo:o.2.1=(routeP m.X m.B d.exch d.msg.key).length:=by have:=(S6.ows 1 o).1; simp at this; omega
        refine goes_loop (d:=d) (mb:=mb) (hs:=hs) (sv:=(p,l,c)) (o:=o) (ns:=routeP m.X m.B d.exch d.msg.key) ok hN hv (by omega) hmb (fun sq h7 S7=>?_) _ 0 snil h6 (by omega) (Nat.zero_le _) (show St (Bx out (dcells did0 snil snil snil)::Ow 1 snil []::Ow 1 o ((routeP m.X m.B d.exch d.msg.key).map Lift.encS)::Im 1 (p,l,c) (u8s v)::Bx t4 (dcells did0 snil snil snil)::Bx da (ddcells d mb hs)::BkA b r mq mm ad bv m L) h6 from (S6.owNil 1).to)
        change St (Bx out (dcells did0 snil sq snil)::Ow 1 sq ((goesP m d.exch d.msg.key).map Lift.encS)::Im 1 (p,l,c) (u8s v)::Bx t4 (dcells did0 snil snil snil)::Bx da (ddcells d mb hs)::BkA b r mq mm ad bv m L) h7 at S7
        have hK2:DidK K (BkW b (if goesP m d.exch d.msg.key=[] then (m,did0) else ({ (putsP d.msg v m.next (goesP m d.exch d.msg.key) ((m,[]),0,0)).1.1 with M:=upd m.M m.next (d.msg,(putsP d.msg v m.next (goesP m d.exch d.msg.key) ((m,[]),0,0)).2.1,(putsP d.msg v m.next (goesP m d.exch d.msg.key) ((m,[]),0,0)).2.2),next:=m.next+1 },{ did0 with n:=(goesP m d.exch d.msg.key).length,qs:=goesP m d.exch d.msg.key,ops:=(putsP d.msg v m.next (goesP m d.exch d.msg.key) ((m,[]),0,0)).1.2 })).1::L)
            (if goesP m d.exch d.msg.key=[] then (m,did0) else ({ (putsP d.msg v m.next (goesP m d.exch d.msg.key) ((m,[]),0,0)).1.1 with M:=upd m.M m.next (d.msg,(putsP d.msg v m.next (goesP m d.exch d.msg.key) ((m,[]),0,0)).2.1,(putsP d.msg v m.next (goesP m d.exch d.msg.key) ((m,[]),0,0)).2.2),next:=m.next+1 },{ did0 with n:=(goesP m d.exch d.msg.key).length,qs:=goesP m d.exch d.msg.key,ops:=(putsP d.msg v m.next (goesP m d.exch d.msg.key) ((m,[]),0,0)).1.2 })).2:=hK
        clear hK
        have lg:(goesP m d.exch d.msg.key).length≤(routeP m.X m.B d.exch d.msg.key).length:=List.length_filter_le _ _
        have hpres:∀ n∈goesP m d.exch d.msg.key,(get? m.Q n).isSome=true:=fun n hn=>(List.mem_filter.1 hn).2
        generalize goesP m d.exch d.msg.key=qs at *
        have lq:sq.2.1=qs.length:=by have:=(S7.ows 1 sq).1; simp at this; omega
        unfold qap.j2
        refine ⟨_,_,_,S7.rc out 3 rfl,S7.put1 out 1 (v:=.int .i64 (sq.2.1:Nat)) (by simp) rfl fun h8 S8=>⟨_,S8.c 1 rfl,?_⟩⟩
        simp only [List.set_cons_succ,List.set_cons_zero] at S8
        by_cases hz:qs=[]
        · subst hz
          simp only [if_true] at hK2
          have lq0:sq.2.1=0:=lq
          refine ifT (by rw [lq0]; rfl) ⟨_,S8.rall out 11 rfl,?_⟩
          have S9:St (Bx t4 (dcells did0 snil snil snil)::Im 1 sq []::BkW b m::L) h8:=by
            have S10:=S8.fz 1 sq
            have S11:=BkW.inn (b:=b) (m:=m) (L:=Bx t4 (dcells did0 snil snil snil)::Im 1 sq []::L) (show St (BkA b r mq mm ad bv m (Bx t4 (dcells did0 snil snil snil)::Im 1 sq []::L)) h8 from (show St (Im 1 sq []::_) h8 from S10).to)
            exact S11.to
          rw [lq0]
          refine ret11 (cs:=dcells did0 snil sq snil) S9 rfl rfl (dcells_one _ _ _ _) fun h9 S10=>hK2 snil sq snil h9 ?_
          exact (show St (OpsA snil []::Im 1 sq []::Im 1 snil []::BkW b m::L) h9 from (OpsA.nil (S10.tl.imNil 1 0)).to)
        · rw [if_neg hz] at hK2
          have hpos:=List.length_pos_iff.2 hz
          have nx:=ok.nx
          have w0:IntKind.u64.wrap (m.next+1)=m.next+1:=by rw [IntKind.wrap_u64]; omega
          refine ifF (by simp; omega) ⟨b,rfl,_,S8.rc b 3 rfl,b,rfl,_,S8.rc b 3 rfl,b,rfl,S8.put1 b 3 (v:=.int .u64 (IntKind.u64.wrap (m.next+1))) (by simp) rfl fun h9 S9=>?_⟩
          simp only [List.set_cons_succ,List.set_cons_zero] at S9
          have w1:IntKind.u64.wrap (m.next+1)=m.next+1:=by rw [IntKind.wrap_u64]; omega
          rw [w1] at S9
          have rd2:rdC h9 (da.add 12) 0 5=some (mcell d.msg mb):=(((S9.get (Bx da)).mem.1.drop 12).take 5).rd rfl
          refine ⟨_,rd2,stillB (m:=d.msg) (mb:=mb) S9 (by omega) fun s h10 S10=>⟨_,rfl,_,bld_msg _ _,bdQ S10 (mecell (msg0,0,0) snil) fun S11=>⟨rfl,S11.wrA (ws:=mecell (d.msg,0,0) s) rfl (by simp [Lift.one]) fun h11 S12=>⟨_,_,_,S12.rc out 3 rfl,qs.length+1,?_⟩⟩⟩⟩
          have S13:=S12.fz 1 sq
          have eb:d.msg.body=d.msg.body:=rfl
          refine puts_loop (b:=b) (r:=r) (mq:=mq) (mm:=mm) (bv:=bv) (L:=L) (d:=d) (mb:=mb) (hs:=hs) (s:=s) (sv:=(p,l,c)) (sq:=sq) (v:=v) (t4:=t4) (t15:=top h10) (out:=out) (da:=da) (id:=m.next) (qs:=qs) (D:={ did0 with n:=(sq.2.1:Nat),qs:=qs }) (m0:=m) (by omega) ⟨by omega,by omega⟩ ⟨rfl,rfl⟩ (fresh_M ok) (by rw [lq]; exact hK2) (qs.length+1) 0 ((m,[]),0,0) snil ad h11 (by omega) (Nat.zero_le _) (by rw [List.drop_zero]) rfl hpres (by simp) (by simp) ?_
          exact (show St (Bx out (dcells { did0 with n:=(sq.2.1:Nat),qs:=qs } snil sq snil)::OpsA snil []::Im 1 sq (qs.map Lift.encS)::Im 1 (p,l,c) (u8s v)::Im 1 s (u8s d.msg.body)::Bx (top h10) (mecell (d.msg,0,0) s)::Bx t4 (dcells did0 snil snil snil)::Bx da (ddcells d mb hs)::Bx b [.pointer (some r),.map (some mq),.map (some mm),.int .u64 (m.next+1)]::RtW r m.X m.B::Mq Lift.encS vvQ mq (hQ ad m.Q)::Mq kkU vvM mm (hM bv m.M)::LnsW ad m.Q::BdsW bv m.M::L) h11 from (OpsA.nil S13).to)
    repeat' first
      | with_reducible refine And.intro (xO_len _) ?_
      | with_reducible refine And.intro ?_ ?_
      | with_reducible refine ⟨_,S3.rc b 0 rfl,?_⟩
      | with_reducible refine ⟨_,S3.rc da 2 rfl,?_⟩
      | with_reducible refine bdQ S3 zx fun S3=>?_
      | with_reducible refine getX (r:=r) (n:=d.exch) (X:=m.X) S3 fun _ S3=>⟨_,_,rfl,?_⟩
      | with_reducible refine wrX S3 fun _ S3=>fin S3.to
end
end Go.Proofs.YtofpbcakppjgcaaGreatDoor.Pr
end
section
set_option linter.unusedVariables false
set_option linter.unusedSimpArgs false
namespace Go.Proofs.YtofpbcakppjgcaaGreatDoor.Pr
open Go Go.Lift Go.Proofs
section
variable {K:KT}{L R:List Asr}{h:Heap}{b:Addr}{m:BkM}{N:Nat}
abbrev RetK (K:KT) (t:Addr):KT:=fun v h7=>∃ cs8,v=.agg (List.toArray cs8)∧cs8.length=11∧∃ h9,stC h7 t 0 cs8=some h9∧∃ cs10,rdC h9 t 0 11=some cs10∧K (.agg (List.toArray cs10)) h9
theorem retDid {t da:Addr}{z c:List Value}{m':BkM}{D:DidM} (hz:z.length=11) (hK:DidK K (BkW b m'::L) D):DidK (RetK K t) (BkW b m'::Bx t z::Bx da c::L) D:=by
  intro so sq mb h' S
  refine ⟨_,rfl,ret11 (cs:=dcells D so sq mb) (show St (Bx t z::OpsA so D.ops::Im 1 sq (D.qs.map Lift.encS)::Im 1 mb (u8s D.msg.body)::BkW b m'::L) h' from S.to) hz rfl (dcells_one _ _ _ _) fun h2 S2=>hK so sq mb h2 S2.tl⟩
theorem do_in {d:DeedM}{mb hs:SV} (S:St (BkW b m::L) h) {G:Heap→Heap→Prop}
    (hF:∀ h1 h2,St (BkW b m::Bx (top h1) (dcells did0 snil snil snil)::Bx (top h) (ddcells d mb hs)::L) h2→G h1 h2) :
    bd (al h (List.toArray (ddcells d mb hs)) T.api_Deed) fun h1=>bd (al h1 #[.int .i64 0,.int .i64 0,.slice none 0 0,.slice none 0 0,.string (mkS []),.string (mkS []),.string (mkS []),.int .i64 0,.slice none 0 0,.int .u64 0,.bool false] T.api_Did) fun h2=>G h1 h2:=by
  refine bdQ S (ddcells d mb hs) fun S1=>?_
  rw [eh0]
  refine bdQ S1 (dcells did0 snil snil snil) fun S2=>hF _ _ ?_
  exact S2.to
theorem doQueue {d:DeedM}{mb hs:SV} (hk:d.kind=3) (ok:BkOk N m) (hN:N≤100000) (S:St (BkW b m::L) h) (hK:DidK K (BkW b (declQP m d).1::L) (declQP m d).2):CallsH P F.qbz [.pointer (some b),.agg (List.toArray (ddcells d mb hs))] K h:=by
  refine qbz.ok ?_
  unfold qbz.p0
  refine do_in S fun h1 h2 S2=>?_
  generalize top h1=t4 at *
  generalize top h=da at *
  refine ⟨_,S2.rc da 0 rfl,?_⟩
  refine (bdE _ _).2 (ifF (by rw [hk]; rfl) ((bdE _ _).2 (ifF (by rw [hk]; rfl) ((bdE _ _).2 (ifT (by rw [hk]; rfl) ?_)))))
  exact ⟨_,S2.rall da 18 rfl,declQB (K:=RetK K t4) ok hN S2 (retDid rfl hK)⟩
theorem doPurge {d:DeedM}{mb hs:SV} (hk:d.kind=5) (ok:BkOk N m) (hN:N≤100000) (S:St (BkW b m::L) h) (hK:DidK K (BkW b (purgedP m d).1::L) (purgedP m d).2):CallsH P F.qbz [.pointer (some b),.agg (List.toArray (ddcells d mb hs))] K h:=by
  refine qbz.ok ?_
  unfold qbz.p0
  refine do_in S fun h1 h2 S2=>?_
  generalize top h1=t4 at *
  generalize top h=da at *
  refine ⟨_,S2.rc da 0 rfl,?_⟩
  refine (bdE _ _).2 (ifF (by rw [hk]; rfl) ((bdE _ _).2 (ifF (by rw [hk]; rfl) ((bdE _ _).2 (ifF (by rw [hk]; rfl) ((bdE _ _).2 (ifF (by rw [hk]; rfl) ((bdE _ _).2 (ifT (by rw [hk]; rfl) ?_)))))))))
  exact ⟨_,S2.rall da 18 rfl,purgedB (K:=RetK K t4) ok hN S2 (retDid rfl hK)⟩
theorem doPut {h0:Heap} (g:G h0) (mo:Old h0∈L) {d:DeedM}{mb hs:SV} (hk:d.kind=8) (ok:BkOk N m) (hN:N≤100000) (hb:m.B.length≤blim) (S:St (BkW b m::L) h) (hmb:Im 1 mb (u8s d.msg.body)∈L) (hK:DidK K (BkW b (putD m d).1::L) (putD m d).2):CallsH P F.qbz [.pointer (some b),.agg (List.toArray (ddcells d mb hs))] K h:=by
  refine qbz.ok ?_
  unfold qbz.p0
  refine do_in S fun h1 h2 S2=>?_
  generalize top h1=t4 at *
  generalize top h=da at *
  refine ⟨_,S2.rc da 0 rfl,?_⟩
  refine (bdE _ _).2 (ifF (by rw [hk]; rfl) ((bdE _ _).2 (ifF (by rw [hk]; rfl) ((bdE _ _).2 (ifF (by rw [hk]; rfl) ((bdE _ _).2 (ifF (by rw [hk]; rfl) ((bdE _ _).2 (ifF (by rw [hk]; rfl) ((bdE _ _).2 (ifF (by rw [hk]; rfl) ((bdE _ _).2 (ifF (by rw [hk]; rfl) ((bdE _ _).2 (ifT (by rw [hk]; rfl) ?_)))))))))))))))
  haveI:In (fun z=>Im 1 mb (u8s z)) (Bx t4 (dcells did0 snil snil snil)::Bx da (ddcells d mb hs)::L) d.msg.body:=⟨List.mem_cons_of_mem _ (List.mem_cons_of_mem _ hmb)⟩
  exact ⟨_,S2.rall da 18 rfl,putInB (K:=RetK K t4) g (List.mem_cons_of_mem _ (List.mem_cons_of_mem _ mo)) ok hN hb S2 (retDid rfl hK)⟩
theorem doTake {d:DeedM}{mb hs:SV} (hk:d.kind=9) (ok:BkOk N m) (hN:N≤100000) (S:St (BkW b m::L) h) (hK:DidK K (BkW b (takeD m d).1::L) (takeD m d).2):CallsH P F.qbz [.pointer (some b),.agg (List.toArray (ddcells d mb hs))] K h:=by
  refine qbz.ok ?_
  unfold qbz.p0
  refine do_in S fun h1 h2 S2=>?_
  generalize top h1=t4 at *
  generalize top h=da at *
  refine ⟨_,S2.rc da 0 rfl,?_⟩
  refine (bdE _ _).2 (ifF (by rw [hk]; rfl) ((bdE _ _).2 (ifF (by rw [hk]; rfl) ((bdE _ _).2 (ifF (by rw [hk]; rfl) ((bdE _ _).2 (ifF (by rw [hk]; rfl) ((bdE _ _).2 (ifF (by rw [hk]; rfl) ((bdE _ _).2 (ifF (by rw [hk]; rfl) ((bdE _ _).2 (ifF (by rw [hk]; rfl) ((bdE _ _).2 (ifF (by rw [hk]; rfl) ((bdE _ _).2 (ifT (by rw [hk]; rfl) ?_)))))))))))))))))
  exact ⟨_,S2.rall da 18 rfl,takeB (K:=RetK K t4) ok hN S2 (retDid rfl hK)⟩
theorem doSettle {d:DeedM}{mb hs:SV} (hk:d.kind=10∨d.kind=11) (ok:BkOk N m) (hN:N≤100000) (S:St (BkW b m::L) h) (hh:Im 2 hs (d.holds.flatMap hc)∈L) (hl:d.holds.length≤100000) (hK:DidK K (BkW b (settleD m d (d.kind==11)).1::L) (settleD m d (d.kind==11)).2):CallsH P F.qbz [.pointer (some b),.agg (List.toArray (ddcells d mb hs))] K h:=by
  refine qbz.ok ?_
  unfold qbz.p0
  refine do_in S fun h1 h2 S2=>?_
  generalize top h1=t4 at *
  generalize top h=da at *
  refine ⟨_,S2.rc da 0 rfl,?_⟩
  have n:∀ j:Int,1≤j→j≤9→(d.kind==j)=false:=fun j h1 h2=>by simp; omega
  have go:qbz.j1 K (some b) da t4 true h2:=by
    unfold qbz.j1
    haveI:In (Im 2 hs) (Bx t4 (dcells did0 snil snil snil)::Bx da (ddcells d mb hs)::L) (d.holds.flatMap hc):=⟨List.mem_cons_of_mem _ (List.mem_cons_of_mem _ hh)⟩
    refine ifT rfl ⟨_,_,_,S2.rc da 17 rfl,_,S2.rc da 0 rfl,settleB (K:=RetK K t4) (back:=d.kind==11) ok hN hl S2 (retDid rfl hK)⟩
  refine (bdE _ _).2 (ifF (n 1 (by decide) (by decide)) ((bdE _ _).2 (ifF (n 2 (by decide) (by decide)) ((bdE _ _).2 (ifF (n 3 (by decide) (by decide)) ((bdE _ _).2 (ifF (n 4 (by decide) (by decide)) ((bdE _ _).2 (ifF (n 5 (by decide) (by decide)) ((bdE _ _).2 (ifF (n 6 (by decide) (by decide)) ((bdE _ _).2 (ifF (n 7 (by decide) (by decide)) ((bdE _ _).2 (ifF (n 8 (by decide) (by decide)) ((bdE _ _).2 (ifF (n 9 (by decide) (by decide)) ((bdE _ _).2 ?_))))))))))))))))))
  rcases hk with e | e
  · refine ifT (by rw [e]; rfl) ?_
    rw [show (d.kind==10)=true by rw [e]; rfl]
    exact go
  · refine ifF (by rw [e]; rfl) ((bdE _ _).2 ?_)
    rw [show (d.kind==11)=true by rw [e]; rfl]
    exact go
end
end Go.Proofs.YtofpbcakppjgcaaGreatDoor.Pr
end
section
set_option linter.unusedVariables false
set_option linter.unusedSimpArgs false
namespace Go.Proofs.YtofpbcakppjgcaaGreatDoor.Pr
open Go Go.Lift Go.Proofs
abbrev OV:=OpP × SV
theorem cmpB_lt:∀ a b:List UInt8,decide (Lib.compareBytes a b<0)=Op.bytesLess a b
  | [],[]=>rfl
  | [],_::_=>rfl
  | _::_,[]=>rfl
  | x::a,y::b=>by
    unfold Lib.compareBytes Op.bytesLess
    by_cases h1:x<y
    · simp [h1]
    · by_cases h2:y<x
      · have:x≠y:=by intro e; subst e; exact h1 h2
        simp [h1,h2,this]
      · have:x=y:=by
          have a1:=UInt8.not_lt.1 h1
          have a2:=UInt8.not_lt.1 h2
          exact UInt8.le_antisymm a2 a1
        subst this
        simp [h1,cmpB_lt a b]
namespace sort_op
def o:Lift.Ord OV:=⟨fun x y=>sort_string.o.lt x.1.key y.1.key,fun x y h=>sort_string.o.asym _ _ h,fun x y z h k=>sort_string.o.trans _ _ _ h k⟩
abbrev fc:Value:=.func (.func F.qda) #[] #[]
end sort_op
section
variable {K:KT}{L:List Asr}{h:Heap}
theorem compareS {a b:List UInt8} (hK:K (.int .i64 (Lib.compareBytes a b)) h):CallsH P F.strings_Compare [.string (mkS a),.string (mkS b)] K h:=by
  refine ⟨by kernel_rfl,fun w hw=>?_⟩
  subst hw
  refine (Tryz.strings_Compare (mkS a) (mkS b) w).mono fun e w' ⟨h1,h2⟩=>?_
  subst h2
  exact ⟨_,h1,hK,Rest.refl _⟩
theorem sort_op.orderV (S:St L h) {x y:OV} (hK:∀ m h',decide (m<0)=sort_op.o.lt x y→St L h'→K (.int .i64 m) h'):CallV P sort_op.fc [.agg (List.toArray (oc x)),.agg (List.toArray (oc y))] K h:=by
  refine callV_fn (qda.ok ?_)
  unfold qda.p0
  refine bdQ S (oc x) fun S1=>bdQ S1 (oc y) fun S2=>⟨_,S2.rc (top h) 0 rfl,_,S2.c 0 rfl,compareS ⟨_,rfl,?_⟩⟩
  exact hK _ _ (cmpB_lt _ _) S2.tl.tl
end
end Go.Proofs.YtofpbcakppjgcaaGreatDoor.Pr
end
section
set_option linter.unusedVariables false
set_option linter.unusedSimpArgs false
set_option linter.unusedSectionVars false
namespace Go.Proofs.YtofpbcakppjgcaaGreatDoor.Pr.sort_op
open Go Go.Lift Go.Proofs
abbrev rw (n:Nat) (f:Nat→OV):List Value:=(rowF n f).flatMap oc
theorem rw_swap {n i j:Nat} (f:Nat→OV) (hi:i<n) (hj:j<n):((rowF n f).set i (f j)).set j (f i)=rowF n (swp f i j):=by
  apply List.ext_getElem?
  intro k
  by_cases hk:k<n
  · rw [rowF_get _ hk,List.getElem?_set,List.getElem?_set,List.length_set,rowF_len,rowF_get _ hk]
    by_cases h1:j=k
    · subst h1
      rw [if_pos rfl,if_pos hj]
      by_cases h2:j=i
      · subst h2; simp [swp]
      · simp [swp,h2]
    · rw [if_neg h1]
      by_cases h2:i=k
      · subst h2
        rw [if_pos rfl,if_pos hi]
        simp [swp]
      · rw [if_neg h2]
        have h3:¬ k=i:=fun e=>h2 e.symm
        have h4:¬ k=j:=fun e=>h1 e.symm
        simp [swp,h3,h4]
  · rw [List.getElem?_eq_none (by simp [rowF_len]; omega),List.getElem?_eq_none (by rw [rowF_len]; omega)]
section
variable {K:KT}{L:List Asr}{h:Heap}
theorem rlen {s:SV}{n:Nat}{f:Nat→OV} (S:St (Ow 3 s (rw n f)::L) h):s.2.1=n:=by
  have:=S.ow.1
  rw [flat_length oc3,rowF_len] at this
  omega
theorem less2T {s:SV}{n:Nat}{f:Nat→OV}{x y:Int}{i j:Nat}{R:Int→Heap→Prop} (S:St (Ow 3 s (rw n f)::L) h) (hx:x=i) (hy:y=j) (hi:i<n) (hj:j<n) (hR:∀ m h',decide (m<0)=o.lt (f i) (f j)→St (Ow 3 s (rw n f)::L) h'→R m h') :
    ∃ p,s.1=some p∧(0:Int)≤x∧x<((s.2.1:Nat):Int)∧∃ q,s.1=some q∧(0:Int)≤y∧y<((s.2.1:Nat):Int)∧∃ cs,rdC h (Addr.add p (Int.toNat x * 3)) 0 3=some cs∧∃ cs',rdC h (Addr.add q (Int.toNat y * 3)) 0 3=some cs' ∧
      CallV P fc [.agg (List.toArray cs),.agg (List.toArray cs')] (fun v h'=>∃ n,v=.int .i64 n∧R n h') h:=by
  obtain ⟨p,ep,p0,p1,cs,rd,e⟩:=ixS oc3 (by decide) S.sl hx (rowF_get f hi) (R:=fun cs=>cs=oc (f i)) rfl
  obtain ⟨q,eq,q0,q1,cs',rd',e'⟩:=ixS oc3 (by decide) S.sl hy (rowF_get f hj) (R:=fun cs=>cs=oc (f j)) rfl
  subst e
  subst e'
  exact ⟨p,ep,p0,p1,q,eq,q0,q1,_,rd,_,rd',orderV S fun m h' em S'=>⟨_,rfl,hR m h' em S'⟩⟩
theorem swapT {s:SV}{n:Nat}{f:Nat→OV}{x y:Int}{i j:Nat}{Q:Heap→Prop} (S:St (Ow 3 s (rw n f)::L) h) (hx:x=i) (hy:y=j) (hi:i<n) (hj:j<n) (hQ:∀ h',St (Ow 3 s (rw n (swp f j i))::L) h'→Q h') :
    ∃ p,s.1=some p∧(0:Int)≤x∧x<((s.2.1:Nat):Int)∧∃ q,s.1=some q∧(0:Int)≤y∧y<((s.2.1:Nat):Int)∧∃ cs,rdC h (Addr.add p (Int.toNat x * 3)) 0 3=some cs∧∃ cs',rdC h (Addr.add q (Int.toNat y * 3)) 0 3=some cs' ∧
      ∃ p',s.1=some p'∧(0:Int)≤y∧y<((s.2.1:Nat):Int)∧cs.length=3∧∃ h1,stC h (Addr.add p' (Int.toNat y * 3)) 0 cs=some h1∧∃ q',s.1=some q'∧(0:Int)≤x∧x<((s.2.1:Nat):Int)∧cs'.length=3∧∃ h2,stC h1 (Addr.add q' (Int.toNat x * 3)) 0 cs'=some h2∧Q h2:=by
  obtain ⟨p,ep,p0,p1,cs,rd,e⟩:=ixS oc3 (by decide) S.sl hx (rowF_get f hi) (R:=fun cs=>cs=oc (f i)) rfl
  obtain ⟨q,eq,q0,q1,cs',rd',e'⟩:=ixS oc3 (by decide) S.sl hy (rowF_get f hj) (R:=fun cs=>cs=oc (f j)) rfl
  subst e
  subst e'
  obtain ⟨a,a1,a2,a3,h1,a4,S1⟩:=S.owSetN oc3 oc_one (by decide) (i:=y) (n:=j) hy (by rw [rowF_len]; exact hj) (f i)
  obtain ⟨b,b1,b2,b3,h2,b4,S2⟩:=S1.owSetN oc3 oc_one (by decide) (i:=x) (n:=i) hx (by rw [List.length_set,rowF_len]; exact hi) (f j)
  rw [rw_swap f hj hi] at S2
  exact ⟨p,ep,p0,p1,q,eq,q0,q1,_,rd,_,rd',a,a1,a2,a3,rfl,h1,a4,b,b1,b2,b3,rfl,h2,b4,hQ h2 S2⟩
theorem ins_inner {s:SV}{n a b i:Nat}{f0:Nat→OV}{R1:OA→Nat→Nat→Int→Int→Value→Int→Heap→Prop} (hn:n<4611686018427387904) (hab:a<i∧i<b∧b≤n)
    (hQ:∀ h' f,Pm a b f0 f→o.Srt a (i+1) f→St (Ow 3 s (rw n f)::L) h'→qan.j2 K R1 s.1 s.2.1 s.2.2 a b fc i h') :
    ∀ (fuel j:Nat) (f:Nat→OV) (h:Heap),j<fuel→a≤j→j≤i→Pm a b f0 f→InsI o a i j f→St (Ow 3 s (rw n f)::L) h→qan.L3 K R1 fuel s.1 s.2.1 s.2.2 a b fc i j h
  | 0,_,_,_,hf,_,_,_,_,_=>absurd hf (Nat.not_lt_zero _)
  | fuel+1,j,f,h,hf,ha,hj,pm,iv,S=>by
    unfold qan.L3
    have stop:∀ h,St (Ow 3 s (rw n f)::L) h→(a<j→o.lt (f j) (f (j - 1))=false)→qan.j4 K R1 (qan.L3 K R1 fuel) s.1 s.2.1 s.2.2 a b fc i j false h:=by
      intro h S e
      unfold qan.j4
      exact ifF rfl (hQ h f pm (iv.done hj e) S)
    by_cases hgt:j > a
    · have ew:IntKind.i64.wrap ((j:Int) - 1)=((j - 1:Nat):Int):=by rw [wrapI (by omega) (by omega)]; omega
      rw [ew]
      refine ifT (by simp; omega) (less2T (i:=j) (j:=j - 1) S rfl rfl (by omega) (by omega) ?_)
      intro nn h hnn S
      rw [hnn]
      cases hl:o.lt (f j) (f (j - 1)) with
      | false=>exact stop h S (fun _=>hl)
      | true =>
        unfold qan.j4
        rw [ew]
        refine ifT rfl (swapT (i:=j - 1) (j:=j) S rfl rfl (by omega) (by omega) fun h2 S2=>?_)
        simp only [bd]
        exact ins_inner hn hab hQ fuel (j - 1) _ h2 (by omega) (by omega) (by omega) (pm.trans (swp_pm f ⟨by omega,by omega⟩ ⟨by omega,by omega⟩)) (iv.swap hgt hj hl) S2
    · exact ifF (by simp; omega) (stop h S (fun e=>absurd e hgt))
theorem ins_outer {s:SV}{n a b:Nat}{f0:Nat→OV} (hn:n<4611686018427387904) (hb:b≤n) (hK:∀ h' f,Pm a b f0 f→o.Srt a b f→St (Ow 3 s (rw n f)::L) h'→K (.tuple #[]) h') :
    ∀ (fuel i:Nat) (f:Nat→OV) (h:Heap),b - i<fuel→a<i→Pm a b f0 f→o.Srt a i f→St (Ow 3 s (rw n f)::L) h→qan.L1 K fuel s.1 s.2.1 s.2.2 a b fc i h
  | 0,_,_,_,hf,_,_,_,_=>absurd hf (Nat.not_lt_zero _)
  | fuel+1,i,f,h,hf,ha,pm,sr,S=>by
    unfold qan.L1
    by_cases hlt:i<b
    · refine ifT (by simp; omega) ⟨i+1,ins_inner hn ⟨ha,hlt,hb⟩ (fun h' g pg sg Sg=>?_) _ i f h (Nat.lt_succ_self _) (by omega) (Nat.le_refl _) pm (InsI.start sr) S⟩
      unfold qan.j2
      simp only [bd]
      rw [show IntKind.i64.wrap ((i:Int)+1)=((i+1:Nat):Int) by rw [wrapI (by omega) (by omega)]; omega]
      exact ins_outer hn hb hK fuel (i+1) g h' (by omega) (by omega) pg sg Sg
    · exact ifF (by simp; omega) (hK h f pm (fun p q hp hpq hq=>sr p q hp hpq (by omega)) S)
theorem insS {s:SV}{n a b:Nat}{f:Nat→OV} (S:St (Ow 3 s (rw n f)::L) h) (hn:n<4611686018427387904) (ha:a≤n) (hb:b≤n) (hK:∀ h' g,Pm a b f g→o.Srt a b g→St (Ow 3 s (rw n g)::L) h'→K (.tuple #[]) h') :
    CallsH P F.qan [.slice s.1 s.2.1 s.2.2,.int .i64 a,.int .i64 b,fc] K h:=by
  refine qan.ok ?_
  unfold qan.p0
  simp only [bd]
  rw [show IntKind.i64.wrap ((a:Int)+1)=((a+1:Nat):Int) by rw [wrapI (by omega) (by omega)]; omega]
  exact ⟨_,ins_outer hn hb hK _ (a+1) f h (Nat.lt_succ_self _) (by omega) (Pm.refl _ _ _) (fun p q hp hpq hq=>by omega) S⟩
theorem pdq_small {s:SV}{n:Nat}{f:Nat→OV}{x:Int} (hn:n≤12) (S:St (Ow 3 s (rw n f)::L) h) (hK:∀ h' g,Pm 0 n f g→o.Srt 0 n g→St (Ow 3 s (rw n g)::L) h'→K (.tuple #[]) h') :
    CallsH P F.qaq [.slice s.1 s.2.1 s.2.2,.int .i64 0,.int .i64 (n:Int),.int .i64 x,fc] K h:=by
  refine qaq.ok ?_
  unfold qaq.p0
  refine ⟨1,?_⟩
  unfold qaq.L1
  simp only [bd]
  rw [show IntKind.i64.wrap ((n:Int) - 0)=(n:Int) by rw [wrapI (by omega) (by omega)]; omega]
  exact ifT (by simp; omega) (insS (a:=0) (b:=n) S (by omega) (Nat.zero_le _) (Nat.le_refl _) fun h' g pg sg Sg=>⟨rfl,hK h' g pg sg Sg⟩)
theorem sortS {s:SV}{xs:List OV} (S:St (Ow 3 s (xs.flatMap oc)::L) h) (hn:xs.length≤12) (d:OV)
    (hK:∀ h' (ys:List OV),ys.Perm xs→ys.Pairwise o.le→St (Ow 3 s (ys.flatMap oc)::L) h'→K (.tuple #[]) h') :
    CallsH P F.qcd [.slice s.1 s.2.1 s.2.2,fc] K h:=by
  refine qcd.ok ?_
  unfold qcd.p0
  have S0:St (Ow 3 s (rw xs.length fun i=>xs.getD i d)::L) h:=by unfold rw; rw [rowF_of]; exact S
  have el:s.2.1=xs.length:=rlen S0
  obtain ⟨p,l,c⟩:=s
  subst el
  simp only [bd]
  rw [show IntKind.u64.wrap ((xs.length:Nat):Int)=((xs.length:Nat):Int) by rw [IntKind.wrap_u64]; omega]
  refine lenS (by omega) ⟨_,rfl,?_⟩
  refine pdq_small (s:=(p,xs.length,c)) hn S0 fun h' g pg sg Sg=>⟨rfl,?_⟩
  refine hK h' (rowF xs.length g) ?_ (o.srt_row sg) Sg
  have:=pg.perm
  rwa [rowF_of] at this
end
end Go.Proofs.YtofpbcakppjgcaaGreatDoor.Pr.sort_op
end
section
set_option linter.unusedVariables false
set_option linter.unusedSimpArgs false
namespace Go.Proofs.YtofpbcakppjgcaaGreatDoor.Pr
open Go Go.Lift Go.Proofs
theorem sl_u64:SlT P T.sl_uint64 T.uint64 1 8 [.int .u64 0]:=slT (by kernel_rfl) (by kernel_rfl)
theorem u_slu:P.underlying T.sl_uint64=some (.slice T.uint64):=by kernel_rfl
theorem sl_queue:SlT P T.sl_api_Queue T.api_Queue 2 24 [.string (mkS []),.bool false]:=slT (by kernel_rfl) (by kernel_rfl)
theorem u_slqu:P.underlying T.sl_api_Queue=some (.slice T.api_Queue):=by kernel_rfl
abbrev qc (x:Oct × Bool):List Value:=[.string (mkS x.1),.bool x.2]
theorem qc2:∀ x:Oct × Bool,(qc x).length=2:=fun _=>rfl
theorem qc_one (x:Oct × Bool):∀ w∈qc x,Lift.one w=true:=by simp [Lift.one]
theorem bld_qu':(fun a b:Value=>Instr.fill (Lift.places P (P.underlying T.sl_api_Queue)) (zrow (zcl P T.api_Queue).toList 1 (P.cellsOf T.api_Queue)).toArray [(0,.agg (List.toArray [a,b]))])=fun a b=>some (List.toArray [a,b]):=by kernel_rfl
theorem bld_qu (x:Oct × Bool):bldS P T.sl_api_Queue T.api_Queue 1 [(0,.agg (List.toArray (qc x)))] (qc x):=congrFun (congrFun bld_qu' _) _
theorem part_perm (W:LRow):(heldL W++(readyL W).map Prod.fst).Perm (W.map Prod.fst):=by
  have e:(readyL W).map Prod.fst=(W.filter fun x=>!x.2.2).map Prod.fst:=by
    simp only [readyL,List.map_map]; rfl
  rw [e]
  have:=(List.filter_append_perm (fun x:Int × (Bool × Bool)=>x.2.2) W).map Prod.fst
  rwa [List.map_append] at this
section
variable {K:KT}{L R:List Asr}{h:Heap}{b r:Addr}{mq mm:Nat}{ad:Oct→Addr}{bv:Int→SV}{m:BkM}{N:Nat}
theorem appU {p:OA}{l c:Nat}{ys:List Value} (S:St (Ow 1 (p,l,c) ys::L) h) (x:Int) (hl:l≤1000000) {K:KT} (hK:∀ p' c' h',St (Ow 1 (p',l+1,c') (ys++[kkU x])::L) h'→K (.slice p' (l+1) c') h') :
    bd (al h (List.toArray [.int .u64 x]) T.uint64) fun h1=>SemH P (Builtin.append_ #[T.sl_uint64,T.sl_uint64] T.sl_uint64 #[.slice p l c,.slice (some (top h)) 1 1]) K h1:=by
  refine bdQ S [.int .u64 x] fun S1=>?_
  have sa:Sl 1 (al h (List.toArray [.int .u64 x]) T.uint64) (some (top h)) 1 [kkU x]:=⟨rfl,S1.mem.1⟩
  exact S1.p1.app (s:=(p,l,c)) sl_u64 rfl u_slu (fun k e=>by cases e) (Src.slice (n:=1) (c:=1) sa (by simp [Lift.one])) (by show (l+1) * 8≤_; omega) (by show l+1≤_; omega) fun p' c' h' S'=>hK p' c' h' S'.d1
theorem ids_loop {l:Bool}{a:Addr}{W:LRow}{t:SV} (hl:W.length≤100000) (hu:Up W) (hK:∀ s h',St (Ow 1 s ((W.map Prod.fst).map kkU)::LnW a W::L) h'→K (.slice s.1 s.2.1 s.2.2) h') :
    ∀ (fuel i:Nat) (o:SV) (h:Heap),(readyL W).length - i<fuel→i≤(readyL W).length→St (Ow 1 o ((heldL W++((readyL W).take i).map Prod.fst).map kkU)::Ow 2 t ((readyL W).flatMap ecell)::LnW a W::L) h→qbu.L2 K fuel o.1 o.2.1 o.2.2 t.1 t.2.1 t.2.2 ((t.2.1:Nat):Int) (i:Int) h
  | 0,_,_,_,hf,_,_=>absurd hf (Nat.not_lt_zero _)
  | fuel+1,i,o,h,hf,hi,S=>by
    have lt:t.2.1=(readyL W).length:=by have:=(S.ows 2 t).1; rw [flat_length ecell2] at this; omega
    have lr:(heldL W).length+(readyL W).length=W.length:=by
      have:=(part_perm W).length_eq; simpa using this
    have lo:o.2.1=(heldL W).length+i:=by
      have h1:((heldL W++((readyL W).take i).map Prod.fst).map kkU).length=o.2.1 * 1:=S.ow.1
      have gen:∀ (H:List Int) (R:List (Int × Bool)),((H++(R.take i).map Prod.fst).map kkU).length=H.length+min i R.length:=fun H R=>by simp
      rw [gen,Nat.min_eq_left hi] at h1
      omega
    unfold qbu.L2
    by_cases hlt:i<(readyL W).length
    · have hx:(readyL W)[i]? = some (readyL W)[i]:=List.getElem?_eq_getElem hlt
      have et:(readyL W).take (i+1)=(readyL W).take i++[(readyL W)[i]]:=by rw [List.take_add_one,hx]; rfl
      refine ifT (by simp only [decide_eq_true_eq]; omega) (ixS ecell2 (by decide) (S.osl 2 t) rfl hx ?_)
      refine bdQ S [.int .u64 0,.bool false] fun S1=>⟨rfl,S1.wrA (ws:=ecell (readyL W)[i]) rfl (ecell_one _) fun h2 S2=>⟨_,S2.c 0 rfl,?_⟩⟩
      have S3:St (Ow 1 o ((heldL W++((readyL W).take i).map Prod.fst).map kkU)::Ow 2 t ((readyL W).flatMap ecell)::LnW a W::L) h2:=S2.tl
      refine appU (p:=o.1) (l:=o.2.1) (c:=o.2.2) S3 (readyL W)[i].1 (by omega) fun p' c' h5 S5=>⟨_,_,_,rfl,?_⟩
      rw [show IntKind.i64.wrap ((i:Int)+1)=((i+1:Nat):Int) by rw [IntKind.wrap_i64]; omega]
      refine ids_loop (l:=l) hl hu hK fuel (i+1) (p',o.2.1+1,c') h5 (by omega) (by omega) ?_
      rw [et]
      simpa [List.map_append,List.append_assoc] using S5
    · refine ifF (by simp only [decide_eq_false_iff_not]; omega) ?_
      rw [List.take_of_length_le (by omega)] at S
      unfold qbu.j1
      refine sort_uint64.sortS (xs:=heldL W++(readyL W).map Prod.fst) (show St (Ow 1 o ((heldL W++(readyL W).map Prod.fst).map fun x=>.int .u64 x)::Ow 2 t ((readyL W).flatMap ecell)::LnW a W::L) h from S) (by have gen:∀ (H:List Int) (R:List (Int × Bool)),(H++R.map Prod.fst).length=H.length+R.length:=(fun H R=>by simp); rw [gen]; omega) 0 fun h2 ys p q S2=>⟨rfl,hK o h2 ?_⟩
      have e:ys=W.map Prod.fst:=perm_le (p.trans (part_perm W)) (q.imp fun h=>by simpa [Lift.Ord.le,sort_uint64.o] using h) hu.keys_le
      rw [e] at S2
      exact (show St (Ow 1 o ((W.map Prod.fst).map kkU)::Ow 2 t ((readyL W).flatMap ecell)::LnW a W::L) h2 from S2).to
theorem idsB {l:Bool}{a:Addr}{W:LRow} (hl:W.length≤100000) (hu:Up W) (S:St (LnW a W::L) h) (hK:∀ s h',St (Ow 1 s ((W.map Prod.fst).map kkU)::LnW a W::L) h'→K (.slice s.1 s.2.1 s.2.2) h'):CallsH P F.qbu [.agg (List.toArray [.bool l,.pointer (some a)])] K h:=by
  refine qbu.ok ?_
  unfold qbu.p0
  refine bdQ S [.bool l,.pointer (some a)] fun S1=>⟨some a,S1.c 1 rfl,?_⟩
  refine heldLineW S1.p1 (by omega) fun h2 o S2=>⟨_,_,_,rfl,some a,S2.rc (top h) 1 rfl,?_⟩
  have S3:St (LnW a W::Ow 1 o ((heldL W).map kkU)::L) h2:=S2.to
  refine readyLineW S3 (by omega) fun h3 t S4=>⟨_,_,_,rfl,(readyL W).length+1,ids_loop (l:=l) hl hu hK _ 0 o h3 (by omega) (Nat.zero_le _) ?_⟩
  rw [List.take_zero,List.map_nil,List.append_nil]
  exact S4.to
theorem queues_loop {ns:List Oct}{t:SV} (hns:ns.length≤100000) (hK:∀ o h',St (Ow 2 o ((ns.map fun n=>(n,qlasts m n)).flatMap qc)::BkA b r mq mm ad bv m L) h'→K (.slice o.1 o.2.1 o.2.2) h') :
    ∀ (fuel i:Nat) (o:SV) (h:Heap),ns.length - i<fuel→i≤ns.length→St (Ow 2 o (((ns.take i).map fun n=>(n,qlasts m n)).flatMap qc)::Ow 1 t (ns.map Lift.encS)::BkA b r mq mm ad bv m L) h→qby.L1 K fuel (some b) o.1 o.2.1 o.2.2 t.1 t.2.1 t.2.2 ((t.2.1:Nat):Int) (i:Int) h
  | 0,_,_,_,hf,_,_=>absurd hf (Nat.not_lt_zero _)
  | fuel+1,i,o,h,hf,hi,S=>by
    have lt:t.2.1=ns.length:=by have:=(S.ows 1 t).1; simp at this; omega
    unfold qby.L1
    by_cases hlt:i<ns.length
    · have hx:ns[i]? = some ns[i]:=List.getElem?_eq_getElem hlt
      have et:ns.take (i+1)=ns.take i++[ns[i]]:=by rw [List.take_add_one,hx]; rfl
      have lo:o.2.1=i:=by
        have:=S.ow.1
        rw [flat_length qc2] at this
        simp only [List.length_map,List.length_take] at this
        omega
      refine ifT (by simp; omega) (ixV (S.osl 1 t) (n:=i) rfl (w:=.string (mkS ns[i])) (by simp [hlt]) fun p ep cp=>?_)
      simp only [rdT cp]
      refine ⟨b,rfl,_,S.rc b 1 rfl,lookQf (n:=ns[i]) (Q:=m.Q) (ad:=ad) (mq:=mq) S ⟨_,rfl,qlasts m ns[i],?_,_,bld_qu (ns[i],qlasts m ns[i]),bdQ S (qc (ns[i],qlasts m ns[i])) fun S1=>?_⟩⟩
      · unfold qlasts; cases get? m.Q ns[i] <;> rfl
      · have sa:Sl 2 (al h (List.toArray (qc (ns[i],qlasts m ns[i]))) T.api_Queue) (some (top h)) 1 (qc (ns[i],qlasts m ns[i])):=⟨rfl,S1.mem.1⟩
        refine S1.p1.app (s:=o) sl_queue rfl u_slqu (fun k e=>by cases e) (Src.slice (n:=1) (c:=1) sa (qc_one _)) (by omega) (by omega) fun p' c' h' S2=>⟨_,_,_,rfl,?_⟩
        rw [show IntKind.i64.wrap ((i:Int)+1)=((i+1:Nat):Int) by rw [IntKind.wrap_i64]; omega]
        refine queues_loop hns hK fuel (i+1) (p',o.2.1+1,c') h' (by omega) (by omega) ?_
        rw [et,List.map_append,List.flatMap_append,List.map_cons,List.map_nil,List.flatMap_cons,List.flatMap_nil,List.append_nil]
        exact S2.d1
    · refine ifF (by simp; omega) (hK o h ?_)
      rw [List.take_of_length_le (by omega)] at S
      exact S.d1
theorem queuesB (ok:BkOk N m) (hN:N≤100000) (S:St (BkW b m::L) h) (hK:∀ (ns:List Oct) (o:SV) h',ns.Perm (m.Q.map Prod.fst)→ns.Pairwise sort_string.o.le→St (Ow 2 o ((ns.map fun n=>(n,qlasts m n)).flatMap qc)::BkW b m::L) h'→K (.slice o.1 o.2.1 o.2.2) h'):CallsH P F.qby [.pointer (some b)] K h:=by
  obtain ⟨r,mq,mm,ad,bv,S0⟩:=BkW.out S
  refine qby.ok ?_
  unfold qby.p0
  have ek:(hQ ad m.Q).map Prod.fst=m.Q.map Prod.fst:=by simp only [mapk,List.map_map]; rfl
  refine ⟨b,rfl,_,S0.rc b 1 rfl,keys.sortedKeys_map_string_brok_queue_string_brok_queue (S0.get (Mq Lift.encS vvQ mq)) (fun k hk=>?_) (by have:=ok.sz.2.2.1; simp only [mapk,List.length_map]; omega) [] fun h2 t ns hp hs S2=>⟨_,_,_,rfl,ns.length+1,?_⟩⟩
  · rw [ek] at hk
    obtain ⟨x,hx,rfl⟩:=List.mem_map.1 hk
    have:=(ok.qn _ _ (get?_some_of_mem ok.nq hx)).1
    unfold namedP' at this
    exact keyOf_s (by kernel_rfl) (by have:=(of_decide_eq_true this).2; unfold maxLen; omega)
  · rw [ek] at hp
    have ln:ns.length≤N:=by have:=hp.length_eq; have:=ok.sz.2.2.1; simp at *; omega
    refine queues_loop (ns:=ns) (b:=b) (L:=L) (m:=m) (r:=r) (mq:=mq) (mm:=mm) (ad:=ad) (bv:=bv) (by omega) (fun o h3 S3=>hK ns o h3 hp hs ?_) _ 0 snil h2 (by omega) (Nat.zero_le _) ?_
    · exact St.p1 (BkW.inn (b:=b) (m:=m) (L:=Ow 2 o ((ns.map fun n=>(n,qlasts m n)).flatMap qc)::L) (show St (BkA b r mq mm ad bv m (Ow 2 o ((ns.map fun n=>(n,qlasts m n)).flatMap qc)::L)) h3 from S3.to))
    · exact (show St (Ow 2 snil []::Ow 1 t (ns.map Lift.encS)::BkA b r mq mm ad bv m L) h2 from (S2.owNil 2).to)
theorem keepq_loop {n:Oct}{t:SV}{ids:List Int}{base:List OpP} (hid:∀ i∈ids,0≤i) (hl:base.length+ids.length≤1000000) (hK:∀ s h',St (OpsA s (base++(ids.filter fun id=>decide ((msgAt m id).mode=2)).map fun id=>putO (kEntry n id) [])::BkA b r mq mm ad bv m L) h'→K (.slice s.1 s.2.1 s.2.2) h') :
    ∀ (fuel i:Nat) (s:SV) (h:Heap),ids.length - i<fuel→i≤ids.length→St (OpsA s (base++((ids.take i).filter fun id=>decide ((msgAt m id).mode=2)).map fun id=>putO (kEntry n id) [])::Ow 1 t (ids.map kkU)::BkA b r mq mm ad bv m L) h →
      qbi.L1 K fuel (some b) n s.1 s.2.1 s.2.2 t.1 t.2.1 t.2.2 ((t.2.1:Nat):Int) (i:Int) h
  | 0,_,_,_,hf,_,_=>absurd hf (Nat.not_lt_zero _)
  | fuel+1,i,s,h,hf,hi,S=>by
    have lt:t.2.1=ids.length:=by have:=(S.ows 1 t).1; simp at this; omega
    unfold qbi.L1
    by_cases hlt:i<ids.length
    · have hx:ids[i]? = some ids[i]:=List.getElem?_eq_getElem hlt
      have et:ids.take (i+1)=ids.take i++[ids[i]]:=by rw [List.take_add_one,hx]; rfl
      have next:∀ {s':SV}{h':Heap},St (OpsA s' (base++((ids.take (i+1)).filter fun id=>decide ((msgAt m id).mode=2)).map fun id=>putO (kEntry n id) [])::Ow 1 t (ids.map kkU)::BkA b r mq mm ad bv m L) h'→qbi.j2 K (qbi.L1 K fuel) (some b) n s'.1 s'.2.1 s'.2.2 t.1 t.2.1 t.2.2 ((t.2.1:Nat):Int) (i:Int) h':=by
        intro s' h' S'
        unfold qbi.j2
        rw [show IntKind.i64.wrap ((i:Int)+1)=((i+1:Nat):Int) by rw [wrapI (by omega) (by omega)]; omega]
        exact keepq_loop hid hl hK fuel (i+1) s' h' (by omega) (by omega) S'
      refine ifT (by simp; omega) (ixV (S.osl 1 t) (n:=i) rfl (w:=.int .u64 ids[i]) (by simp [hlt]) fun p ep cp=>⟨_,cp,b,rfl,_,S.rc b 2 rfl,?_⟩)
      refine lookMf (i:=ids[i]) (M:=m.M) (bv:=bv) (mm:=mm) S ⟨_,rfl,(msgAt m ids[i]).mode,?_,?_⟩
      · unfold msgAt; cases get? m.M ids[i] <;> rfl
      by_cases hm:(msgAt m ids[i]).mode=2
      · have ef:((ids.take (i+1)).filter fun id=>decide ((msgAt m id).mode=2))=((ids.take i).filter fun id=>decide ((msgAt m id).mode=2))++[ids[i]]:=by
          rw [et,List.filter_append,List.filter_cons_of_pos (by simpa using hm),List.filter_nil]
        have ll:((ids.take i).filter fun id=>decide ((msgAt m id).mode=2)).length≤i:=Nat.le_trans (List.length_filter_le _ _) (by rw [List.length_take]; omega)
        refine ifT (by simpa using hm) (putB (k:=kEntry n ids[i]) (v:=snil) (val:=[]) S (hid _ (List.getElem_mem hlt)) fun h2 S2=>⟨_,rfl,_,bld_op _,?_⟩)
        refine appOp (s:=s) (v:=snil) (x:=putO (kEntry n ids[i]) []) (S2.imNil 1 0) (by simp only [List.length_append,List.length_map]; omega) fun p l c h3 S3=>⟨_,_,_,rfl,next (s':=(p,l,c)) ?_⟩
        rw [ef,List.map_append,← List.append_assoc]
        exact S3
      · have ef:((ids.take (i+1)).filter fun id=>decide ((msgAt m id).mode=2))=((ids.take i).filter fun id=>decide ((msgAt m id).mode=2)):=by
          rw [et,List.filter_append,List.filter_cons_of_neg (by simpa using hm),List.filter_nil,List.append_nil]
        refine ifF (by simpa using hm) (next (s':=s) ?_)
        rw [ef]; exact S
    · refine ifF (by simp; omega) (hK s h ?_)
      rw [List.take_of_length_le (by omega)] at S
      exact S.d1
theorem keepQueueB {n:Oct}{q:Bool × LRow} (ok:BkOk N m) (hN:N≤100000) (hq:get? m.Q n=some q) (S:St (BkW b m::L) h) (hK:∀ s h',St (OpsA s (keepQueueL m (n,q))::BkW b m::L) h'→K (.slice s.1 s.2.1 s.2.2) h'):CallsH P F.qbi [.pointer (some b),.string (mkS n)] K h:=by
  obtain ⟨r,mq,mm,ad,bv,S0⟩:=BkW.out S
  refine qbi.ok ?_
  unfold qbi.p0
  refine putB (k:=kQueue n) (v:=snil) (val:=[]) S0 (Int.le_refl 0) fun h1 S1=>⟨_,rfl,_,bld_op _,litOp (v:=snil) (x:=putO (kQueue n) []) (S1.imNil 1 0) fun h2 S2=>(bdE _ _).2 ((bdE _ _).2 ((bdE _ _).2 ⟨b,rfl,_,S2.rc b 1 rfl,?_⟩))⟩
  refine lookQf (n:=n) (Q:=m.Q) (ad:=ad) (mq:=mq) S2 ⟨_,rfl,?_⟩
  rw [hq]
  have rl:=ok.rl n q hq
  have S3:=LnsW.take hq (S2.get (LnsW ad))
  refine idsB (l:=q.1) (by omega) (ok.up n q hq) S3 fun t h3 S4=>⟨_,_,_,rfl,(q.2.map Prod.fst).length+1,?_⟩
  have S5:St (LnW (ad n) q.2::LnsW ad (del m.Q n)::Ow 1 t ((q.2.map Prod.fst).map kkU)::OpsA (some (top h1),1,1) [putO (kQueue n) []]::Bx b [.pointer (some r),.map (some mq),.map (some mm),.int .u64 m.next]::RtW r m.X m.B::Mq Lift.encS vvQ mq (hQ ad m.Q)::Mq kkU vvM mm (hM bv m.M)::BdsW bv m.M::L) h3:=S4.to
  have S6:=LnsW.back hq S5
  refine keepq_loop (b:=b) (L:=L) (n:=n) (m:=m) (r:=r) (mq:=mq) (mm:=mm) (ad:=ad) (bv:=bv) (base:=[putO (kQueue n) []]) (ids:=q.2.map Prod.fst) (fun i hi=>?_) (by simp; omega) (fun s h4 S7=>hK s h4 ?_) _ 0 (some (top h1),1,1) h3 (by omega) (Nat.zero_le _) ?_
  · obtain ⟨x,hx⟩:=Option.isSome_iff_exists.1 (ok.ids n q i hq (get?_isSome_mem.2 hi))
    have:=(ok.cnt i x hx).2.2.2.2.1
    omega
  · exact St.p1 (BkW.inn (b:=b) (m:=m) (L:=OpsA s (keepQueueL m (n,q))::L) (show St (BkA b r mq mm ad bv m (OpsA s (keepQueueL m (n,q))::L)) h4 from (show St (OpsA s (keepQueueL m (n,q))::BkA b r mq mm ad bv m L) h4 from S7).to))
  · show St (OpsA (some (top h1),1,1) [putO (kQueue n) []]::Ow 1 t ((q.2.map Prod.fst).map kkU)::BkA b r mq mm ad bv m L) h3
    exact S6.to
end
end Go.Proofs.YtofpbcakppjgcaaGreatDoor.Pr
end
section
set_option linter.unusedVariables false
set_option linter.unusedSimpArgs false
namespace Go.Proofs.YtofpbcakppjgcaaGreatDoor.Pr
open Go Go.Lift Go.Proofs
section
variable {K:KT}{L R:List Asr}{h:Heap}{b r:Addr}{mq mm:Nat}{ad:Oct→Addr}{bv:Int→SV}{m:BkM}{N:Nat}
theorem bindKeyB {x:BN} (S:St L h) (hK:∀ h',St L h'→K (.agg (List.toArray (kcells (kBind x)))) h'):CallsH P F.qdu [.agg (List.toArray (bc x))] K h:=by
  refine qdu.ok ?_
  unfold qdu.p0
  refine bdQ S (bc x) fun S1=>bdQ S1 [.int .i64 0,.string (mkS []),.string (mkS []),.string (mkS []),.int .u64 0] fun S2=>⟨_,S2.rc (top h) 0 rfl,_,S2.rc (top h) 1 rfl,_,S2.rc (top h) 2 rfl,rfl,S2.wrA (ws:=kcells (kBind x)) rfl (by simp [Lift.one]) fun h2 S3=>⟨_,S3.mem.1.rd rfl,hK h2 S3.tl.tl⟩⟩
abbrev xlast (x:XN):Bool:=x.2.2 && decide (x.1≠[]) && !ownP x.1
abbrev xput (x:XN):OpP:=putO (kExch x.1) [UInt8.ofNat x.2.1.toNat]
abbrev blast (m:BkM) (x:BN):Bool:=xlasts m x.1 && qlasts m x.2.1
theorem keepr_binds {t:SV}{base:List OpP} (ok:BkOk N m) (hl:base.length+m.B.length≤1000000) (hK:∀ s h',St (OpsA s (base++(m.B.filter (blast m)).map fun b=>putO (kBind b) [])::BkA b r mq mm ad bv m L) h'→K (.slice s.1 s.2.1 s.2.2) h') :
    ∀ (fuel i:Nat) (s:SV) (h:Heap),m.B.length - i<fuel→i≤m.B.length→St (OpsA s (base++((m.B.take i).filter (blast m)).map fun b=>putO (kBind b) [])::Ow 3 t (m.B.flatMap bc)::BkA b r mq mm ad bv m L) h →
      qah.L2 K fuel (some b) s.1 s.2.1 s.2.2 t.1 t.2.1 t.2.2 ((t.2.1:Nat):Int) (i:Int) h
  | 0,_,_,_,hf,_,_=>absurd hf (Nat.not_lt_zero _)
  | fuel+1,i,s,h,hf,hi,S=>by
    have lt:t.2.1=m.B.length:=by have:=(S.ows 3 t).1; rw [flat_length bc3] at this; omega
    unfold qah.L2
    by_cases hlt:i<m.B.length
    · have hx:m.B[i]? = some m.B[i]:=List.getElem?_eq_getElem hlt
      have et:m.B.take (i+1)=m.B.take i++[m.B[i]]:=by rw [List.take_add_one,hx]; rfl
      refine ifT (by simp; omega) (ixS bc3 (by decide) (S.osl 3 t) rfl hx ?_)
      refine bdQ S zb fun S1=>⟨rfl,S1.wrA (ws:=bc m.B[i]) rfl (bc_one _) fun h2 S2=>⟨b,rfl,?_⟩⟩
      generalize top h=y at *
      have ll:((m.B.take i).filter (blast m)).length≤i:=Nat.le_trans (List.length_filter_le _ _) (by rw [List.length_take]; omega)
      have next:∀ {s':SV}{h':Heap},St (OpsA s' (base++((m.B.take (i+1)).filter (blast m)).map fun b=>putO (kBind b) [])::Ow 3 t (m.B.flatMap bc)::BkA b r mq mm ad bv m L) h'→qah.j3 K (qah.L2 K fuel) (some b) s'.1 s'.2.1 s'.2.2 t.1 t.2.1 t.2.2 ((t.2.1:Nat):Int) (i:Int) h':=by
        intro s' h' S'
        unfold qah.j3
        rw [show IntKind.i64.wrap ((i:Int)+1)=((i+1:Nat):Int) by rw [wrapI (by omega) (by omega)]; omega]
        exact keepr_binds ok hl hK fuel (i+1) s' h' (by omega) (by omega) S'
      generalize hxi:m.B[i]=x at *
      have j5:∀ {c:Bool}{h':Heap},c=blast m x→St (Bx y (bc x)::OpsA s (base++((m.B.take i).filter (blast m)).map fun b=>putO (kBind b) [])::Ow 3 t (m.B.flatMap bc)::BkA b r mq mm ad bv m L) h'→qah.j5 K (qah.L2 K fuel) (some b) s.1 s.2.1 s.2.2 y t.1 t.2.1 t.2.2 ((t.2.1:Nat):Int) (i:Int) c h':=by
        intro c h' ec S'
        unfold qah.j5
        cases hc:blast m x with
        | false =>
          refine ifF (by rw [ec,hc]) (next (s':=s) ?_)
          rw [et,List.filter_append,List.filter_cons_of_neg (by rw [hc]; decide),List.filter_nil,List.append_nil]
          exact S'.tl
        | true =>
          refine ifT (by rw [ec,hc]) ⟨_,S'.rall y 3 rfl,bindKeyB S' fun h3 S3=>⟨_,rfl,putB (k:=kBind x) (v:=snil) (val:=[]) S3 (Int.le_refl 0) fun h4 S4=>⟨_,rfl,_,bld_op _,?_⟩⟩⟩
          refine appOp (s:=s) (v:=snil) (x:=putO (kBind x) []) ((S4.tl).imNil 1 0) (by simp only [List.length_append,List.length_map]; omega) fun p l c h3 S5=>⟨_,_,_,rfl,next (s':=(p,l,c)) ?_⟩
          rw [et,List.filter_append,List.filter_cons_of_pos (by rw [hc]),List.filter_nil,List.map_append,← List.append_assoc]
          exact S5
      have fin:∀ {t10:Addr}{h':Heap},St (Bx t10 (xO (xget m.X x.1))::Bx y (bc x)::OpsA s (base++((m.B.take i).filter (blast m)).map fun b=>putO (kBind b) [])::Ow 3 t (m.B.flatMap bc)::BkA b r mq mm ad bv m L) h'→qah.j4 K (qah.L2 K fuel) (some b) s.1 s.2.1 s.2.2 y t10 t.1 t.2.1 t.2.2 ((t.2.1:Nat):Int) (i:Int) h':=by
        intro t10 h' S'
        unfold qah.j4
        have e2:(xO (xget m.X x.1))[2]? = some (.bool (xlasts m x.1)):=by unfold xlasts; cases xget m.X x.1 <;> rfl
        refine ⟨_,S'.rc t10 2 e2,?_⟩
        cases hl2:xlasts m x.1 with
        | false=>exact ifF rfl (j5 (by simp [blast,hl2]) S'.tl)
        | true =>
          refine ifT rfl ⟨b,rfl,_,S'.rc b 1 rfl,_,S'.rc y 1 rfl,lookQf (n:=x.2.1) (Q:=m.Q) (ad:=ad) (mq:=mq) S' ⟨_,rfl,qlasts m x.2.1,?_,j5 (by simp [blast,hl2]) S'.tl⟩⟩
          unfold qlasts; cases get? m.Q x.2.1 <;> rfl
      repeat' first
        | with_reducible refine And.intro (xO_len _) ?_
        | with_reducible refine And.intro ?_ ?_
        | with_reducible refine ⟨_,S2.rc b 0 rfl,?_⟩
        | with_reducible refine ⟨_,S2.rc y 0 rfl,?_⟩
        | with_reducible refine bdQ S2 zx fun S2=>?_
        | with_reducible refine getX (r:=r) (n:=x.1) (X:=m.X) S2 fun _ S2=>⟨_,_,rfl,?_⟩
        | with_reducible refine wrX S2 fun _ S2=>fin S2.to
    · refine ifF (by simp; omega) (hK s h ?_)
      rw [List.take_of_length_le (by omega)] at S
      exact S.d1
theorem keepr_names {t:SV} (ok:BkOk N m) (hN:N≤100000) (hb:m.B.length≤blim) (hK:∀ s h',St (OpsA s (keepRoutesL m)::BkA b r mq mm ad bv m L) h'→K (.slice s.1 s.2.1 s.2.2) h') :
    ∀ (fuel i:Nat) (s:SV) (h:Heap),m.X.length - i<fuel→i≤m.X.length→St (OpsA s (((m.X.take i).filter xlast).map xput)::Ow 1 t ((m.X.map Prod.fst).map Lift.encS)::BkA b r mq mm ad bv m L) h →
      qah.L6 K fuel (some b) s.1 s.2.1 s.2.2 t.1 t.2.1 t.2.2 ((t.2.1:Nat):Int) (i:Int) h
  | 0,_,_,_,hf,_,_=>absurd hf (Nat.not_lt_zero _)
  | fuel+1,i,s,h,hf,hi,S=>by
    have lt:t.2.1=m.X.length:=by have:=(S.ows 1 t).1; simp at this; omega
    have sz:=ok.sz
    unfold qah.L6
    by_cases hlt:i<m.X.length
    · have hx:m.X[i]? = some m.X[i]:=List.getElem?_eq_getElem hlt
      have et:m.X.take (i+1)=m.X.take i++[m.X[i]]:=by rw [List.take_add_one,hx]; rfl
      have hxx:=ok.xn _ (List.getElem_mem hlt)
      have hg:xget m.X m.X[i].1=some m.X[i]:=(xget_iff ok.ux).2 ⟨List.getElem_mem hlt,rfl⟩
      have ll:((m.X.take i).filter xlast).length≤i:=Nat.le_trans (List.length_filter_le _ _) (by rw [List.length_take]; omega)
      refine ifT (by simp; omega) (ixV (S.osl 1 t) (n:=i) rfl (w:=.string (mkS m.X[i].1)) (by simp [hlt]) fun p ep cp=>?_)
      simp only [rdT cp]
      have next:∀ {s':SV}{h':Heap},St (OpsA s' (((m.X.take (i+1)).filter xlast).map xput)::Ow 1 t ((m.X.map Prod.fst).map Lift.encS)::BkA b r mq mm ad bv m L) h'→qah.j7 K (qah.L6 K fuel) (some b) s'.1 s'.2.1 s'.2.2 t.1 t.2.1 t.2.2 ((t.2.1:Nat):Int) (i:Int) h':=by
        intro s' h' S'
        unfold qah.j7
        rw [show IntKind.i64.wrap ((i:Int)+1)=((i+1:Nat):Int) by rw [wrapI (by omega) (by omega)]; omega]
        exact keepr_names ok hN hb hK fuel (i+1) s' h' (by omega) (by omega) S'
      generalize hxi:m.X[i]=x at *
      refine ⟨b,rfl,some r,S.rc b 0 rfl,getX (r:=r) (n:=x.1) (X:=m.X) S fun h2 S2=>⟨_,_,rfl,bdQ S2 zx fun S3=>⟨xO_len _,wrX (t:=top h2) S3 fun h3 S4=>?_⟩⟩⟩
      generalize top h2=t6 at *
      rw [hg] at S4
      have S4:St (Bx t6 (xc x)::OpsA s (((m.X.take i).filter xlast).map xput)::Ow 1 t ((m.X.map Prod.fst).map Lift.encS)::BkA b r mq mm ad bv m L) h3:=(show St (Bx t6 (xc x)::_) h3 from S4).to
      have j8:∀ {c:Bool},c=xlast x→qah.j8 K (qah.L6 K fuel) (some b) s.1 s.2.1 s.2.2 x.1 t6 t.1 t.2.1 t.2.2 ((t.2.1:Nat):Int) (i:Int) c h3:=by
        intro c ec
        unfold qah.j8
        cases hc:xlast x with
        | false =>
          refine ifF (by rw [ec,hc]) (next (s':=s) ?_)
          rw [et,List.filter_append,List.filter_cons_of_neg (by rw [hc]; decide),List.filter_nil,List.append_nil]
          exact S4.tl
        | true =>
          refine ifT (by rw [ec,hc]) ⟨_,S4.rc t6 1 rfl,?_⟩
          have ek:IntKind.u8.wrap x.2.1=(((UInt8.ofNat x.2.1.toNat).toNat:Nat):Int):=by rw [IntKind.wrap_u8',UInt8.toNat_ofNat']; omega
          rw [ek]
          refine bdQ S4.tl [.int .u8 (((UInt8.ofNat x.2.1.toNat).toNat:Nat):Int)] fun S5=>?_
          have S6:St (Im 1 (some (top h3),1,1) (u8s [UInt8.ofNat x.2.1.toNat])::_) _:=(S5.bxOw (sz:=1) (n:=1) rfl).im
          refine putB (k:=kExch x.1) (v:=(some (top h3),1,1)) (val:=[UInt8.ofNat x.2.1.toNat]) S6 (Int.le_refl 0) fun h4 S7=>⟨_,rfl,_,bld_op _,?_⟩
          refine appOp (s:=s) (v:=(some (top h3),1,1)) (x:=xput x) S7 (by simp only [List.length_map]; omega) fun p l c h5 S8=>⟨_,_,_,rfl,next (s':=(p,l,c)) ?_⟩
          rw [et,List.filter_append,List.filter_cons_of_pos (by rw [hc]),List.filter_nil,List.map_append]
          exact S8
      refine ⟨_,S4.c 2 rfl,?_⟩
      cases h22:x.2.2 with
      | false=>exact ifF rfl (j8 (by simp [xlast,h22]))
      | true =>
        refine ifT rfl ?_
        by_cases hn:x.1=[]
        · exact ifF (by simp [hn]) (j8 (by simp [xlast,hn]))
        · refine ifT (by simpa using hn) (ownB ⟨_,rfl,j8 (by simp [xlast,h22,hn])⟩)
    · refine ifF (by simp; omega) ?_
      rw [List.take_of_length_le (by omega)] at S
      unfold qah.j1
      refine ⟨b,rfl,some r,S.rc b 0 rfl,bindsRt (S.get (RtW r m.X)) hb fun h2 t2 S2=>⟨_,_,_,rfl,m.B.length+1,?_⟩⟩
      have lx:((m.X.filter xlast).map xput).length≤m.X.length:=by rw [List.length_map]; exact List.length_filter_le _ _
      refine keepr_binds (b:=b) (r:=r) (mq:=mq) (mm:=mm) (ad:=ad) (bv:=bv) (L:=L) (t:=t2) (base:=(m.X.filter xlast).map xput) ok (by omega) hK _ 0 s h2 (by omega) (Nat.zero_le _) ?_
      show St (OpsA s ((m.X.filter xlast).map xput++[])::Ow 3 t2 (m.B.flatMap bc)::BkA b r mq mm ad bv m L) h2
      rw [List.append_nil]
      exact S2.to
theorem keepRoutesB (ok:BkOk N m) (hN:N≤100000) (hb:m.B.length≤blim) (S:St (BkW b m::L) h) (hK:∀ s h',St (OpsA s (keepRoutesL m)::BkW b m::L) h'→K (.slice s.1 s.2.1 s.2.2) h'):CallsH P F.qah [.pointer (some b)] K h:=by
  obtain ⟨r,mq,mm,ad,bv,S0⟩:=BkW.out S
  refine qah.ok ?_
  unfold qah.p0
  have sz:=ok.sz
  refine ⟨b,rfl,some r,S0.rc b 0 rfl,namesRt (S0.get (RtW r m.X)) (by omega) fun h2 t S2=>⟨_,_,_,rfl,m.X.length+1,?_⟩⟩
  refine keepr_names (b:=b) (r:=r) (mq:=mq) (mm:=mm) (ad:=ad) (bv:=bv) (L:=L) (t:=t) ok hN hb (fun s h3 S3=>hK s h3 ?_) _ 0 snil h2 (by omega) (Nat.zero_le _) ?_
  · exact St.p1 (BkW.inn (b:=b) (m:=m) (L:=OpsA s (keepRoutesL m)::L) (show St (BkA b r mq mm ad bv m (OpsA s (keepRoutesL m)::L)) h3 from S3.to))
  · exact (show St (OpsA snil []::Ow 1 t ((m.X.map Prod.fst).map Lift.encS)::BkA b r mq mm ad bv m L) h2 from (OpsA.nil S2).to)
end
end Go.Proofs.YtofpbcakppjgcaaGreatDoor.Pr
end
section
set_option linter.unusedVariables false
set_option linter.unusedSimpArgs false
namespace Go.Proofs.YtofpbcakppjgcaaGreatDoor.Pr
open Go Go.Lift Go.Proofs
theorem zip_fs {α β:Type}:∀ l:List (α × β),(l.map Prod.fst).zip (l.map Prod.snd)=l
  | []=>rfl
  | x::t=>by simp [zip_fs t]
theorem fst_zip {α β:Type}:∀ {a:List α}{b:List β},b.length=a.length→(a.zip b).map Prod.fst=a
  | [],_,_=>by simp
  | x::a,[],h=>by simp at h
  | x::a,y::b,h=>by simp [fst_zip (a:=a) (b:=b) (by simpa using h)]
def msgsOf (l:List (Int × (MsgE × SV))):List OpP:=(l.filter fun x=>decide (0<x.2.1.2.2)).map fun x=>putO (kMsg x.1) ((msgO x.2.1.1).getD [])
theorem msgsOf_hM (bv:Int→SV) (m:BkM):msgsOf (hM bv m.M)=keepMsgsL m:=by
  unfold msgsOf keepMsgsL hM mapk
  rw [List.filter_map,List.map_map]
  rfl
theorem msgsOf_mid (l1 l2:List (Int × (MsgE × SV))) (x:Int × (MsgE × SV)):(msgsOf (l1++x::l2)).Perm ((if 0<x.2.1.2.2 then [putO (kMsg x.1) ((msgO x.2.1.1).getD [])] else [])++msgsOf (l1++l2)):=by
  unfold msgsOf
  have h:((l1++x::l2).filter fun x=>decide (0<x.2.1.2.2)).Perm ((if 0<x.2.1.2.2 then [x] else [])++(l1++l2).filter fun x=>decide (0<x.2.1.2.2)):=by
    have:=(List.perm_middle (a:=x) (l₁:=l1) (l₂:=l2)).filter fun x=>decide (0<x.2.1.2.2)
    refine this.trans ?_
    by_cases hp:0<x.2.1.2.2
    · rw [List.filter_cons_of_pos (by simpa using hp),if_pos hp]; exact List.Perm.refl _
    · rw [List.filter_cons_of_neg (by simpa using hp),if_neg hp]; exact List.Perm.refl _
  refine (h.map _).trans ?_
  rw [List.map_append]
  split <;> exact List.Perm.refl _
def queuesOf (m:BkM) (ns:List Oct):List OpP:=ns.flatMap fun n=>match get? m.Q n with
  | some q=>if q.1 then keepQueueL m (n,q) else []
  | none=>[]
theorem queuesOf_perm {N:Nat}{m:BkM} (ok:BkOk N m) {ns:List Oct} (hp:ns.Perm (m.Q.map Prod.fst)):(queuesOf m ns).Perm ((m.Q.filter fun q=>q.2.1).flatMap (keepQueueL m)):=by
  have h1:(queuesOf m ns).Perm (queuesOf m (m.Q.map Prod.fst)):=hp.flatMap_right _
  refine h1.trans (List.Perm.of_eq ?_)
  unfold queuesOf
  rw [List.flatMap_map]
  have:∀ Q:QR,(∀ x∈Q,get? m.Q x.1=some x.2)→(Q.flatMap fun x=>match get? m.Q x.1 with
      | some q=>if q.1 then keepQueueL m (x.1,q) else []
      | none=>[])=(Q.filter fun q=>q.2.1).flatMap (keepQueueL m):=by
    intro Q hQ
    induction Q with
    | nil=>rfl
    | cons x t ih =>
      rw [List.flatMap_cons,ih fun y hy=>hQ y (List.mem_cons_of_mem _ hy),hQ x (List.mem_cons_self ..)]
      simp only
      cases hx:x.2.1 with
      | true=>rw [List.filter_cons_of_pos (by simpa using hx),List.flatMap_cons]; simp
      | false=>rw [List.filter_cons_of_neg (by simp [hx])]; simp
  exact this m.Q fun x hx=>get?_some_of_mem ok.nq hx
theorem keepQueueL_len {N:Nat}{m:BkM} (ok:BkOk N m) {n:Oct}{q:Bool × LRow} (hq:get? m.Q n=some q):(keepQueueL m (n,q)).length≤N+1:=by
  unfold keepQueueL
  have:=ok.rl n q hq
  have h2:((q.2.map Prod.fst).filter fun id=>decide ((msgAt m id).mode=2)).length≤q.2.length:=by
    refine Nat.le_trans (List.length_filter_le _ _) ?_; simp
  simp only [List.length_cons,List.length_map]
  omega
theorem queuesOf_len {N:Nat}{m:BkM} (ok:BkOk N m) (ns:List Oct):(queuesOf m ns).length≤ns.length * (N+1):=by
  induction ns with
  | nil=>exact Nat.zero_le _
  | cons n t ih =>
    have e:queuesOf m (n::t)=(match get? m.Q n with
      | some q=>if q.1 then keepQueueL m (n,q) else []
      | none=>[])++queuesOf m t:=rfl
    rw [e,List.length_append,List.length_cons,Nat.succ_mul]
    have:(match get? m.Q n with
      | some q=>if q.1 then keepQueueL m (n,q) else []
      | none=>[]).length≤N+1:=by
      cases hq:get? m.Q n with
      | none=>exact Nat.zero_le _
      | some q =>
        simp only
        split
        · exact keepQueueL_len ok hq
        · exact Nat.zero_le _
    omega
section
variable {K:KT}{L R:List Asr}{h:Heap}{b r:Addr}{mq mm:Nat}{ad:Oct→Addr}{bv:Int→SV}{m:BkM}{N:Nat}
theorem sortOps {s:SV}{a:List OpP} (hl:a.length≤klim) (S:St (OpsA s a::L) h) (hK:∀ (l:List OpP) h',l.Perm a→l.Pairwise (fun x y=>sort_string.o.le x.key y.key)→St (OpsA s l::L) h'→K (.tuple #[]) h'):CallsH P F.qcd [.slice s.1 s.2.1 s.2.2,sort_op.fc] K h:=by
  obtain ⟨vs,e,S1⟩:=OpsA.out S
  refine sort_op.sortS (xs:=a.zip vs) S1 (by rw [List.length_zip]; simp only [klim] at hl; omega) (⟨[],false,[]⟩,snil) fun h2 ys p q S2=>hK (ys.map Prod.fst) h2 ?_ ?_ ?_
  · have:=p.map Prod.fst
    rwa [fst_zip e] at this
  · rw [List.pairwise_map]
    exact q
  · refine OpsA.inn (ys.map Prod.snd) (by simp) ?_
    rw [zip_fs]
    exact (St.starsPerm ((p.symm).map fun x:OpP × SV=>Im 1 x.2 (u8s x.1.val)) S2.p1).p1
theorem keep_j2 {s:SV}{a:List OpP} (hs:(keepL m).length≤klim) (hp:a.Perm (keepL m)) (S:St (OpsA s a::BkW b m::L) h) (hK:∀ (l:List OpP) s h',l.Perm (keepL m)→l.Pairwise (fun x y=>sort_string.o.le x.key y.key)→St (OpsA s l::BkW b m::L) h'→K (.slice s.1 s.2.1 s.2.2) h'):qba.j2 K s.1 s.2.1 s.2.2 h:=by
  unfold qba.j2
  exact sortOps (by rw [hp.length_eq]; exact hs) S fun l h2 p q S2=>⟨rfl,hK l s h2 (p.trans hp) q S2⟩
theorem keep_msgs {rr:Nat}{base:List OpP} (ok:BkOk N m) (hs:(keepL m).length≤klim) (hl:base.length+m.M.length≤1000000) (hp:(base++keepMsgsL m).Perm (keepL m)) (hK:∀ (l:List OpP) s h',l.Perm (keepL m)→l.Pairwise (fun x y=>sort_string.o.le x.key y.key)→St (OpsA s l::BkW b m::L) h'→K (.slice s.1 s.2.1 s.2.2) h') :
    ∀ (fuel:Nat) (left:List (Int × (MsgE × SV))) (cur:Option (Int × (MsgE × SV))) (acc:List OpP) (s:SV) (h:Heap),left.length<fuel→acc.length+left.length≤m.M.length→(acc++msgsOf left).Perm (keepMsgsL m) →
      St (ItA kkU vvM mm rr (hM bv m.M) left cur::OpsA s (base++acc)::Bx b [.pointer (some r),.map (some mq),.map (some mm),.int .u64 m.next]::RtW r m.X m.B::Mq Lift.encS vvQ mq (hQ ad m.Q)::LnsW ad m.Q::BdsW bv m.M::L) h →
      qba.L3 K fuel s.1 s.2.1 s.2.2 ⟨rr,0,none⟩ h
  | 0,_,_,_,_,_,hf,_,_,_=>absurd hf (Nat.not_lt_zero _)
  | fuel+1,left,cur,acc,s,h,hf,hlen,hacc,S=>by
    unfold qba.L3
    refine St.next S (fun hl0=>?_) (fun h1 l1 k v l2 hl0 hm S1=>?_)
    · subst hl0
      refine ⟨fun e=>(by cases e),fun _=>?_⟩
      have S2:=S.itEnd
      have S3:=BkW.inn (b:=b) (m:=m) (L:=OpsA s (base++acc)::L) (show St (BkA b r mq mm ad bv m (OpsA s (base++acc)::L)) h from S2.to)
      have hacc2:acc.Perm (keepMsgsL m):=by simpa [msgsOf] using hacc
      exact keep_j2 hs ((hacc2.append_left base).trans hp) S3.p1 hK
    · refine ⟨fun _=>St.entry S1 ?_,fun e=>(by cases e)⟩
      obtain ⟨x,hx,ev⟩:∃ x,get? m.M k=some x∧v=(x,bv k):=by
        obtain ⟨y,hy,e⟩:=List.mem_map.1 hm
        simp only [Prod.mk.injEq] at e
        obtain ⟨rfl,rfl⟩:=e
        exact ⟨y.2,get?_some_of_mem ok.nm hy,rfl⟩
      subst ev
      have cx:=ok.cnt k x hx
      refine ⟨_,rfl,_,rfl,bdQ S1 (mecell (msg0,0,0) snil) fun S2=>⟨rfl,S2.wrA (ws:=mecell x (bv k)) rfl (by simp [Lift.one]) fun h2 S3=>⟨_,S3.c 6 rfl,?_⟩⟩⟩
      rw [hl0] at hacc hlen hf
      have hmid:=msgsOf_mid l1 l2 (k,(x,bv k))
      simp only at hmid
      have next:∀ {acc':List OpP}{s':SV}{h':Heap},acc'=acc++(if 0<x.2.2 then [putO (kMsg k) ((msgO x.1).getD [])] else []) →
          St (ItA kkU vvM mm rr (hM bv m.M) (l1++l2) (some (k,(x,bv k)))::OpsA s' (base++acc')::Bx b [.pointer (some r),.map (some mq),.map (some mm),.int .u64 m.next]::RtW r m.X m.B::Mq Lift.encS vvQ mq (hQ ad m.Q)::LnsW ad m.Q::BdsW bv m.M::L) h' →
          qba.L3 K fuel s'.1 s'.2.1 s'.2.2 ⟨rr,0,none⟩ h':=by
        intro acc' s' h' ea S'
        refine keep_msgs ok hs hl hp hK fuel (l1++l2) (some (k,(x,bv k))) acc' s' h' (by simp at hf ⊢; omega) ?_ ?_ S'
        · rw [ea]; simp only [List.length_append,List.length_cons] at hlen ⊢
          split <;> simp <;> omega
        · rw [ea,List.append_assoc]
          exact (hmid.symm.append_left acc).trans hacc
      have la:acc.length+1≤m.M.length:=by simp only [List.length_append,List.length_cons] at hlen; omega
      by_cases h0:0<x.2.2
      · refine ifT (by simpa using h0) ⟨_,((S3.mem.1.drop 0).take 5).rd rfl,?_⟩
        have S4:=BdsW.get hx (S3.get (BdsW bv))
        refine msgS (m:=x.1) (mb:=bv k) S4 fun p l c h4 S5=>⟨_,_,_,_,rfl,putB (k:=kMsg k) (v:=(p,l,c)) (val:=(msgO x.1).getD []) S5 (by simp only; omega) fun h5 S6=>⟨_,rfl,_,bld_op _,?_⟩⟩
        have S7:St (Im 1 (p,l,c) (u8s (putO (kMsg k) ((msgO x.1).getD [])).val)::OpsA s (base++acc)::ItA kkU vvM mm rr (hM bv m.M) (l1++l2) (some (k,(x,bv k)))::Bx b [.pointer (some r),.map (some mq),.map (some mm),.int .u64 m.next]::RtW r m.X m.B::Mq Lift.encS vvQ mq (hQ ad m.Q)::LnsW ad m.Q::BdsW bv m.M::L) h5:=(show St (Im 1 (p,l,c) (u8s (putO (kMsg k) ((msgO x.1).getD [])).val)::_) h5 from S6).to
        refine appOp (s:=s) (v:=(p,l,c)) S7 (by simp only [List.length_append]; omega) fun p2 l2' c2 h6 S8=>⟨_,_,_,rfl,next (s':=(p2,l2',c2)) (acc':=acc++[putO (kMsg k) ((msgO x.1).getD [])]) (by rw [if_pos h0]) ?_⟩
        rw [List.append_assoc] at S8
        exact S8.p1
      · refine ifF (by simpa using h0) (next (s':=s) (acc':=acc) (by rw [if_neg h0,List.append_nil]) S3.tl)
theorem keep_queues {ns:List Oct}{t:SV} (ok:BkOk N m) (hN:N≤900) (hs:(keepL m).length≤klim) (hns:ns.Perm (m.Q.map Prod.fst)) (hK:∀ (l:List OpP) s h',l.Perm (keepL m)→l.Pairwise (fun x y=>sort_string.o.le x.key y.key)→St (OpsA s l::BkW b m::L) h'→K (.slice s.1 s.2.1 s.2.2) h') :
    ∀ (fuel i:Nat) (s:SV) (h:Heap),ns.length - i<fuel→i≤ns.length→St (OpsA s (keepRoutesL m++queuesOf m (ns.take i))::Ow 2 t ((ns.map fun n=>(n,qlasts m n)).flatMap qc)::BkW b m::L) h →
      qba.L4 K fuel (some b) s.1 s.2.1 s.2.2 t.1 t.2.1 t.2.2 ((t.2.1:Nat):Int) (i:Int) h
  | 0,_,_,_,hf,_,_=>absurd hf (Nat.not_lt_zero _)
  | fuel+1,i,s,h,hf,hi,S=>by
    have lt:t.2.1=ns.length:=by have:=(S.ows 2 t).1; rw [flat_length qc2,List.length_map] at this; omega
    have ln:ns.length≤N:=by have:=hns.length_eq; have:=ok.sz.2.2.1; simp at *; omega
    have lr:(keepRoutesL m).length≤2 * N+4:=by
      unfold keepRoutesL
      rw [List.length_append,List.length_map,List.length_map]
      have a:=List.length_filter_le (fun x:XN=>x.2.2 && decide (x.1≠[]) && !ownP x.1) m.X
      have b:=List.length_filter_le (fun b:BN=>xlasts m b.1 && qlasts m b.2.1) m.B
      have:=ok.sz
      omega
    have lq:∀ j,(queuesOf m (ns.take j)).length≤900 * 901:=by
      intro j
      refine Nat.le_trans (queuesOf_len ok _) ?_
      refine Nat.mul_le_mul ?_ (by omega)
      rw [List.length_take]; omega
    unfold qba.L4
    by_cases hlt:i<ns.length
    · have hx:(ns.map fun n=>(n,qlasts m n))[i]? = some (ns[i],qlasts m ns[i]):=by simp [hlt]
      have et:ns.take (i+1)=ns.take i++[ns[i]]:=by rw [List.take_add_one,List.getElem?_eq_getElem hlt]; rfl
      refine ifT (by simp; omega) (ixS qc2 (by decide) (S.osl 2 t) rfl hx ?_)
      refine bdQ S [.string (mkS []),.bool false] fun S1=>⟨rfl,S1.wrA (ws:=qc (ns[i],qlasts m ns[i])) rfl (qc_one _) fun h2 S2=>⟨_,S2.c 1 rfl,?_⟩⟩
      have next:∀ {s':SV}{h':Heap},St (OpsA s' (keepRoutesL m++queuesOf m (ns.take (i+1)))::Ow 2 t ((ns.map fun n=>(n,qlasts m n)).flatMap qc)::BkW b m::L) h'→qba.j5 K (qba.L4 K fuel) (some b) s'.1 s'.2.1 s'.2.2 t.1 t.2.1 t.2.2 ((t.2.1:Nat):Int) (i:Int) h':=by
        intro s' h' S'
        unfold qba.j5
        rw [show IntKind.i64.wrap ((i:Int)+1)=((i+1:Nat):Int) by rw [wrapI (by omega) (by omega)]; omega]
        exact keep_queues ok hN hs hns hK fuel (i+1) s' h' (by omega) (by omega) S'
      have hin:(get? m.Q ns[i]).isSome=true:=get?_isSome_mem.2 (hns.mem_iff.1 (List.getElem_mem hlt))
      obtain ⟨q,hq⟩:=Option.isSome_iff_exists.1 hin
      have eq1:qlasts m ns[i]=q.1:=by unfold qlasts; rw [hq]; rfl
      have eo:queuesOf m (ns.take (i+1))=queuesOf m (ns.take i)++if q.1 then keepQueueL m (ns[i],q) else []:=by
        rw [et]
        unfold queuesOf
        rw [List.flatMap_append,List.flatMap_cons,List.flatMap_nil,List.append_nil,hq]
      rw [eq1]
      cases hq1:q.1 with
      | false =>
        rw [hq1,if_neg (by decide),List.append_nil] at eo
        refine ifF rfl (next (s':=s) ?_)
        rw [eo]; exact S2.tl
      | true =>
        rw [hq1,if_pos rfl] at eo
        refine ifT rfl ⟨_,S2.c 0 rfl,?_⟩
        have S3:St (BkW b m::OpsA s (keepRoutesL m++queuesOf m (ns.take i))::Ow 2 t ((ns.map fun n=>(n,qlasts m n)).flatMap qc)::L) h2:=S2.to
        have lk:=keepQueueL_len ok hq
        have lqi:=lq i
        refine keepQueueB ok (by omega) hq S3 fun s2 h3 S4=>⟨_,_,_,rfl,?_⟩
        have S5:St (OpsA s (keepRoutesL m++queuesOf m (ns.take i))::OpsA s2 (keepQueueL m (ns[i],q))::Ow 2 t ((ns.map fun n=>(n,qlasts m n)).flatMap qc)::BkW b m::L) h3:=S4.to
        refine appOps S5 (by simp only [List.length_append]; omega) fun p l c h4 S6=>⟨_,_,_,rfl,next (s':=(p,l,c)) ?_⟩
        rw [eo,← List.append_assoc]
        exact S6
    · refine ifF (by simp; omega) ?_
      rw [List.take_of_length_le (by omega)] at S
      have lqn:=lq ns.length
      rw [List.take_of_length_le (Nat.le_refl _)] at lqn
      unfold qba.j1
      have S1:St (BkW b m::OpsA s (keepRoutesL m++queuesOf m ns)::L) h:=S.to
      obtain ⟨r,mq,mm,ad,bv,S2⟩:=BkW.out S1
      refine ⟨b,rfl,_,S2.rc b 2 rfl,St.range umM (S2.get (Mq kkU vvM mm)) fun h2 S3=>⟨(hM bv m.M).length+1,?_⟩⟩
      have lM:=ok.sz.2.2.2
      have lh:(hM bv m.M).length=m.M.length:=by simp [mapk]
      refine keep_msgs (b:=b) (r:=r) (mq:=mq) (mm:=mm) (ad:=ad) (bv:=bv) (L:=L) (base:=keepRoutesL m++queuesOf m ns) ok hs (by simp only [List.length_append]; omega) ?_ hK _ (hM bv m.M) none [] s h2 (Nat.lt_succ_self _) (by simp only [List.length_nil]; omega) (by rw [msgsOf_hM]; exact List.Perm.refl _) ?_
      · unfold keepL
        exact ((queuesOf_perm ok hns).append_left _).append_right _
      · rw [List.append_nil]
        exact S3.to
theorem keepB (ok:BkOk N m) (hN:N≤900) (hb:m.B.length≤blim) (hs:(keepL m).length≤klim) (S:St (BkW b m::L) h) (hK:∀ (l:List OpP) s h',l.Perm (keepL m)→l.Pairwise (fun x y=>sort_string.o.le x.key y.key)→St (OpsA s l::BkW b m::L) h'→K (.slice s.1 s.2.1 s.2.2) h'):CallsH P F.qba [.pointer (some b)] K h:=by
  refine qba.ok ?_
  unfold qba.p0
  refine keepRoutesB ok (by omega) hb S fun s h2 S2=>⟨_,_,_,rfl,?_⟩
  refine queuesB ok (by omega) S2.p1 fun ns o h3 hp _ S3=>⟨_,_,_,rfl,ns.length+1,?_⟩
  refine keep_queues ok hN hs hp hK _ 0 s h3 (by omega) (Nat.zero_le _) ?_
  show St (OpsA s (keepRoutesL m++[])::_) h3
  rw [List.append_nil]
  exact (show St (OpsA s (keepRoutesL m)::Ow 2 o ((ns.map fun n=>(n,qlasts m n)).flatMap qc)::BkW b m::L) h3 from S3.to)
end
end Go.Proofs.YtofpbcakppjgcaaGreatDoor.Pr
end
section
set_option linter.unusedVariables false
set_option linter.unusedSimpArgs false
namespace Go.Proofs.YtofpbcakppjgcaaGreatDoor.Pr
open Go Go.Lift Go.Proofs
theorem bld_deed':(fun (k:Int) (m1 m2 m3 m4 m5:Value)=>Instr.fill (Lift.places P (P.underlying T.api_Deed)) (zcl P T.api_Deed) [(0,.int .i64 k),(12,.agg (List.toArray [m1,m2,m3,m4,m5]))]) =
    fun k m1 m2 m3 m4 m5=>some (List.toArray [.int .i64 k,.string (mkS []),.string (mkS []),.string (mkS []),.string (mkS []),.int .i64 0,.int .i64 0,.bool false,.bool false,.bool false,.bool false,.bool false,m1,m2,m3,m4,m5,.slice none 0 0]):=by kernel_rfl
theorem bld_deed (k:Int) (m:MsgP) (s:SV):bld P T.api_Deed [(0,.int .i64 k),(12,.agg (List.toArray (mcell m s)))] (ddcells { deed0 with kind:=k,msg:=m } s snil) :=
  congrFun (congrFun (congrFun (congrFun (congrFun (congrFun bld_deed' _) _) _) _) _) _
theorem declQP_q:declQP bk0 (dQueue nQ true)=(tkM [] [] 1,{ did0 with ops:=[putO (kQueue nQ) []] }):=by rw [← doP_queue rfl]; exact tk_decl
theorem tkM0_ok:BkOk 1 (tkM [] [] 1):=by
  have:=doP_ok bk0_ok (dQueue nQ true)
  rw [tk_decl] at this
  exact this
section
variable {K:KT}{L R:List Asr}{h:Heap}{b:Addr}{m:BkM}{N:Nat}
theorem im8Nil (S:St L h):St (Im 1 snil (u8s [])::L) h:=S.imNil 1 0
theorem didBox {d:DidM}{so sq mb:SV} (S:St L h) {F:Heap→Prop} (hF:∀ h',St (Bx (top h) (dcells d so sq mb)::L) h'→F h') :
    bd (al h #[.int .i64 0,.int .i64 0,.slice none 0 0,.slice none 0 0,.string (mkS []),.string (mkS []),.string (mkS []),.int .i64 0,.slice none 0 0,.int .u64 0,.bool false] T.api_Did) fun h7=>(dcells d so sq mb).length=11∧∃ h8,stC h7 (top h) 0 (dcells d so sq mb)=some h8∧F h8:=by
  rw [eh0]
  refine bdQ S (dcells did0 snil snil snil) fun S1=>⟨rfl,S1.wrA (ws:=dcells d so sq mb) rfl (dcells_one _ _ _ _) fun h2 S2=>hF h2 S2⟩
theorem nextB (S:St (BkW b m::L) h) (hK:K (.int .u64 m.next) h):CallsH P F.qdg [.pointer (some b)] K h:=by
  obtain ⟨r,mq,mm,ad,bv,S0⟩:=BkW.out S
  refine qdg.ok ?_
  unfold qdg.p0
  exact ⟨b,rfl,_,S0.rc b 3 rfl,hK⟩
theorem awake20S {h0:Heap} (g:G h0) (mo:Old h0∈L) (S:St L h) (hK:∀ h',St L h'→K (.bool true) h'):CallsH P F.qdb [] K h:=by
  refine qdb.ok ?_
  unfold qdb.p0
  refine newB S fun h1 b S1=>⟨_,rfl,ifF rfl ?_⟩
  refine doQueue (d:=dQueue nQ true) (mb:=snil) (hs:=snil) (m:=bk0) rfl bk0_ok (by decide) S1 fun so sq mb h2 S2=>⟨_,rfl,didBox S2 fun h3 S3=>⟨_,bld_deed 8 ⟨[],nQ,[],2,[]⟩ snil,?_⟩⟩
  rw [declQP_q] at S3
  simp only at S3
  have S4:St (BkW b (tkM [] [] 1)::Bx (top h2) (dcells { did0 with ops:=[putO (kQueue nQ) []] } so sq mb)::OpsA so [putO (kQueue nQ) []]::Im 1 snil (u8s [])::L) h3:=(im8Nil (show St (Bx (top h2) (dcells { did0 with ops:=[putO (kQueue nQ) []] } so sq mb)::OpsA so [putO (kQueue nQ) []]::Im 1 sq []::Im 1 mb (u8s [])::BkW b (tkM [] [] 1)::L) h3 from S3)).to
  obtain ⟨v,hv⟩:∃ v,putD (tkM [] [] 1) { deed0 with kind:=8,msg:=⟨[],nQ,[],2,[]⟩ }=(tkM [(1,(false,false))] [(1,(⟨[],nQ,[],2,[]⟩,1,1))] 2,{ did0 with n:=1,qs:=[nQ],ops:=[putO (kMsg 1) v,putO (kEntry nQ 1) []] }):=⟨(msgO ⟨[],nQ,[],2,[]⟩).getD [],by kernel_rfl⟩
  refine doPut g (by simp [mo]) (d:={ deed0 with kind:=8,msg:=⟨[],nQ,[],2,[]⟩ }) (mb:=snil) (hs:=snil) rfl tkM0_ok (by decide) (by decide) S4 (List.mem_cons_of_mem _ (List.mem_cons_of_mem _ (List.mem_cons_self ..))) fun so2 sq2 mb2 h4 S5=>⟨_,rfl,didBox S5 fun h5 S6=>?_⟩
  have ok2:=doP_ok tkM0_ok { deed0 with kind:=8,msg:=⟨[],nQ,[],2,[]⟩ }
  rw [doP_put rfl,hv] at ok2
  rw [hv] at S6
  simp only at S6 ok2
  have S7:St (BkW b (tkM [(1,(false,false))] [(1,(⟨[],nQ,[],2,[]⟩,1,1))] 2)::Bx (top h4) (dcells { did0 with n:=1,qs:=[nQ],ops:=[putO (kMsg 1) v,putO (kEntry nQ 1) []] } so2 sq2 mb2)::OpsA so2 [putO (kMsg 1) v,putO (kEntry nQ 1) []]::Bx (top h2) (dcells { did0 with ops:=[putO (kQueue nQ) []] } so sq mb)::OpsA so [putO (kQueue nQ) []]::L) h5:=(show St (Bx (top h4) (dcells { did0 with n:=1,qs:=[nQ],ops:=[putO (kMsg 1) v,putO (kEntry nQ 1) []] } so2 sq2 mb2)::OpsA so2 [putO (kMsg 1) v,putO (kEntry nQ 1) []]::Im 1 sq2 ([nQ].map Lift.encS)::Im 1 mb2 (u8s [])::BkW b (tkM [(1,(false,false))] [(1,(⟨[],nQ,[],2,[]⟩,1,1))] 2)::Bx (top h2) (dcells { did0 with ops:=[putO (kQueue nQ) []] } so sq mb)::OpsA so [putO (kQueue nQ) []]::Im 1 snil (u8s [])::L) h5 from S6).to
  generalize hm2:tkM [(1,(false,false))] [(1,(⟨[],nQ,[],2,[]⟩,1,1))] 2=m2 at *
  have hp:purgedP m2 { deed0 with kind:=5,name:=[110,111] }=(m2,codeD 404):=by subst hm2; kernel_rfl
  refine doPurge (d:={ deed0 with kind:=5,name:=[110,111] }) (mb:=snil) (hs:=snil) rfl ok2 (by decide) S7 fun so3 sq3 mb3 h6 S8=>⟨_,rfl,didBox S8 fun h7 S9=>?_⟩
  rw [hp] at S9
  simp only at S9
  generalize top h2=t1 at *
  generalize top h4=t2 at *
  generalize top h6=t3 at *
  have S10:St (BkW b m2::Bx t3 (dcells (codeD 404) so3 sq3 mb3)::Bx t2 (dcells { did0 with n:=1,qs:=[nQ],ops:=[putO (kMsg 1) v,putO (kEntry nQ 1) []] } so2 sq2 mb2)::OpsA so2 [putO (kMsg 1) v,putO (kEntry nQ 1) []]::Bx t1 (dcells { did0 with ops:=[putO (kQueue nQ) []] } so sq mb)::OpsA so [putO (kQueue nQ) []]::L) h7:=(show St (Bx t3 (dcells (codeD 404) so3 sq3 mb3)::OpsA so3 []::Im 1 sq3 []::Im 1 mb3 []::BkW b m2::_) h7 from S9).to
  have l1:so.2.1=1:=OpsA.len (show St (OpsA so [putO (kQueue nQ) []]::L) h7 from S10.to)
  have l2:so2.2.1=2:=OpsA.len (show St (OpsA so2 [putO (kMsg 1) v,putO (kEntry nQ 1) []]::L) h7 from S10.to)
  refine ⟨_,S10.rc t1 0 rfl,ifT rfl ⟨_,_,_,S10.rc t1 2 rfl,ifT (by rw [l1]; rfl) ⟨_,S10.rc t2 1 rfl,ifT rfl ⟨_,_,_,S10.rc t2 2 rfl,ifT (by rw [l2]; rfl) ?_⟩⟩⟩⟩
  refine readyB (n:=nQ) ok2 (by decide) S10 fun o h8 S11=>⟨_,_,_,rfl,?_⟩
  have lo:o.2.1=1:=by
    have:=S11.ow.1
    rw [flat_length ecell2] at this
    subst hm2
    have e:((((get? (tkM [(1,(false,false))] [(1,(⟨[],nQ,[],2,[]⟩,1,1))] 2).Q nQ).map fun q=>readyL q.2).getD [])).length=1:=by rfl
    rw [e] at this
    omega
  refine ifT (by rw [lo]; rfl) ⟨_,S11.rc t3 0 rfl,ifT rfl (nextB S11.p1 ⟨_,rfl,ifT (by subst hm2; rfl) ?_⟩)⟩
  refine keepB ok2 (by decide) (by subst hm2; decide) (by subst hm2; exact of_decide_eq_true (by kernel_rfl)) S11.p1 fun l s h9 hl _ S12=>⟨_,_,_,rfl,(bdE _ _).2 ?_⟩
  have ls:s.2.1=3:=by
    have:=OpsA.len S12
    have e:=hl.length_eq
    subst hm2
    have e2:(keepL (tkM [(1,(false,false))] [(1,(⟨[],nQ,[],2,[]⟩,1,1))] 2)).length=3:=by kernel_rfl
    omega
  rw [ls]
  exact hK h9 S12.to
end
end Go.Proofs.YtofpbcakppjgcaaGreatDoor.Pr
end
