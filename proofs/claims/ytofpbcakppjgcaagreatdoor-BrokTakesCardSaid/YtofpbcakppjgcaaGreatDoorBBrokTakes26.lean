/- brokTakes_holds: all that the theorem needs, in a few texts (bundle.py; made of the texts that NOTES.md names). -/
import Derived.Below
import Derived.DeepKeys4
import Derived.KernelRfl
import Derived.Laws.Append
import Derived.Laws.Bits64
import Derived.Laws.BitsAllLaws
import Derived.Laws.BitsLemmas
import Derived.Laws.IdiomStrings
import Derived.Laws.Sem
import Derived.Laws.Strings
import Derived.Laws.StructEq
import Derived.Lib.ItoaNum
import Derived.LoopIn
import Derived.LoopN
import Derived.LoopNIn
import Derived.MapKept
import Derived.Maps.AppendAt
import Derived.Orders
import Derived.OwnWalkIn
import Derived.RangeFuncGives
import Derived.RangeFuncSeq
import Derived.RegionIn
import Derived.Shelf.Abstract
import Derived.Shelf.Lay
import Derived.Shelf.LaysM
import Derived.Shelf.SlIter.Collect
import Derived.Shelf.Slices.Cells
import Derived.Shelf.Slices.CompactS
import Derived.Shelf.Slices.In.SortNone
import Derived.Shelf.Small.Bits
import Derived.Shelf.Small.Strs
import Derived.Shelf.Sort.Plain
import Derived.Shelf.Strconv.Itoa0
import Derived.Shelf.Strings.Count
import Derived.Shelf.Strings.Explode
import Derived.Shelf.Strings.RuneCount
import Derived.Shelf.Strings.Search1
import Derived.Shelf.Strings.Search2
import Derived.Shelf.Strings.Search3
import Derived.Shelf.Strings.Shaped
import Derived.Shelf.Strings.Split
import Derived.Shelf.Strings.SplitShaped
import Derived.Shelf.Unicode.Decode
import Derived.Shelf.Unicode.DecodeAny
import Derived.Shelf.Unicode.DecodeSlow
import Derived.Shelf.Utf8.RuneCount
import Derived.Sort.KeysCollected
import Derived.Sort.MapsRangeIn
import Derived.TacticsInMore
import Derived.Test.YtofpbcakppjgcaaGreatDoorChecked
import Derived.Test.YtofpbcakppjgcaaGreatDoorProg
import Derived.WalkKit
import Derived.WideLaws
import Derived.Test.YtofpbcakppjgcaaGreatDoorBBrokTakes2
import Derived.Test.YtofpbcakppjgcaaGreatDoorBBrokTakes3
import Derived.Test.YtofpbcakppjgcaaGreatDoorBBrokTakes4
import Derived.Test.YtofpbcakppjgcaaGreatDoorBBrokTakes5
import Derived.Test.YtofpbcakppjgcaaGreatDoorBBrokTakes8
import Derived.Test.YtofpbcakppjgcaaGreatDoorBBrokTakes9
import Derived.Test.YtofpbcakppjgcaaGreatDoorBBrokTakes11
import Derived.Test.YtofpbcakppjgcaaGreatDoorBBrokTakes13
import Derived.Test.YtofpbcakppjgcaaGreatDoorBBrokTakes15
import Derived.Test.YtofpbcakppjgcaaGreatDoorBBrokTakes17
import Derived.Test.YtofpbcakppjgcaaGreatDoorBBrokTakes18
import Derived.Test.YtofpbcakppjgcaaGreatDoorBBrokTakes19
import Derived.Test.YtofpbcakppjgcaaGreatDoorBBrokTakes20
import Derived.Test.YtofpbcakppjgcaaGreatDoorBBrokTakes21
import Derived.Test.YtofpbcakppjgcaaGreatDoorBBrokTakes22
import Derived.Test.YtofpbcakppjgcaaGreatDoorBBrokTakes24
section
set_option linter.unusedVariables false
set_option linter.unusedSimpArgs false
namespace Go.Proofs.YtofpbcakppjgcaaGreatDoor.Pr
open Go Go.Lift Go.Proofs
section
variable {K:KT}{L:List Asr}{h:Heap}{r:Addr}{X:List XN}{B:List BN}
theorem St.kept {h':Heap} (S:St L h) (k:Kept h h'):St L h':=(S.owNew (Own.nil 1 h') (fun a e=>by cases e) k).tl
theorem G.old {h0:Heap} (g:G h0) (S:St L h) (m:Old h0∈L):G h:=g.kept (S.keptOld m)
end
end Go.Proofs.YtofpbcakppjgcaaGreatDoor.Pr
set_option linter.unusedVariables false
set_option linter.unusedSimpArgs false
namespace Go.Proofs.YtofpbcakppjgcaaGreatDoor.Pr
open Go Go.Lift Go.Proofs
section
variable {K:KT}{L:List Asr}{h:Heap}{r:Addr}{X:List XN}{B:List BN}
def takesP (x:XN) (b:BN) (key:List UInt8):Bool:=if x.2.1==1 then b.2.2==key else if x.2.1==3 then Pl.matchW (Pl.wordsL b.2.2) (Pl.wordsL key) else true
theorem takesRt {h0:Heap} (g:G h0) (m:Old h0∈L) {x:XN}{b:BN}{key:List UInt8} (S:St L h) (h1:b.2.2.length<100000) (h2:key.length<100000) (hK:∀ h',St L h'→K (.bool (takesP x b key)) h') :
    CallsH P F.qdv [.agg (List.toArray (xc x)),.agg (List.toArray (bc b)),.string (mkS key)] K h:=by
  refine qdv.ok ?_
  unfold qdv.p0
  refine St.bd1 (cs:=xc x) S fun S1=>St.bd1 (cs:=bc b) S1 fun S2=>⟨_,S2.p1.c 1 rfl,?_⟩
  unfold bd
  unfold takesP at hK
  cases e1:(x.2.1==1) with
  | true =>
    rw [e1] at hK
    exact ifT rfl ⟨_,S2.c 2 rfl,hK _ S2.tl.tl⟩
  | false =>
    rw [e1,if_neg (by decide)] at hK
    refine ifF rfl ?_
    cases e3:(x.2.1==3) with
    | true =>
      rw [e3,if_pos rfl] at hK
      refine ifT rfl ⟨_,S2.c 2 rfl,Match.spec (g.old S2.tl.tl m) h1 h2 fun h' k=>⟨_,rfl,hK h' (St.kept S2.tl.tl k)⟩⟩
    | false =>
      rw [e3,if_neg (by decide)] at hK
      exact ifF rfl (hK _ S2.tl.tl)
def routeP (X:List XN) (B:List BN) (exch key:List UInt8):List (List UInt8):=match xget X exch with
  | none=>[]
  | some x=>if exch=[] then [key] else ddL ((B.filter fun b=>b.1==exch && takesP x b key).map fun b=>b.2.1)
theorem appSt {p:OA}{l c:Nat}{ys:List Value} (S:St (Ow 1 (p,l,c) ys::L) h) (x:List UInt8) (hl:l≤1000000) {K:KT}{ty:TypeId} (hK:∀ p' c' h',St (Ow 1 (p',l+1,c') (ys++[encS x])::L) h'→K (.slice p' (l+1) c') h') :
    bd (al h (List.toArray [.string (mkS x)]) T.string) fun h1=>SemH P (Builtin.append_ #[T.sl_string,T.sl_string] ty #[.slice p l c,.slice (some (top h)) 1 1]) K h1:=by
  refine St.bd1 (cs:=[.string (mkS x)]) S fun S1=>?_
  have sa:Sl 1 (al h (List.toArray [.string (mkS x)]) T.string) (some (top h)) 1 [encS x]:=⟨rfl,S1.mem.1⟩
  exact S1.p1.app (s:=(p,l,c)) sl_str rfl u_sls (fun k e=>by cases e) (Src.slice (n:=1) (c:=1) sa (by simp [Lift.one])) (by show (l+1) * 16≤_; omega) (by show l+1≤_; omega) fun p' c' h' S'=>hK p' c' h' S'.d1
theorem route_loop {h0:Heap} (g:G h0) (m:Old h0∈L) {x:XN}{t7:Addr}{exch key:List UInt8}{t:SV} (hl:B.length≤12) (hk:∀ b∈B,b.2.2.length<100000) (h2:key.length<100000)
    (hK:∀ h' s,St (Ow 1 s ((ddL ((B.filter fun b=>b.1==exch && takesP x b key).map fun b=>b.2.1)).map encS)::L) h'→K (.slice s.1 s.2.1 s.2.2) h') :
    ∀ (fuel i:Nat) (o:SV) (h:Heap),B.length - i<fuel→i≤B.length→St (Bx t7 (xc x)::Ow 3 t (B.flatMap bc)::Ow 1 o ((((B.take i).filter fun b=>b.1==exch && takesP x b key).map fun b=>b.2.1).map encS)::L) h→qbg.L2 K fuel exch key t7 o.1 o.2.1 o.2.2 t.1 t.2.1 t.2.2 ((t.2.1:Nat):Int) i h
  | 0,_,_,_,hf,_,_=>absurd hf (Nat.not_lt_zero _)
  | fuel+1,i,o,h,hf,hi,S=>by
    have el:t.2.1=B.length:=by have:=S.p1.ow.1; rw [flat_length bc3] at this; omega
    unfold qbg.L2
    by_cases hlt:i<B.length
    · have hx:B[i]? = some B[i]:=List.getElem?_eq_getElem hlt
      refine ifT (by simp; omega) (ixS bc3 (by decide) S.p1.sl rfl hx ?_)
      refine St.bd1 (cs:=zb) S fun S1=>⟨rfl,S1.wrA (ws:=bc B[i]) rfl (bc_one _) fun h2' S2=>⟨_,S2.c 0 rfl,?_⟩⟩
      have et:B.take (i+1)=B.take i++[B[i]]:=by rw [List.take_add_one,hx]; rfl
      have next:∀ (o:SV) h',St (Bx t7 (xc x)::Ow 3 t (B.flatMap bc)::Ow 1 o ((((B.take (i+1)).filter fun b=>b.1==exch && takesP x b key).map fun b=>b.2.1).map encS)::L) h'→qbg.j3 K (qbg.L2 K fuel) exch key t7 o.1 o.2.1 o.2.2 t.1 t.2.1 t.2.2 ((t.2.1:Nat):Int) i h':=fun o h' S'=>by
        unfold qbg.j3
        rw [show IntKind.i64.wrap ((i:Int)+1)=((i+1:Nat):Int) from by rw [wrapI (by omega) (by omega)]; omega]
        exact route_loop g m hl hk h2 hK fuel (i+1) o h' (by omega) (by omega) S'
      have j4:∀ (c:Bool) h',c=(B[i].1==exch && takesP x B[i] key)→St (Bx (top h) (bc B[i])::Bx t7 (xc x)::Ow 3 t (B.flatMap bc)::Ow 1 o ((((B.take i).filter fun b=>b.1==exch && takesP x b key).map fun b=>b.2.1).map encS)::L) h'→qbg.j4 K (qbg.L2 K fuel) exch key t7 o.1 o.2.1 o.2.2 (top h) t.1 t.2.1 t.2.2 ((t.2.1:Nat):Int) i c h':=fun c h' ec S'=>by
        unfold qbg.j4
        cases c with
        | false =>
          refine ifF rfl (next o h' ?_)
          rw [et,List.filter_append,List.filter_cons_of_neg (by rw [← ec]; decide),List.filter_nil,List.append_nil]
          exact S'.tl
        | true =>
          have lo:o.2.1≤i:=by
            have:=S'.p3.ow.1
            have h3:((B.take i).filter fun b=>b.1==exch && takesP x b key).length≤(B.take i).length:=List.length_filter_le _ _
            rw [List.length_take] at h3
            simp only [List.length_map] at this
            omega
          refine ifT rfl ⟨_,S'.c 1 rfl,appSt (p:=o.1) (l:=o.2.1) (c:=o.2.2) S'.p3 B[i].2.1 (by omega) fun p' c' h5 S5=>⟨_,_,_,rfl,next (p',o.2.1+1,c') h5 ?_⟩⟩
          rw [et,List.filter_append,List.filter_cons_of_pos (p:=fun b=>b.1==exch && takesP x b key) (a:=B[i]) ec.symm,List.filter_nil,List.map_append,List.map_append,List.map_cons,List.map_nil,List.map_cons,List.map_nil]
          exact S5.to
      cases hb:(B[i].1==exch) with
      | false=>exact ifF rfl (j4 false h2' (by rw [hb]; rfl) S2)
      | true =>
        refine ifT rfl (S2.p1.rdA (n:=3) rfl (S2.rdA (n:=3) rfl ?_))
        have S2':St (Bx (top h) (bc B[i])::Bx t7 (xc x)::Ow 3 t (B.flatMap bc)::Ow 1 o ((((B.take i).filter fun b=>b.1==exch && takesP x b key).map fun b=>b.2.1).map encS)::L) h2':=S2
        refine takesRt g (List.mem_cons_of_mem _ (List.mem_cons_of_mem _ (List.mem_cons_of_mem _ (List.mem_cons_of_mem _ m)))) S2' (hk _ (List.getElem_mem hlt)) h2 fun h6 S6=>⟨_,rfl,j4 _ h6 (by rw [hb]; rfl) S6⟩
    · refine ifF (by simp; omega) ?_
      unfold qbg.j1
      rw [List.take_of_length_le (by omega)] at S
      have hln:((B.filter fun b=>b.1==exch && takesP x b key).map fun b=>b.2.1).length<1099511627776:=by
        rw [List.length_map]
        exact Nat.lt_of_le_of_lt (List.length_filter_le _ _) (by omega)
      exact compactS (t:=o) hln (fun h' s S'=>⟨_,_,_,rfl,hK h' s S'⟩) S.tl.tl
theorem routeRt {h0:Heap} (g:G h0) (m:Old h0∈L) {exch key:List UInt8} (hl:B.length≤12) (hk:∀ b∈B,b.2.2.length<100000) (h2:key.length<100000) (S:St (RtW r X B::L) h)
    (hK:∀ h' s,St (Ow 1 s ((routeP X B exch key).map encS)::RtW r X B::L) h'→K (.slice s.1 s.2.1 s.2.2) h'):CallsH P F.qbg [.pointer (some r),.string (mkS exch),.string (mkS key)] K h:=by
  obtain ⟨mx,mb,kx,kb,q,S0⟩:=RtW.out S
  refine qbg.ok ?_
  unfold qbg.p0
  have eg:=q.xg exch
  refine ⟨r,rfl,some mx,S0.c 0 rfl,lookX S0 ?_⟩
  rw [eg]
  refine St.bd1 (cs:=zx) S0 fun S1=>⟨xO_len _,S1.wrA (by rw [xO_len]; rfl) (xO_one _) fun h3 S3=>?_⟩
  have S4:St (RtW r X B::Bx (top h) (xO (xget X exch))::L) h3:=RtW.inn q (show St (RtA r mx mb kx kb (Bx (top h) (xO (xget X exch))::L)) h3 from S3.to)
  unfold bd
  unfold routeP at hK
  cases hx:xget X exch with
  | none =>
    rw [hx] at hK
    exact ifT rfl (hK h3 (none,0,0) (S4.d1.owNil 1))
  | some x =>
    rw [hx] at hK S4
    have S4:St (RtW r X B::Bx (top h) (xc x)::L) h3:=S4
    refine ifF rfl ?_
    cases he:(exch==([]:List UInt8)) with
    | true =>
      have he':exch=[]:=by simpa using he
      simp only [if_pos he'] at hK
      refine ifT rfl ?_
      have S5:St (Bx (top h3) [.string (mkS key)]::RtW r X B::Bx (top h) (xc x)::L) (al h3 #[.string (mkS key)] T.string):=S4.al [.string (mkS key)] T.string
      exact hK _ (some (top h3),1,1) (S5.bxOw (n:=1) (sz:=1) rfl).p2.tl
    | false =>
      have he':exch≠[]:=by simpa using he
      simp only [if_neg he'] at hK
      refine ifF rfl (bindsRt S4 hl fun h5 t S5=>⟨_,_,_,rfl,B.length+1,?_⟩)
      refine route_loop (L:=RtW r X B::L) g (List.mem_cons_of_mem _ m) hl hk h2 (fun h' s S'=>hK h' s S') _ 0 (none,0,0) h5 (by omega) (by omega) ?_
      exact (show St (Bx (top h) (xc x)::Ow 3 t (B.flatMap bc)::Ow 1 (none,0,0) []::RtW r X B::L) h5 from (S5.owNil 1).to)
end
end Go.Proofs.YtofpbcakppjgcaaGreatDoor.Pr
end
