/- brokTakes_holds: all that the theorem needs, in a few texts (bundle.py; made of the texts that NOTES.md names). -/
import Derived.Below
import Derived.KernelRfl
import Derived.Laws.Append
import Derived.Laws.Bits64
import Derived.Laws.BitsAllLaws
import Derived.Laws.BitsLemmas
import Derived.Laws.IdiomStrings
import Derived.Laws.Sem
import Derived.Laws.Strings
import Derived.Lib.ItoaNum
import Derived.LoopIn
import Derived.LoopN
import Derived.LoopNIn
import Derived.MapKept
import Derived.Maps.AppendAt
import Derived.Maps.RangeRun
import Derived.Orders
import Derived.OwnWalkIn
import Derived.RangeFuncGives
import Derived.RangeFuncSeq
import Derived.RegionIn
import Derived.Shelf.Abstract
import Derived.Shelf.Lay
import Derived.Shelf.SlIter.Collect
import Derived.Shelf.Small.Bits
import Derived.Sort.KeysCollected
import Derived.Sort.MapsRangeIn
import Derived.TacticsInMore
import Derived.Test.YtofpbcakppjgcaaGreatDoorChecked
import Derived.WalkKit
import Derived.WideLaws
import Derived.Test.YtofpbcakppjgcaaGreatDoorBBrokTakes2
import Derived.Test.YtofpbcakppjgcaaGreatDoorBBrokTakes3
import Derived.Test.YtofpbcakppjgcaaGreatDoorBBrokTakes4
import Derived.Test.YtofpbcakppjgcaaGreatDoorBBrokTakes5
import Derived.Test.YtofpbcakppjgcaaGreatDoorBBrokTakes8
import Derived.Test.YtofpbcakppjgcaaGreatDoorBBrokTakes9
import Derived.Test.YtofpbcakppjgcaaGreatDoorBBrokTakes12
import Derived.Test.YtofpbcakppjgcaaGreatDoorBBrokTakes13
import Derived.Test.YtofpbcakppjgcaaGreatDoorBBrokTakes15
import Derived.Test.YtofpbcakppjgcaaGreatDoorBBrokTakes21
section
set_option linter.unusedVariables false
set_option linter.unusedSimpArgs false
namespace Go.Proofs.YtofpbcakppjgcaaGreatDoor.Pr
open Go Go.Lift Go.Proofs
abbrev kkU:Int→Value:=fun n=>.int .u64 n
abbrev vvE:Int × Bool→Value:=fun x=>.agg #[.int .u64 x.1,.bool x.2]
abbrev vvI:Int→Value:=fun n=>.int .i64 n
abbrev LnA (l:Addr) (mr mh:Nat) (R:List (Int × (Int × Bool))) (H:List (Int × Int)) (L:List Asr):List Asr:=Bx l [.map (some mr),.map (some mh)]::Mq kkU vvE mr R::Mq kkU vvI mh H::L
theorem klU:KeyL P T.uint64 kkU:=KeyL.int (by kernel_rfl)
theorem umE:P.underlying T.map_uint64_api_Entry=some (.map T.uint64 T.api_Entry):=by kernel_rfl
theorem umI:P.underlying T.map_uint64_int=some (.map T.uint64 T.int):=by kernel_rfl
theorem zE:(P.info? T.api_Entry).bind (·.zero)=some (.agg #[.int .u64 0,.bool false]):=by kernel_rfl
theorem zI17:(P.info? T.int).bind (·.zero)=some (.int .i64 0):=by kernel_rfl
section
variable {K:KT}{L:List Asr}{h:Heap}{l:Addr}{mr mh:Nat}{R:List (Int × (Int × Bool))}{H:List (Int × Int)}
theorem newLineS (S:St L h) (hK:∀ h' l mr mh,St (LnA l mr mh [] [] L) h'→K (.pointer (some l)) h'):CallsH P F.qef [] K h:=by
  refine qef.ok ?_
  unfold qef.p0
  simp only [bd]
  have S1:=S.mqNew kkU vvE
  have S2:=S1.mqNew kkU vvI
  have S3:=S2.al [.map (some h.size),.map (some (h.push (.map #[] 0)).size)] T.line_Line
  exact hK _ _ _ _ S3.p2.p1
abbrev hv (H:List (Int × Int)) (id:Int):Int:=(get? H id).getD 0
theorem putLineS {id:Int}{again:Bool} (S:St (LnA l mr mh R H L) h) (hF:((get? R id).isSome=true∨id=0∨0<hv H id)→∀ h',St (LnA l mr mh R H L) h'→K (.bool false) h')
    (hT:(get? R id).isSome=false→id≠0→¬ 0<hv H id→∀ h',St (LnA l mr mh (upd R id (id,again)) H L) h'→K (.bool true) h'):CallsH P F.qcm [.pointer (some l),.int .u64 id,.bool again] K h:=by
  refine qcm.ok ?_
  unfold qcm.p0
  refine ⟨l,rfl,mr,S.c 0 rfl,?_⟩
  have j1:∀ (b:Bool) (h':Heap),(b=true→(get? R id).isSome=true∨id=0∨0<hv H id)→(b=false→(get? R id).isSome=false∧id≠0∧¬ 0<hv H id)→St (LnA l mr mh R H L) h'→qcm.j1 K (some l) id again b h':=by
    intro b h' h1 h2 S'
    unfold qcm.j1
    cases b with
    | true=>exact ifT rfl (hF (h1 rfl) h' S')
    | false =>
      obtain ⟨a1,a2,a3⟩:=h2 rfl
      refine ifF rfl ⟨l,rfl,mr,S'.c 0 rfl,?_⟩
      exact St.update (k:=id) (v:=(id,again)) klU umE S'.p1 fun u h3 S3=>hT a1 a2 a3 h3 S3.p1
  refine St.lookup (k:=id) klU umE zE S.p1 ?_
  simp only [if_true,bd]
  have hz:∃ cs:List Value,cs.length=2∧(∀ w∈cs,one w=true)∧(get? R id).elim (.agg #[.int .u64 0,.bool false]) vvE=.agg cs.toArray:=by
    cases get? R id with
    | none=>exact ⟨[.int .u64 0,.bool false],rfl,by simp [one],rfl⟩
    | some x=>exact ⟨[.int .u64 x.1,.bool x.2],rfl,by simp [one],rfl⟩
  obtain ⟨cs,hc,ho,hz⟩:=hz
  rw [hz]
  refine ⟨cs,_,rfl,hc,?_⟩
  have S1:St (Bx (top h) [.int .u64 0,.bool false]::LnA l mr mh R H L) (al h #[.int .u64 0,.bool false] T.api_Entry):=S.al [.int .u64 0,.bool false] T.api_Entry
  refine S1.wrA (by rw [hc]; rfl) ho fun h2 S2=>?_
  have S3:=S2.tl
  cases hg:(get? R id).isSome with
  | true=>exact ifT' rfl (j1 true h2 (fun _=>.inl hg) (fun e=>by cases e) S3)
  | false =>
    refine ifF' rfl ?_
    by_cases h0:id=0
    · exact ifT' (by simp [h0]) (j1 true h2 (fun _=>.inr (.inl h0)) (fun e=>by cases e) S3)
    · refine ifF' (by simp [h0]) ⟨l,rfl,mh,S3.c 1 rfl,?_⟩
      refine St.lookup (k:=id) klU umI zI17 S3.p2 ?_
      have e:(get? H id).elim (.int .i64 0) vvI=.int .i64 (hv H id):=by unfold hv; cases get? H id <;> rfl
      simp only [Bool.false_eq_true,if_false]
      rw [e]
      refine ⟨_,rfl,j1 _ h2 (fun e=>.inr (.inr (of_decide_eq_true e))) (fun e=>⟨hg,h0,of_decide_eq_false e⟩) S3⟩
structure LeI (R left:List (Int × (Int × Bool))) (least:Int):Prop where
  seen:∀ x∈R,x∈left∨(least≠0∧least≤x.1)
  is:least=0∨∃ x∈R,x.1=least
abbrev TkN (K:KT) (L:List Asr) (l:Addr) (mr mh:Nat) (R:List (Int × (Int × Bool))) (H:List (Int × Int)):Prop:=R=[]→∀ h',St (LnA l mr mh R H L) h'→K (.tuple #[.agg #[.int .u64 0,.bool false],.bool false]) h'
abbrev TkS (K:KT) (L:List Asr) (l:Addr) (mr mh:Nat) (R:List (Int × (Int × Bool))) (H:List (Int × Int)):Prop:=∀ k i b,(k,(i,b))∈R→(∀ x∈R,k≤x.1)→∀ h',St (LnA l mr mh (del R k) (upd H k 1) L) h'→K (.tuple #[.agg #[.int .u64 i,.bool b],.bool true]) h'
theorem take_j1 {t2:Addr}{least:Int} (S:St (Bx t2 [.int .u64 0,.bool false]::LnA l mr mh R H L) h) (I:LeI R [] least) (hR:∀ x∈R,0<x.1) (hN:TkN K L l mr mh R H) (hS:TkS K L l mr mh R H):qbh.j1 K (some l) t2 least h:=by
  unfold qbh.j1
  refine ⟨l,rfl,mr,S.p1.c 0 rfl,?_⟩
  refine St.lookup (k:=least) klU umE zE S.p2 ?_
  simp only [if_true,bd]
  have j2:∀ (e:Addr) (i:Int) (b ok:Bool) (R':List (Int × (Int × Bool))) (H':List (Int × Int)) (h':Heap),St (Bx e [.int .u64 i,.bool b]::Bx t2 [.int .u64 0,.bool false]::LnA l mr mh R' H' L) h' →
      (∀ h3,St (LnA l mr mh R' H' L) h3→K (.tuple #[.agg #[.int .u64 i,.bool b],.bool ok]) h3)→qbh.j2 K t2 e ok h':=by
    intro e i b ok R' H' h' S' hk
    unfold qbh.j2
    refine S'.rdA (n:=2) rfl ⟨rfl,?_⟩
    refine S'.p1.wrA (ws:=[.int .u64 i,.bool b]) rfl (by simp [one]) fun h3 S3=>?_
    exact S3.rdA (n:=2) rfl (hk h3 S3.tl.tl)
  have S1:∀ (w:List Value),St (Bx (top h) [.int .u64 0,.bool false]::Bx t2 [.int .u64 0,.bool false]::LnA l mr mh R H L) (al h #[.int .u64 0,.bool false] T.api_Entry):=fun _=>S.al [.int .u64 0,.bool false] T.api_Entry
  cases hg:get? R least with
  | none =>
    have hnil:R=[]:=by
      cases hR2:R with
      | nil=>rfl
      | cons x t =>
        have hx:x∈R:=by rw [hR2]; simp
        rcases I.seen x hx with h1 | h1
        · cases h1
        · rcases I.is with h2 | ⟨y,hy,he⟩
          · exact absurd h2 h1.1
          · exact absurd (List.mem_map.2 ⟨y,hy,he⟩) (get?_none.1 hg)
    refine ⟨[.int .u64 0,.bool false],false,rfl,rfl,?_⟩
    refine (S1 []).wrA rfl (by simp [one]) fun h2 S2=>?_
    exact ifF rfl (j2 (top h) 0 false false R H h2 S2 (hN hnil))
  | some v =>
    have hm:=get?_mem hg
    refine ⟨[.int .u64 v.1,.bool v.2],true,rfl,rfl,?_⟩
    refine (S1 []).wrA (ws:=[.int .u64 v.1,.bool v.2]) rfl (by simp [one]) fun h2 S2=>?_
    refine ifT rfl ⟨l,rfl,mr,S2.p2.c 0 rfl,?_⟩
    refine St.delete (k:=least) klU umE S2.p3 fun h3 S3=>⟨l,rfl,mh,S3.p3.c 1 rfl,?_⟩
    refine St.update (k:=least) (v:=1) klU umI S3.p4 fun u h4 S4=>?_
    refine j2 (top h) v.1 v.2 true (del R least) (upd H least 1) h4 ?_ (hS least v.1 v.2 hm fun x hx=>?_)
    · exact S4.to
    · rcases I.seen x hx with h1 | h1
      · cases h1
      · exact h1.2
theorem take_loop {t2:Addr}{r:Nat} (hR:∀ x∈R,0<x.1) (hN:TkN K L l mr mh R H) (hS:TkS K L l mr mh R H) :
    ∀ (fuel:Nat) (left:List (Int × (Int × Bool))) (cur:Option (Int × (Int × Bool))) (least:Int) (h:Heap),left.length<fuel→LeI R left least→St (ItA kkU vvE mr r R left cur::Bx t2 [.int .u64 0,.bool false]::Bx l [.map (some mr),.map (some mh)]::Mq kkU vvI mh H::L) h →
      qbh.L3 K fuel (some l) t2 least ⟨r,0,none⟩ h
  | 0,_,_,_,_,hf,_,_=>absurd hf (Nat.not_lt_zero _)
  | fuel+1,left,cur,least,h,hf,I,S=>by
    unfold qbh.L3
    refine St.next S (fun hl=>?_) (fun h1 l1 k v l2 hl hm S1=>?_)
    · subst hl
      exact ifF rfl (take_j1 (S.itEnd.p2.p2) I hR hN hS)
    · refine ifT rfl ?_
      refine St.entry S1 ⟨k,rfl,?_⟩
      have hk:0<k:=hR _ hm
      have go:∀ least',(least'=k∨(least'=least∧least≠0))→least'≤k→(least≠0→least'≤least)→qbh.L3 K fuel (some l) t2 least' ⟨r,0,none⟩ h1:=by
        intro least' h1' h2' h3'
        refine take_loop hR hN hS fuel (l1++l2) _ least' h1 (by rw [hl] at hf; simp at hf ⊢; omega) ⟨fun x hx=>?_,?_⟩ S1
        · rcases I.seen x hx with h4 | h4
          · rw [hl] at h4
            rcases List.mem_append.1 h4 with h5 | h5
            · exact .inl (List.mem_append.2 (.inl h5))
            · rcases List.mem_cons.1 h5 with h6 | h6
              · right; subst h6; exact ⟨by rcases h1' with e | e <;> omega,h2'⟩
              · exact .inl (List.mem_append.2 (.inr h6))
          · right
            have:=h3' h4.1
            exact ⟨by rcases h1' with e | e <;> omega,by omega⟩
        · rcases h1' with e | e
          · exact .inr ⟨_,hm,e.symm⟩
          · rcases I.is with e2 | e2
            · exact absurd e2 e.2
            · rw [e.1]; exact .inr e2
      by_cases h0:least=0
      · refine ifT' (by simp [h0]) ?_
        unfold qbh.j4
        exact ifT rfl (go k (.inl rfl) (Int.le_refl _) (fun e=>absurd h0 e))
      · refine ifF' (by simp [h0]) ?_
        unfold qbh.j4
        by_cases hlt:k<least
        · exact ifT (by simp [hlt]) (go k (.inl rfl) (Int.le_refl _) (fun _=>by omega))
        · exact ifF (by simp; omega) (go least (.inr ⟨rfl,h0⟩) (by omega) (fun _=>Int.le_refl _))
theorem takeLineS (S:St (LnA l mr mh R H L) h) (hR:∀ x∈R,0<x.1) (hN:TkN K L l mr mh R H) (hS:TkS K L l mr mh R H):CallsH P F.qbh [.pointer (some l)] K h:=by
  refine qbh.ok ?_
  unfold qbh.p0
  simp only [bd]
  have S1:St (Bx (top h) [.int .u64 0,.bool false]::LnA l mr mh R H L) (al h #[.int .u64 0,.bool false] T.api_Entry):=S.al [.int .u64 0,.bool false] T.api_Entry
  refine ⟨l,rfl,mr,S1.p1.c 0 rfl,?_⟩
  refine St.range umE S1.p2 fun h2 S2=>⟨R.length+1,?_⟩
  exact take_loop hR hN hS _ R none 0 h2 (Nat.lt_succ_self _) ⟨fun x hx=>.inl hx,.inl rfl⟩ S2
theorem hvE (id:Int):(get? H id).elim (.int .i64 0) vvI=.int .i64 (hv H id):=by unfold hv; cases get? H id <;> rfl
theorem backLineS {id:Int} (S:St (LnA l mr mh R H L) h) (hF:hv H id=0→∀ h',St (LnA l mr mh R H L) h'→K (.bool false) h')
    (hT:hv H id≠0→∀ h',St (LnA l mr mh (upd R id (id,true)) (del H id) L) h'→K (.bool true) h'):CallsH P F.qdq [.pointer (some l),.int .u64 id] K h:=by
  refine qdq.ok ?_
  unfold qdq.p0
  refine ⟨l,rfl,mh,S.c 1 rfl,?_⟩
  refine St.lookup (k:=id) klU umI zI17 S.p2 ?_
  simp only [Bool.false_eq_true,if_false]
  rw [hvE]
  refine ⟨_,rfl,?_⟩
  by_cases h0:hv H id=0
  · exact ifT (by simp [h0]) (hF h0 h S)
  · refine ifF (by simp [h0]) ⟨l,rfl,mh,S.c 1 rfl,?_⟩
    refine St.delete (k:=id) klU umI S.p2 fun h1 S1=>⟨l,rfl,mr,S1.p1.c 0 rfl,?_⟩
    exact St.update (k:=id) (v:=(id,true)) klU umE S1.p2 fun u h2 S2=>hT h0 h2 (S2.to)
theorem dropLineS {id:Int} (S:St (LnA l mr mh R H L) h) (hK:∀ h',St (LnA l mr mh (del R id) (del H id) L) h'→K (.bool ((get? R id).isSome || decide (0<hv H id))) h') :
    CallsH P F.qck [.pointer (some l),.int .u64 id] K h:=by
  refine qck.ok ?_
  unfold qck.p0
  refine ⟨l,rfl,mr,S.c 0 rfl,?_⟩
  have j1:∀ (b:Bool) (h':Heap),b=((get? R id).isSome || decide (0<hv H id))→St (LnA l mr mh R H L) h'→qck.j1 K (some l) id b h':=by
    intro b h' e S'
    subst e
    unfold qck.j1
    refine ⟨l,rfl,mr,S'.c 0 rfl,?_⟩
    refine St.delete (k:=id) klU umE S'.p1 fun h1 S1=>⟨l,rfl,mh,S1.p1.c 1 rfl,?_⟩
    exact St.delete (k:=id) klU umI S1.p2 fun h2 S2=>hK h2 S2.to
  refine St.lookup (k:=id) klU umE zE S.p1 ?_
  simp only [if_true,bd]
  have hz:∃ cs:List Value,cs.length=2∧(∀ w∈cs,one w=true)∧(get? R id).elim (.agg #[.int .u64 0,.bool false]) vvE=.agg cs.toArray:=by
    cases get? R id with
    | none=>exact ⟨[.int .u64 0,.bool false],rfl,by simp [one],rfl⟩
    | some x=>exact ⟨[.int .u64 x.1,.bool x.2],rfl,by simp [one],rfl⟩
  obtain ⟨cs,hc,ho,hz⟩:=hz
  rw [hz]
  refine ⟨cs,_,rfl,hc,?_⟩
  have S1:St (Bx (top h) [.int .u64 0,.bool false]::LnA l mr mh R H L) (al h #[.int .u64 0,.bool false] T.api_Entry):=S.al [.int .u64 0,.bool false] T.api_Entry
  refine S1.wrA (by rw [hc]; rfl) ho fun h2 S2=>?_
  have S3:=S2.tl
  cases hg:(get? R id).isSome with
  | true=>exact ifT' rfl (j1 true h2 (by rw [hg]; rfl) S3)
  | false =>
    refine ifF' rfl ⟨l,rfl,mh,S3.c 1 rfl,?_⟩
    refine St.lookup (k:=id) klU umI zI17 S3.p2 ?_
    simp only [Bool.false_eq_true,if_false]
    rw [hvE]
    exact ⟨_,rfl,j1 _ h2 (by rw [hg]; rfl) S3⟩
theorem heldLineS (S:St (LnA l mr mh R H L) h) (hw:∀ x∈H,0≤x.1∧x.1<18446744073709551616) (hl:H.length≤8796093022208)
    (hK:∀ h' s (ks:List Int),ks.Perm (H.map Prod.fst)→ks.Pairwise (·≤·)→St (Ow 1 s (ks.map kkU)::LnA l mr mh R H L) h'→K (.slice s.1 s.2.1 s.2.2) h'):CallsH P F.qdr [.pointer (some l)] K h:=by
  refine qdr.ok ?_
  unfold qdr.p0
  refine ⟨l,rfl,mh,S.c 1 rfl,?_⟩
  refine keys.sortedKeys_map_uint64_int_uint64_int (vv:=vvI) S.p2 (fun k hk=>?_) hl 0 fun h' s ks p q S'=>⟨_,_,_,rfl,?_⟩
  · obtain ⟨x,hx,rfl⟩:=List.mem_map.1 hk
    have:=hw x hx
    exact keyOf_i (by kernel_rfl) (by
      have e1:IntKind.u64.min=0:=by decide
      have e2:IntKind.u64.max=18446744073709551615:=by decide
      simp [Lit.wf,e1,e2]; omega)
  · exact hK h' s ks p (q.imp fun h=>by simpa [Lift.Ord.le,sort_uint64.o] using h) S'.to
end
end Go.Proofs.YtofpbcakppjgcaaGreatDoor.Pr
end
section
set_option linter.unusedVariables false
set_option linter.unusedSimpArgs false
namespace Go.Proofs.YtofpbcakppjgcaaGreatDoor.Pr
open Go Go.Lift Go.Proofs
theorem sl_entry:SlT P T.sl_api_Entry T.api_Entry 2 16 [.int .u64 0,.bool false]:=slT (by kernel_rfl) (by kernel_rfl)
theorem u_sle:P.underlying T.sl_api_Entry=some (.slice T.api_Entry):=by kernel_rfl
theorem bld_entry':(fun a b:Value=>Instr.fill (Lift.places P (P.underlying T.sl_api_Entry)) (zrow (zcl P T.api_Entry).toList 1 (P.cellsOf T.api_Entry)).toArray [(0,.agg (List.toArray [a,b]))])=fun a b=>some (List.toArray [a,b]):=by kernel_rfl
theorem bld_entry (a b:Value):bldS P T.sl_api_Entry T.api_Entry 1 [(0,.agg (List.toArray [a,b]))] [a,b]:=congrFun (congrFun bld_entry' a) b
abbrev ecell (x:Int × Bool):List Value:=[.int .u64 x.1,.bool x.2]
def entO (R:List (Int × (Int × Bool))) (k:Int):Int × Bool:=(get? R k).getD (0,false)
section
variable {K:KT}{L:List Asr}{h:Heap}{l:Addr}{mr mh:Nat}{R:List (Int × (Int × Bool))}{H:List (Int × Int)}
theorem entE (k:Int):(get? R k).elim (.agg #[.int .u64 0,.bool false]) vvE=.agg (List.toArray (ecell (entO R k))):=by unfold entO; cases get? R k <;> rfl
theorem ready_loop {s:SV}{ks:List Int} (hk:ks.length<4398046511104) (hK:∀ h' o,St (Ow 2 o ((ks.map (entO R)).flatMap ecell)::Ow 1 s (ks.map kkU)::LnA l mr mh R H L) h'→K (.slice o.1 o.2.1 o.2.2) h') :
    ∀ (fuel i:Nat) (o:SV) (h:Heap),ks.length - i<fuel→i≤ks.length→o.2.1=i→St (Ow 2 o (((ks.take i).map (entO R)).flatMap ecell)::Ow 1 s (ks.map kkU)::LnA l mr mh R H L) h→qce.L1 K fuel (some l) o.1 o.2.1 o.2.2 s.1 s.2.1 s.2.2 ((s.2.1:Nat):Int) i h
  | 0,_,_,_,hf,_,_,_=>absurd hf (Nat.not_lt_zero _)
  | fuel+1,i,o,h,hf,hi,ho,S=>by
    have el:s.2.1=ks.length:=by have:=S.p1.ow.1; simp at this; omega
    unfold qce.L1
    by_cases hlt:i<ks.length
    · refine ifT (by simp; omega) (ixV (n:=i) (w:=.int .u64 ks[i]) S.p1.sl rfl (by simp [hlt]) fun p ep cp=>⟨ks[i],cp,l,rfl,mr,S.p2.c 0 rfl,?_⟩)
      refine St.lookup (k:=ks[i]) klU umE zE S.p3 ?_
      simp only [Bool.false_eq_true,if_false,bd]
      rw [entE]
      refine ⟨_,rfl,_,bld_entry _ _,?_⟩
      have S1:St (Bx (top h) (ecell (entO R ks[i]))::Ow 2 o (((ks.take i).map (entO R)).flatMap ecell)::Ow 1 s (ks.map kkU)::LnA l mr mh R H L) (al h (ecell (entO R ks[i])).toArray T.api_Entry):=S.al _ _
      have sa:Sl 2 (al h (ecell (entO R ks[i])).toArray T.api_Entry) (some (top h)) 1 (ecell (entO R ks[i])):=⟨rfl,S1.mem.1⟩
      refine S1.p1.app sl_entry rfl u_sle (fun k e=>by cases e) (Src.slice (n:=1) (c:=1) sa (by simp [one])) (by omega) (by omega) fun p' c' h' S'=>⟨_,_,_,rfl,?_⟩
      have S2:St (Ow 2 (p',o.2.1+1,c') (((ks.take i).map (entO R)).flatMap ecell++ecell (entO R ks[i]))::Ow 1 s (ks.map kkU)::LnA l mr mh R H L) h':=S'.d1
      rw [show ((ks.take i).map (entO R)).flatMap ecell++ecell (entO R ks[i])=((ks.take (i+1)).map (entO R)).flatMap ecell by
        have e:ks.take (i+1)=ks.take i++[ks[i]]:=by rw [List.take_add_one,List.getElem?_eq_getElem hlt]; rfl
        rw [e,List.map_append,List.flatMap_append]; simp] at S2
      rw [show IntKind.i64.wrap ((i:Int)+1)=((i+1:Nat):Int) by rw [wrapI (by omega) (by omega)]; omega]
      exact ready_loop hk hK fuel (i+1) (p',o.2.1+1,c') h' (by omega) (by omega) (by simp [ho]) S2
    · refine ifF (by simp; omega) (hK h o ?_)
      rw [List.take_of_length_le (by omega)] at S
      exact S
theorem readyLineS (S:St (LnA l mr mh R H L) h) (hw:∀ x∈R,0≤x.1∧x.1<18446744073709551616) (hl:R.length<4398046511104)
    (hK:∀ h' o (ks:List Int),ks.Perm (R.map Prod.fst)→ks.Pairwise (·≤·)→St (Ow 2 o ((ks.map (entO R)).flatMap ecell)::LnA l mr mh R H L) h'→K (.slice o.1 o.2.1 o.2.2) h'):CallsH P F.qce [.pointer (some l)] K h:=by
  refine qce.ok ?_
  unfold qce.p0
  refine ⟨l,rfl,mr,S.c 0 rfl,?_⟩
  refine keys.sortedKeys_map_uint64_api_Entry_uint64_api_Entry (vv:=vvE) S.p1 (fun k hk=>?_) (by omega) 0 fun h' s ks p q S'=>⟨_,_,_,rfl,?_⟩
  · obtain ⟨x,hx,rfl⟩:=List.mem_map.1 hk
    have:=hw x hx
    exact keyOf_i (by kernel_rfl) (by
      have e1:IntKind.u64.min=0:=by decide
      have e2:IntKind.u64.max=18446744073709551615:=by decide
      simp [Lit.wf,e1,e2]; omega)
  · have S2:St (Ow 1 s (ks.map kkU)::LnA l mr mh R H L) h':=S'.p2.p1
    exact ⟨_,ready_loop (by rw [p.length_eq,List.length_map]; exact hl) (fun h2 o S3=>hK h2 o ks p (q.imp fun h=>by simpa [Lift.Ord.le,sort_uint64.o] using h) S3.d1) _ 0 (none,0,0) h' (Nat.lt_succ_self _) (Nat.zero_le _) rfl (S2.owNil 2)⟩
end
end Go.Proofs.YtofpbcakppjgcaaGreatDoor.Pr
end
section
set_option linter.unusedVariables false
set_option linter.unusedSimpArgs false
namespace Go.Proofs.YtofpbcakppjgcaaGreatDoor.Pr
open Go Go.Lift Go.Proofs
abbrev LRow:=List (Int × (Bool × Bool))
structure LRel (W:LRow) (R:List (Int × (Int × Bool))) (H:List (Int × Int)):Prop where
  up:Up W
  pos:∀ x∈W,0<x.1∧x.1<18446744073709551616
  nd:(R.map Prod.fst).Nodup
  ndH:(H.map Prod.fst).Nodup
  r:∀ k,get? R k=(get? W k).bind fun x=>if x.2 then none else some (k,x.1)
  hh:∀ k,get? H k=(get? W k).bind fun x=>if x.2 then some 1 else none
theorem LRel.nil:LRel [] [] []:=⟨List.Pairwise.nil,by simp,by simp,by simp,fun _=>rfl,fun _=>rfl⟩
theorem LRel.hv {W R H} (q:LRel W R H) (k:Int):Pr.hv H k=if (get? W k).any (·.2) then 1 else 0:=by
  unfold Pr.hv
  rw [q.hh]
  cases get? W k with
  | none=>rfl
  | some x=>obtain ⟨a,b⟩:=x; cases b <;> rfl
theorem LRel.has {W R H} (q:LRel W R H) (k:Int):(get? R k).isSome=(get? W k).any (!·.2):=by
  rw [q.r]
  cases get? W k with
  | none=>rfl
  | some x=>obtain ⟨a,b⟩:=x; cases b <;> rfl
theorem LRel.memR {W R H} (q:LRel W R H) {k:Int}{x:Int × Bool}:(k,x)∈R↔x.1=k∧(k,(x.2,false))∈W:=by
  rw [← get?_iff q.nd,q.r,← get?_iff q.up.nodup]
  cases h:get? W k with
  | none=>simp
  | some y =>
    obtain ⟨a,b⟩:=y
    obtain ⟨x1,x2⟩:=x
    cases b
    · simp only [Option.bind_some,Bool.false_eq_true,if_false,Option.some.injEq,Prod.mk.injEq,and_true,eq_comm (a:=k)]
    · simp
theorem LRel.put {W R H} (q:LRel W R H) {k:Int}{a:Bool} (h:get? W k=none) (hk:0<k∧k<18446744073709551616):LRel (ins W k (a,false)) (upd R k (k,a)) H:=by
  have hn:=get?_none.1 h
  refine ⟨q.up.ins hn,fun x hx=>?_,(upd_keys q.nd).1,q.ndH,fun j=>?_,fun j=>?_⟩
  · rcases ins_mem.1 hx with e | e
    · subst e; exact hk
    · exact q.pos x e
  · rw [get?_upd,q.up.get?_ins hn,q.r]
    by_cases e:j=k
    · subst e; simp
    · simp [e]
  · rw [q.up.get?_ins hn,q.hh]
    by_cases e:j=k
    · subst e; simp [h]
    · simp [e]
theorem LRel.take {W R H} (q:LRel W R H) {k:Int}{a:Bool} (h:(k,(a,false))∈W):LRel (upd W k (a,true)) (del R k) (upd H k 1):=by
  have hm:k∈W.map Prod.fst:=List.mem_map.2 ⟨_,h,rfl⟩
  refine ⟨q.up.upd hm,fun x hx=>?_,del_keys q.nd,(upd_keys q.ndH).1,fun j=>?_,fun j=>?_⟩
  · rcases (upd_mem q.up.nodup x).1 hx with e | e
    · subst e; exact (q.pos _ h :)
    · exact q.pos x e.1
  · rw [get?_del _ _ _ q.nd,get?_upd,q.r]
    by_cases e:j=k <;> simp [e]
  · rw [get?_upd,get?_upd,q.hh]
    by_cases e:j=k <;> simp [e]
theorem LRel.back {W R H} (q:LRel W R H) {k:Int}{a:Bool} (h:(k,(a,true))∈W):LRel (upd W k (true,false)) (upd R k (k,true)) (del H k):=by
  have hm:k∈W.map Prod.fst:=List.mem_map.2 ⟨_,h,rfl⟩
  refine ⟨q.up.upd hm,fun x hx=>?_,(upd_keys q.nd).1,del_keys q.ndH,fun j=>?_,fun j=>?_⟩
  · rcases (upd_mem q.up.nodup x).1 hx with e | e
    · subst e; exact (q.pos _ h :)
    · exact q.pos x e.1
  · rw [get?_upd,get?_upd,q.r]
    by_cases e:j=k
    · subst e; simp
    · simp [e]
  · rw [get?_del _ _ _ q.ndH,get?_upd,q.hh]
    by_cases e:j=k <;> simp [e]
theorem LRel.drop {W R H} (q:LRel W R H) (k:Int):LRel (del W k) (del R k) (del H k):=by
  refine ⟨q.up.del,fun x hx=>q.pos x (del_mem hx),del_keys q.nd,del_keys q.ndH,fun j=>?_,fun j=>?_⟩
  · rw [get?_del _ _ _ q.nd,get?_del _ _ _ q.up.nodup,q.r]
    by_cases e:j=k <;> simp [e]
  · rw [get?_del _ _ _ q.ndH,get?_del _ _ _ q.up.nodup,q.hh]
    by_cases e:j=k <;> simp [e]
abbrev readyL (W:LRow):List (Int × Bool):=(W.filter fun x=>!x.2.2).map fun x=>(x.1,x.2.1)
abbrev heldL (W:LRow):List Int:=(W.filter fun x=>x.2.2).map Prod.fst
theorem LRel.permR {W R H} (q:LRel W R H):(R.map Prod.fst).Perm ((readyL W).map Prod.fst):=by
  rw [List.perm_ext_iff_of_nodup q.nd]
  · intro k
    simp only [List.mem_map,List.mem_filter]
    constructor
    · rintro ⟨⟨k',x⟩,hx,rfl⟩
      obtain ⟨e,hw⟩:=q.memR.1 hx
      exact ⟨(k',x.2),⟨(k',(x.2,false)),⟨hw,rfl⟩,rfl⟩,rfl⟩
    · rintro ⟨y,⟨⟨k',a,b⟩,⟨hw,hb⟩,rfl⟩,rfl⟩
      cases b with
      | true=>cases hb
      | false=>exact ⟨(k',(k',a)),q.memR.2 ⟨rfl,hw⟩,rfl⟩
  · rw [List.map_map]
    exact (List.filter_sublist.map _).nodup q.up.nodup
theorem LRel.permH {W R H} (q:LRel W R H):(H.map Prod.fst).Perm (heldL W):=by
  rw [List.perm_ext_iff_of_nodup q.ndH]
  · intro k
    simp only [List.mem_map,List.mem_filter]
    constructor
    · rintro ⟨⟨k',n⟩,hx,rfl⟩
      have h1:=(get?_iff q.ndH).2 hx
      rw [q.hh] at h1
      cases h2:get? W k' with
      | none=>rw [h2] at h1; cases h1
      | some y =>
        obtain ⟨a,b⟩:=y
        rw [h2] at h1
        cases b with
        | false=>simp at h1
        | true=>exact ⟨_,⟨get?_mem h2,rfl⟩,rfl⟩
    · rintro ⟨⟨k',a,b⟩,⟨hw,hb⟩,rfl⟩
      cases b with
      | false=>cases hb
      | true=>exact ⟨(k',1),(get?_iff q.ndH).1 (by rw [q.hh,(get?_iff q.up.nodup).2 hw]; rfl),rfl⟩
  · exact (List.filter_sublist.map _).nodup q.up.nodup
def LnW (l:Addr) (W:LRow):Asr:=ex fun x:Nat × Nat × List (Int × (Int × Bool)) × List (Int × Int)=>sep (fact (LRel W x.2.2.1 x.2.2.2)) (stars [Bx l [.map (some x.1),.map (some x.2.1)],Mq kkU vvE x.1 x.2.2.1,Mq kkU vvI x.2.1 x.2.2.2])
section
variable {K:KT}{L:List Asr}{h:Heap}{l:Addr}{W:LRow}
theorem LnW.out (S:St (LnW l W::L) h):∃ mr mh R H,LRel W R H∧St (LnA l mr mh R H L) h:=by
  obtain ⟨⟨mr,mh,R,H⟩,S1⟩:=St.ex S
  obtain ⟨q,S2⟩:=S1.split.fact
  exact ⟨mr,mh,R,H,q,S2.open⟩
theorem LnW.inn {mr mh:Nat}{R:List (Int × (Int × Bool))}{H:List (Int × Int)} (q:LRel W R H) (S:St (LnA l mr mh R H L) h):St (LnW l W::L) h :=
  St.ex' (mr,mh,R,H) (St.join (St.fact' q (St.close (As:=[Bx l [.map (some mr),.map (some mh)],Mq kkU vvE mr R,Mq kkU vvI mh H]) S)))
theorem newLineW (S:St L h) (hK:∀ h' l,St (LnW l []::L) h'→K (.pointer (some l)) h'):CallsH P F.qef [] K h :=
  newLineS S fun h' l mr mh S1=>hK h' l (LnW.inn LRel.nil S1)
theorem putLineW {id:Int}{again:Bool} (S:St (LnW l W::L) h) (hid:0≤id∧id<18446744073709551616) (hF:((get? W id).isSome=true∨id=0)→∀ h',St (LnW l W::L) h'→K (.bool false) h')
    (hT:get? W id=none→id≠0→∀ h',St (LnW l (ins W id (again,false))::L) h'→K (.bool true) h'):CallsH P F.qcm [.pointer (some l),.int .u64 id,.bool again] K h:=by
  obtain ⟨mr,mh,R,H,q,S1⟩:=LnW.out S
  refine putLineS S1 (fun e h' S2=>hF ?_ h' (LnW.inn q S2)) fun e1 e2 e3 h' S2=>?_
  · rw [q.has,q.hv] at e
    rcases e with e | e | e
    · left; cases hg:get? W id with
      | none=>rw [hg] at e; cases e
      | some x=>rfl
    · exact .inr e
    · left; cases hg:get? W id with
      | none=>rw [hg] at e; simp at e
      | some x=>rfl
  · have hg:get? W id=none:=by
      rw [q.has] at e1
      rw [q.hv] at e3
      cases hg:get? W id with
      | none=>rfl
      | some x =>
        rw [hg] at e1 e3
        obtain ⟨a,b⟩:=x
        cases b <;> simp at e1 e3
    exact hT hg e2 h' (LnW.inn (q.put hg ⟨by omega,hid.2⟩) S2)
theorem takeLineW (S:St (LnW l W::L) h) (hN:(∀ x∈W,x.2.2=true)→∀ h',St (LnW l W::L) h'→K (.tuple #[.agg #[.int .u64 0,.bool false],.bool false]) h')
    (hT:∀ k a,(k,(a,false))∈W→(∀ x∈W,x.1<k→x.2.2=true)→∀ h',St (LnW l (upd W k (a,true))::L) h'→K (.tuple #[.agg #[.int .u64 k,.bool a],.bool true]) h'):CallsH P F.qbh [.pointer (some l)] K h:=by
  obtain ⟨mr,mh,R,H,q,S1⟩:=LnW.out S
  refine takeLineS S1 (fun x hx=>?_) (fun e h' S2=>hN (fun x hx=>?_) h' (LnW.inn q S2)) fun k i b hm hle h' S2=>?_
  · obtain ⟨k,y⟩:=x
    exact (q.pos _ (q.memR.1 hx).2).1
  · obtain ⟨k,a,b⟩:=x
    cases b with
    | true=>rfl
    | false =>
      have:=q.memR (x:=(k,a)) |>.2 ⟨rfl,hx⟩
      rw [e] at this
      cases this
  · obtain ⟨e,hw⟩:=q.memR.1 hm
    simp only at e hw
    subst e
    refine hT i b hw (fun x hx hlt=>?_) h' (LnW.inn (q.take hw) S2)
    obtain ⟨k,a,c⟩:=x
    cases c with
    | true=>rfl
    | false =>
      have:=hle _ (q.memR (x:=(k,a)) |>.2 ⟨rfl,hx⟩)
      simp at this hlt
      omega
theorem backLineW {id:Int} (S:St (LnW l W::L) h) (hF:(∀ a,(id,(a,true)) ∉ W)→∀ h',St (LnW l W::L) h'→K (.bool false) h')
    (hT:∀ a,(id,(a,true))∈W→∀ h',St (LnW l (upd W id (true,false))::L) h'→K (.bool true) h'):CallsH P F.qdq [.pointer (some l),.int .u64 id] K h:=by
  obtain ⟨mr,mh,R,H,q,S1⟩:=LnW.out S
  refine backLineS S1 (fun e h' S2=>hF (fun a hm=>?_) h' (LnW.inn q S2)) fun e h' S2=>?_
  · rw [q.hv,(get?_iff q.up.nodup).2 hm] at e
    simp at e
  · rw [q.hv] at e
    cases hg:get? W id with
    | none=>rw [hg] at e; simp at e
    | some x =>
      obtain ⟨a,b⟩:=x
      cases b with
      | false=>rw [hg] at e; simp at e
      | true=>exact hT a (get?_mem hg) h' (LnW.inn (q.back (get?_mem hg)) S2)
theorem dropLineW {id:Int} (S:St (LnW l W::L) h) (hK:∀ h',St (LnW l (del W id)::L) h'→K (.bool (get? W id).isSome) h') :
    CallsH P F.qck [.pointer (some l),.int .u64 id] K h:=by
  obtain ⟨mr,mh,R,H,q,S1⟩:=LnW.out S
  refine dropLineS S1 fun h' S2=>?_
  rw [q.has,q.hv,show ((get? W id).any (!·.2) || decide ((0:Int)<if (get? W id).any (·.2) then 1 else 0))=(get? W id).isSome by
    cases get? W id with
    | none=>rfl
    | some x=>obtain ⟨a,b⟩:=x; cases b <;> rfl]
  exact hK h' (LnW.inn (q.drop id) S2)
theorem heldLineW (S:St (LnW l W::L) h) (hl:W.length≤8796093022208)
    (hK:∀ h' s,St (Ow 1 s ((heldL W).map kkU)::LnW l W::L) h'→K (.slice s.1 s.2.1 s.2.2) h'):CallsH P F.qdr [.pointer (some l)] K h:=by
  obtain ⟨mr,mh,R,H,q,S1⟩:=LnW.out S
  have hlen:H.length≤W.length:=by
    have:=q.permH.length_eq
    rw [List.length_map,List.length_map] at this
    have:=List.length_filter_le (fun x:Int × (Bool × Bool)=>x.2.2) W
    omega
  refine heldLineS S1 (fun x hx=>?_) (by omega) fun h' s ks p o S2=>?_
  · have hm:x.1∈heldL W:=q.permH.mem_iff.1 (List.mem_map.2 ⟨x,hx,rfl⟩)
    obtain ⟨y,hy,e⟩:=List.mem_map.1 hm
    have:=q.pos y (List.mem_filter.1 hy).1
    rw [← e]; omega
  · have e:ks=heldL W:=perm_le (p.trans q.permH) o (Up.keys_le (q.up.sublist List.filter_sublist))
    subst e
    exact hK h' s (LnW.inn q S2.p3.p3.p3).p1
theorem readyLineW (S:St (LnW l W::L) h) (hl:W.length<4398046511104)
    (hK:∀ h' o,St (Ow 2 o ((readyL W).flatMap ecell)::LnW l W::L) h'→K (.slice o.1 o.2.1 o.2.2) h'):CallsH P F.qce [.pointer (some l)] K h:=by
  obtain ⟨mr,mh,R,H,q,S1⟩:=LnW.out S
  have hlen:R.length≤W.length:=by
    have:=q.permR.length_eq
    rw [List.length_map,List.length_map,List.length_map] at this
    have:=List.length_filter_le (fun x:Int × (Bool × Bool)=>!x.2.2) W
    omega
  refine readyLineS S1 (fun x hx=>?_) (by omega) fun h' s ks p o S2=>?_
  · obtain ⟨k,y⟩:=x
    have:=q.pos _ (q.memR.1 hx).2
    exact ⟨Int.le_of_lt this.1,this.2⟩
  · have e:ks=(readyL W).map Prod.fst:=perm_le (p.trans q.permR) o (by
      rw [List.map_map]
      exact Up.keys_le (q.up.sublist List.filter_sublist))
    have e2:ks.map (entO R)=readyL W:=by
      rw [e,List.map_map,List.map_map]
      refine List.map_congr_left fun x hx=>?_
      obtain ⟨hx1,hx2⟩:=List.mem_filter.1 hx
      obtain ⟨k,a,b⟩:=x
      cases b with
      | true=>cases hx2
      | false =>
        show entO R k=(k,a)
        unfold entO
        rw [(get?_iff q.nd).2 (q.memR (x:=(k,a)) |>.2 ⟨rfl,hx1⟩)]
        rfl
    rw [e2] at S2
    exact hK h' s (LnW.inn q S2.p3.p3.p3).p1
end
end Go.Proofs.YtofpbcakppjgcaaGreatDoor.Pr
end
