/- brokTakes_holds: all that the theorem needs, in a few texts (bundle.py; made of the texts that NOTES.md names). -/
import Derived.Below
import Derived.Laws.Append
import Derived.Laws.Bits64
import Derived.Laws.BitsAllLaws
import Derived.Laws.BitsLemmas
import Derived.Laws.IdiomStrings
import Derived.Laws.Sem
import Derived.Laws.Strings
import Derived.LoopN
import Derived.MapKept
import Derived.Maps.RangeRun
import Derived.Orders
import Derived.WideLaws
import Derived.Test.YtofpbcakppjgcaaGreatDoorBBrokTakes2
import Derived.Test.YtofpbcakppjgcaaGreatDoorBBrokTakes3
import Derived.Test.YtofpbcakppjgcaaGreatDoorBBrokTakes5
import Derived.Test.YtofpbcakppjgcaaGreatDoorBBrokTakes8
import Derived.Test.YtofpbcakppjgcaaGreatDoorBBrokTakes9
section
set_option linter.unusedSimpArgs false
set_option linter.unusedSectionVars false
set_option linter.unusedVariables false
namespace Go.Lift
open Go.ChangeMaps (setBlock)
variable {κ ν:Type} [DecidableEq κ]
def ItP (kk:κ→Value) (vv:ν→Value) (h:Heap) (m r:Nat) (kvs left:List (κ × ν)) (cur:Option (κ × ν)):Prop :=
  ∃ es clock since seen c0,h[m]? = some (.map es clock)∧Stands kk vv es.toList kvs∧(kvs.map Prod.fst).Nodup∧(es.toList.map (·.born)).Nodup∧(∀ e∈es.toList,e.born<clock) ∧
    h[r]? = some (.mapIter (some m) since seen c0)∧(∀ e∈es.toList,e.born<since)∧since≤c0∧since≤clock∧Stands kk vv (es.toList.filter fun e=>!seen.contains e.born) left∧m≠r∧left.Sublist kvs ∧
    ∀ x,cur=some x→c0=clock∧∃ e∈es.toList,e.key=kk x.1∧e.val=vv x.2∧∃ s0:Array Nat,seen=s0.push e.born
def ItA (kk:κ→Value) (vv:ν→Value) (m r:Nat) (kvs left:List (κ × ν)) (cur:Option (κ × ν)):Asr:=own (fun b=>b=m∨b=r) (fun h=>ItP kk vv h m r kvs left cur)
theorem ItP.loc {kk:κ→Value}{vv:ν→Value}{h h':Heap}{m r:Nat}{kvs left:List (κ × ν)}{cur:Option (κ × ν)} (e:∀ b,b=m∨b=r→h'[b]? = h[b]?) (x:ItP kk vv h m r kvs left cur):ItP kk vv h' m r kvs left cur:=by
  obtain ⟨es,clock,since,seen,c0,h1,h2,h3,h4,h5,h6,h7⟩:=x
  exact ⟨es,clock,since,seen,c0,by rw [e m (.inl rfl)]; exact h1,h2,h3,h4,h5,by rw [e r (.inr rfl)]; exact h6,h7⟩
theorem ItP.mp {kk:κ→Value}{vv:ν→Value}{h:Heap}{m r:Nat}{kvs left:List (κ × ν)}{cur:Option (κ × ν)} (x:ItP kk vv h m r kvs left cur):Mp kk vv h (some m) kvs:=by
  obtain ⟨es,clock,since,seen,c0,h1,h2,h3,h4,h5,_⟩:=x
  exact ⟨es,clock,h1,h2,h3,h4,h5⟩
theorem ItA.lc (kk:κ→Value) (vv:ν→Value) (m r:Nat) (kvs left:List (κ × ν)) (cur:Option (κ × ν)):Lc (fun b=>b=m∨b=r) (fun h=>ItP kk vv h m r kvs left cur):=fun h1 h2 e x=>x.loc e
theorem Stands.get {kk:κ→Value}{vv:ν→Value}{es:List MapEntry}{kvs:List (κ × ν)} (s:Stands kk vv es kvs) {i:Nat}{e:MapEntry} (h:es[i]? = some e):∃ k v,kvs[i]? = some (k,v)∧e.key=kk k∧e.val=vv v:=by
  have:=congrArg (·[i]?) s
  simp only [List.getElem?_map,h,Option.map_some] at this
  cases hk:kvs[i]? with
  | none=>rw [hk] at this; cases this
  | some x =>
    rw [hk] at this
    simp only [Option.map_some,Option.some.injEq,Prod.mk.injEq] at this
    exact ⟨x.1,x.2,rfl,this.1,this.2⟩
theorem Stands.erase {kk:κ→Value}{vv:ν→Value}{es:List MapEntry}{kvs:List (κ × ν)} (s:Stands kk vv es kvs) (i:Nat):Stands kk vv (es.eraseIdx i) (kvs.eraseIdx i):=by
  unfold Stands at *
  rw [List.eraseIdx_eq_take_drop_succ,List.eraseIdx_eq_take_drop_succ,List.map_append,List.map_append,List.map_take,List.map_take,List.map_drop,List.map_drop,s]
theorem filter_seen {es:List MapEntry} (hn:(es.map (·.born)).Nodup) {seen:Array Nat}{i:Nat}{e:MapEntry} (h:(es.filter fun e=>!seen.contains e.born)[i]? = some e) :
    (es.filter fun x=>!(seen.push e.born).contains x.born)=(es.filter fun x=>!seen.contains x.born).eraseIdx i:=by
  have hsub:((es.filter fun e=>!seen.contains e.born).map (·.born)).Nodup:=(List.filter_sublist.map _).nodup hn
  have e1:(es.filter fun x=>!(seen.push e.born).contains x.born)=(es.filter fun x=>!seen.contains x.born).filter fun x=>x.born != e.born:=by
    rw [List.filter_filter]
    congr 1
    funext x
    simp [Array.contains_push]
    rw [Bool.eq_iff_iff]
    simp
    constructor
    · intro ⟨a,b⟩; exact ⟨fun c=>b c,a⟩
    · intro ⟨a,b⟩; exact ⟨b,fun c=>a c⟩
  rw [e1]
  generalize (es.filter fun x=>!seen.contains x.born)=l at *
  clear e1 hn
  induction l generalizing i with
  | nil=>simp at h
  | cons y t ih =>
    simp only [List.map_cons,List.nodup_cons,List.mem_map,not_exists,not_and] at hsub
    cases i with
    | zero =>
      simp only [List.getElem?_cons_zero,Option.some.injEq] at h
      subst h
      simp only [List.eraseIdx_zero,List.tail_cons,List.filter_cons,bne_self_eq_false,Bool.false_eq_true,if_false]
      rw [List.filter_eq_self]
      intro x hx
      simp only [bne_iff_ne,ne_eq]
      exact fun c=>hsub.1 x hx c
    | succ i =>
      simp only [List.getElem?_cons_succ] at h
      have hm:=List.mem_of_getElem? h
      have hne:(y.born != e.born)=true:=by
        simp only [bne_iff_ne,ne_eq]
        exact fun c=>hsub.1 e hm c.symm
      simp only [List.eraseIdx_cons_succ,List.filter_cons,hne,if_true]
      rw [ih h hsub.2]
section
variable {L:List Asr}{h:Heap}{kk:κ→Value}{vv:ν→Value}{kvs left:List (κ × ν)}
theorem St.range {P:Program}{t kt et:TypeId} (ht:P.underlying t=some (.map kt et)) {m:Nat} (S:St (Mq kk vv m kvs::L) h) {F:Addr→Heap→Prop} (hK:∀ h',St (ItA kk vv m h.size kvs kvs none::L) h'→F ⟨h.size,0,none⟩ h') :
    SemH P (Instr.range t (.map (some m))) (fun u h'=>∃ a:Addr,u=.pointer (some a)∧F a h') h:=by
  intro w hw
  obtain ⟨es,clock,hb,hs,hn,hbn,hbl⟩:=S.mp
  have hlt:=S.mp.lt
  have hb':=hb
  rw [← hw] at hb'
  refine ⟨_,_,run_range_map w t kt et m es clock ht hb',⟨⟨h.size,0,none⟩,by rw [hw],?_⟩,⟨rfl,rfl,rfl⟩⟩
  refine hK _ ?_
  have e1:(w.alloc (.mapIter (some m) clock #[] clock)).heap=h.push (.mapIter (some m) clock #[] clock):=by rw [← hw]; rfl
  rw [e1]
  have hm:(h.push (.mapIter (some m) clock #[] clock))[m]? = some (.map es clock):=by rw [Array.getElem?_push_lt hlt]; rw [← hb,Array.getElem?_eq_getElem hlt]
  refine St.own_step S ⟨by simp,fun b hb1 _=>by rw [Array.getElem?_push_lt hb1,Array.getElem?_eq_getElem hb1]⟩ (fun b hb1=>?_) (fun b hb1=>?_) (ItA.lc kk vv m h.size kvs kvs none) ?_
  · rcases hb1 with rfl | rfl
    · exact .inl rfl
    · exact .inr (Nat.le_refl _)
  · rcases hb1 with rfl | rfl <;> simp <;> omega
  · refine ⟨es,clock,clock,#[],clock,hm,hs,hn,hbn,hbl,by simp,hbl,Nat.le_refl _,Nat.le_refl _,?_,by omega,List.Sublist.refl _,fun x e=>by cases e⟩
    have:(es.toList.filter fun e=>!(#[]:Array Nat).contains e.born)=es.toList:=by rw [List.filter_eq_self]; intro x _; simp
    rw [this]
    exact hs
theorem St.itEnd {m r:Nat}{cur:Option (κ × ν)} (S:St (ItA kk vv m r kvs left cur::L) h):St (Mq kk vv m kvs::L) h:=by
  have x:=S.own.1.mp
  have hb:=S.own.2
  exact St.own_step S ⟨Nat.le_refl _,fun _ _ _=>rfl⟩ (fun b e=>.inl (.inl e)) (fun b e=>by subst e; exact x.lt) (Mq.lc kk vv m kvs) x
theorem St.next {P:Program}{m r:Nat}{ty:TypeId}{cur:Option (κ × ν)} (S:St (ItA kk vv m r kvs left cur::L) h) {A:Heap→Prop}{B:Value→Value→Heap→Prop} (hA:left=[]→A h)
    (hB:∀ h' l1 k v l2,left=l1++(k,v)::l2→(k,v)∈kvs→St (ItA kk vv m r kvs (l1++l2) (some (k,v))::L) h'→B (kk k) (vv v) h') :
    SemH P (Instr.next (.pointer (some ⟨r,0,none⟩)) false ty) (fun u h'=>(u=.tuple #[.bool false]∧A h')∨∃ x y:Value,u=.tuple #[.bool true,x,y]∧B x y h') h:=by
  intro w hw
  obtain ⟨es,clock,since,seen,c0,h1,h2,h3,h4,h5,h6,h7,h8,h9,h10,h11,h12,_⟩:=S.own.1
  have hr:w.heap[r]? = some (.mapIter (some m) since seen c0):=by rw [hw]; exact h6
  have hb:w.heap[m]? = some (.map es clock):=by rw [hw]; exact h1
  have hlo:(leftOf es seen).toList=es.toList.filter fun e=>!seen.contains e.born:=by unfold leftOf; simp
  rcases run_next_at (P:=P) w ty r m since c0 seen es clock hr hb h7 h8 with ⟨h0,hrun⟩ | ⟨e,he,w1,hal,hrun⟩
  · refine ⟨_,w,hrun,.inl ⟨rfl,?_⟩,Rest.refl w⟩
    rw [hw]
    refine hA ?_
    have hz:(es.toList.filter fun e=>!seen.contains e.born)=[]:=by rw [← hlo]; exact List.eq_nil_of_length_eq_zero (by simpa using h0)
    rw [hz] at h10
    have:=congrArg List.length h10
    exact List.eq_nil_of_length_eq_zero (by simpa using this.symm)
  · rw [hlo] at he
    obtain ⟨i,hi⟩:=List.getElem?_of_mem he
    obtain ⟨k,v,hkv,ek,ev⟩:=h10.get hi
    have hil:=(List.getElem?_eq_some_iff.1 hkv).1
    have hsplit:left=left.take i++(k,v)::left.drop (i+1):=by
      have:left[i]=(k,v):=(List.getElem?_eq_some_iff.1 hkv).2
      rw [← this,List.getElem_cons_drop,List.take_append_drop]
    have hem:e∈es.toList:=(List.mem_filter.1 he).1
    obtain ⟨j,hj⟩:=List.getElem?_of_mem hem
    obtain ⟨k',v',hkv',ek',ev'⟩:=h2.get hj
    have hw1:w1.heap=h:=by rcases hal with rfl | rfl <;> exact hw
    have hrl:r<h.size:=(Array.getElem?_eq_some_iff.1 h6).1
    refine ⟨_,_,hrun,.inr ⟨_,_,rfl,?_⟩,?_⟩
    · rw [ek,ev]
      have he2:(setBlock w1 r (.mapIter (some m) since (seen.push e.born) clock)).heap=h.set! r (.mapIter (some m) since (seen.push e.born) clock):=by rw [← hw1]; rfl
      rw [he2]
      have hne:∀ b,b≠r→(h.set! r (.mapIter (some m) since (seen.push e.born) clock))[b]? = h[b]?:=fun b hb'=>by simp [Array.getElem?_setIfInBounds,Ne.symm hb']
      have hat:(h.set! r (.mapIter (some m) since (seen.push e.born) clock))[r]? = some (.mapIter (some m) since (seen.push e.born) clock):=by simp [hrl]
      refine hB _ (left.take i) k v (left.drop (i+1)) hsplit ?_ ?_
      · exact h12.subset (by rw [hsplit]; simp)
      refine St.own_step S ⟨by simp,fun b hb1 hb2=>hne b fun e=>hb2 (.inr e)⟩ (fun b hb1=>.inl hb1) (fun b hb1=>?_) (ItA.lc kk vv m r kvs _ _) ?_
      · have hml:m<h.size:=(Array.getElem?_eq_some_iff.1 h1).1
        rcases hb1 with rfl | rfl <;> simp <;> omega
      · refine ⟨es,clock,since,seen.push e.born,clock,by rw [hne m h11]; exact h1,h2,h3,h4,h5,hat,h7,h9,h9,?_,h11,?_,fun x hx=>?_⟩
        · rw [filter_seen h4 hi,← List.eraseIdx_eq_take_drop_succ]
          exact h10.erase i
        · refine List.Sublist.trans ?_ h12
          conv=>rhs; rw [hsplit]
          exact List.Sublist.append (List.Sublist.refl _) (List.sublist_cons_self _ _)
        · cases hx
          exact ⟨rfl,e,hem,ek,ev,seen,rfl⟩
    · rcases hal with rfl | rfl <;> exact ⟨rfl,rfl,rfl⟩
theorem St.entry {P:Program}{m r:Nat}{k:κ}{v:ν} (S:St (ItA kk vv m r kvs left (some (k,v))::L) h) {E:Value→Value→Heap→Prop} (hE:E (kk k) (vv v) h) :
    SemH P (Instr.entry (.pointer (some ⟨r,0,none⟩))) (fun u h'=>∃ x y:Value,u=.tuple #[x,y]∧E x y h') h:=by
  intro w hw
  obtain ⟨es,clock,since,seen,c0,h1,h2,h3,h4,h5,h6,h7,h8,h9,h10,h11,h12,h13⟩:=S.own.1
  obtain ⟨rfl,e,hem,ek,ev,s0,rfl⟩:=h13 _ rfl
  refine ⟨_,w,run_entry_at w r m since s0 es c0 e (by rw [hw]; exact h6) (by rw [hw]; exact h1) hem h4,⟨_,_,rfl,?_⟩,Rest.refl w⟩
  rw [hw,ek,ev]
  exact hE
end
end Go.Lift
end
