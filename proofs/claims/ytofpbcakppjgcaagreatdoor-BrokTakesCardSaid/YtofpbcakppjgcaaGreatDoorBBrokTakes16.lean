/- brokTakes_holds: all that the theorem needs, in a few texts (bundle.py; made of the texts that NOTES.md names). -/
import Derived.Below
import Derived.Carry
import Derived.ChangeOld
import Derived.ChangeShapes
import Derived.Laws.Append
import Derived.Laws.Bits64
import Derived.Laws.BitsAllLaws
import Derived.Laws.BitsLemmas
import Derived.Laws.IdiomStrings
import Derived.Laws.Sem
import Derived.Laws.Strings
import Derived.LoopN
import Derived.MapKept
import Derived.OpenShut
import Derived.Orders
import Derived.WideLaws
import Derived.WideShapes
import Derived.Test.YtofpbcakppjgcaaGreatDoorBBrokTakes2
import Derived.Test.YtofpbcakppjgcaaGreatDoorBBrokTakes3
import Derived.Test.YtofpbcakppjgcaaGreatDoorBBrokTakes5
import Derived.Test.YtofpbcakppjgcaaGreatDoorBBrokTakes8
import Derived.Test.YtofpbcakppjgcaaGreatDoorBBrokTakes9
section
set_option linter.unusedVariables false
set_option linter.unusedSimpArgs false
namespace Go.Lift
open Go.RowKit
section
variable {H:Type}{enc:TypeId × Value→H}{P:Program}{W:World}
def Rd (enc:TypeId × Value→H) (P:Program) (W:World) (fuel:Nat) (t:TypeId) (cs:List Value):Prop:=∃ x,DataW.trod enc P W 0 (fun _=>true) true fuel t cs=some x
theorem rd_int {fuel:Nat}{t:TypeId}{k:IntKind}{cs:List Value} (ht:P.underlying t=some (.int k)) (h:Rd enc P W fuel t cs):∃ n,cs=[.int k n]∧(Lit.int k n).wf=true:=by
  obtain ⟨x,h⟩:=h
  cases fuel with
  | zero=>simp [DataW.trod] at h
  | succ m =>
    unfold DataW.trod at h
    rw [ht] at h
    split at h <;> simp_all
theorem hcell_spot {h:Heap}{a:Addr} (e:hcell h a≠none):a.spot=none:=by
  rcases Option.eq_none_or_eq_some a.spot with hs | ⟨z,hs⟩
  · exact hs
  · exfalso
    apply e
    unfold hcell
    split
    · rw [hs]; rfl
    · rfl
theorem cells?_at {base:Nat}{a:Addr}{n:Nat}{cs:List Value} (h:W.cells? base a n=some cs):cs.length=n∧∀ i,i<n→hcell W.heap (a.add i)=cs[i]?:=by
  unfold World.cells? at h
  split at h
  · have hl:=mapM_some_length h
    refine ⟨by simpa using hl,fun i hi=>?_⟩
    have:=mapM_some_get h i i (by simp [hi])
    rw [← cell_eq]
    exact this
  · cases h
theorem rd_slice {fuel:Nat}{t e:TypeId}{cs:List Value} (ht:P.underlying t=some (.slice e)) (h:Rd enc P W fuel t cs) :
    ∃ (s:SV) (rows:List (List Value)) (m:Nat),cs=[s.v]∧rows.length=s.2.1∧s.2.1≤s.2.2∧s.2.2≤maxLen∧Sl (P.cellsOf e) W.heap s.1 s.2.1 rows.flatten∧fuel=m+1∧∀ r∈rows,r.length=P.cellsOf e∧Rd enc P W m e r:=by
  obtain ⟨x,h⟩:=h
  rcases DataW.trod_slice ht h with ⟨h0,_⟩ | ⟨a,len,cap,elems,rest,n,rfl,rfl,_,hb,hl,hm,hlen,hel,hsp,_⟩
  · cases fuel with
    | zero=>simp [DataW.trod] at h
    | succ m=>exact ⟨(none,0,0),[],m,h0,rfl,Nat.le_refl _,Nat.zero_le _,⟨by simp,rfl⟩,rfl,by simp⟩
  have each:∀ i,i<len→∃ r:List Value,W.cells? 0 (a.add (i * P.cellsOf e)) (P.cellsOf e)=some r∧Rd enc P W n e r:=by
    intro i hi
    have:=hel i hi
    rw [List.getElem?_eq_getElem (by omega)] at this
    obtain ⟨r,h1,h2⟩:=Option.bind_eq_some_iff.1 this
    exact ⟨r,h1,_,h2⟩
  have hs0:0<len * P.cellsOf e→a.spot=none:=by
    intro hp
    obtain ⟨r,h4,h5⟩:=each 0 (Nat.pos_of_mul_pos_right hp)
    obtain ⟨h6,h7⟩:=cells?_at h4
    have hp2:0<P.cellsOf e:=Nat.pos_of_mul_pos_left hp
    have:=h7 0 hp2
    rw [Nat.zero_mul,add_zero,add_zero,List.getElem?_eq_getElem (by omega)] at this
    exact hcell_spot (by rw [this]; simp)
  have rows:∀ k,k≤len→∃ rs:List (List Value),rs.length=k∧(∀ r∈rs,r.length=P.cellsOf e∧Rd enc P W n e r)∧∀ i,i<k * P.cellsOf e→hcell W.heap (a.add i)=rs.flatten[i]?:=by
    intro k
    induction k with
    | zero=>intro _; exact ⟨[],rfl,by simp,by simp⟩
    | succ k ih =>
      intro hk
      obtain ⟨rs,h1,h2,h3⟩:=ih (by omega)
      obtain ⟨r,h4,h5⟩:=each k (by omega)
      obtain ⟨h6,h7⟩:=cells?_at h4
      have hfl:∀ l:List (List Value),(∀ r∈l,r.length=P.cellsOf e)→l.flatten.length=l.length * P.cellsOf e:=by
        intro l
        induction l with
        | nil=>intro _; simp
        | cons y t ih2 =>
          intro hy
          simp only [List.flatten_cons,List.length_append,List.length_cons,hy y (List.mem_cons_self ..),ih2 fun r hr=>hy r (List.mem_cons_of_mem _ hr),Nat.add_mul,Nat.one_mul]
          omega
      have hrs:=hfl rs fun r hr=>(h2 r hr).1
      rw [h1] at hrs
      refine ⟨rs++[r],by simp [h1],fun q hq=>?_,fun i hi=>?_⟩
      · rcases List.mem_append.1 hq with hq | hq
        · exact h2 q hq
        · rw [List.mem_singleton] at hq; subst hq; exact ⟨h6,h5⟩
      · rw [List.flatten_append]
        by_cases hlt:i<k * P.cellsOf e
        · rw [List.getElem?_append_left (by omega)]; exact h3 i hlt
        · rw [List.getElem?_append_right (by omega),hrs]
          have hi2:i - k * P.cellsOf e<P.cellsOf e:=by rw [Nat.add_mul] at hi; omega
          have:=h7 (i - k * P.cellsOf e) hi2
          have hs:a.spot=none:=hs0 (by
            have h8:0<P.cellsOf e:=by omega
            exact Nat.mul_pos (by omega) h8)
          rw [add_add hs] at this
          rw [show k * P.cellsOf e+(i - k * P.cellsOf e)=i by omega] at this
          simpa using this
  obtain ⟨rs,h1,h2,h3⟩:=rows len (Nat.le_refl _)
  have hfl:rs.flatten.length=len * P.cellsOf e:=by
    rw [← h1]
    clear h1 h3 hel hsp
    induction rs with
    | nil=>simp
    | cons y t ih2 =>
      simp only [List.flatten_cons,List.length_append,List.length_cons,(h2 y (List.mem_cons_self ..)).1,ih2 fun r hr=>h2 r (List.mem_cons_of_mem _ hr),Nat.add_mul,Nat.one_mul]
      omega
  refine ⟨(some a,len,cap),rs,n,rfl,h1,hl,hm,⟨hfl,⟨fun hv=>?_,fun i hi=>h3 i (by omega)⟩⟩,rfl,fun r hr=>h2 r hr⟩
  have hpos:=List.length_pos_iff.2 hv
  exact hs0 (by omega)
theorem rd_of {t:TypeId}{v:Value}{d:DataW H}{p:List MemPlace} (h:DataW.Trod enc P W 0 (fun _=>true) true t v d p):∃ fuel,Rd enc P W fuel t v.cells.toList:=by
  obtain ⟨fuel,h⟩:=h
  exact ⟨fuel,_,h⟩
theorem arg_int {r:Reach}{b0:Nat}{t:TypeId}{k:IntKind}{v:Value}{d:DataW H}{p:List MemPlace} (ht:P.underlying t=some (.int k)) (hval:Value.okWide P W r b0 t v) (h:DataW.Trod enc P W 0 (fun _=>true) true t v d p):∃ n,v=.int k n∧(Lit.int k n).wf=true:=by
  obtain ⟨n,rfl⟩:=Go.WideShapes.okWide_int ht hval
  obtain ⟨fuel,h⟩:=rd_of h
  obtain ⟨m,e,hw⟩:=rd_int ht h
  simp [Value.cells] at e
  subst e
  exact ⟨n,rfl,hw⟩
theorem arg_sl1 {r:Reach}{b0:Nat}{t e:TypeId}{v:Value}{d:DataW H}{p:List MemPlace}{α:Type}{C:α→Value}{Q:α→Prop} (ht:P.underlying t=some (.slice e)) (hc:P.cellsOf e=1) (hC:∀ m cs,Rd enc P W m e cs→∃ x,cs=[C x]∧Q x)
    (hval:Value.okWide P W r b0 t v) (h:DataW.Trod enc P W 0 (fun _=>true) true t v d p):∃ (s:SV) (xs:List α),v=s.v∧Sl 1 W.heap s.1 s.2.1 (xs.map C)∧s.2.1≤s.2.2∧s.2.2≤maxLen∧∀ x∈xs,Q x:=by
  obtain ⟨a,len,cap,rfl⟩:=Go.WideShapes.okWide_slice ht hval
  obtain ⟨fuel,h⟩:=rd_of h
  obtain ⟨s,rows,m,e1,h1,h2,h3,h4,h5,h6⟩:=rd_slice ht h
  simp only [Value.cells,List.cons.injEq,and_true] at e1
  rw [hc] at h4
  have:∃ xs:List α,rows.flatten=xs.map C∧∀ x∈xs,Q x:=by
    clear h1 h4 e1
    induction rows with
    | nil=>exact ⟨[],rfl,by simp⟩
    | cons y l ih =>
      obtain ⟨xs,g1,g2⟩:=ih fun r hr=>h6 r (List.mem_cons_of_mem _ hr)
      obtain ⟨x,rfl,g3⟩:=hC m y (h6 y (List.mem_cons_self ..)).2
      refine ⟨x::xs,by simp [g1],fun z hz=>?_⟩
      rcases List.mem_cons.1 hz with rfl | hz
      · exact g3
      · exact g2 z hz
  obtain ⟨xs,g1,g2⟩:=this
  rw [g1] at h4
  exact ⟨s,xs,by simpa using e1,h4,h2,h3,g2⟩
theorem wf_i64 {n:Int} (h:(Lit.int .i64 n).wf=true):-9223372036854775808≤n∧n<9223372036854775808:=by simp [Lit.wf,IntKind.min,IntKind.max,IntKind.signed,IntKind.bits] at h; omega
end
theorem trodAll_below {H:Type}{enc:TypeId × Value→H}{P:Program} (hl:laidOutB P=true) {W W':World} (hb:Below W.heap.size W W'):∀ {ts:List TypeId}{vs:List Value}{ds:List (DataW H)}{ps:List MemPlace},
    (∀ t∈ts,P.readableRec t=true∧t<P.types.size)→DataW.TrodAll enc P W 0 (fun _=>true) true ts vs ds ps→(∀ x∈ps,x.block<W.heap.size)→DataW.TrodAll enc P W' 0 (fun b=>decide (b<W.heap.size)) true ts vs ds ps
  | [],[],[],ps,_,h,_=>h
  | t::ts,v::vs,d::ds,ps,ht,⟨p,q,h1,h2,e⟩,hlt=>by
    subst e
    exact ⟨p,q,Below.trod hl (ht t (List.mem_cons_self ..)).1 (ht t (List.mem_cons_self ..)).2 h1 hb fun x hx=>hlt x (List.mem_append_left _ hx),
      trodAll_below hl hb (fun u hu=>ht u (List.mem_cons_of_mem _ hu)) h2 fun x hx=>hlt x (List.mem_append_right _ hx),rfl⟩
  | [],_::_,_,_,_,h,_=>h.elim
  | [],[],_::_,_,_,h,_=>h.elim
  | _::_,[],_,_,_,h,_=>h.elim
  | _::_,_::_,[],_,_,h,_=>h.elim
end Go.Lift
end
