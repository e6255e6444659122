/- brokTakes_holds: all that the theorem needs, in a few texts (bundle.py; made of the texts that NOTES.md names). -/
import Derived.Below
import Derived.Laws.Append
import Derived.Laws.Bits64
import Derived.Laws.BitsAllLaws
import Derived.Laws.BitsLemmas
import Derived.Laws.IdiomStrings
import Derived.Laws.Sem
import Derived.Laws.Strings
import Derived.LoopN
import Derived.MapKept
import Derived.Orders
import Derived.Shelf.SlIter.Collect
import Derived.Sort.KeysCollected
import Derived.WideLaws
import Derived.Test.YtofpbcakppjgcaaGreatDoorBBrokTakes2
import Derived.Test.YtofpbcakppjgcaaGreatDoorBBrokTakes3
import Derived.Test.YtofpbcakppjgcaaGreatDoorBBrokTakes5
import Derived.Test.YtofpbcakppjgcaaGreatDoorBBrokTakes8
import Derived.Test.YtofpbcakppjgcaaGreatDoorBBrokTakes9
section
set_option linter.unusedSimpArgs false
set_option linter.unusedSectionVars false
set_option linter.unusedVariables false
namespace Go.Lift
open Go.Maps
section
variable {κ ν:Type} [DecidableEq κ] {kk:κ→Value}{vv:ν→Value}{P:Program}{kt:TypeId}{lit:κ→Lit}
structure KeyR (P:Program) (kt:TypeId) (kk:κ→Value) (lit:κ→Lit):Prop where
  K:Keyed P kt
  inj:∀ a b,kk a=kk b→a=b
  inv:∀ key kl,keyOf P kt key=some kl→∃ x,key=kk x∧kl=lit x
  same:∀ a b,(lit a).sameKey (lit b)=decide (a=b)
abbrev rUnit:Value→Option (DataW Unit × List MemPlace):=fun _=>some (.nil,[])
def Col (lit:κ→Lit) (D0:DataW Unit) (left:Lit→Bool) (ss:List κ):Prop:=ss.Nodup∧∀ x,x∈ss↔(has D0 (lit x)=true∧left (lit x)=false)
theorem Col.start (lit:κ→Lit) (D0:DataW Unit):Col lit D0 (has D0) []:=⟨List.nodup_nil,fun x=>by cases has D0 (lit x) <;> simp⟩
theorem Col.step {D0:DataW Unit}{left:Lit→Bool}{ss:List κ} (h:Col lit D0 left ss) (R:KeyR P kt kk lit) {x:κ}{y:DataW Unit} (hlk:left (lit x)=true) (hat:∀ zd,D0.atKey (lit x) zd=y):Col lit D0 (fun z=>left z && !z.sameKey (lit x)) (ss++[x]):=by
  have hhas:has D0 (lit x)=true:=has_true_of_atKey hat
  have hnew:x ∉ ss:=fun hx=>by have:=((h.2 x).1 hx).2; rw [hlk] at this; cases this
  refine ⟨List.nodup_append.2 ⟨h.1,by simp,fun a ha b hb=>by simp at hb; subst hb; exact fun e=>hnew (e ▸ ha)⟩,fun y=>?_⟩
  by_cases hy:y=x
  · subst hy; simp [hhas,R.same]
  · simp [h.2 y,hy,R.same]
theorem owns_of_mp (R:KeyR P kt kk lit) {w:World}{m:Nat}{kvs:List (κ × ν)} (x:Mp kk vv w.heap (some m) kvs) (hw:∀ k∈kvs.map Prod.fst,keyOf P kt (kk k)=some (lit k)) (hs:kvs.length≤maxLen) :
    ∃ D,w.ownsMap P kt rUnit m kvs.length D∧Maps.size D=kvs.length∧∀ k,has D (lit k)=true↔k∈kvs.map Prod.fst:=by
  obtain ⟨es,clock,hb,hst,hn,hbn,hbl⟩:=x
  have hlen:es.toList.length=kvs.length:=by have:=congrArg List.length hst; simpa using this
  have hsz:es.size=kvs.length:=by simpa using hlen
  have hkey:es.toList.map (·.key)=kvs.map fun x=>kk x.1:=by
    have:=congrArg (List.map Prod.fst) hst
    simpa [List.map_map,Function.comp_def] using this
  have hrd:∀ e∈es.toList,∃ k∈kvs.map Prod.fst,e.key=kk k∧WideElems.rd P kt rUnit e=some (lit k,.nil):=fun e he=>by
    have h1:e.key∈kvs.map fun x=>kk x.1:=by rw [← hkey]; exact List.mem_map.2 ⟨e,he,rfl⟩
    obtain ⟨y,hy,hye⟩:=List.mem_map.1 h1
    have hm:y.1∈kvs.map Prod.fst:=List.mem_map.2 ⟨y,hy,rfl⟩
    refine ⟨y.1,hm,hye.symm,?_⟩
    unfold WideElems.rd
    rw [← hye,hw _ hm]
    rfl
  have hper:=WideShapes.sorted_perm (es.toList.map (WideElems.rg P kt rUnit))
  refine ⟨_,⟨es,clock,hb,⟨by omega,⟨hbl,hbn,?_⟩,fun e he=>?_⟩,by omega,rfl⟩,?_,fun k=>?_⟩
  · rw [hkey,show (kvs.map fun x=>kk x.1)=(kvs.map Prod.fst).map kk by rw [List.map_map]; rfl,List.nodup_iff_pairwise_ne,List.pairwise_map]
    exact (List.nodup_iff_pairwise_ne.1 hn).imp fun h e=>h (R.inj _ _ e)
  · obtain ⟨k,_,_,h3⟩:=hrd e he
    exact ⟨_,h3⟩
  · rw [size_eq,hper.length_eq,List.length_map]
    exact hlen
  · rw [has_eq,List.any_eq_true]
    constructor
    · rintro ⟨p,hp,hs⟩
      obtain ⟨e,he,rfl⟩:=List.mem_map.1 (mem_sorted.1 hp)
      obtain ⟨k',hk',h2,h3⟩:=hrd e he
      rw [WideElems.rg_of h3,R.same] at hs
      rw [← of_decide_eq_true hs]
      exact hk'
    · intro hk
      obtain ⟨y,hy,rfl⟩:=List.mem_map.1 hk
      have h1:kk y.1∈es.toList.map (·.key):=by rw [hkey]; exact List.mem_map.2 ⟨y,hy,rfl⟩
      obtain ⟨e,he,hee⟩:=List.mem_map.1 h1
      obtain ⟨k',hk',h2,h3⟩:=hrd e he
      have:k'=y.1:=R.inj _ _ (h2.symm.trans hee)
      exact ⟨_,mem_sorted.2 (List.mem_map.2 ⟨e,he,rfl⟩),by rw [WideElems.rg_of h3,R.same,this]; simp⟩
theorem Col.perm {D0:DataW Unit}{left:Lit→Bool}{ss:List κ} (h:Col lit D0 left ss) (hl:∀ kl,left kl=false) {ks:List κ} (hn:ks.Nodup) (hk:∀ k,has D0 (lit k)=true↔k∈ks):ss.Perm ks :=
  (List.perm_ext_iff_of_nodup h.1 hn).2 fun x=>by rw [h.2 x,hl,hk]; simp
end
theorem own_of_row {w:World}{base:Nat}{e:TypeId}{v:Value}{n:Nat}{xs:List Value} (r:w.ownsRow base e 1 v n xs):∃ p l c,v=.slice p l c∧Own 1 w.heap p l c xs∧Fr base p:=by
  obtain ⟨hl,hr⟩:=r
  rcases hr with ⟨rfl,h0⟩ | ⟨g,cap,cur,rfl,hb,hg,hn,hm,hs,ht⟩
  · have:xs=[]:=List.eq_nil_of_length_eq_zero (by omega)
    subst this
    exact ⟨none,0,0,rfl,Own.nil 1 _,fun a e=>by cases e⟩
  · refine ⟨_,_,_,rfl,⟨hl,hn,cur.toList.drop n,?_,?_⟩,fun a e=>by cases e; exact hb⟩
    · rw [List.length_drop,Array.length_toList,hs]; omega
    · have e:xs++cur.toList.drop n=cur.toList:=by rw [← ht,Nat.mul_one,List.take_append_drop]
      rw [e]
      refine ⟨⟨fun _=>rfl,fun i hi=>?_⟩,fun i hi=>?_⟩
      · rw [show ((⟨g,0,none⟩:Addr).add i)=⟨g,i,none⟩ by unfold Addr.add; split <;> simp_all]
        simp only [hcell,hg]
        simp
      · rw [show ((⟨g,0,none⟩:Addr).add i)=⟨g,i,none⟩ by unfold Addr.add; split <;> simp_all]
        simp only [hfrozen,hg]
        simp
abbrev encI (q:IntKind):Int→Value:=fun x=>.int q x
abbrev encS:List UInt8→Value:=fun x=>.string (mkS x)
theorem keyR_int {P:Program}{kt:TypeId}{q:IntKind} (hk:P.underlying kt=some (.int q)):KeyR P kt (encI q) (.int q) where
  K:=int_keyed hk
  inj:=fun a b e=>by cases e; rfl
  inv:=fun key kl h=>by
    cases key <;> simp [keyOf,hk,mapKey] at h
    obtain ⟨⟨rfl,_⟩,rfl⟩:=h
    exact ⟨_,rfl,rfl⟩
  same:=fun a b=>by simp [Lit.sameKey]
theorem keyR_str {P:Program}{kt:TypeId} (hk:P.underlying kt=some .string):KeyR P kt encS .string where
  K:=string_keyed hk
  inj:=fun a b e=>by
    injection e with e
    have:=congrArg sl e
    rwa [sl_mkS,sl_mkS] at this
  inv:=fun key kl h=>by
    obtain ⟨x,h1,h2,_⟩:=keyOf_str hk h
    exact ⟨x,h1,h2⟩
  same:=fun a b=>by
    show (a==b)=decide (a=b)
    by_cases h:a=b <;> simp [h]
theorem keyOf_i {P:Program}{kt:TypeId}{q:IntKind} (hk:P.underlying kt=some (.int q)) {a:Int} (hw:(Lit.int q a).wf=true):keyOf P kt (encI q a)=some (.int q a):=keyOf_int_mk hk hw
theorem keyOf_s {P:Program}{kt:TypeId} (hk:P.underlying kt=some .string) {a:List UInt8} (hw:a.length≤maxLen):keyOf P kt (encS a)=some (.string a):=by
  have:(mkS a).size≤maxLen:=by rw [← sl_length,sl_mkS]; exact hw
  simp only [keyOf,hk,mapKey,encS]
  rw [if_pos this]
  rfl
end Go.Lift
end
