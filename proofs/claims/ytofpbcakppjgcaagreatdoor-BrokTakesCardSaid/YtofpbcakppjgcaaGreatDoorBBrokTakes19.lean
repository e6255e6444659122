/- brokTakes_holds: all that the theorem needs, in a few texts (bundle.py; made of the texts that NOTES.md names). -/
import Derived.Below
import Derived.DeepKeys4
import Derived.KernelRfl
import Derived.Laws.Append
import Derived.Laws.Bits64
import Derived.Laws.BitsAllLaws
import Derived.Laws.BitsLemmas
import Derived.Laws.IdiomStrings
import Derived.Laws.Sem
import Derived.Laws.Strings
import Derived.Laws.StructEq
import Derived.Lib.ItoaNum
import Derived.LoopN
import Derived.MapKept
import Derived.Orders
import Derived.Shelf.Lay
import Derived.Shelf.SlIter.Collect
import Derived.Shelf.Small.Bits
import Derived.Sort.KeysCollected
import Derived.Test.YtofpbcakppjgcaaGreatDoorChecked
import Derived.WideLaws
import Derived.Test.YtofpbcakppjgcaaGreatDoorBBrokTakes2
import Derived.Test.YtofpbcakppjgcaaGreatDoorBBrokTakes3
import Derived.Test.YtofpbcakppjgcaaGreatDoorBBrokTakes4
import Derived.Test.YtofpbcakppjgcaaGreatDoorBBrokTakes5
import Derived.Test.YtofpbcakppjgcaaGreatDoorBBrokTakes8
import Derived.Test.YtofpbcakppjgcaaGreatDoorBBrokTakes9
import Derived.Test.YtofpbcakppjgcaaGreatDoorBBrokTakes11
import Derived.Test.YtofpbcakppjgcaaGreatDoorBBrokTakes13
import Derived.Test.YtofpbcakppjgcaaGreatDoorBBrokTakes15
import Derived.Test.YtofpbcakppjgcaaGreatDoorBBrokTakes17
section
set_option linter.unusedSimpArgs false
set_option linter.unusedSectionVars false
set_option linter.unusedVariables false
namespace Go.Lift
open Go.Maps
section
variable {κ ν:Type} [DecidableEq κ] {kk:κ→Value}{vv:ν→Value}{P:Program}{kt:TypeId}{lit:κ→Lit}{ok:κ→Prop}
structure KeyRo (P:Program) (kt:TypeId) (kk:κ→Value) (lit:κ→Lit) (ok:κ→Prop):Prop where
  K:Keyed P kt
  inj:∀ a b,kk a=kk b→a=b
  inv:∀ key kl,keyOf P kt key=some kl→∃ x,key=kk x∧kl=lit x∧ok x
  rd:∀ x,ok x→keyOf P kt (kk x)=some (lit x)
theorem KeyRo.same (R:KeyRo P kt kk lit ok) {a b:κ} (ha:ok a) (hb:ok b):(lit a).sameKey (lit b)=decide (a=b):=by
  by_cases e:a=b
  · subst e
    rw [decide_eq_true rfl]
    have h:=R.K.key (R.rd a ha)
    cases hl:lit a with
    | bool b=>simp [Lit.sameKey]
    | int q b=>simp [Lit.sameKey]
    | string b=>simp [Lit.sameKey]
    | _=>rw [hl] at h; exact h.elim
  · rw [decide_eq_false e]
    cases hs:(lit a).sameKey (lit b) with
    | false=>rfl
    | true =>
      have e2:=WideAt.sameKey_eq hs
      have h2:=R.rd b hb
      rw [← e2] at h2
      exact absurd (R.inj _ _ (R.K.inj (R.rd a ha) h2)) e
def Colo (lit:κ→Lit) (ok:κ→Prop) (D0:DataW Unit) (left:Lit→Bool) (ss:List κ):Prop:=ss.Nodup∧(∀ x∈ss,ok x)∧∀ x,ok x→(x∈ss↔(has D0 (lit x)=true∧left (lit x)=false))
theorem Colo.start (lit:κ→Lit) (ok:κ→Prop) (D0:DataW Unit):Colo lit ok D0 (has D0) []:=⟨List.nodup_nil,fun x h=>(by cases h),fun x _=>(by cases has D0 (lit x) <;> simp)⟩
theorem Colo.step {D0:DataW Unit}{left:Lit→Bool}{ss:List κ} (h:Colo lit ok D0 left ss) (R:KeyRo P kt kk lit ok) {x:κ} (hx:ok x) {y:DataW Unit} (hlk:left (lit x)=true) (hat:∀ zd,D0.atKey (lit x) zd=y):Colo lit ok D0 (fun z=>left z && !z.sameKey (lit x)) (ss++[x]):=by
  have hhas:has D0 (lit x)=true:=has_true_of_atKey hat
  have hnew:x ∉ ss:=fun hm=>by have:=((h.2.2 x hx).1 hm).2; rw [hlk] at this; cases this
  refine ⟨List.nodup_append.2 ⟨h.1,by simp,fun a ha b hb=>by simp at hb; subst hb; exact fun e=>hnew (e ▸ ha)⟩,fun y hy=>?_,fun y oy=>?_⟩
  · rcases List.mem_append.1 hy with hy | hy
    · exact h.2.1 y hy
    · rw [List.mem_singleton.1 hy]; exact hx
  · by_cases hy:y=x
    · subst hy; simp [hhas,R.same hx hx]
    · simp [h.2.2 y oy,hy,R.same oy hx]
theorem Colo.perm {D0:DataW Unit}{left:Lit→Bool}{ss:List κ} (h:Colo lit ok D0 left ss) (hl:∀ kl,left kl=false) {ks:List κ} (hn:ks.Nodup) (ho:∀ k∈ks,ok k) (hk:∀ k,ok k→(has D0 (lit k)=true↔k∈ks)):ss.Perm ks :=
  (List.perm_ext_iff_of_nodup h.1 hn).2 fun x=>⟨fun hx=>(hk x (h.2.1 x hx)).1 ((h.2.2 x (h.2.1 x hx)).1 hx).1,fun hx=>(h.2.2 x (ho x hx)).2 ⟨(hk x (ho x hx)).2 hx,hl _⟩⟩
theorem owns_of_mpo (R:KeyRo P kt kk lit ok) {w:World}{m:Nat}{kvs:List (κ × ν)} (x:Mp kk vv w.heap (some m) kvs) (hw:∀ k∈kvs.map Prod.fst,ok k) (hs:kvs.length≤maxLen) :
    ∃ D,w.ownsMap P kt rUnit m kvs.length D∧Maps.size D=kvs.length∧∀ k,ok k→(has D (lit k)=true↔k∈kvs.map Prod.fst):=by
  obtain ⟨es,clock,hb,hst,hn,hbn,hbl⟩:=x
  have hlen:es.toList.length=kvs.length:=by have:=congrArg List.length hst; simpa using this
  have hsz:es.size=kvs.length:=by simpa using hlen
  have hkey:es.toList.map (·.key)=kvs.map fun x=>kk x.1:=by
    have:=congrArg (List.map Prod.fst) hst
    simpa [List.map_map,Function.comp_def] using this
  have hrd:∀ e∈es.toList,∃ k∈kvs.map Prod.fst,e.key=kk k∧WideElems.rd P kt rUnit e=some (lit k,.nil):=fun e he=>by
    have h1:e.key∈kvs.map fun x=>kk x.1:=by rw [← hkey]; exact List.mem_map.2 ⟨e,he,rfl⟩
    obtain ⟨y,hy,hye⟩:=List.mem_map.1 h1
    have hm:y.1∈kvs.map Prod.fst:=List.mem_map.2 ⟨y,hy,rfl⟩
    refine ⟨y.1,hm,hye.symm,?_⟩
    unfold WideElems.rd
    rw [← hye,R.rd _ (hw _ hm)]
    rfl
  have hper:=WideShapes.sorted_perm (es.toList.map (WideElems.rg P kt rUnit))
  refine ⟨_,⟨es,clock,hb,⟨by omega,⟨hbl,hbn,?_⟩,fun e he=>?_⟩,by omega,rfl⟩,?_,fun k ok=>?_⟩
  · rw [hkey,show (kvs.map fun x=>kk x.1)=(kvs.map Prod.fst).map kk by rw [List.map_map]; rfl,List.nodup_iff_pairwise_ne,List.pairwise_map]
    exact (List.nodup_iff_pairwise_ne.1 hn).imp fun h e=>h (R.inj _ _ e)
  · obtain ⟨k,_,_,h3⟩:=hrd e he
    exact ⟨_,h3⟩
  · rw [size_eq,hper.length_eq,List.length_map]
    exact hlen
  · rw [has_eq,List.any_eq_true]
    constructor
    · rintro ⟨p,hp,hs⟩
      obtain ⟨e,he,rfl⟩:=List.mem_map.1 (mem_sorted.1 hp)
      obtain ⟨k',hk',h2,h3⟩:=hrd e he
      rw [WideElems.rg_of h3,R.same (hw _ hk') ok] at hs
      rw [← of_decide_eq_true hs]
      exact hk'
    · intro hk
      obtain ⟨y,hy,rfl⟩:=List.mem_map.1 hk
      have h1:kk y.1∈es.toList.map (·.key):=by rw [hkey]; exact List.mem_map.2 ⟨y,hy,rfl⟩
      obtain ⟨e,he,hee⟩:=List.mem_map.1 h1
      obtain ⟨k',hk',h2,h3⟩:=hrd e he
      have:k'=y.1:=R.inj _ _ (h2.symm.trans hee)
      subst this
      exact ⟨_,mem_sorted.2 (List.mem_map.2 ⟨e,he,rfl⟩),by rw [WideElems.rg_of h3,R.same (hw _ hk') (hw _ hk')]; simp⟩
theorem own_of_rowN {sz:Nat}{w:World}{base:Nat}{e:TypeId}{v:Value}{n:Nat}{xs:List Value} (r:w.ownsRow base e sz v n xs):∃ p l c,v=.slice p l c∧Own sz w.heap p l c xs∧Fr base p:=by
  obtain ⟨hl,hr⟩:=r
  rcases hr with ⟨rfl,h0⟩ | ⟨g,cap,cur,rfl,hb,hg,hn,hm,hs,ht⟩
  · subst h0
    have:xs=[]:=List.eq_nil_of_length_eq_zero (by omega)
    subst this
    exact ⟨none,0,0,rfl,Own.nil sz _,fun a e=>by cases e⟩
  · refine ⟨_,_,_,rfl,⟨hl,hn,cur.toList.drop (n * sz),?_,?_⟩,fun a e=>by cases e; exact hb⟩
    · rw [List.length_drop,Array.length_toList,hs,Nat.sub_mul]
    · have e:xs++cur.toList.drop (n * sz)=cur.toList:=by rw [← ht,List.take_append_drop]
      rw [e]
      refine ⟨⟨fun _=>rfl,fun i hi=>?_⟩,fun i hi=>?_⟩
      · rw [show ((⟨g,0,none⟩:Addr).add i)=⟨g,i,none⟩ by unfold Addr.add; split <;> simp_all]
        simp only [hcell,hg]
        simp
      · rw [show ((⟨g,0,none⟩:Addr).add i)=⟨g,i,none⟩ by unfold Addr.add; split <;> simp_all]
        simp only [hfrozen,hg]
        simp
end
end Go.Lift
namespace Go.Proofs.YtofpbcakppjgcaaGreatDoor.Pr
open Go Go.Lift Go.Proofs Go.Maps
abbrev kkB (x:BN):Value:=.agg (List.toArray (bc x))
abbrev litB (x:BN):Lit:=.string (keyBytes [.string x.1,.string x.2.1,.string x.2.2])
abbrev okB (x:BN):Prop:=x.1.length≤maxLen∧x.2.1.length≤maxLen∧x.2.2.length≤maxLen
theorem bind_und:P.underlying T.api_Bind=some (.struct (P.fieldsOf T.api_Bind)):=by kernel_rfl
theorem bind_fields : P.fieldsOf T.api_Bind = #[⟨"Exch", T.string, 0, false, "", "", 0⟩, ⟨"Queue", T.string, 1, false, "", "", 16⟩, ⟨"Key", T.string, 2, false, "", "", 32⟩] := by kernel_rfl
theorem cells3:P.cellsOf T.api_Bind=3:=by kernel_rfl
theorem kt_bind:P.keyType T.api_Bind=true:=by kernel_rfl
theorem str_und:P.underlying T.string=some .string:=by kernel_rfl
theorem cells1:P.cellsOf T.string=1:=by kernel_rfl
theorem key_eq (v:Value):keyOf P T.api_Bind v=if v.formed P T.api_Bind=true then (P.keyLits (P.types.size+1) T.api_Bind v.cells.toList).map (fun ls=>.string (keyBytes ls)) else none:=by
  unfold keyOf
  simp only [bind_und,kt_bind,Bool.true_and]
theorem str_lit (n:Nat) (v:Value):P.keyLits (n+1) T.string [v]=match v with | .string s=>if s.size≤maxLen then some [.string s.data.toList] else none | _=>none:=by
  cases v <;> simp [Program.keyLits,str_und]
theorem bind_lits (n:Nat) (a b c:Value):P.keyLits (n+2) T.api_Bind [a,b,c]=(P.keyLits (n+1) T.string [a]).bind fun x=>(P.keyLits (n+1) T.string [b]).bind fun y=>(P.keyLits (n+1) T.string [c]).map fun z=>x++y++z:=by
  rw [Program.keyLits.eq_def]
  simp only [bind_und,bind_fields,cells3]
  simp [cells1,List.mapM_cons,List.mapM_nil]
  cases P.keyLits (n+1) T.string [a] <;> cases P.keyLits (n+1) T.string [b] <;> cases P.keyLits (n+1) T.string [c] <;> simp
theorem of3 {α:Type}:∀ l:List α,l.length=3→∃ a b c,l=[a,b,c]
  | [a,b,c],_=>⟨a,b,c,rfl⟩
theorem opt3 {s0 s1 s2:ByteArray}{kl:Lit} (h:(((if s0.size≤maxLen then some [Lit.string s0.data.toList] else none).bind fun x=>(if s1.size≤maxLen then some [Lit.string s1.data.toList] else none).bind fun y=>(if s2.size≤maxLen then some [Lit.string s2.data.toList] else none).map fun z=>x++y++z).map fun ls=>Lit.string (keyBytes ls))=some kl) :
    s0.size≤maxLen∧s1.size≤maxLen∧s2.size≤maxLen∧kl=.string (keyBytes [.string (sl s0),.string (sl s1),.string (sl s2)]):=by
  by_cases h0:s0.size≤maxLen
  · by_cases h1:s1.size≤maxLen
    · by_cases h2:s2.size≤maxLen
      · rw [if_pos h0,if_pos h1,if_pos h2] at h
        exact ⟨h0,h1,h2,(Option.some.inj h).symm⟩
      · rw [if_neg h2,if_pos h0,if_pos h1] at h; cases h
    · rw [if_neg h1,if_pos h0] at h; cases h
  · rw [if_neg h0] at h; cases h
theorem tsz:∃ n,P.types.size=n+1:=⟨P.types.size - 1,by kernel_rfl⟩
theorem keyRo_bind:KeyRo P T.api_Bind kkB litB okB where
  K:=Keyed.of_law (deep_law_laid (by kernel_rfl) (m:=2) (by omega) (by decide +kernel) (by kernel_rfl) (by kernel_rfl))
  inj:=fun a b e=>by
    have h:=congrArg (fun v:Value=>v.cells.toList) e
    simp only [Value.cells] at h
    obtain ⟨a0,a1,a2⟩:=a
    obtain ⟨b0,b1,b2⟩:=b
    simp [mkS] at h
    obtain ⟨h0,h1,h2⟩:=h
    rw [h0,h1,h2]
  inv:=fun key kl h=>by
    rw [key_eq] at h
    split at h
    · rename_i hf
      cases key with
      | agg cs =>
        simp only [Value.formed,bind_und,cells3,beq_iff_eq] at hf
        obtain ⟨l⟩:=cs
        obtain ⟨n,en⟩:=tsz
        obtain ⟨a,b,c,rfl⟩:=of3 l hf
        have h2:((P.keyLits (n+2) T.api_Bind [a,b,c]).map fun ls=>Lit.string (keyBytes ls))=some kl:=by rw [← h]; show _=Option.map _ (P.keyLits (P.types.size+1) T.api_Bind [a,b,c]); rw [en]
        rw [bind_lits,str_lit,str_lit,str_lit] at h2
        cases a with
        | string s0 =>
          cases b with
          | string s1 =>
            cases c with
            | string s2 =>
              obtain ⟨h0,h1,h3,h4⟩:=opt3 h2
              refine ⟨(sl s0,sl s1,sl s2),?_,h4,?_⟩
              · show Value.agg _=Value.agg (List.toArray [.string (mkS (sl s0)),.string (mkS (sl s1)),.string (mkS (sl s2))])
                rw [mkS_sl,mkS_sl,mkS_sl]
              · exact ⟨by rw [sl_length]; exact h0,by rw [sl_length]; exact h1,by rw [sl_length]; exact h3⟩
            | _=>exfalso; revert h2; simp only; split <;> (try split) <;> intro h2 <;> cases h2
          | _=>exfalso; revert h2; simp only; split <;> intro h2 <;> cases h2
        | _=>cases h2
      | _=>simp [Value.formed,bind_und] at hf
    · cases h
  rd:=fun x hx=>by
    rw [key_eq]
    have e:∀ s:List UInt8,s.length≤maxLen→(mkS s).size≤maxLen:=fun s h=>by rw [← sl_length,sl_mkS]; exact h
    obtain ⟨n,en⟩:=tsz
    rw [if_pos (by simp only [Value.formed,bind_und,cells3]; rfl)]
    show Option.map _ (P.keyLits (P.types.size+1) T.api_Bind (bc x))=_
    rw [en,bind_lits,str_lit,str_lit,str_lit]
    simp only [if_pos (e _ hx.1),if_pos (e _ hx.2.1),if_pos (e _ hx.2.2)]
    rfl
end Go.Proofs.YtofpbcakppjgcaaGreatDoor.Pr
end
