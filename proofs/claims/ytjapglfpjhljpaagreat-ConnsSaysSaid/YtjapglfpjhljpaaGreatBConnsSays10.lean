/- connsSays_holds: all that the theorem needs, in a few texts (bundle.py; made of the texts that NOTES.md names). -/
import Derived.Below
import Derived.Laws.Append
import Derived.Laws.Bits64
import Derived.Laws.BitsAllLaws
import Derived.Laws.BitsLemmas
import Derived.Laws.IdiomStrings
import Derived.Laws.Sem
import Derived.Laws.Strings
import Derived.Laws.StructEq
import Derived.LoopN
import Derived.MapKept
import Derived.Orders
import Derived.WideLaws
import Derived.Test.YtjapglfpjhljpaaGreatBConnsSays1
import Derived.Test.YtjapglfpjhljpaaGreatBConnsSays2
import Derived.Test.YtjapglfpjhljpaaGreatBConnsSays3
import Derived.Test.YtjapglfpjhljpaaGreatBConnsSays7
import Derived.Test.YtjapglfpjhljpaaGreatBConnsSays8
section
set_option linter.unusedVariables false
set_option linter.unusedSimpArgs false
namespace Go.Lift
theorem callV_fn {P:Program}{f:FuncId}{args:List Value}{cs:Array Value}{K:KT}{h:Heap} (c:CallsH P f (args++cs.toList) K h):CallV P (.func (.func f) #[] cs) args K h :=
  ⟨f,#[],cs,rfl,by simpa using c⟩
theorem slA_z (p:OA) (c sz:Nat):slA p 0 c sz=p:=by
  unfold slA
  split
  · rfl
  · cases p with
    | none=>rfl
    | some a=>simp [Nat.zero_mul,add_zero]
section
variable {L:List Asr}{h:Heap}
theorem flat_take {α:Type}{f:α→List Value}{n:Nat} (hf:∀ x,(f x).length=n):∀ (l:List α) (i:Nat),(l.flatMap f).take (i * n)=(l.take i).flatMap f
  | [],i=>by simp
  | y::t,0=>by simp
  | y::t,i+1=>by
    rw [List.flatMap_cons,List.take_succ_cons,List.flatMap_cons,← flat_take hf t i,show (i+1) * n=(f y).length+i * n by rw [hf,Nat.add_mul,Nat.one_mul,Nat.add_comm],List.take_length_add_append]
theorem flat_drop {α:Type}{f:α→List Value}{n:Nat} (hf:∀ x,(f x).length=n):∀ (l:List α) (i:Nat),(l.flatMap f).drop (i * n)=(l.drop i).flatMap f
  | [],i=>by simp
  | y::t,0=>by simp
  | y::t,i+1=>by
    rw [List.flatMap_cons,List.drop_succ_cons,← flat_drop hf t i,show (i+1) * n=(f y).length+i * n by rw [hf,Nat.add_mul,Nat.one_mul,Nat.add_comm],List.drop_length_add_append]
end
end Go.Lift
end
section
set_option linter.unusedVariables false
namespace Go.Lift
open Go
theorem slA_blk {p:OA}{n c sz:Nat}{a:Addr} (e:slA p n c sz=some a):∃ b,p=some b∧b.block=a.block:=by
  unfold slA at e
  split at e
  · exact ⟨a,e,rfl⟩
  · cases p with
    | none=>cases e
    | some b=>simp at e; exact ⟨b,rfl,by rw [← e,add_block]⟩
theorem Own.drop {sz n:Nat}{h:Heap}{p:OA}{l c:Nat}{vs:List Value} (o:Own sz h p l c vs) (hn:n≤l):Own sz h (slA p n c sz) (l - n) (c - n) (vs.drop (n * sz)):=by
  obtain ⟨h1,h2,h3⟩:=o
  refine ⟨by rw [List.length_drop,h1,Nat.sub_mul],by omega,?_⟩
  have le:n * sz≤vs.length:=by rw [h1]; exact Nat.mul_le_mul_right sz hn
  cases p with
  | none =>
    have e:slA none n c sz=none:=by unfold slA; split <;> rfl
    simp only at h3
    rw [e]
    show c - n=0
    omega
  | some a =>
    obtain ⟨r,h4,h5⟩:=h3
    unfold slA
    by_cases e:c=n
    · rw [if_pos e]
      have:l=n:=by omega
      subst this
      refine ⟨[],by rw [show c - l - (l - l)=0 by omega]; simp,?_⟩
      rw [List.drop_eq_nil_of_le (by omega)]
      exact ⟨At.nil _ _,fun i hi=>absurd hi (Nat.not_lt_zero i)⟩
    · rw [if_neg e]
      refine ⟨r,by rw [h4]; congr 1; omega,?_⟩
      have:=h5.drop (n * sz)
      rw [List.drop_append_of_le_length le] at this
      exact this
section
variable {L:List Asr}{h:Heap}
theorem St.owDrop {sz n:Nat}{s:SV}{vs:List Value} (S:St (Ow sz s vs::L) h) (hn:n≤s.2.1):St (Ow sz (slA s.1 n s.2.2 sz,s.2.1 - n,s.2.2 - n) (vs.drop (n * sz))::L) h:=by
  have hd:∀ b,(0<(s.2.2 - n) * sz∧∃ a,slA s.1 n s.2.2 sz=some a∧a.block=b)→(0<s.2.2 * sz∧∃ a,s.1=some a∧a.block=b):=by
    intro b ⟨h0,a,e1,e2⟩
    obtain ⟨a',e3,e4⟩:=slA_blk e1
    exact ⟨Nat.lt_of_lt_of_le h0 (Nat.mul_le_mul_right sz (Nat.sub_le _ _)),a',e3,by rw [e4,e2]⟩
  exact S.own_step (Keeps.refl _ _) (fun b x=>.inl (hd b x)) (fun b x=>S.own.2 b (hd b x)) (Ow.lc sz _ _) (S.ow.drop hn)
end
end Go.Lift
end
section
set_option linter.unusedVariables false
set_option linter.unusedSimpArgs false
namespace Go.Lift
open Go
def UBb (U:Value→Prop) (h:Heap) (b:Nat):Prop:=∀ x:Addr,x.block=b→∀ v,hcell h x=some v→U v
theorem UBb.loc {U:Value→Prop}{h h':Heap}{b:Nat} (e:h'[b]? = h[b]?) (u:UBb U h b):UBb U h' b:=fun x hx v hv=>u x hx v (by rw [← hcell_eq (h:=h) (h':=h') (by rw [hx,e])]; exact hv)
theorem hset_val {h:Heap}{a x:Addr}{v w:Value} (e:hcell (hset h a v) x=some w):w=v∨hcell h x=some w:=by
  unfold hcell hset at *
  rw [Array.getElem?_modify] at e
  by_cases hb:a.block=x.block
  · rw [if_pos hb] at e
    rw [← hb] at e ⊢
    cases ho:h[a.block]? with
    | none=>rw [ho] at e; cases e
    | some o =>
      rw [ho] at e
      cases o with
      | cells c t f =>
        simp only [Option.map_some] at e ⊢
        by_cases hx:x.spot.isSome
        · simp [hx] at e
        · simp only [hx,if_false] at e ⊢
          by_cases ha:a.spot.isSome
          · simp only [ha,if_true] at e; exact .inr e
          · simp only [ha,if_false] at e
            simp only [Bool.false_eq_true,if_false] at e
            rw [Array.getElem?_setIfInBounds] at e
            split at e
            · split at e
              · cases e; exact .inl rfl
              · cases e
            · exact .inr e
      | _=>simp at e
  · rw [if_neg hb] at e
    exact .inr e
theorem stC_UB {U:Value→Prop}:∀ {vs:List Value}{h h':Heap}{a:Addr}{i b:Nat},stC h a i vs=some h'→(∀ v∈vs,U v)→UBb U h b→UBb U h' b
  | [],h,h',a,i,b,e,_,u=>by simp only [stC,Option.some.injEq] at e; subst e; exact u
  | v::vs,h,h',a,i,b,e,hv,u=>by
    unfold stC at e
    split at e
    · split at e
      · refine stC_UB e (fun w hw=>hv w (List.mem_cons_of_mem _ hw)) fun x hx w hw=>?_
        rcases hset_val hw with rfl | hw
        · exact hv _ (List.mem_cons_self ..)
        · exact u x hx w hw
      · cases e
    · cases e
theorem append_U {P:Program}{t tx ty e:TypeId}{d:TypeDesc}{by':Nat}{z:Value} (T:SlT P t e 1 by' [z]) (htx:P.underlying tx=some d) (hd:∀ k,d≠.int k) {U:Value→Prop}
    {h:Heap}{p:Option Addr}{l c n:Nat}{vs ws:List Value}{xv:Value} (o:Own 1 h p l c vs) (s:Src P 1 h xv n ws)
    (hb:(l+n) * by'≤140737488355328) (h63:l+n≤9223372036854775807) (uz:U z) (uv:∀ v∈vs,U v) (uw:∀ v∈ws,U v) (ub:0<c→∀ a,p=some a→UBb U h a.block) {K:Value→Heap→Prop}
    (hK:∀ p' c' h',Own 1 h' p' (l+n) c' (vs++ws)→(p'=p∧c'=c∧h'.size=h.size∨p'=some (top h)∧h'.size=h.size+1)→Keeps (fun k=>0<c * 1∧∃ a,p=some a∧a.block=k) h h' →
      (0<c'→∀ a,p'=some a→UBb U h' a.block)→K (.slice p' (l+n) c') h') :
    SemH P (Builtin.append_ #[t,tx] ty #[.slice p l c,xv]) K h:=by
  intro w hw
  obtain ⟨hu,i,zv,hi,hsz,hby,hzv,hzc⟩:=T
  have hnx:(match P.underlying tx with | some (.int _)=>true | _=>false)=false:=by
    rw [htx]
    cases d <;> first | rfl | exact absurd rfl (hd _)
  have hlen:=(s.2.2 w hw).1
  have hzeros:(d matches .int _)=false:=by
    cases d <;> first | rfl | exact absurd rfl (hd _)
  by_cases hroom:l+n≤c
  · have hnew:=(s.2.2 w hw).2
    cases p with
    | none =>
      have h1:=o.1; have h2:=o.2.1; have h3:=o.2.2
      simp only at h3
      have hl:l=0:=by omega
      have hn:n=0:=by omega
      subst hl; subst hn
      have hws:ws=[]:=List.eq_nil_of_length_eq_zero (by simpa using s.1)
      have hvs:vs=[]:=List.eq_nil_of_length_eq_zero (by simpa using h1)
      subst hws; subst hvs
      refine ⟨.slice none 0 c,w,?_,?_,Rest.refl w⟩
      · simp [Builtin.append_,Go.run_underlying hu,Go.run_underlying htx,hzeros,sizeOf,typeInfo,hi,hsz,hlen,hnew]
      · rw [hw]
        exact hK none c h ⟨by simp,Nat.zero_le _,h3⟩ (.inl ⟨rfl,rfl,rfl⟩) (Keeps.refl _ h) (fun _ a e=>by cases e)
    | some a =>
      obtain ⟨r,h1,h2⟩:=o.2.2
      have hl2:=o.1
      have hl3:=s.1
      have hcr:c - l=n+(c - (l+n)):=by omega
      rw [hcr,Nat.add_mul] at h1
      obtain ⟨h',e1,e2,e3,e4⟩:=stC_many (a:=a) (ws:=ws) (i:=vs.length) h2 (by simp; omega) s.2.1
      have hst:stC w.heap (a.add (l * 1)) 0 ws=some h':=by
        by_cases hw0:ws=[]
        · subst hw0
          simp only [Go.Lift.stC,Option.some.injEq] at e1 ⊢
          rw [hw]; exact e1
        · have h5:=List.length_pos_iff.2 hw0
          have hsp:a.spot=none:=h2.1.1 fun e=>by
            have:=congrArg List.length e
            simp only [List.length_append,List.length_nil] at this
            omega
          rw [hw,stC_shift hsp,← hl2]; exact e1
      obtain ⟨w',r1,r2,r3⟩:=run_storeCells P (a.add (l * 1)) ws 0 w h' hst
      refine ⟨.slice (some a) (l+n) c,w',?_,?_,r3⟩
      · simp at r1
        simp [Builtin.append_,Go.run_underlying hu,Go.run_underlying htx,hzeros,sizeOf,typeInfo,hi,hsz,hlen,hnew,hroom,r1]
      · rw [r2]
        refine hK (some a) c h' ⟨by simp [hl2,hl3,Nat.add_mul],hroom,r.drop ws.length,by simp; omega,?_⟩ (.inl ⟨rfl,rfl,e4⟩) ?_ ?_
        have hd1:(vs++r).take vs.length=vs:=by simp
        have hd2:(vs++r).drop (vs.length+ws.length)=r.drop ws.length:=by simp [List.drop_append]
        · rw [hd1,hd2] at e2
          exact e2
        · by_cases hw0:ws=[]
          · subst hw0
            simp only [Go.Lift.stC,Option.some.injEq] at e1
            subst e1
            exact Keeps.refl _ _
          · refine e3.mono fun k _ hk=>⟨?_,a,rfl,hk.symm⟩
            have h5:=List.length_pos_iff.2 hw0
            have h6:0<n * 1:=by omega
            exact Nat.lt_of_lt_of_le h6 (Nat.mul_le_mul_right 1 (by omega))
        · intro hc a' ea
          cases ea
          exact stC_UB e1 uw (ub hc a rfl)
  · have hfit:=growslice_fits (need:=l+n) (old:=c) (bytes:=by') (by omega) hb
    have hw':w.drew.heap=h:=hw
    have hnew:=(s.2.2 w.drew hw').2
    have hold:(Builtin.firstCells 1 l (.slice p l c)).run P w.drew=.ok vs.toArray w.drew:=by
      have o':=o.sl
      cases p with
      | none=>have e:=o'.2; simp only at e; subst e; simp [Builtin.firstCells]
      | some a =>
        refine run_firstCells_some (P:=P) w.drew 1 l a l c vs o'.1 fun j v hv=>?_
        rw [cell_eq,hw']
        exact At.get o'.2 hv
    have g1:¬ (9223372036854775807<((l:Int)+(n:Int))∧by'=0):=by omega
    have g2:¬ (281474976710656<Builtin.nextslicecap (l+n) c * by'):=by omega
    refine ⟨.slice (some (top h)) (l+n) (grownCap w (l+n) c e),{ w.drew with heap:=al h (vs++ws++rep (grownCap w (l+n) c e - (l+n)) [z]).toArray e },?_,?_,⟨rfl,rfl,rfl⟩⟩
    · simp [Builtin.append_,Go.run_underlying hu,Go.run_underlying htx,hzeros,sizeOf,typeInfo,zeroValue,hi,hsz,hby,hzv,hlen,hnew,hold,hroom,g1,g2,Question.forced,newRow,hzc,zeroCells_eq]
      subst hw
      refine ⟨⟨rfl,rfl⟩,?_⟩
      rfl
    · refine hK _ _ _ ⟨by simp [o.1,s.1,Nat.add_mul],grownCap_le _ _ _ _,rep (grownCap w (l+n) c e - (l+n)) [z],by rw [rep_length]; rfl,Mem.new h _ e⟩ (.inr ⟨rfl,al_size _ _ _⟩) (Keeps.al _ h _ e) ?_
      intro _ a ea x hx v hv
      cases ea
      have hv':(vs++ws++rep (grownCap w (l+n) c e - (l+n)) [z]).toArray[x.off]? = some v:=by
        unfold hcell al at hv
        rw [hx,top_block] at hv
        simp only [Array.getElem?_push_size] at hv
        split at hv
        · cases hv
        · exact hv
      have hm:=List.mem_of_getElem? (by simpa using hv')
      rw [rep_one] at hm
      have hm2:v∈vs∨v∈ws∨v∈List.replicate (grownCap w (l+n) c e - (l+n)) z:=by simpa [or_assoc] using hm
      rcases hm2 with hm | hm | hm
      · exact uv v hm
      · exact uw v hm
      · rw [(List.mem_replicate.1 hm).2]; exact uz
abbrev odm (s:SV):Nat→Prop:=fun b=>0<s.2.2 * 1∧∃ a,s.1=some a∧a.block=b
def OuP (U:Value→Prop) (s:SV) (vs:List Value) (h:Heap):Prop:=Own 1 h s.1 s.2.1 s.2.2 vs∧(0<s.2.2→∀ a,s.1=some a→UBb U h a.block)
def Ou (U:Value→Prop) (s:SV) (vs:List Value):Asr:=own (odm s) (OuP U s vs)
def Lent (U:Value→Prop) (s:SV) (vs:List Value):Asr:=sh (odm s) (OuP U s vs)
theorem OuP.lc (U:Value→Prop) (s:SV) (vs:List Value):Lc (odm s) (OuP U s vs):=fun h1 h2 e ⟨m,u⟩ =>
  ⟨m.loc fun hc a ea=>e _ ⟨hc,a,ea,rfl⟩,fun hc a ea=>(u hc a ea).loc (e _ ⟨by simpa using hc,a,ea,rfl⟩)⟩
def av (D:Nat→Prop) (A:Asr):Asr:=fun E I=>A E I∧∀ b,D b→E b=none∧I b=none
section
variable {L:List Asr}{h:Heap}{U:Value→Prop}
theorem St.avs {D:Nat→Prop}{Φ:Heap→Prop} (S:St (Lift.own D Φ::L) h):St (Lift.own D Φ::L.map (av D)) h:=by
  obtain ⟨E,I,T,e,h0,hk,hp,ha⟩:=S.cons_elim
  refine St.cons_intro (T:=T.map fun t=>⟨av D t.A,t.E,t.I⟩) (by rw [← e]; simp [Function.comp_def]) h0 ?_ ?_ ?_
  · intro t ht
    obtain ⟨u,hu,rfl⟩:=List.mem_map.1 ht
    have o:=hk u hu
    have a:=ha u hu
    refine ⟨⟨o.hA,fun b hb=>?_⟩,o.e,o.i,o.d⟩
    have hE:E b≠none:=(h0.hA.1 b).2 hb
    exact ⟨(a.1 b).resolve_left hE,(a.2.1 b).resolve_left hE⟩
  · rw [List.pairwise_map]
    exact hp
  · intro t ht
    obtain ⟨u,hu,rfl⟩:=List.mem_map.1 ht
    exact ha u hu
theorem St.unavs {D:Nat→Prop}{A:Asr} (S:St (A::L.map (av D)) h):St (A::L) h:=by
  obtain ⟨E,I,T,e,h0,hk,hp,ha⟩:=S.cons_elim
  have rec':∀ (L:List Asr) (T:List Slot),T.map Slot.A=L.map (av D)→(∀ t∈T,Slot.ok h t)→T.Pairwise Slot.ap →
      ∃ T':List Slot,T'.map Slot.A=L∧(∀ t∈T',Slot.ok h t)∧T'.Pairwise Slot.ap∧∀ t∈T',∃ u∈T,u.E=t.E∧u.I=t.I:=by
    intro L
    induction L with
    | nil=>intro T e _ _; exact ⟨[],rfl,by simp,List.Pairwise.nil,by simp⟩
    | cons B L ih =>
      intro T e hk hp
      obtain ⟨t,T1,rfl,e1,e2⟩:=List.map_eq_cons_iff.1 e
      rw [List.pairwise_cons] at hp
      obtain ⟨T',a1,a2,a3,a4⟩:=ih T1 e2 (fun u hu=>hk u (List.mem_cons_of_mem _ hu)) hp.2
      have o:=hk t (List.mem_cons_self ..)
      have hA:av D B t.E t.I:=by have:=o.hA; rw [e1] at this; exact this
      refine ⟨⟨B,t.E,t.I⟩::T',by simp [a1],fun u hu=>?_,List.pairwise_cons.2 ⟨fun u hu=>?_,a3⟩,fun u hu=>?_⟩
      · rcases List.mem_cons.1 hu with rfl | hu
        · exact ⟨hA.1,o.e,o.i,o.d⟩
        · exact a2 u hu
      · obtain ⟨x,hx,e3,e4⟩:=a4 u hu
        have:=hp.1 x hx
        exact ⟨by rw [← e3]; exact this.1,by rw [← e4]; exact this.2.1,by rw [← e3]; exact this.2.2⟩
      · rcases List.mem_cons.1 hu with rfl | hu
        · exact ⟨t,List.mem_cons_self ..,rfl,rfl⟩
        · obtain ⟨x,hx,e3⟩:=a4 u hu
          exact ⟨x,List.mem_cons_of_mem _ hx,e3⟩
  obtain ⟨T',a1,a2,a3,a4⟩:=rec' L T e hk hp
  refine St.cons_intro a1 h0 a2 a3 fun t ht=>?_
  obtain ⟨x,hx,e3,e4⟩:=a4 t ht
  have:=ha x hx
  exact ⟨by rw [← e3]; exact this.1,by rw [← e4]; exact this.2.1,by rw [← e3]; exact this.2.2⟩
theorem St.lend {s:SV}{vs:List Value} (S:St (Ou U s vs::L) h):St (Lent U s vs::L.map (av (odm s))) h :=
  (St.avs S).freeze (fun b x=>x) (OuP.lc U s vs) S.own.1
theorem St.lentIm {s:SV}{vs:List Value} (S:St (Lent U s vs::L) h):St (Im 1 s vs::Lent U s vs::L) h:=by
  have hp:=(S.sh (List.mem_cons_self ..)).1
  refine S.sh_sub (List.mem_cons_self ..) (fun b ⟨hv,x⟩=>⟨?_,x⟩) (Im.lc 1 s vs) ⟨hp.1.sl,hp.1.2.1⟩
  have h1:=hp.1.1; have h2:=List.length_pos_iff.2 hv; have h3:=hp.1.2.1
  omega
def Tw (U:Value→Prop) (A A':Asr):Prop:=∀ (D:Nat→Prop) (E I:Frag) (h:Heap),A E I→E.le h→I.le h→(∀ b,D b→E b=none)→(∀ b,D b→UBb U h b)→∃ I':Frag,A' E I'∧(∀ b o,I' b=some o→I b=some o)∧∀ b,D b→I' b=none
theorem Tw.own {d:Nat→Prop}{Φ:Heap→Prop}:Tw U (own d Φ) (own d Φ):=fun D E I h a _ _ _ _=>⟨I,a,fun _ _ x=>x,fun b _=>a.2.1 b⟩
theorem Tw.emp:Tw U emp emp:=fun D E I h a _ _ _ _=>⟨I,a,fun _ _ x=>x,fun b _=>a.2 b⟩
theorem Tw.ex {α:Sort _}{F:α→Asr} (f:∀ x,∃ y,Tw U (F x) (F y)):Tw U (ex F) (ex F):=fun D E I h ⟨x,a⟩ e i n u=>by
  obtain ⟨y,t⟩:=f x
  obtain ⟨I',a',s,z⟩:=t D E I h a e i n u
  exact ⟨I',⟨y,a'⟩,s,z⟩
theorem Tw.ex1 {α:Sort _}{F:α→Asr} (f:∀ x,Tw U (F x) (Lift.ex F)):Tw U (Lift.ex F) (Lift.ex F):=fun D E I h ⟨x,a⟩ e i n u=>f x D E I h a e i n u
theorem Tw.sep {A A' B B':Asr} (ta:Tw U A A') (tb:Tw U B B'):Tw U (sep A B) (sep A' B'):=by
  intro D E I h ⟨E1,I1,E2,I2,hA,hB,d1,d2,d3,d4,d5,hE,hI,hc⟩ e i n u
  have e1:E1.le h:=fun b o hb=>e b o (by rw [hE,hb]; rfl)
  have e2:E2.le h:=fun b o hb=>e b o (by rw [hE,hb,(d1 b).resolve_right (by simp [hb])]; rfl)
  have i1:I1.le h:=fun b o hb=>i b o (by rw [hI,hb]; rfl)
  have i2:I2.le h:=fun b o hb=>by
    cases hb1:I1 b with
    | none=>exact i b o (by rw [hI,hb,hb1]; rfl)
    | some o'=>rw [← hc b o' o hb1 hb]; exact i1 b o' hb1
  have n1:∀ b,D b→E1 b=none∧E2 b=none:=fun b hb=>by have:=n b hb; rw [hE] at this; exact Option.or_eq_none_iff.1 this
  obtain ⟨J1,a1,s1,z1⟩:=ta D E1 I1 h hA e1 i1 (fun b hb=>(n1 b hb).1) u
  obtain ⟨J2,a2,s2,z2⟩:=tb D E2 I2 h hB e2 i2 (fun b hb=>(n1 b hb).2) u
  have sub1:∀ b,J1 b=none∨I1 b≠none:=fun b=>by
    cases hj:J1 b with
    | none=>exact .inl rfl
    | some o=>exact .inr (by rw [s1 b o hj]; simp)
  have sub2:∀ b,J2 b=none∨I2 b≠none:=fun b=>by
    cases hj:J2 b with
    | none=>exact .inl rfl
    | some o=>exact .inr (by rw [s2 b o hj]; simp)
  refine ⟨fun b=>(J1 b).or (J2 b),⟨E1,J1,E2,J2,a1,a2,d1,fun b=>(d2 b).imp id fun x=>(sub2 b).resolve_right (by simp [x]),fun b=>(d3 b).imp id fun x=>(sub1 b).resolve_right (by simp [x]),
    fun b=>(d4 b).imp id fun x=>(sub1 b).resolve_right (by simp [x]),fun b=>(d5 b).imp id fun x=>(sub2 b).resolve_right (by simp [x]),hE,fun _=>rfl,fun b o o' x y=>hc b o o' (s1 b o x) (s2 b o' y)⟩,fun b o hb=>?_,fun b hb=>?_⟩
  · rcases Option.or_eq_some_iff.1 hb with hb | ⟨_,hb⟩
    · rw [hI,s1 b o hb]; rfl
    · rw [hI]
      have h2:=s2 b o hb
      cases hb1:I1 b with
      | none=>rw [h2]; rfl
      | some o'=>rw [hc b o' o hb1 h2]; rfl
  · show (J1 b).or (J2 b)=none
    rw [z1 b hb,z2 b hb]; rfl
theorem Tw.im {s:SV}{vs:List Value} (hv:∀ v∈vs,¬ U v):Tw U (Im 1 s vs) (Im 1 s vs):=by
  intro D E I h a e i n u
  refine ⟨I,a,fun _ _ x=>x,fun b hb=>Classical.byContradiction fun hn=>?_⟩
  obtain ⟨hne,x,hx,hxb⟩:=(a.2.1 b).1 hn
  obtain ⟨hs,_⟩:=a.2.2 h i
  rw [hx] at hs
  obtain ⟨v,vs',rfl⟩:=List.exists_cons_of_ne_nil hne
  have hc:=hs.2.get (i:=0) (v:=v) rfl
  exact hv v (List.mem_cons_self ..) (u b hb _ (by rw [add_block]; exact hxb) v hc)
theorem Tw.shr {d:Nat→Prop}{Φ:Heap→Prop}{A':Asr} (f:∀ (D:Nat→Prop) (h:Heap),Φ h→(∀ b,D b→UBb U h b)→∀ (I':Frag),(∀ b,I' b≠none↔d b∧¬ D b)→I'.le h→A' (fun _=>none) I'):Tw U (sh d Φ) A':=by
  intro D E I h a e i n u
  open Classical in
  refine ⟨fun b=>if D b then none else I b,?_,fun b o hb=>?_,fun b hb=>if_pos hb⟩
  · have e0:E=fun _=>none:=funext a.1
    rw [e0]
    refine f D h (a.2.2 h i) u _ (fun b=>?_) fun b o hb=>?_
    · by_cases hD:D b
      · simp [hD]
      · simp only [hD,if_false]
        rw [a.2.1 b]
        simp
    · by_cases hD:D b
      · simp [hD] at hb
      · simp only [hD,if_false] at hb
        exact i b o hb
  · by_cases hD:D b
    · simp [hD] at hb
    · simpa [hD] using hb
theorem St.thaw {s:SV}{vs:List Value}{A A':Asr} (t:Tw U A A') (S:St (A::Lent U s vs::L.map (av (odm s))) h):St (Ou U s vs::A'::L) h:=by
  obtain ⟨E,I,T,e,h0,hk,hp,ha⟩:=S.cons_elim
  obtain ⟨x,T1,rfl,e1,e2⟩:=List.map_eq_cons_iff.1 e
  rw [List.pairwise_cons] at hp
  have ox:=hk x (List.mem_cons_self ..)
  have hx:Lift.sh (odm s) (OuP U s vs) x.E x.I:=by have:=ox.hA; rw [e1] at this; exact this
  have hΦ:=hx.2.2 h ox.i
  have ax:=ha x (List.mem_cons_self ..)
  have nE:∀ b,odm s b→E b=none:=fun b hb=>(ax.2.1 b).resolve_right ((hx.2.1 b).2 hb)
  obtain ⟨I',a',sub,z⟩:=t (odm s) E I h h0.hA h0.e h0.i nE (fun b ⟨hc,a,ea,eb⟩=>by rw [← eb]; exact hΦ.2 (by omega) a ea)
  have nI:∀ b,I b=none→I' b=none:=fun b hb=>by
    cases hj:I' b with
    | none=>rfl
    | some o=>rw [sub b o hj] at hb; cases hb
  -- the rest
  have S1:St (A'::L.map (av (odm s))) h:=St.cons_intro e2 ⟨a',h0.e,fun b o hb=>h0.i b o (sub b o hb),fun b=>(h0.d b).imp id (nI b)⟩ (fun t ht=>hk t (List.mem_cons_of_mem _ ht)) hp.2
    fun t ht=>by
      have:=ha t (List.mem_cons_of_mem _ ht)
      exact ⟨this.1,this.2.1,fun b=>(this.2.2 b).imp id (nI b)⟩
  have S2:St (Ou U s vs::A'::L.map (av (odm s))) h:=by
    refine St.cons_intro (E:=x.I) (I:=fun _=>none) (T:=⟨A',E,I'⟩::T1) (by simp [e2]) ⟨⟨fun b=>hx.2.1 b,fun _=>rfl,fun h2 l2=>hx.2.2 h2 l2⟩,ox.i,fun b o hb=>(by cases hb),fun b=>.inr rfl⟩ (fun t ht=>?_) (List.pairwise_cons.2 ⟨fun t ht=>?_,hp.2⟩) fun t ht=>?_
    · rcases List.mem_cons.1 ht with rfl | ht
      · exact ⟨a',h0.e,fun b o hb=>h0.i b o (sub b o hb),fun b=>(h0.d b).imp id (nI b)⟩
      · exact hk t (List.mem_cons_of_mem _ ht)
    · have:=ha t (List.mem_cons_of_mem _ ht)
      exact ⟨this.1,this.2.1,fun b=>(this.2.2 b).imp id (nI b)⟩
    · have hD:∀ b,x.I b=none∨odm s b:=fun b=>by
        by_cases hb:x.I b=none
        · exact .inl hb
        · exact .inr ((hx.2.1 b).1 hb)
      rcases List.mem_cons.1 ht with rfl | ht
      · exact ⟨fun b=>(hD b).imp id (nE b),fun b=>(hD b).imp id (z b),fun b=>.inr rfl⟩
      · have o:=hk t (List.mem_cons_of_mem _ ht)
        have hm:t.A∈L.map (av (odm s)):=by rw [← e2]; exact List.mem_map_of_mem ht
        obtain ⟨B,_,eB⟩:=List.mem_map.1 hm
        have hB:av (odm s) B t.E t.I:=by have:=o.hA; rw [← eB] at this; exact this
        exact ⟨fun b=>(hD b).imp id fun y=>(hB.2 b y).1,fun b=>(hD b).imp id fun y=>(hB.2 b y).2,fun b=>.inr rfl⟩
  have S3:=St.unavs (D:=odm s) (L:=L) (A:=A') S1
  -- names come off,the two in front stay
  have S4:St (stars [Ou U s vs,A']::L.map (av (odm s))) h:=St.close (As:=[_,_]) S2
  exact St.open (As:=[_,_]) (St.unavs S4)
theorem St.ouNil (S:St L h):St (Ou U (none,0,0) []::L) h :=
  S.own_new (Kept.refl h) (fun b ⟨_,a,e,_⟩=>by cases e) (OuP.lc U _ _) ⟨Own.nil 1 h,fun _ a e=>by cases e⟩
theorem St.ouOwn {s:SV}{vs:List Value} (S:St (Ou U s vs::L) h):Own 1 h s.1 s.2.1 s.2.2 vs:=S.own.1.1
theorem St.ouApp {P:Program}{t tx ty e:TypeId}{d:TypeDesc}{by':Nat}{z:Value} (T:SlT P t e 1 by' [z]) (htx:P.underlying tx=some d) (hd:∀ k,d≠.int k) (uz:U z)
    {s:SV}{n:Nat}{vs ws:List Value}{xv:Value} (S:St (Ou U s vs::L) h) (src:Src P 1 h xv n ws) (uv:∀ v∈vs,U v) (uw:∀ v∈ws,U v) (hb:(s.2.1+n) * by'≤140737488355328) (h63:s.2.1+n≤9223372036854775807) {K:KT}
    (hK:∀ p' c' h',St (Ou U (p',s.2.1+n,c') (vs++ws)::L) h'→K (.slice p' (s.2.1+n) c') h'):SemH P (Builtin.append_ #[t,tx] ty #[.slice s.1 s.2.1 s.2.2,xv]) K h:=by
  obtain ⟨ho,hu⟩:=S.own.1
  refine append_U T htx hd ho src hb h63 uz uv uw hu fun p' c' h' o' hp k u'=>hK p' c' h' ?_
  refine S.own_step k (fun b ⟨hc,a,e1,e2⟩=>?_) (fun b ⟨hc,a,e1,e2⟩=>?_) (OuP.lc U _ _) ⟨o',u'⟩
  · rcases hp with ⟨hs,h2,_⟩ | ⟨hs,_⟩
    · exact .inl ⟨by rw [← h2]; exact hc,a,by rw [← hs]; exact e1,e2⟩
    · rw [show p'=some (top h) from hs] at e1; cases e1; rw [← e2,top_block]; exact .inr (Nat.le_refl _)
  · rcases hp with ⟨hs,h2,_⟩ | ⟨hs,hz⟩
    · exact Nat.lt_of_lt_of_le (S.own.2 b ⟨by rw [← h2]; exact hc,a,by rw [← hs]; exact e1,e2⟩) k.size
    · rw [show p'=some (top h) from hs] at e1; cases e1; rw [← e2,top_block,hz]; omega
theorem St.ouDrop {s:SV}{n:Nat}{vs:List Value} (S:St (Ou U s vs::L) h) (hn:n≤s.2.1):St (Ou U (slA s.1 n s.2.2 1,s.2.1 - n,s.2.2 - n) (vs.drop n)::L) h:=by
  have hd:∀ b,(0<(s.2.2 - n) * 1∧∃ a,slA s.1 n s.2.2 1=some a∧a.block=b)→(0<s.2.2 * 1∧∃ a,s.1=some a∧a.block=b):=by
    intro b ⟨h0,a,e1,e2⟩
    obtain ⟨a',e3,e4⟩:=slA_blk e1
    exact ⟨Nat.lt_of_lt_of_le h0 (Nat.mul_le_mul_right 1 (Nat.sub_le _ _)),a',e3,by rw [e4,e2]⟩
  obtain ⟨ho,hu⟩:=S.own.1
  have o2:=ho.drop hn
  rw [Nat.mul_one] at o2
  refine S.own_step (Keeps.refl _ _) (fun b x=>.inl (hd b x)) (fun b x=>S.own.2 b (hd b x)) (OuP.lc U _ _) ⟨o2,fun hc a ea=>?_⟩
  obtain ⟨a',e3,e4⟩:=slA_blk ea
  rw [← e4]
  exact hu (Nat.lt_of_lt_of_le hc (Nat.sub_le _ _)) a' e3
end
end Go.Lift
end
section
set_option linter.unusedVariables false
set_option linter.unusedSimpArgs false
namespace Go.Lift
section
variable {L R:List Asr}{h:Heap}
theorem Sl.takeN {α:Type}{f:α→List Value}{sz:Nat} (hf:∀ x,(f x).length=sz) (hsz:0<sz) {p:OA}{l:Nat}{xs:List α} (m:Sl sz h p l (xs.flatMap f)) {k:Nat} (hk:k≤xs.length):Sl sz h p k ((xs.take k).flatMap f):=by
  rw [← flat_take hf]
  have hl:=m.1
  rw [flat_length hf] at hl
  refine ⟨by rw [List.length_take,flat_length hf]; have:=Nat.mul_le_mul_right sz hk; omega,?_⟩
  cases p with
  | none=>have e:=m.2; simp only at e ⊢; rw [e]; simp
  | some a=>exact m.2.take _
section
variable {α:Type}{f:α→List Value}{sz:Nat}{P:Program}{t tx ty e:TypeId}{d:TypeDesc}{by':Nat}{z:List Value}{K:KT}
end
end
end Go.Lift
end
