/- brokTakes_holds: all that the theorem needs, in a few texts (bundle.py; made of the texts that NOTES.md names). -/
import Derived.Below
import Derived.Laws.Append
import Derived.Laws.BitsLemmas
import Derived.Laws.Sem
import Derived.Laws.Strings
import Derived.LoopN
import Derived.Orders
import Derived.Test.YtofpbcakppjgcaaGreatDoorBBrokTakes2
import Derived.Test.YtofpbcakppjgcaaGreatDoorBBrokTakes3
section
set_option linter.unusedSimpArgs false
namespace Go.Lift
theorem wrapI {n:Int} (h0:-9223372036854775808≤n) (h1:n<9223372036854775808):IntKind.i64.wrap n=n:=by rw [IntKind.wrap_i64]; omega
def SlT (P:Program) (t e:TypeId) (sz by':Nat) (z:List Value):Prop :=
  P.underlying t=some (.slice e)∧∃ i zv,P.info? e=some i∧i.size=sz∧i.bytes=by'∧i.zero=some zv∧zv.cells=z.toArray
theorem slT {P:Program}{t e:TypeId}{sz by':Nat}{z:List Value} (h1:P.underlying t=some (.slice e)) (h2:(P.info? e).map (fun i=>(i.size,i.bytes,i.zero.map Value.cells))=some (sz,by',some z.toArray)):SlT P t e sz by' z:=by
  refine ⟨h1,?_⟩
  cases hi:P.info? e with
  | none=>simp [hi] at h2
  | some i =>
    simp only [hi,Option.map_some,Option.some.injEq,Prod.mk.injEq] at h2
    obtain ⟨e1,e2,e3⟩:=h2
    cases hz:i.zero with
    | none=>simp [hz] at e3
    | some zv=>exact ⟨i,zv,rfl,e1,e2,hz,by simpa [hz] using e3⟩
def Sl (sz:Nat) (h:Heap) (p:Option Addr) (l:Nat) (vs:List Value):Prop :=
  vs.length=l * sz∧match p with
    | none=>vs=[]
    | some a=>At h a vs
def Own (sz:Nat) (h:Heap) (p:Option Addr) (l c:Nat) (vs:List Value):Prop :=
  vs.length=l * sz∧l≤c∧match p with
    | none=>c=0
    | some a=>∃ rest:List Value,rest.length=(c - l) * sz∧Mem h a (vs++rest)
def Fr (b:Nat) (p:Option Addr):Prop:=∀ a,p=some a→b≤a.block
theorem Fr.none (b:Nat):Fr b none:=fun _ e=>by cases e
theorem Fr.top {b:Nat}{h:Heap} (hb:b≤h.size):Fr b (some (top h)):=fun a e=>by cases e; exact hb
theorem Own.nil (sz:Nat) (h:Heap):Own sz h none 0 0 []:=⟨by simp,Nat.le_refl _,rfl⟩
theorem At.left {h:Heap}{a:Addr}{vs ws:List Value} (m:At h a (vs++ws)):At h a vs:=by
  have:=m.take vs.length
  simpa using this
theorem Own.sl {sz:Nat}{h:Heap}{p:Option Addr}{l c:Nat}{vs:List Value} (o:Own sz h p l c vs):Sl sz h p l vs:=by
  refine ⟨o.1,?_⟩
  cases p with
  | none =>
    have h1:=o.2.1
    have h2:=o.2.2
    simp only at h2 ⊢
    have:l=0:=by omega
    have:=o.1
    apply List.eq_nil_of_length_eq_zero
    simp_all
  | some a=>exact o.2.2.choose_spec.2.1.left
theorem Sl.keeps {sz:Nat}{S:Nat→Prop}{h h':Heap}{p:Option Addr}{l:Nat}{vs:List Value} (m:Sl sz h p l vs) (k:Keeps S h h') (hs:∀ a,p=some a→¬ S a.block):Sl sz h' p l vs:=by
  refine ⟨m.1,?_⟩
  cases p with
  | none=>exact m.2
  | some a=>exact At.keeps m.2 k fun _=>hs a rfl
theorem Own.keeps {sz:Nat}{S:Nat→Prop}{h h':Heap}{p:Option Addr}{l c:Nat}{vs:List Value} (m:Own sz h p l c vs) (k:Keeps S h h') (hs:∀ a,p=some a→¬ S a.block):Own sz h' p l c vs:=by
  refine ⟨m.1,m.2.1,?_⟩
  cases p with
  | none=>exact m.2.2
  | some a=>obtain ⟨r,h1,h2⟩:=m.2.2; exact ⟨r,h1,h2.keeps k fun _=>hs a rfl⟩
theorem Sl.kept {sz:Nat}{h h':Heap}{p:Option Addr}{l:Nat}{vs:List Value} (m:Sl sz h p l vs) (k:Kept h h'):Sl sz h' p l vs:=m.keeps k fun _ _ x=>x
theorem Own.kept {sz:Nat}{h h':Heap}{p:Option Addr}{l c:Nat}{vs:List Value} (m:Own sz h p l c vs) (k:Kept h h'):Own sz h' p l c vs:=m.keeps k fun _ _ x=>x
theorem Sl.ix {h:Heap}{p:Option Addr}{l:Nat}{vs:List Value} (m:Sl 1 h p l vs) {i:Nat} (hi:i<vs.length):∃ a,p=some a∧hcell h (a.add (i * 1))=vs[i]?:=by
  cases p with
  | none=>have e:=m.2; simp only at e; subst e; simp at hi
  | some a=>exact ⟨a,rfl,by rw [Nat.mul_one]; exact m.2.2 i hi⟩
theorem Own.st {h:Heap}{p:Option Addr}{l c:Nat}{vs:List Value} (m:Own 1 h p l c vs) {i:Nat} (hi:i<vs.length) {v:Value} (ho:one v=true) :
    ∃ a h',p=some a∧stC h (a.add (i * 1)) 0 [v]=some h'∧Own 1 h' p l c (vs.set i v)∧Keeps (fun k=>k=a.block) h h'∧h'.size=h.size:=by
  cases p with
  | none =>
    have h1:=m.1; have h2:=m.2.1; have h3:=m.2.2
    simp only at h3
    omega
  | some a =>
    obtain ⟨r,h1,h2⟩:=m.2.2
    have hi':i<(vs++r).length:=by simp; omega
    refine ⟨a,_,rfl,by rw [Nat.mul_one]; exact h2.stc hi' ho,⟨by simpa using m.1,m.2.1,r,h1,?_⟩,?_,hset_size _ _ _⟩
    · have:=h2.st1 hi' v
      rwa [List.set_append_left _ _ hi] at this
    · have:=hset_keeps h (a.add i) v
      rwa [add_block] at this
theorem ifT {b:Bool}{A B:Prop} (hb:b=true) (h:A):(b=true→A)∧(b=false→B):=⟨fun _=>h,fun e=>absurd (hb.symm.trans e) (by decide)⟩
theorem ifF {b:Bool}{A B:Prop} (hb:b=false) (h:B):(b=true→A)∧(b=false→B):=⟨fun e=>absurd (hb.symm.trans e) (by decide),fun _=>h⟩
theorem ifT' {b:Bool}{A B:Prop} (hb:b=true) (h:A):(b=false→B)∧(b=true→A):=⟨fun e=>absurd (hb.symm.trans e) (by decide),fun _=>h⟩
theorem ifF' {b:Bool}{A B:Prop} (hb:b=false) (h:B):(b=false→B)∧(b=true→A):=⟨fun _=>h,fun e=>absurd (hb.symm.trans e) (by decide)⟩
theorem ix {α:Type}{C:α→Value}{h:Heap}{p:Option Addr}{l:Nat}{xs:List α} (m:Sl 1 h p l (xs.map C)) {i:Int}{n:Nat} (hi:i=n) {x:α} (hx:xs[n]? = some x) {F:α→Prop} (hF:F x) :
    ∃ a,p=some a∧(0:Int)≤i∧i<((l:Nat):Int)∧∃ b,hcell h (Addr.add a (Int.toNat i * 1))=some (C b)∧F b:=by
  subst hi
  have hn:=(List.getElem?_eq_some_iff.1 hx).1
  have hl:=m.1
  obtain ⟨a,e,hc⟩:=m.ix (i:=n) (by simpa using hn)
  refine ⟨a,e,by omega,by simp at hl; omega,x,?_,hF⟩
  rw [Int.toNat_natCast,hc,List.getElem?_map,hx]
  rfl
theorem put {h:Heap}{p:Option Addr}{l c:Nat}{vs:List Value} (m:Own 1 h p l c vs) {i:Int}{n:Nat} (hi:i=n) (hn:n<vs.length) {v:Value} (ho:one v=true) {F:Heap→Prop}
    (hF:∀ h',Own 1 h' p l c (vs.set n v)→Keeps (fun k=>∃ a,p=some a∧a.block=k) h h'→h'.size=h.size→F h') :
    ∃ a,p=some a∧(0:Int)≤i∧i<((l:Nat):Int)∧∃ h',stC h (Addr.add a (Int.toNat i * 1)) 0 [v]=some h'∧F h':=by
  subst hi
  have hl:=m.1
  obtain ⟨a,h',e,h1,h2,h3,h4⟩:=m.st hn ho
  refine ⟨a,e,by omega,by omega,h',by rw [Int.toNat_natCast]; exact h1,hF h' h2 (h3.mono fun k _ hk=>⟨a,e,hk.symm⟩) h4⟩
def rep (n:Nat) (z:List Value):List Value:=(List.replicate n z).flatten
theorem rep_one (n:Nat) (v:Value):rep n [v]=List.replicate n v:=by
  unfold rep
  induction n with
  | zero=>rfl
  | succ n ih=>simp [List.replicate_succ,ih]
theorem rep_length (n:Nat) (z:List Value):(rep n z).length=n * z.length:=by simp [rep]
theorem range_mod (z:List Value):∀ n:Nat,(List.range (n * z.length)).map (fun i=>z[i % z.length]?.getD default)=rep n z
  | 0=>by simp [rep]
  | n+1=>by
    have ih:=range_mod z n
    rw [Nat.add_mul,Nat.one_mul,List.range_add,List.map_append,ih]
    have:rep (n+1) z=rep n z++z:=by
      unfold rep
      rw [List.replicate_succ',List.flatten_append]
      simp
    rw [this]
    congr 1
    rw [List.map_map]
    apply List.ext_getElem
    · simp
    · intro i h1 h2
      simp [Nat.mul_add_mod_self_right,Nat.mod_eq_of_lt h2,h2]
theorem zeroCells_eq (z:List Value) (n:Nat):Builtin.zeroCells z.toArray n=(rep n z).toArray:=by
  rw [← range_mod]
  apply Array.ext'
  simp [Builtin.zeroCells,Array.getElem!_eq_getD,Array.getD]
  intro a _
  split <;> simp_all
theorem makeSlice_ok {P:Program}{t e:TypeId}{sz by':Nat}{z:List Value} (T:SlT P t e sz by' z) (hz:z.length=sz) {n m:Int}{h:Heap}{K:Value→Heap→Prop} (h0:0≤n) (hnm:n≤m) (hm:m<9223372036854775808)
    (hb:(by':Int) * m≤281474976710656) (hK:K (.slice (some (top h)) n.toNat m.toNat) (al h (rep m.toNat z).toArray e)):SemH P (Instr.makeSlice t (.int .i64 n) (.int .i64 m)) K h:=by
  intro w hw
  subst hw
  obtain ⟨hu,i,zv,hi,hs,hby,hzv,hzc⟩:=T
  have e1:IntKind.i64.wrap n=n:=wrapI (by omega) (by omega)
  have e2:IntKind.i64.wrap m=m:=wrapI (by omega) (by omega)
  have g1:¬ (n<0):=by omega
  have g2:¬ (m<0):=by omega
  have g3:¬ (n > m):=by omega
  have g4:¬ ((by':Int) * m > 281474976710656):=by omega
  have hcs:∀ k:Nat,m.toNat * sz=k→((Array.range k).map fun j=>(if k=0 then #[] else zv.cells)[j % (if k=0 then #[] else zv.cells).size]!)=(rep m.toNat z).toArray:=by
    intro k hk
    by_cases h0:k=0
    · subst h0
      rw [if_pos rfl]
      have:(rep m.toNat z).length=0:=by rw [rep_length,hz,hk]
      rw [List.eq_nil_of_length_eq_zero this]
      simp
    · rw [if_neg h0,hzc]
      have:=zeroCells_eq z m.toNat
      unfold Builtin.zeroCells at this
      rw [← this]
      simp [hz,hk]
  refine ⟨_,{ w with heap:=al w.heap (rep m.toNat z).toArray e },?_,hK,Rest.push w _⟩
  have hcs':=hcs _ rfl
  by_cases h0:m.toNat * sz=0
  · simp only [h0,if_true] at hcs'
    simp [Instr.makeSlice,asInt,asIntOf,Go.run_underlying hu,typeInfo,sizeOf,hi,hs,hby,e1,e2,g1,g2,g3,g4,h0,newRow,top]
    rw [← hcs']
    rfl
  · simp only [h0,if_false] at hcs'
    simp [Instr.makeSlice,asInt,asIntOf,Go.run_underlying hu,typeInfo,sizeOf,zeroValue,hi,hs,hby,hzv,e1,e2,g1,g2,g3,g4,h0,newRow,top]
    rw [← hcs']
    rfl
theorem make_own {P:Program}{t e:TypeId}{by':Nat}{z:Value} (T:SlT P t e 1 by' [z]) {n:Int}{k:Nat} (hn:n=k) {h:Heap}{K:Value→Heap→Prop} (hm:k<9223372036854775808) (hb:by' * k≤281474976710656)
    (hK:∀ h',Own 1 h' (some (top h)) k k (List.replicate k z)→Kept h h'→h'.size=h.size+1→K (.slice (some (top h)) k k) h'):SemH P (Instr.makeSlice t (.int .i64 n) (.int .i64 n)) K h:=by
  subst hn
  refine makeSlice_ok T rfl (by omega) (Int.le_refl _) (by omega) (by rw [← Int.natCast_mul]; omega) ?_
  rw [Int.toNat_natCast,rep_one]
  refine hK _ ⟨by rw [List.length_replicate,Nat.mul_one],Nat.le_refl _,[],by rw [Nat.sub_self,Nat.zero_mul]; rfl,?_⟩ (Keeps.al _ _ _ _) (al_size _ _ _)
  have:=Mem.new h (List.replicate k z) e
  rwa [List.append_nil]
def Src (P:Program) (sz:Nat) (h:Heap) (xv:Value) (n:Nat) (ws:List Value):Prop :=
  ws.length=n * sz∧(∀ w∈ws,one w=true)∧∀ w:World,w.heap=h→(Builtin.lenOf xv).run P w=.ok n w∧(Builtin.firstCells sz n xv).run P w=.ok ws.toArray w
theorem Src.slice {P:Program}{sz:Nat}{h:Heap}{p:Option Addr}{n c:Nat}{ws:List Value} (s:Sl sz h p n ws) (ho:∀ w∈ws,one w=true):Src P sz h (.slice p n c) n ws:=by
  refine ⟨s.1,ho,fun w hw=>⟨by simp [Builtin.lenOf],?_⟩⟩
  cases p with
  | none=>have e:=s.2; simp only at e; subst e; simp [Builtin.firstCells]
  | some a =>
    refine run_firstCells_some (P:=P) w sz n a n c ws s.1 fun j v hv=>?_
    rw [cell_eq,hw]
    exact At.get s.2 hv
def u8s (l:List UInt8):List Value:=l.map fun b=>.int .u8 b.toNat
theorem u8s_one (l:List UInt8):∀ w∈u8s l,one w=true:=by
  intro w hw
  obtain ⟨b,_,rfl⟩:=List.mem_map.1 hw
  rfl
theorem u8s_length (l:List UInt8):(u8s l).length=l.length:=by simp [u8s]
theorem Src.str {P:Program}{h:Heap} (l:List UInt8):Src P 1 h (.string (mkS l)) l.length (u8s l):=by
  refine ⟨by simp [u8s],u8s_one l,fun w _=>⟨by simp [Builtin.lenOf,mkS,ByteArray.size],?_⟩⟩
  have e1:(mkS l).extract 0 l.length=mkS l:=by
    apply ByteArray.ext
    simp [mkS]
  simp only [Builtin.firstCells,e1,Sem.run_pure]
  simp [mkS,u8s]
theorem stC_shift {a:Addr} (hs:a.spot=none) (k:Nat):∀ (ws:List Value) (h:Heap) (i:Nat),stC h (a.add k) i ws=stC h a (k+i) ws
  | [],_,_=>rfl
  | w::ws,h,i=>by
    unfold stC
    rw [add_add hs]
    simp only [stC_shift hs k ws,Nat.add_assoc]
theorem grownCap_le (w:World) (need old:Nat) (e:TypeId):need≤grownCap w need old e:=by
  unfold grownCap
  simp [Question.cut]
theorem append_ok2 {P:Program}{t tx ty e:TypeId}{d:TypeDesc}{sz by':Nat}{z:List Value} (T:SlT P t e sz by' z) (hz:z.length=sz) (htx:P.underlying tx=some d) (hd:∀ k,d≠.int k)
    {h:Heap}{p:Option Addr}{l c n:Nat}{vs ws:List Value}{xv:Value} (o:Own sz h p l c vs) (s:Src P sz h xv n ws)
    (hb:(l+n) * by'≤140737488355328) (h63:l+n≤9223372036854775807) {K:Value→Heap→Prop}
    (hK:∀ p' c' h',Own sz h' p' (l+n) c' (vs++ws)→(p'=p∧c'=c∧h'.size=h.size∨p'=some (top h)∧h'.size=h.size+1)→Keeps (fun k=>0<c * sz∧∃ a,p=some a∧a.block=k) h h'→K (.slice p' (l+n) c') h') :
    SemH P (Builtin.append_ #[t,tx] ty #[.slice p l c,xv]) K h:=by
  intro w hw
  obtain ⟨hu,i,zv,hi,hsz,hby,hzv,hzc⟩:=T
  have hnx:(match P.underlying tx with | some (.int _)=>true | _=>false)=false:=by
    rw [htx]
    cases d <;> first | rfl | exact absurd rfl (hd _)
  have hlen:=(s.2.2 w hw).1
  have hzeros:(d matches .int _)=false:=by
    cases d <;> first | rfl | exact absurd rfl (hd _)
  by_cases hroom:l+n≤c
  · have hnew:=(s.2.2 w hw).2
    cases p with
    | none =>
      have h1:=o.1; have h2:=o.2.1; have h3:=o.2.2
      simp only at h3
      have hl:l=0:=by omega
      have hn:n=0:=by omega
      subst hl; subst hn
      have hws:ws=[]:=List.eq_nil_of_length_eq_zero (by simpa using s.1)
      have hvs:vs=[]:=List.eq_nil_of_length_eq_zero (by simpa using h1)
      subst hws; subst hvs
      refine ⟨.slice none 0 c,w,?_,?_,Rest.refl w⟩
      · simp [Builtin.append_,Go.run_underlying hu,Go.run_underlying htx,hzeros,sizeOf,typeInfo,hi,hsz,hlen,hnew]
      · rw [hw]
        exact hK none c h ⟨by simp,Nat.zero_le _,h3⟩ (.inl ⟨rfl,rfl,rfl⟩) (Keeps.refl _ h)
    | some a =>
      obtain ⟨r,h1,h2⟩:=o.2.2
      have hl2:=o.1
      have hl3:=s.1
      have hcr:c - l=n+(c - (l+n)):=by omega
      rw [hcr,Nat.add_mul] at h1
      obtain ⟨h',e1,e2,e3,e4⟩:=stC_many (a:=a) (ws:=ws) (i:=vs.length) h2 (by simp; omega) s.2.1
      have hst:stC w.heap (a.add (l * sz)) 0 ws=some h':=by
        by_cases hw0:ws=[]
        · subst hw0
          simp only [Go.Lift.stC,Option.some.injEq] at e1 ⊢
          rw [hw]; exact e1
        · have h5:=List.length_pos_iff.2 hw0
          have hsp:a.spot=none:=h2.1.1 fun e=>by
            have:=congrArg List.length e
            simp only [List.length_append,List.length_nil] at this
            omega
          rw [hw,stC_shift hsp,← hl2]; exact e1
      obtain ⟨w',r1,r2,r3⟩:=run_storeCells P (a.add (l * sz)) ws 0 w h' hst
      refine ⟨.slice (some a) (l+n) c,w',?_,?_,r3⟩
      · simp [Builtin.append_,Go.run_underlying hu,Go.run_underlying htx,hzeros,sizeOf,typeInfo,hi,hsz,hlen,hnew,hroom,r1]
      · rw [r2]
        refine hK (some a) c h' ⟨by simp [hl2,hl3,Nat.add_mul],hroom,r.drop ws.length,by simp; omega,?_⟩ (.inl ⟨rfl,rfl,e4⟩) ?_
        have hd1:(vs++r).take vs.length=vs:=by simp
        have hd2:(vs++r).drop (vs.length+ws.length)=r.drop ws.length:=by simp [List.drop_append]
        · rw [hd1,hd2] at e2
          exact e2
        · by_cases hw0:ws=[]
          · subst hw0
            simp only [Go.Lift.stC,Option.some.injEq] at e1
            subst e1
            exact Keeps.refl _ _
          · refine e3.mono fun k _ hk=>⟨?_,a,rfl,hk.symm⟩
            have h5:=List.length_pos_iff.2 hw0
            have h6:0<n * sz:=by omega
            exact Nat.lt_of_lt_of_le h6 (Nat.mul_le_mul_right sz (by omega))
  · have hfit:=growslice_fits (need:=l+n) (old:=c) (bytes:=by') (by omega) hb
    have hw':w.drew.heap=h:=hw
    have hnew:=(s.2.2 w.drew hw').2
    have hold:(Builtin.firstCells sz l (.slice p l c)).run P w.drew=.ok vs.toArray w.drew:=by
      have o':=o.sl
      cases p with
      | none=>have e:=o'.2; simp only at e; subst e; simp [Builtin.firstCells]
      | some a =>
        refine run_firstCells_some (P:=P) w.drew sz l a l c vs o'.1 fun j v hv=>?_
        rw [cell_eq,hw']
        exact At.get o'.2 hv
    have g1:¬ (9223372036854775807<((l:Int)+(n:Int))∧by'=0):=by omega
    have g2:¬ (281474976710656<Builtin.nextslicecap (l+n) c * by'):=by omega
    refine ⟨.slice (some (top h)) (l+n) (grownCap w (l+n) c e),{ w.drew with heap:=al h (vs++ws++rep (grownCap w (l+n) c e - (l+n)) z).toArray e },?_,?_,⟨rfl,rfl,rfl⟩⟩
    · simp [Builtin.append_,Go.run_underlying hu,Go.run_underlying htx,hzeros,sizeOf,typeInfo,zeroValue,hi,hsz,hby,hzv,hlen,hnew,hold,hroom,g1,g2,Question.forced,newRow,hzc,zeroCells_eq]
      subst hw
      refine ⟨⟨rfl,rfl⟩,?_⟩
      rfl
    · refine hK _ _ _ ⟨by simp [o.1,s.1,Nat.add_mul],grownCap_le _ _ _ _,rep (grownCap w (l+n) c e - (l+n)) z,by rw [rep_length,hz],Mem.new h _ e⟩ (.inr ⟨rfl,al_size _ _ _⟩) (Keeps.al _ h _ e)
theorem append_ok {P:Program}{t tx ty e:TypeId}{d:TypeDesc}{sz by':Nat}{z:List Value} (T:SlT P t e sz by' z) (hz:z.length=sz) (htx:P.underlying tx=some d) (hd:∀ k,d≠.int k)
    {h:Heap}{p:Option Addr}{l c n:Nat}{vs ws:List Value}{xv:Value} (o:Own sz h p l c vs) (s:Src P sz h xv n ws)
    (hb:(l+n) * by'≤140737488355328) (h63:l+n≤9223372036854775807) {K:Value→Heap→Prop}
    (hK:∀ p' c' h',Own sz h' p' (l+n) c' (vs++ws)→(p'=p∨p'=some (top h))→Keeps (fun k=>∃ a,p=some a∧a.block=k) h h'→K (.slice p' (l+n) c') h') :
    SemH P (Builtin.append_ #[t,tx] ty #[.slice p l c,xv]) K h :=
  append_ok2 T hz htx hd o s hb h63 fun p' c' h' o' hp' k=>hK p' c' h' o' (hp'.elim (fun x=>.inl x.1) fun x=>.inr x.1) (k.mono fun _ _ x=>x.2)
theorem calls_of {P : Program} {f : FuncId} {args : List Value} {K : Value → Heap → Prop} {h : Heap} (hb : (match P.funcs[f]? with | some fn => fn.body.isSome && fn.name != "runtime.NumGoroutine" | none => false) = true)
    (c:∀ w:World,w.heap=h→Calls P f args.toArray w fun e w'=>∃ v,e=.returned v∧K v w'.heap∧Rest w w'):CallsH P f args K h:=⟨hb,c⟩
end Go.Lift
end
