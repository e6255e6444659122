/- brokTakes_holds: all that the theorem needs, in a few texts (bundle.py; made of the texts that NOTES.md names). -/
import Derived.Below
import Derived.KernelRfl
import Derived.Laws.Append
import Derived.Laws.Bits64
import Derived.Laws.BitsAllLaws
import Derived.Laws.BitsLemmas
import Derived.Laws.IdiomStrings
import Derived.Laws.Sem
import Derived.Laws.Strings
import Derived.Laws.StructEq
import Derived.Lib.ItoaNum
import Derived.LoopN
import Derived.MapKept
import Derived.Orders
import Derived.Shelf.Lay
import Derived.Shelf.Small.Bits
import Derived.Test.YtofpbcakppjgcaaGreatDoorChecked
import Derived.WideLaws
import Derived.Test.YtofpbcakppjgcaaGreatDoorBBrokTakes2
import Derived.Test.YtofpbcakppjgcaaGreatDoorBBrokTakes3
import Derived.Test.YtofpbcakppjgcaaGreatDoorBBrokTakes4
import Derived.Test.YtofpbcakppjgcaaGreatDoorBBrokTakes5
import Derived.Test.YtofpbcakppjgcaaGreatDoorBBrokTakes8
import Derived.Test.YtofpbcakppjgcaaGreatDoorBBrokTakes9
import Derived.Test.YtofpbcakppjgcaaGreatDoorBBrokTakes11
import Derived.Test.YtofpbcakppjgcaaGreatDoorBBrokTakes15
section
set_option linter.unusedVariables false
set_option linter.unusedSimpArgs false
namespace Go.Lift.Ord
variable {α β:Type}
def lex (a:Ord α) (b:Ord β):Ord (α × β) where
  lt x y:=a.lt x.1 y.1 || (!a.lt y.1 x.1 && b.lt x.2 y.2)
  asym x y h:=by
    have h1:=a.asym x.1 y.1
    have h2:=a.asym y.1 x.1
    have h3:=b.asym x.2 y.2
    cases e1:a.lt x.1 y.1 with
    | true=>rw [h1 e1]; rfl
    | false =>
      rw [e1] at h
      cases e2:a.lt y.1 x.1 with
      | true=>rw [e2] at h; simp at h
      | false=>rw [e2] at h; simp at h; rw [h3 h]; rfl
  trans x y z h k:=by
    simp only [Bool.or_eq_false_iff,Bool.and_eq_false_iff,Bool.not_eq_false'] at *
    refine ⟨a.trans _ _ _ h.1 k.1,?_⟩
    rcases h.2 with h2 | h2
    · left
      cases e:a.lt x.1 z.1 with
      | true=>rfl
      | false=>have:=a.trans _ _ _ k.1 e; rw [h2] at this; cases this
    · rcases k.2 with k2 | k2
      · left
        cases e:a.lt x.1 z.1 with
        | true=>rfl
        | false=>have:=a.trans _ _ _ e h.1; rw [k2] at this; cases this
      · exact .inr (b.trans _ _ _ h2 k2)
theorem lex_anti {a:Ord α}{b:Ord β} (ha:∀ x y,a.le x y→a.le y x→x=y) (hb:∀ x y,b.le x y→b.le y x→x=y) (x y:α × β) (h:(lex a b).le x y) (k:(lex a b).le y x):x=y:=by
  simp only [le,lex,Bool.or_eq_false_iff,Bool.and_eq_false_iff,Bool.not_eq_false'] at h k
  have e1:=ha x.1 y.1 h.1 k.1
  have e2:x.2=y.2:=by
    refine hb x.2 y.2 ?_ ?_
    · rcases h.2 with h2 | h2
      · rw [k.1] at h2; cases h2
      · exact h2
    · rcases k.2 with k2 | k2
      · rw [h.1] at k2; cases k2
      · exact k2
  exact Prod.ext e1 e2
end Go.Lift.Ord
namespace Go.Proofs.YtofpbcakppjgcaaGreatDoor.Pr
open Go Go.Lift Go.Proofs
abbrev BN:=List UInt8 × List UInt8 × List UInt8
abbrev bc (x:BN):List Value:=[.string (mkS x.1),.string (mkS x.2.1),.string (mkS x.2.2)]
theorem bc3:∀ x:BN,(bc x).length=3:=fun _=>rfl
theorem bc_one (x:BN):∀ w∈bc x,one w=true:=fun w hw=>by
  rcases List.mem_cons.1 hw with rfl | hw
  · rfl
  rcases List.mem_cons.1 hw with rfl | hw
  · rfl
  rw [List.mem_singleton.1 hw]; rfl
def cmpI (x y:List UInt8):Int:=if Op.bytesLess x y then -1 else if x==y then 0 else 1
def or3 (a b c:Int):Int:=if a != 0 then a else if b != 0 then b else c
theorem cmpI_eq (x y:List UInt8):(cmpI x y=-1∧Op.bytesLess x y=true)∨(cmpI x y=0∧Op.bytesLess x y=false∧Op.bytesLess y x=false)∨(cmpI x y=1∧Op.bytesLess x y=false∧Op.bytesLess y x=true):=by
  unfold cmpI
  cases h:Op.bytesLess x y with
  | true=>exact .inl ⟨rfl,rfl⟩
  | false =>
    rw [if_neg (by decide)]
    by_cases e:x=y
    · subst e; exact .inr (.inl ⟨by simp,rfl,h⟩)
    · refine .inr (.inr ⟨by rw [if_neg (by simpa using e)],rfl,?_⟩)
      cases k:Op.bytesLess y x with
      | true=>rfl
      | false=>exact absurd (sort_string.le_anti x y k h) e
namespace sort_bind
def o:Lift.Ord BN:=Lift.Ord.lex sort_string.o (Lift.Ord.lex sort_string.o sort_string.o)
theorem le_anti (x y:BN) (h:o.le x y) (k:o.le y x):x=y:=Lift.Ord.lex_anti sort_string.le_anti (Lift.Ord.lex_anti sort_string.le_anti sort_string.le_anti) x y h k
abbrev fc:Value:=.func (.func F.qbm) #[] #[]
theorem or_lt (x y:BN):decide (or3 (cmpI x.1 y.1) (cmpI x.2.1 y.2.1) (cmpI x.2.2 y.2.2)<0)=o.lt x y:=by
  show _=(Op.bytesLess x.1 y.1 || (!Op.bytesLess y.1 x.1 && (Op.bytesLess x.2.1 y.2.1 || (!Op.bytesLess y.2.1 x.2.1 && Op.bytesLess x.2.2 y.2.2))))
  unfold or3
  rcases cmpI_eq x.1 y.1 with ⟨e,a⟩ | ⟨e,a,a'⟩ | ⟨e,a,a'⟩
  · rw [e,a]; rfl
  · rw [e,a,a']
    rcases cmpI_eq x.2.1 y.2.1 with ⟨e,b⟩ | ⟨e,b,b'⟩ | ⟨e,b,b'⟩
    · rw [e,b]; rfl
    · rw [e,b,b']
      rcases cmpI_eq x.2.2 y.2.2 with ⟨e,c⟩ | ⟨e,c,c'⟩ | ⟨e,c,c'⟩ <;> rw [e,c] <;> rfl
    · rw [e,b,b']; rfl
  · rw [e,a,a']; rfl
end sort_bind
section
variable {K:KT}{L:List Asr}{h:Heap}
theorem nanS {x:List UInt8} (hK:K (.bool false) h):CallsH P F.qcz [.string (mkS x)] K h:=by
  refine qcz.ok ?_
  unfold qcz.p0
  unfold bd
  rw [show (!(x==x))=false by simp]
  exact hK
theorem cmpS {x y:List UInt8}{F':Int→Heap→Prop} (hK:F' (cmpI x y) h):CallsH P F.qdc [.string (mkS x),.string (mkS y)] (fun v h'=>∃ n,v=.int .i64 n∧F' n h') h:=by
  refine qdc.ok ?_
  unfold qdc.p0
  refine nanS ⟨_,rfl,nanS ⟨_,rfl,ifF rfl (ifF rfl ?_)⟩⟩
  unfold cmpI at hK
  cases h1:Op.bytesLess x y with
  | true=>rw [h1] at hK; exact ifT rfl ⟨_,rfl,hK⟩
  | false =>
    rw [h1,if_neg (by decide)] at hK
    refine ifF rfl ?_
    cases h2:(x==y) with
    | true=>rw [h2] at hK; exact ifF rfl ⟨_,rfl,hK⟩
    | false=>rw [h2] at hK; exact ifT rfl ⟨_,rfl,hK⟩
theorem orS {p:Addr}{a b c:Int} (sa:Sl 1 h (some p) 3 [.int .i64 a,.int .i64 b,.int .i64 c]) {F':Int→Heap→Prop} (k:F' (or3 a b c) h):CallsH P F.qcx [.slice (some p) 3 3] (fun v h'=>∃ n,v=.int .i64 n∧F' n h') h:=by
  refine qcx.ok ?_
  unfold qcx.p0
  unfold or3 at k
  refine ⟨4,?_⟩
  unfold qcx.L1
  refine ⟨fun _=>ixV (n:=0) (w:=.int .i64 a) sa rfl rfl fun p ep cp=>⟨a,cp,?_⟩,fun e=>absurd e (by decide)⟩
  cases ea:(a != 0) with
  | true=>rw [ea] at k; exact ⟨fun _=>⟨_,rfl,k⟩,fun e=>by cases e⟩
  | false =>
    rw [ea,if_neg (by decide)] at k
    refine ⟨fun e=>(by cases e),fun _=>?_⟩
    rw [show IntKind.i64.wrap (0+1)=1 by decide]
    unfold qcx.L1
    refine ⟨fun _=>ixV (n:=1) (w:=.int .i64 b) sa rfl rfl fun p ep cp=>⟨b,cp,?_⟩,fun e=>absurd e (by decide)⟩
    cases eb:(b != 0) with
    | true=>rw [eb] at k; exact ⟨fun _=>⟨_,rfl,k⟩,fun e=>by cases e⟩
    | false =>
      rw [eb,if_neg (by decide)] at k
      refine ⟨fun e=>(by cases e),fun _=>?_⟩
      rw [show IntKind.i64.wrap (1+1)=2 by decide]
      unfold qcx.L1
      refine ⟨fun _=>ixV (n:=2) (w:=.int .i64 c) sa rfl rfl fun p ep cp=>⟨c,cp,?_⟩,fun e=>absurd e (by decide)⟩
      cases ec:(c != 0) with
      | true=>exact ⟨fun _=>⟨_,rfl,k⟩,fun e=>by cases e⟩
      | false =>
        refine ⟨fun e=>(by cases e),fun _=>?_⟩
        rw [show IntKind.i64.wrap (2+1)=3 by decide]
        unfold qcx.L1
        have:c=0:=by simpa using ec
        subst this
        exact ⟨fun e=>absurd e (by decide),fun _=>⟨_,rfl,k⟩⟩
theorem orderS (S:St L h) {x y:BN} (hK:∀ h',St L h'→K (.int .i64 (or3 (cmpI x.1 y.1) (cmpI x.2.1 y.2.1) (cmpI x.2.2 y.2.2))) h'):CallsH P F.qbm [.agg (List.toArray (bc x)),.agg (List.toArray (bc y))] K h:=by
  refine qbm.ok ?_
  unfold qbm.p0
  refine St.bd1 (cs:=bc x) S fun S1=>St.bd1 (cs:=bc y) S1 fun S2=>?_
  generalize top (al h (List.toArray (bc x)) T.api_Bind)=t1 at *
  generalize al (al h (List.toArray (bc x)) T.api_Bind) (List.toArray (bc y)) T.api_Bind=h2 at *
  generalize top h=t0 at *
  exact qbm.r2.rule (fun d n8 n18 n28 a34 n40 h=>(d 4=true→n8=cmpI x.1 y.1)∧(d 9=true→n18=cmpI x.2.1 y.2.1)∧(d 14=true→n28=cmpI x.2.2 y.2.2)∧(d 16=true→n40=or3 (cmpI x.1 y.1) (cmpI x.2.1 y.2.1) (cmpI x.2.2 y.2.2)) ∧
      St (cond (d 15) (Bx a34 [.int .i64 n8,.int .i64 n18,.int .i64 n28]) emp::Bx t1 (bc y)::Bx t0 (bc x)::L) h)
    ⟨fun e=>(by cases e),fun e=>(by cases e),fun e=>(by cases e),fun e=>(by cases e),S2.emp'⟩
    (fun d _ _ _ _ _ h _ _ _ _ _ ⟨_,_,_,_,S⟩=>S.p2.c 0 (v:=.string (mkS x.1)) rfl)
    (fun d _ _ _ _ _ h _ _ _ _ _ ⟨_,_,_,_,S⟩=>S.p1.c 0 (v:=.string (mkS y.1)) rfl)
    (fun d _ _ _ _ _ h k _ _ _ h15 _ ⟨_,j2,j3,j4,S⟩ hk=>cmpS (hk _ _ ⟨fun _=>rfl,j2,j3,j4,by show St (cond (d 15) _ _::_) _; rw [h15]; exact S.tl.emp'⟩))
    (fun d _ _ _ _ _ h _ _ _ _ ⟨_,_,_,_,S⟩=>S.p2.c 1 (v:=.string (mkS x.2.1)) rfl)
    (fun d _ _ _ _ _ h _ _ _ _ ⟨_,_,_,_,S⟩=>S.p1.c 1 (v:=.string (mkS y.2.1)) rfl)
    (fun d _ _ _ _ _ h k _ _ _ h15 _ ⟨j1,_,j3,j4,S⟩ hk=>cmpS (hk _ _ ⟨j1,fun _=>rfl,j3,j4,by show St (cond (d 15) _ _::_) _; rw [h15]; exact S.tl.emp'⟩))
    (fun d _ _ _ _ _ h _ _ _ ⟨_,_,_,_,S⟩=>S.p2.c 2 (v:=.string (mkS x.2.2)) rfl)
    (fun d _ _ _ _ _ h _ _ _ ⟨_,_,_,_,S⟩=>S.p1.c 2 (v:=.string (mkS y.2.2)) rfl)
    (fun d _ _ _ _ _ h k _ _ _ h15 _ ⟨j1,j2,_,j4,S⟩ hk=>cmpS (hk _ _ ⟨j1,j2,fun _=>rfl,j4,by show St (cond (d 15) _ _::_) _; rw [h15]; exact S.tl.emp'⟩))
    (fun d n8 n18 n28 _ _ h k _ _ _ _ _ ⟨j1,j2,j3,j4,S⟩ hk=>St.bd1 (cs:=[.int .i64 n8,.int .i64 n18,.int .i64 n28]) S.tl fun S'=>hk _ _ ⟨j1,j2,j3,j4,S'⟩)
    (fun d n8 n18 n28 a34 _ h k _ h4 h9 h14 h15 ⟨j1,j2,j3,j4,S⟩ hk=>by
      rw [h15] at S
      have S:St (Bx a34 [.int .i64 n8,.int .i64 n18,.int .i64 n28]::Bx t1 (bc y)::Bx t0 (bc x)::L) h:=S
      refine orS ⟨rfl,S.mem.1⟩ (hk _ _ ⟨j1,j2,j3,fun _=>by rw [j1 h4,j2 h9,j3 h14],?_⟩)
      show St (cond (d 15) _ _::_) h
      rw [h15]
      exact S)
    (fun d _ _ _ _ _ h _ _ _ _ h16 ⟨_,_,_,j4,S⟩=>by
      unfold qbm.j1
      rw [j4 h16]
      exact hK h S.tl.tl.tl)
end
theorem sort_bind.orderV {L:List Asr}{h:Heap}{K:KT} (S:St L h) {x y:BN} (hK:∀ m h',decide (m<0)=sort_bind.o.lt x y→St L h'→K (.int .i64 m) h'):CallV P sort_bind.fc [.agg (List.toArray (bc x)),.agg (List.toArray (bc y))] K h :=
  callV_fn (orderS S fun h' S'=>hK _ h' (sort_bind.or_lt x y) S')
end Go.Proofs.YtofpbcakppjgcaaGreatDoor.Pr
end
section
set_option linter.unusedVariables false
set_option linter.unusedSimpArgs false
set_option linter.unusedSectionVars false
namespace Go.Proofs.YtofpbcakppjgcaaGreatDoor.Pr.sort_bind
open Go Go.Lift Go.Proofs
abbrev rw (n:Nat) (f:Nat→BN):List Value:=(rowF n f).flatMap bc
theorem rw_swap {n i j:Nat} (f:Nat→BN) (hi:i<n) (hj:j<n):((rowF n f).set i (f j)).set j (f i)=rowF n (swp f i j):=by
  apply List.ext_getElem?
  intro k
  by_cases hk:k<n
  · rw [rowF_get _ hk,List.getElem?_set,List.getElem?_set,List.length_set,rowF_len,rowF_get _ hk]
    by_cases h1:j=k
    · subst h1
      rw [if_pos rfl,if_pos hj]
      by_cases h2:j=i
      · subst h2; simp [swp]
      · simp [swp,h2]
    · rw [if_neg h1]
      by_cases h2:i=k
      · subst h2
        rw [if_pos rfl,if_pos hi]
        simp [swp]
      · rw [if_neg h2]
        have h3:¬ k=i:=fun e=>h2 e.symm
        have h4:¬ k=j:=fun e=>h1 e.symm
        simp [swp,h3,h4]
  · rw [List.getElem?_eq_none (by simp [rowF_len]; omega),List.getElem?_eq_none (by rw [rowF_len]; omega)]
section
variable {K:KT}{L:List Asr}{h:Heap}
theorem rlen {s:SV}{n:Nat}{f:Nat→BN} (S:St (Ow 3 s (rw n f)::L) h):s.2.1=n:=by
  have:=S.ow.1
  rw [flat_length bc3,rowF_len] at this
  omega
theorem less2T {s:SV}{n:Nat}{f:Nat→BN}{x y:Int}{i j:Nat}{R:Int→Heap→Prop} (S:St (Ow 3 s (rw n f)::L) h) (hx:x=i) (hy:y=j) (hi:i<n) (hj:j<n) (hR:∀ m h',decide (m<0)=o.lt (f i) (f j)→St (Ow 3 s (rw n f)::L) h'→R m h') :
    ∃ p,s.1=some p∧(0:Int)≤x∧x<((s.2.1:Nat):Int)∧∃ q,s.1=some q∧(0:Int)≤y∧y<((s.2.1:Nat):Int)∧∃ cs,rdC h (Addr.add p (Int.toNat x * 3)) 0 3=some cs∧∃ cs',rdC h (Addr.add q (Int.toNat y * 3)) 0 3=some cs' ∧
      CallV P fc [.agg (List.toArray cs),.agg (List.toArray cs')] (fun v h'=>∃ n,v=.int .i64 n∧R n h') h:=by
  obtain ⟨p,ep,p0,p1,cs,rd,e⟩:=ixS bc3 (by decide) S.sl hx (rowF_get f hi) (R:=fun cs=>cs=bc (f i)) rfl
  obtain ⟨q,eq,q0,q1,cs',rd',e'⟩:=ixS bc3 (by decide) S.sl hy (rowF_get f hj) (R:=fun cs=>cs=bc (f j)) rfl
  subst e
  subst e'
  exact ⟨p,ep,p0,p1,q,eq,q0,q1,_,rd,_,rd',orderV S fun m h' em S'=>⟨_,rfl,hR m h' em S'⟩⟩
theorem swapT {s:SV}{n:Nat}{f:Nat→BN}{x y:Int}{i j:Nat}{Q:Heap→Prop} (S:St (Ow 3 s (rw n f)::L) h) (hx:x=i) (hy:y=j) (hi:i<n) (hj:j<n) (hQ:∀ h',St (Ow 3 s (rw n (swp f j i))::L) h'→Q h') :
    ∃ p,s.1=some p∧(0:Int)≤x∧x<((s.2.1:Nat):Int)∧∃ q,s.1=some q∧(0:Int)≤y∧y<((s.2.1:Nat):Int)∧∃ cs,rdC h (Addr.add p (Int.toNat x * 3)) 0 3=some cs∧∃ cs',rdC h (Addr.add q (Int.toNat y * 3)) 0 3=some cs' ∧
      ∃ p',s.1=some p'∧(0:Int)≤y∧y<((s.2.1:Nat):Int)∧cs.length=3∧∃ h1,stC h (Addr.add p' (Int.toNat y * 3)) 0 cs=some h1∧∃ q',s.1=some q'∧(0:Int)≤x∧x<((s.2.1:Nat):Int)∧cs'.length=3∧∃ h2,stC h1 (Addr.add q' (Int.toNat x * 3)) 0 cs'=some h2∧Q h2:=by
  obtain ⟨p,ep,p0,p1,cs,rd,e⟩:=ixS bc3 (by decide) S.sl hx (rowF_get f hi) (R:=fun cs=>cs=bc (f i)) rfl
  obtain ⟨q,eq,q0,q1,cs',rd',e'⟩:=ixS bc3 (by decide) S.sl hy (rowF_get f hj) (R:=fun cs=>cs=bc (f j)) rfl
  subst e
  subst e'
  obtain ⟨a,a1,a2,a3,h1,a4,S1⟩:=S.owSetN bc3 bc_one (by decide) (i:=y) (n:=j) hy (by rw [rowF_len]; exact hj) (f i)
  obtain ⟨b,b1,b2,b3,h2,b4,S2⟩:=S1.owSetN bc3 bc_one (by decide) (i:=x) (n:=i) hx (by rw [List.length_set,rowF_len]; exact hi) (f j)
  rw [rw_swap f hj hi] at S2
  exact ⟨p,ep,p0,p1,q,eq,q0,q1,_,rd,_,rd',a,a1,a2,a3,rfl,h1,a4,b,b1,b2,b3,rfl,h2,b4,hQ h2 S2⟩
theorem ins_inner {s:SV}{n a b i:Nat}{f0:Nat→BN}{R1:OA→Nat→Nat→Int→Int→Value→Int→Heap→Prop} (hn:n<4611686018427387904) (hab:a<i∧i<b∧b≤n)
    (hQ:∀ h' f,Pm a b f0 f→o.Srt a (i+1) f→St (Ow 3 s (rw n f)::L) h'→qak.j2 K R1 s.1 s.2.1 s.2.2 a b fc i h') :
    ∀ (fuel j:Nat) (f:Nat→BN) (h:Heap),j<fuel→a≤j→j≤i→Pm a b f0 f→InsI o a i j f→St (Ow 3 s (rw n f)::L) h→qak.L3 K R1 fuel s.1 s.2.1 s.2.2 a b fc i j h
  | 0,_,_,_,hf,_,_,_,_,_=>absurd hf (Nat.not_lt_zero _)
  | fuel+1,j,f,h,hf,ha,hj,pm,iv,S=>by
    unfold qak.L3
    have stop:∀ h,St (Ow 3 s (rw n f)::L) h→(a<j→o.lt (f j) (f (j - 1))=false)→qak.j4 K R1 (qak.L3 K R1 fuel) s.1 s.2.1 s.2.2 a b fc i j false h:=by
      intro h S e
      unfold qak.j4
      exact ifF rfl (hQ h f pm (iv.done hj e) S)
    by_cases hgt:j > a
    · have ew:IntKind.i64.wrap ((j:Int) - 1)=((j - 1:Nat):Int):=by rw [wrapI (by omega) (by omega)]; omega
      rw [ew]
      refine ifT (by simp; omega) (less2T (i:=j) (j:=j - 1) S rfl rfl (by omega) (by omega) ?_)
      intro nn h hnn S
      rw [hnn]
      cases hl:o.lt (f j) (f (j - 1)) with
      | false=>exact stop h S (fun _=>hl)
      | true =>
        unfold qak.j4
        rw [ew]
        refine ifT rfl (swapT (i:=j - 1) (j:=j) S rfl rfl (by omega) (by omega) fun h2 S2=>?_)
        simp only [bd]
        exact ins_inner hn hab hQ fuel (j - 1) _ h2 (by omega) (by omega) (by omega) (pm.trans (swp_pm f ⟨by omega,by omega⟩ ⟨by omega,by omega⟩)) (iv.swap hgt hj hl) S2
    · exact ifF (by simp; omega) (stop h S (fun e=>absurd e hgt))
theorem ins_outer {s:SV}{n a b:Nat}{f0:Nat→BN} (hn:n<4611686018427387904) (hb:b≤n) (hK:∀ h' f,Pm a b f0 f→o.Srt a b f→St (Ow 3 s (rw n f)::L) h'→K (.tuple #[]) h') :
    ∀ (fuel i:Nat) (f:Nat→BN) (h:Heap),b - i<fuel→a<i→Pm a b f0 f→o.Srt a i f→St (Ow 3 s (rw n f)::L) h→qak.L1 K fuel s.1 s.2.1 s.2.2 a b fc i h
  | 0,_,_,_,hf,_,_,_,_=>absurd hf (Nat.not_lt_zero _)
  | fuel+1,i,f,h,hf,ha,pm,sr,S=>by
    unfold qak.L1
    by_cases hlt:i<b
    · refine ifT (by simp; omega) ⟨i+1,ins_inner hn ⟨ha,hlt,hb⟩ (fun h' g pg sg Sg=>?_) _ i f h (Nat.lt_succ_self _) (by omega) (Nat.le_refl _) pm (InsI.start sr) S⟩
      unfold qak.j2
      simp only [bd]
      rw [show IntKind.i64.wrap ((i:Int)+1)=((i+1:Nat):Int) by rw [wrapI (by omega) (by omega)]; omega]
      exact ins_outer hn hb hK fuel (i+1) g h' (by omega) (by omega) pg sg Sg
    · exact ifF (by simp; omega) (hK h f pm (fun p q hp hpq hq=>sr p q hp hpq (by omega)) S)
theorem insS {s:SV}{n a b:Nat}{f:Nat→BN} (S:St (Ow 3 s (rw n f)::L) h) (hn:n<4611686018427387904) (ha:a≤n) (hb:b≤n) (hK:∀ h' g,Pm a b f g→o.Srt a b g→St (Ow 3 s (rw n g)::L) h'→K (.tuple #[]) h') :
    CallsH P F.qak [.slice s.1 s.2.1 s.2.2,.int .i64 a,.int .i64 b,fc] K h:=by
  refine qak.ok ?_
  unfold qak.p0
  simp only [bd]
  rw [show IntKind.i64.wrap ((a:Int)+1)=((a+1:Nat):Int) by rw [wrapI (by omega) (by omega)]; omega]
  exact ⟨_,ins_outer hn hb hK _ (a+1) f h (Nat.lt_succ_self _) (by omega) (Pm.refl _ _ _) (fun p q hp hpq hq=>by omega) S⟩
theorem pdq_small {s:SV}{n:Nat}{f:Nat→BN}{x:Int} (hn:n≤12) (S:St (Ow 3 s (rw n f)::L) h) (hK:∀ h' g,Pm 0 n f g→o.Srt 0 n g→St (Ow 3 s (rw n g)::L) h'→K (.tuple #[]) h') :
    CallsH P F.qal [.slice s.1 s.2.1 s.2.2,.int .i64 0,.int .i64 (n:Int),.int .i64 x,fc] K h:=by
  refine qal.ok ?_
  unfold qal.p0
  refine ⟨1,?_⟩
  unfold qal.L1
  simp only [bd]
  rw [show IntKind.i64.wrap ((n:Int) - 0)=(n:Int) by rw [wrapI (by omega) (by omega)]; omega]
  exact ifT (by simp; omega) (insS (a:=0) (b:=n) S (by omega) (Nat.zero_le _) (Nat.le_refl _) fun h' g pg sg Sg=>⟨rfl,hK h' g pg sg Sg⟩)
theorem sortS {s:SV}{xs:List BN} (S:St (Ow 3 s (xs.flatMap bc)::L) h) (hn:xs.length≤12) (d:BN)
    (hK:∀ h' (ys:List BN),ys.Perm xs→ys.Pairwise o.le→St (Ow 3 s (ys.flatMap bc)::L) h'→K (.tuple #[]) h') :
    CallsH P F.qca [.slice s.1 s.2.1 s.2.2,fc] K h:=by
  refine qca.ok ?_
  unfold qca.p0
  have S0:St (Ow 3 s (rw xs.length fun i=>xs.getD i d)::L) h:=by unfold rw; rw [rowF_of]; exact S
  have el:s.2.1=xs.length:=rlen S0
  obtain ⟨p,l,c⟩:=s
  subst el
  simp only [bd]
  rw [show IntKind.u64.wrap ((xs.length:Nat):Int)=((xs.length:Nat):Int) by rw [IntKind.wrap_u64]; omega]
  refine lenS (by omega) ⟨_,rfl,?_⟩
  refine pdq_small (s:=(p,xs.length,c)) hn S0 fun h' g pg sg Sg=>⟨rfl,?_⟩
  refine hK h' (rowF xs.length g) ?_ (o.srt_row sg) Sg
  have:=pg.perm
  rwa [rowF_of] at this
end
end Go.Proofs.YtofpbcakppjgcaaGreatDoor.Pr.sort_bind
end
