/- connsSays_holds: all that the theorem needs, in a few texts (bundle.py; made of the texts that NOTES.md names). -/
import Derived.Below
import Derived.KernelRfl
import Derived.Laws.Append
import Derived.Laws.Bits64
import Derived.Laws.BitsAllLaws
import Derived.Laws.BitsLemmas
import Derived.Laws.IdiomStrings
import Derived.Laws.Sem
import Derived.Laws.Strings
import Derived.LoopN
import Derived.MapKept
import Derived.Orders
import Derived.Test.YtjapglfpjhljpaaGreatChecked
import Derived.WideLaws
import Derived.Test.YtjapglfpjhljpaaGreatBConnsSays1
import Derived.Test.YtjapglfpjhljpaaGreatBConnsSays2
import Derived.Test.YtjapglfpjhljpaaGreatBConnsSays3
import Derived.Test.YtjapglfpjhljpaaGreatBConnsSays4
import Derived.Test.YtjapglfpjhljpaaGreatBConnsSays7
import Derived.Test.YtjapglfpjhljpaaGreatBConnsSays8
import Derived.Test.YtjapglfpjhljpaaGreatBConnsSays9
import Derived.Test.YtjapglfpjhljpaaGreatBConnsSays11
section
set_option linter.unusedVariables false
set_option linter.unusedSimpArgs false
namespace Go.Proofs.YtjapglfpjhljpaaGreat.Pr
open Go Go.Lift Go.Proofs
abbrev PMM:=Int × Int × PM
abbrev mm0 (a b:Int):PMM:=(a,b,noM)
structure CA where
  w:Nat
  m:PMM
  hd:PH
  body:Oct
def ca0:CA:=⟨0,mm0 0 0,(0,0,[]),[]⟩
structure AK where
  rd:Bool
  m:PMM
  hd:PH
  body:Oct
def ak0:AK:=⟨false,mm0 0 0,(0,0,[]),[]⟩
abbrev askc (r:AK) (y:MV) (bv:SV):List Value:=[.bool r.rd,.int .i64 r.m.1,.int .i64 r.m.2.1,y.n.v,y.s.v,y.f.v,y.t.v,.int .u64 (r.hd.1:Int),.int .i64 r.hd.2.1,.string (mkS r.hd.2.2),bv.v]
abbrev acells (c:CA) (y:MV) (bv:SV):List Value:=[.int .i64 (c.w:Int),.bool false,.int .i64 c.m.1,.int .i64 c.m.2.1,y.n.v,y.s.v,y.f.v,y.t.v,.int .u64 (c.hd.1:Int),.int .i64 c.hd.2.1,.string (mkS c.hd.2.2),bv.v]
abbrev nosv:SV:=(none,0,0)
def AsmA (a:Addr) (c:CA):Asr:=ex fun y:MV=>ex fun B:Nat→Prop=>ex fun bv:SV=>stars [Bx a (acells c y bv),Im 1 y.n (nums c.m.2.2.N),Im 1 y.s (strs c.m.2.2.S),Im 1 y.f (bools c.m.2.2.F),Tb B y.t c.m.2.2.T,Ow 1 bv (u8s c.body)]
section
variable {K:KT}{L R:List Asr}{h:Heap}
theorem AsmA.op {a:Addr}{c:CA} (S:St (AsmA a c::L) h):∃ y B bv,St (Bx a (acells c y bv)::Im 1 y.n (nums c.m.2.2.N)::Im 1 y.s (strs c.m.2.2.S)::Im 1 y.f (bools c.m.2.2.F)::Tb B y.t c.m.2.2.T::Ow 1 bv (u8s c.body)::L) h:=by
  obtain ⟨y,S⟩:=S.ex
  obtain ⟨B,S⟩:=S.ex
  obtain ⟨bv,S⟩:=S.ex
  exact ⟨y,B,bv,St.open S⟩
theorem AsmA.cl {a:Addr}{c:CA} (y:MV) (B:Nat→Prop) (bv:SV) (S:St (Bx a (acells c y bv)::Im 1 y.n (nums c.m.2.2.N)::Im 1 y.s (strs c.m.2.2.S)::Im 1 y.f (bools c.m.2.2.F)::Tb B y.t c.m.2.2.T::Ow 1 bv (u8s c.body)::L) h):St (AsmA a c::L) h :=
  St.ex' y (St.ex' B (St.ex' bv (St.close S)))
theorem AsmA.zero {a:Addr} (S:St (Bx a (acells ca0 mnil nosv)::L) h):St (AsmA a ca0::L) h :=
  AsmA.cl mnil (fun _=>False) nosv (show St (Bx a (acells ca0 mnil nosv)::Im 1 (none,0,0) []::Im 1 (none,0,0) []::Im 1 (none,0,0) []::Tb (fun _=>False) (none,0,0) []::Ow 1 (none,0,0) []::L) h from
    (((((tbNil 0 (S.owNil 1)).imNil 1 0).imNil 1 0).imNil 1 0).to))
def AskK (K:KT) (L:List Asr) (r:AK) (n:Nat):Prop:=∀ y B bv h',St (Im 1 y.n (nums r.m.2.2.N)::Im 1 y.s (strs r.m.2.2.S)::Im 1 y.f (bools r.m.2.2.F)::Tb B y.t r.m.2.2.T::Ow 1 bv (u8s r.body)::L) h' →
  K (.tuple #[.agg (List.toArray (askc r y bv)),.int .i64 (n:Int)]) h'
def Thru (K:KT) (t:Addr):KT:=fun v h=>∃ cs n,v=.tuple #[.agg (List.toArray cs),.int .i64 n]∧cs.length=11∧∃ h9,stC h t 0 cs=some h9∧∃ cs10,rdC h9 t 0 11=some cs10∧K (.tuple #[.agg (List.toArray cs10),.int .i64 n]) h9
theorem relay {t:Addr}{r:AK}{n:Nat}{cs0:List Value}{L2:List Asr} (h0:cs0.length=11) [Has (Bx t) L cs0 L2] (hK:AskK K L2 r n):AskK (Thru K t) L r n:=by
  intro y B bv h' S
  refine ⟨_,_,rfl,rfl,S.putA t (by rw [h0]; rfl) (by simp [one]) fun h2 S2=>⟨_,S2.rall t 11 rfl,hK y B bv h2 ?_⟩⟩
  exact S2.to
def zeros:List Value:=askc ak0 mnil nosv
theorem bld_ask':(fun a b c d e f:Value=>Instr.fill (Lift.places P (P.underlying T.api_Ask)) (zcl P T.api_Ask) [(1,.agg (List.toArray [a,b,c,d,e,f]))])=fun a b c d e f=>some (List.toArray [.bool false,a,b,c,d,e,f,.int .u64 0,.int .i64 0,.string (mkS []),.slice none 0 0]):=by kernel_rfl
theorem bld_ask (a b c d e f:Value):bld P T.api_Ask [(1,.agg (List.toArray [a,b,c,d,e,f]))] [.bool false,a,b,c,d,e,f,.int .u64 0,.int .i64 0,.string (mkS []),.slice none 0 0]:=congrFun (congrFun (congrFun (congrFun (congrFun (congrFun bld_ask' a) b) c) d) e) f
theorem waitsS {a:Addr}{c:CA}{L2:List Asr} (S0:St L h) [H:Has (AsmA a) L c L2] (hK:K (.bool (decide (c.w≠0))) h):CallsH P F.qdb [.pointer (some a)] K h:=by
  obtain ⟨y,B,bv,S⟩:=AsmA.op (S0.get (AsmA a))
  refine qdb.ok ?_
  unfold qdb.p0
  simp only [someE,rdN (S.rc a 0 rfl),bd]
  rw [show (((c.w:Nat):Int) != 0)=decide (c.w≠0) by rw [Bool.eq_iff_iff,bne_iff_ne,decide_eq_true_eq]; omega]
  exact hK
def wrongP (m:PMM) (c:CA):AK:=⟨false,if c.w≠0 then mm0 60 40 else m,(0,0,[]),[]⟩
theorem wrongS {a:Addr}{c:CA}{n:Nat}{ma mb:Int}{L2:List Asr} (S0:St L h) [H:Has (AsmA a) L c L2] (hK:AskK K (AsmA a ca0::L2) (wrongP (mm0 ma mb) c) n) :
    CallsH P F.qbw [.pointer (some a),.int .i64 (n:Int),.agg (List.toArray (mcells ma mb mnil))] K h:=by
  refine qbw.ok ?_
  unfold qbw.p0
  simp only [bd]
  have S1:=(S0.get (AsmA a)).al (mcells ma mb mnil) T.api_Method
  generalize al h (mcells ma mb mnil).toArray T.api_Method=h1 at *
  generalize top h=m at *
  have S2:=S1.al zeros T.api_Ask
  have eh:al h1 #[.bool false,.int .i64 0,.int .i64 0,.slice none 0 0,.slice none 0 0,.slice none 0 0,.slice none 0 0,.int .u64 0,.int .i64 0,.string (mkS ([]:List UInt8)),.slice none 0 0] T.api_Ask=al h1 zeros.toArray T.api_Ask:=rfl
  rw [eh]
  generalize al h1 zeros.toArray T.api_Ask=h2 at *
  generalize top h1=t at *
  refine waitsS (a:=a) (c:=c) S2 ⟨_,rfl,?_⟩
  have j1:∀ (xa xb:Int) (h':Heap),mm0 xa xb=(wrongP (mm0 ma mb) c).m→St (Bx m (mcells xa xb mnil)::Bx t zeros::AsmA a c::L2) h'→qbw.j1 K (some a) n m t h':=by
    intro xa xb h' em S'
    obtain ⟨y,B,bv,S''⟩:=AsmA.op (S'.get (AsmA a))
    unfold qbw.j1
    refine ⟨a,rfl,rfl,S''.putA a (ws:=acells ca0 mnil nosv) rfl (by simp [one]) fun h3 S3=>?_⟩
    simp only [rdC' (S3.rall m 6 rfl)]
    refine ⟨_,bld_ask _ _ _ _ _ _,rfl,S3.putA t (ws:=askc ⟨false,mm0 xa xb,(0,0,[]),[]⟩ mnil nosv) rfl (by simp [one]) fun h4 S4=>⟨_,S4.rall t 11 rfl,?_⟩⟩
    have S5:St (AsmA a ca0::L2) h4:=AsmA.zero S4.to
    have S6:St (Im 1 (none,0,0) []::Im 1 (none,0,0) []::Im 1 (none,0,0) []::Tb (fun _=>False) (none,0,0) []::Ow 1 (none,0,0) []::AsmA a ca0::L2) h4:=((((tbNil 0 (S5.owNil 1)).imNil 1 0).imNil 1 0).imNil 1 0)
    have er:wrongP (mm0 ma mb) c=⟨false,mm0 xa xb,(0,0,[]),[]⟩:=by rw [em]; rfl
    rw [er] at hK
    exact hK mnil (fun _=>False) nosv h4 S6
  by_cases hw:c.w≠0
  · refine ⟨fun _=>⟨rfl,S2.putA m (ws:=mcells 60 40 mnil) rfl (by simp [one]) fun h3 S3=>j1 60 40 h3 (by unfold wrongP; rw [if_pos hw]) S3.to⟩,fun e=>by rw [decide_eq_true hw] at e; cases e⟩
  · refine ⟨fun e=>absurd (of_decide_eq_true e) hw,fun _=>j1 ma mb h2 (by unfold wrongP; rw [if_neg hw]) S2.to⟩
def askedP (c:CA):AK:=⟨true,c.m,c.hd,c.body⟩
theorem askedS {a:Addr}{c:CA}{L2:List Asr} (S0:St L h) [H:Has (AsmA a) L c L2] (hK:AskK K (AsmA a ca0::L2) (askedP c) 0):CallsH P F.qcz [.pointer (some a)] K h:=by
  refine qcz.ok ?_
  unfold qcz.p0
  obtain ⟨y,B,bv,S⟩:=AsmA.op (S0.get (AsmA a))
  have S1:=S.al zeros T.api_Ask
  have eh:∀ h,al h #[.bool false,.int .i64 0,.int .i64 0,.slice none 0 0,.slice none 0 0,.slice none 0 0,.slice none 0 0,.int .u64 0,.int .i64 0,.string (mkS ([]:List UInt8)),.slice none 0 0] T.api_Ask=al h zeros.toArray T.api_Ask:=fun _=>rfl
  simp only [bd,eh,someE]
  generalize al h zeros.toArray T.api_Ask=h1 at *
  generalize top h=t at *
  refine (S1.get (Bx a)).rdP 1 (n:=11) (Nat.le_refl 12) ?_
  have S2:=S1.al zeros T.api_Ask
  refine ⟨rfl,S2.putA (top h1) (ws:=askc ⟨false,c.m,c.hd,c.body⟩ y bv) rfl (by simp [one]) fun h2 S3=>?_⟩
  generalize top h1=o at *
  refine S3.put1 o 0 (by simp) rfl fun h3 S4=>?_
  simp only [List.set_cons_zero] at S4
  refine ⟨rfl,S4.putA a (ws:=acells ca0 mnil nosv) rfl (by simp [one]) fun h4 S5=>?_⟩
  simp only [rdC' (S5.rall o 11 rfl)]
  refine ⟨rfl,S5.putA t (ws:=askc (askedP c) y bv) rfl (by simp [one]) fun h5 S6=>⟨_,S6.rall t 11 rfl,?_⟩⟩
  have S7:=S6
  have S8:St (Bx a (acells ca0 mnil nosv)::Im 1 y.n (nums c.m.2.2.N)::Im 1 y.s (strs c.m.2.2.S)::Im 1 y.f (bools c.m.2.2.F)::Tb B y.t c.m.2.2.T::Ow 1 bv (u8s c.body)::L2) h5:=S7.to
  have S9:St (Im 1 y.n (nums c.m.2.2.N)::Im 1 y.s (strs c.m.2.2.S)::Im 1 y.f (bools c.m.2.2.F)::Tb B y.t c.m.2.2.T::Ow 1 bv (u8s c.body)::AsmA a ca0::L2) h5:=(AsmA.zero S8).to
  exact hK y B bv h5 S9
def namedP (b:Oct):PMM:=mm0 (numN (takeP 2 (b,false)).1:Nat) (numN (takeP 2 (takeP 2 (b,false)).2).1:Nat)
theorem namedS {s:SV}{bs:Oct} (S:St L h) [In (fun b=>Im 1 s (u8s b)) L bs] (hb:bs.length<1099511627776) (hK:∀ h',St L h'→K (.agg (List.toArray (mcells (namedP bs).1 (namedP bs).2.1 mnil))) h'):CallsH P F.qdn [.slice s.1 s.2.1 s.2.2] K h:=by
  refine qdn.ok ?_
  unfold qdn.p0
  simp only [bd]
  have S1:=S.al (mcells 0 0 mnil) T.api_Method
  have eh:al h #[.int .i64 0,.int .i64 0,.slice none 0 0,.slice none 0 0,.slice none 0 0,.slice none 0 0] T.api_Method=al h (mcells 0 0 mnil).toArray T.api_Method:=rfl
  rw [eh]
  generalize al h (mcells 0 0 mnil).toArray T.api_Method=h1 at *
  generalize top h=m at *
  refine fromS (s:=s) (bs:=bs) S1 hb fun h2 S2=>⟨_,rfl,rintS (n:=2) S2 (by omega) (by omega) fun h3 S3=>⟨_,rfl,rintS (n:=2) S3 (by omega) (by omega) fun h4 S4=>⟨_,rfl,?_⟩⟩⟩
  have n1:numN (takeP 2 (bs,false)).1<65536:=numN2_lt (by unfold takeP; split <;> simp; omega)
  have n2:numN (takeP 2 (takeP 2 (bs,false)).2).1<65536:=numN2_lt (by generalize (takeP 2 (bs,false)).2=z; unfold takeP; split <;> simp; omega)
  rw [wrapI (by omega) (by omega),wrapI (by omega) (by omega)]
  exact ⟨rfl,S4.putA m (ws:=mcells (namedP bs).1 (namedP bs).2.1 mnil) rfl (by simp [one]) fun h5 S5=>⟨_,S5.rall m 6 rfl,hK h5 S5.to⟩⟩
abbrev StepR:=AK × Nat × CA
def wrongR (n:Nat) (m:PMM) (c:CA):StepR:=(wrongP m c,n,ca0)
def methodR (b:Oct) (c:CA):StepR :=
  if c.w≠0 then wrongR 505 (mm0 0 0) c
  else match methP b with
    | .inl e=>wrongR (codeP e) (namedP b) c
    | .inr m=>if m.1=60∧m.2.1=40 then (ak0,0,⟨1,m,(0,0,[]),[]⟩) else (⟨true,m,(0,0,[]),[]⟩,0,ca0)
def headR (b:Oct) (c:CA):StepR :=
  if c.w≠1 then wrongR 505 (mm0 0 0) c
  else match headP b with
    | .inl e=>wrongR (codeP e) (mm0 0 0) c
    | .inr x=>if x.1 > 10000 then wrongR 311 (mm0 0 0) c else if x.1=0 then (⟨true,c.m,x,c.body⟩,0,ca0) else (ak0,0,{ c with w:=2,hd:=x })
def bodyR (b:Oct) (c:CA):StepR :=
  if c.w≠2 then wrongR 505 (mm0 0 0) c
  else if c.hd.1<c.body.length+b.length then wrongR 501 (mm0 0 0) c
  else if c.hd.1=c.body.length+b.length then (⟨true,c.m,c.hd,c.body++b⟩,0,ca0) else (ak0,0,{ c with body:=c.body++b })
def frameR (kind:Int) (b:Oct) (c:CA):StepR :=
  if kind=1 then methodR b c else if kind=2 then headR b c else if kind=3 then bodyR b c else wrongR 503 (mm0 0 0) c
theorem askNil {n:Nat} (hK:AskK K L ak0 n) {h':Heap} (S:St L h'):K (.tuple #[.agg (List.toArray zeros),.int .i64 (n:Int)]) h' :=
  hK mnil (fun _=>False) nosv h' (show St (Im 1 (none,0,0) []::Im 1 (none,0,0) []::Im 1 (none,0,0) []::Tb (fun _=>False) (none,0,0) []::Ow 1 (none,0,0) []::L) h' from ((((tbNil 0 (S.owNil 1)).imNil 1 0).imNil 1 0).imNil 1 0))
theorem methodS {a:Addr}{c:CA}{s:SV}{bs:Oct} (S:St (AsmA a c::L) h) [mi:In (fun b=>Im 1 s (u8s b)) L bs] (hb:bs.length<1099511627776) (hK:AskK K (AsmA a (methodR bs c).2.2::L) (methodR bs c).1 (methodR bs c).2.1) :
    CallsH P F.qbm [.pointer (some a),.slice s.1 s.2.1 s.2.2] K h:=by
  refine qbm.ok ?_
  unfold qbm.p0
  have eh:∀ h,al h #[.bool false,.int .i64 0,.int .i64 0,.slice none 0 0,.slice none 0 0,.slice none 0 0,.slice none 0 0,.int .u64 0,.int .i64 0,.string (mkS ([]:List UInt8)),.slice none 0 0] T.api_Ask=al h zeros.toArray T.api_Ask:=fun _=>rfl
  have S1:=S.al zeros T.api_Ask
  simp only [bd,eh]
  generalize al h zeros.toArray T.api_Ask=h1 at *
  generalize top h=t at *
  refine waitsS (a:=a) (c:=c) S1 ⟨_,rfl,?_⟩
  unfold methodR at hK
  by_cases hw:c.w≠0
  · rw [if_pos hw] at hK
    exact ifT (decide_eq_true hw) (wrongS (a:=a) (c:=c) S1 (relay (t:=t) (cs0:=zeros) rfl hK))
  rw [if_neg hw] at hK
  refine ifF (decide_eq_false hw) (methS (s:=s) (bs:=bs) S1 hb fun y B h2 S2=>⟨_,_,rfl,?_⟩)
  have S3:=S2.al (mcells 0 0 mnil) T.api_Method
  refine ⟨rfl,S3.putA (top h2) (ws:=mcells (resM (methP bs)).1 (resM (methP bs)).2.1 y) rfl (by simp [one]) fun h3 S4=>?_⟩
  generalize top h2=mb at *
  cases hp:methP bs with
  | inl e =>
    rw [hp] at hK S4
    have he:e=4∨e=5:=by
      unfold methP at hp
      split at hp
      · cases hp; exact .inl rfl
      · split at hp
        · cases hp; exact .inr rfl
        · split at hp <;> cases hp; exact .inl rfl
    refine ifT (by rcases he with rfl | rfl <;> rfl) (codeS (e:=e) ⟨_,rfl,namedS (s:=s) (bs:=bs) S4 hb fun h4 S5=>⟨_,rfl,?_⟩⟩)
    have S6:St (AsmA a c::Bx t zeros::L) h4:=S5.to
    exact wrongS (a:=a) (c:=c) S6 (relay (t:=t) (cs0:=zeros) rfl hK)
  | inr m =>
    rw [hp] at hK S4
    refine ifF rfl ?_
    simp only [resM] at S4 ⊢
    simp only [rdC' (S4.rall mb 6 rfl)]
    obtain ⟨y0,B0,bv0,S5⟩:=AsmA.op (S4.get (AsmA a))
    refine ⟨_,bld_ask _ _ _ _ _ _,a,rfl,rfl,?_⟩
    refine S5.wrs 1 (ws:=askc ⟨false,m,(0,0,[]),[]⟩ y nosv) (Nat.le_refl 12) (by simp [one]) fun h4 S6=>?_
    have ec:List.take 1 (acells c y0 bv0)++askc ⟨false,m,(0,0,[]),[]⟩ y nosv++List.drop (1+(askc ⟨false,m,(0,0,[]),[]⟩ y nosv).length) (acells c y0 bv0)=acells ⟨c.w,m,(0,0,[]),[]⟩ y nosv:=rfl
    rw [ec] at S6
    simp only [rdN (S6.rc mb 0 rfl),rdN (S6.rc mb 1 rfl)]
    have S7:St (Bx a (acells ⟨c.w,m,(0,0,[]),[]⟩ y nosv)::Im 1 y.n (nums m.2.2.N)::Im 1 y.s (strs m.2.2.S)::Im 1 y.f (bools m.2.2.F)::Tb B y.t m.2.2.T::Bx t zeros::L) h4:=S6.to
    have S8:St (Bx a (acells ⟨c.w,m,(0,0,[]),[]⟩ y nosv)::Im 1 y.n (nums m.2.2.N)::Im 1 y.s (strs m.2.2.S)::Im 1 y.f (bools m.2.2.F)::Tb B y.t m.2.2.T::Ow 1 nosv (u8s [])::Bx t zeros::L) h4:=(show St (Ow 1 nosv (u8s [])::_) h4 from S7.owNil 1).to
    have rest:¬ (m.1=60∧m.2.1=40)→qbm.j1 K (some a) t false h4:=by
      intro hne
      simp only [if_neg hne] at hK
      unfold qbm.j1
      refine ifF rfl (askedS (a:=a) (c:=⟨c.w,m,(0,0,[]),[]⟩) (AsmA.cl y B nosv S8) (relay (t:=t) (cs0:=zeros) rfl hK))
    by_cases h60:m.1=60
    · refine ifT (by rw [h60]; rfl) ?_
      by_cases h40:m.2.1=40
      · rw [show (m.2.1==40)=true by rw [h40]; rfl]
        simp only [if_pos (And.intro h60 h40)] at hK
        unfold qbm.j1
        refine ifT rfl ⟨a,rfl,S8.put1 a 0 (by simp) rfl fun h5 S9=>?_⟩
        simp only [List.set_cons_zero] at S9
        refine ⟨rfl,S9.putA t (ws:=zeros) rfl (by simp [one,zeros]) fun h6 S10=>⟨_,S10.rall t 11 rfl,askNil hK ?_⟩⟩
        have S11:St (Bx a (acells ⟨1,m,(0,0,[]),[]⟩ y nosv)::Im 1 y.n (nums m.2.2.N)::Im 1 y.s (strs m.2.2.S)::Im 1 y.f (bools m.2.2.F)::Tb B y.t m.2.2.T::Ow 1 nosv (u8s [])::L) h6:=S10.to
        exact AsmA.cl y B nosv S11
      · rw [show (m.2.1==40)=false by simp [h40]]
        exact rest (fun e=>h40 e.2)
    · exact ifF (by simp [h60]) (rest (fun e=>h60 e.1))
theorem headP_e {bs:Oct}{e:Nat} (h:headP bs=.inl e):e=4:=by
  unfold headP hpB hp4 at h
  split at h <;> cases h
  rfl
theorem headP_lt {bs:Oct}{x:PH} (h:headP bs=.inr x):x.1<18446744073709551616:=by
  unfold headP hpB hp4 at h
  split at h
  · cases h
    exact numN_lt _
  · cases h
theorem headS {a:Addr}{c:CA}{s:SV}{bs:Oct} (S:St (AsmA a c::L) h) [mi:In (fun b=>Im 1 s (u8s b)) L bs] (hb:bs.length<1099511627776) (hK:AskK K (AsmA a (headR bs c).2.2::L) (headR bs c).1 (headR bs c).2.1) :
    CallsH P F.qdg [.pointer (some a),.slice s.1 s.2.1 s.2.2] K h:=by
  refine qdg.ok ?_
  unfold qdg.p0
  have eh:∀ h,al h #[.bool false,.int .i64 0,.int .i64 0,.slice none 0 0,.slice none 0 0,.slice none 0 0,.slice none 0 0,.int .u64 0,.int .i64 0,.string (mkS ([]:List UInt8)),.slice none 0 0] T.api_Ask=al h zeros.toArray T.api_Ask:=fun _=>rfl
  have S1:=S.al zeros T.api_Ask
  simp only [bd,eh,someE]
  generalize al h zeros.toArray T.api_Ask=h1 at *
  generalize top h=t at *
  obtain ⟨y,B,bv,S2⟩:=AsmA.op (S1.get (AsmA a))
  simp only [rdN (S2.rc a 0 rfl)]
  unfold headR at hK
  by_cases hw:c.w≠1
  · rw [if_pos hw] at hK
    exact ifT (by simp; omega) (wrongS (a:=a) (c:=c) S1 (relay (t:=t) (cs0:=zeros) rfl hK))
  rw [if_neg hw] at hK
  refine ifF (by simp; omega) ?_
  clear S2
  refine contS (s:=s) (bs:=bs) S1 hb fun h2 S2=>⟨_,_,rfl,?_⟩
  have S3:=S2.al (hcells (0,0,[])) T.api_Head
  refine ⟨rfl,S3.putA (top h2) (ws:=hcells (hdH (headP bs))) rfl (by simp [one]) fun h3 S4=>?_⟩
  generalize top h2=hb' at *
  cases hp:headP bs with
  | inl e =>
    rw [hp] at hK S4
    have he:=headP_e hp
    subst he
    refine ifT rfl (codeS (e:=4) ⟨_,rfl,?_⟩)
    have S6:St (AsmA a c::Bx t zeros::L) h3:=S4.to
    exact wrongS (a:=a) (c:=c) S6 (relay (t:=t) (cs0:=zeros) rfl hK)
  | inr x =>
    rw [hp] at hK S4
    have hx:=headP_lt hp
    simp only [hdH] at S4
    refine ifF rfl ?_
    simp only [rdN (S4.rc hb' 0 rfl)]
    have S6:St (AsmA a c::Bx t zeros::L) h3:=S4.to
    by_cases hbig:x.1 > 10000
    · simp only [if_pos hbig] at hK
      exact ifT (by simp; omega) (wrongS (a:=a) (c:=c) S6 (relay (t:=t) (cs0:=zeros) rfl hK))
    · simp only [if_neg hbig] at hK
      refine ifF (by simp; omega) ?_
      simp only [rdC' (S4.rall hb' 3 rfl)]
      obtain ⟨y,B,bv,S5⟩:=AsmA.op (S4.get (AsmA a))
      have ws2:∀ {Q:Heap→Prop},(∀ h',St (Bx a (acells { c with hd:=x } y bv)::Im 1 y.n (nums c.m.2.2.N)::Im 1 y.s (strs c.m.2.2.S)::Im 1 y.f (bools c.m.2.2.F)::Tb B y.t c.m.2.2.T::Ow 1 bv (u8s c.body)::Bx hb' (hcells x)::Bx t zeros::L) h'→Q h')→∃ h',stC h3 ((a.add 1).add 7) 0 (hcells x)=some h'∧Q h':=by
        intro Q hQ
        rw [add_add S5.sp]
        refine S5.wrs 8 (ws:=hcells x) (by show 11≤12; omega) (by simp [one]) fun h4 S6=>hQ h4 ?_
        have ec:List.take 8 (acells c y bv)++hcells x++List.drop (8+(hcells x).length) (acells c y bv)=acells { c with hd:=x } y bv:=rfl
        rw [ec] at S6
        exact S6.to
      refine ⟨rfl,ws2 fun h4 S7=>?_⟩
      simp only [rdN (S7.rc hb' 0 rfl)]
      have S8:St (AsmA a { c with hd:=x }::Bx t zeros::L) h4:=(AsmA.cl y B bv S7).d1
      by_cases h0:x.1=0
      · simp only [if_pos h0] at hK
        exact ifT (by rw [h0]; rfl) (askedS (a:=a) (c:={ c with hd:=x }) S8 (relay (t:=t) (cs0:=zeros) rfl hK))
      · simp only [if_neg h0] at hK
        refine ifF (by simp; omega) (S7.put1 a 0 (by simp) rfl fun h5 S9=>?_)
        simp only [List.set_cons_zero] at S9
        refine ⟨rfl,S9.putA t (ws:=zeros) rfl (by simp [one,zeros]) fun h6 S10=>⟨_,S10.rall t 11 rfl,askNil hK ?_⟩⟩
        have S11:St (Bx a (acells { c with w:=2,hd:=x } y bv)::Im 1 y.n (nums c.m.2.2.N)::Im 1 y.s (strs c.m.2.2.S)::Im 1 y.f (bools c.m.2.2.F)::Tb B y.t c.m.2.2.T::Ow 1 bv (u8s c.body)::L) h6:=S10.to
        exact AsmA.cl y B bv S11
theorem bodyS {a:Addr}{c:CA}{s:SV}{bs:Oct} (S:St (AsmA a c::L) h) [mi:In (fun b=>Im 1 s (u8s b)) L bs] (hb:bs.length<1099511627776) (hc:c.body.length<1099511627776) (hh:c.w=2→c.hd.1<1099511627776) (hK:AskK K (AsmA a (bodyR bs c).2.2::L) (bodyR bs c).1 (bodyR bs c).2.1) :
    CallsH P F.qdh [.pointer (some a),.slice s.1 s.2.1 s.2.2] K h:=by
  refine qdh.ok ?_
  unfold qdh.p0
  have eh:∀ h,al h #[.bool false,.int .i64 0,.int .i64 0,.slice none 0 0,.slice none 0 0,.slice none 0 0,.slice none 0 0,.int .u64 0,.int .i64 0,.string (mkS ([]:List UInt8)),.slice none 0 0] T.api_Ask=al h zeros.toArray T.api_Ask:=fun _=>rfl
  have S1:=S.al zeros T.api_Ask
  simp only [bd,eh,someE]
  generalize al h zeros.toArray T.api_Ask=h1 at *
  generalize top h=t at *
  obtain ⟨y,B,bv,S2⟩:=AsmA.op (S1.get (AsmA a))
  have ls:=Sl.len (isl8 S2 (s:=s) (bs:=bs)).1
  have lb:=Sl.len (S2.osl 1 bv)
  simp only [add_add S2.sp,Nat.reduceAdd,Nat.add_zero,rdN (S2.rc a 0 rfl),rdN (S2.rc a 8 rfl),rdS (S2.rc a 11 rfl)]
  unfold bodyR at hK
  by_cases hw:c.w≠2
  · rw [if_pos hw] at hK
    exact ifT (by simp; omega) (wrongS (a:=a) (c:=c) S1 (relay (t:=t) (cs0:=zeros) rfl hK))
  rw [if_neg hw] at hK
  have hh':=hh (by omega)
  refine ifF (by simp; omega) ?_
  rw [wrapI (n:=(c.hd.1:Int)) (by omega) (by omega),wrapI (by omega) (by omega)]
  by_cases hbig:c.hd.1<c.body.length+bs.length
  · rw [if_pos hbig] at hK
    exact ifT (by simp; omega) (wrongS (a:=a) (c:=c) S1 (relay (t:=t) (cs0:=zeros) rfl hK))
  rw [if_neg hbig] at hK
  refine ifF (by simp; omega) ?_
  refine appS (s:=bv) (bs:=c.body) S2 (Src.slice (isl8 S2 (s:=s) (bs:=bs)).1 (u8s_one _)) (by omega) fun p l cc h2 S3=>⟨_,_,_,rfl,S3.put1 a 11 (by simp) rfl fun h3 S4=>?_⟩
  simp only [List.set_cons_succ,List.set_cons_zero] at S4
  have S5:St (Bx a (acells { c with body:=c.body++bs } y (p,l,cc))::Im 1 y.n (nums c.m.2.2.N)::Im 1 y.s (strs c.m.2.2.S)::Im 1 y.f (bools c.m.2.2.F)::Tb B y.t c.m.2.2.T::Ow 1 (p,l,cc) (u8s (c.body++bs))::Bx t zeros::L) h3:=S4.to
  have S6:St (AsmA a { c with body:=c.body++bs }::Bx t zeros::L) h3:=AsmA.cl y B (p,l,cc) S5
  by_cases he:c.hd.1=c.body.length+bs.length
  · rw [if_pos he] at hK
    exact ifT (by simp; omega) (askedS (a:=a) (c:={ c with body:=c.body++bs }) S6 (relay (t:=t) (cs0:=zeros) rfl hK))
  · rw [if_neg he] at hK
    refine ifF (by simp; omega) ⟨rfl,S6.putA t (ws:=zeros) rfl (by simp [one,zeros]) fun h6 S10=>⟨_,S10.rall t 11 rfl,askNil hK S10.tl⟩⟩
theorem frameS {a:Addr}{c:CA}{kind ch:Int}{s:SV}{bs:Oct}{L2:List Asr} (S0:St L h) [H:Has (AsmA a) L c L2] [mi:In (fun b=>Im 1 s (u8s b)) L2 bs] (hb:bs.length<1099511627776) (hc:c.body.length<1099511627776) (hh:c.w=2→c.hd.1<1099511627776)
    (hK:AskK K (AsmA a (frameR kind bs c).2.2::L2) (frameR kind bs c).1 (frameR kind bs c).2.1):CallsH P F.qda [.pointer (some a),.agg (List.toArray [.int .i64 kind,.int .i64 ch,.slice s.1 s.2.1 s.2.2])] K h:=by
  refine qda.ok ?_
  unfold qda.p0
  have eh:∀ h,al h #[.bool false,.int .i64 0,.int .i64 0,.slice none 0 0,.slice none 0 0,.slice none 0 0,.slice none 0 0,.int .u64 0,.int .i64 0,.string (mkS ([]:List UInt8)),.slice none 0 0] T.api_Ask=al h zeros.toArray T.api_Ask:=fun _=>rfl
  have S1:=(S0.get (AsmA a)).al [.int .i64 kind,.int .i64 ch,.slice s.1 s.2.1 s.2.2] T.api_Frame
  simp only [bd,eh]
  generalize al h _ T.api_Frame=h1 at *
  generalize top h=f at *
  have S2:=S1.al zeros T.api_Ask
  generalize al h1 zeros.toArray T.api_Ask=h2 at *
  generalize top h1=t at *
  simp only [rdN (S2.rc f 0 rfl),rdS (S2.rc f 2 rfl)]
  have S3:St (AsmA a c::Bx t zeros::L2) h2:=S2.to
  unfold frameR at hK
  by_cases k1:kind=1
  · rw [if_pos k1] at hK
    exact ifT (by rw [k1]; rfl) (methodS (a:=a) (c:=c) (s:=s) (bs:=bs) S3 hb (relay (t:=t) (cs0:=zeros) rfl hK))
  rw [if_neg k1] at hK
  refine ifF (by simp [k1]) ?_
  by_cases k2:kind=2
  · rw [if_pos k2] at hK
    exact ifT (by rw [k2]; rfl) (headS (a:=a) (c:=c) (s:=s) (bs:=bs) S3 hb (relay (t:=t) (cs0:=zeros) rfl hK))
  rw [if_neg k2] at hK
  refine ifF (by simp [k2]) ?_
  by_cases k3:kind=3
  · rw [if_pos k3] at hK
    exact ifT (by rw [k3]; rfl) (bodyS (a:=a) (c:=c) (s:=s) (bs:=bs) S3 hb hc hh (relay (t:=t) (cs0:=zeros) rfl hK))
  rw [if_neg k3] at hK
  exact ifF (by simp [k3]) (wrongS (a:=a) (c:=c) S3 (relay (t:=t) (cs0:=zeros) rfl hK))
theorem newS (S:St L h) (hK:∀ h',St (AsmA (top h) ca0::L) h'→K (.pointer (some (top h))) h'):CallsH P F.qef [] K h:=by
  refine qef.ok ?_
  unfold qef.p0
  exact hK _ (AsmA.zero (S.al (acells ca0 mnil nosv) T.chans_Asm))
end
end Go.Proofs.YtjapglfpjhljpaaGreat.Pr
end
section
set_option linter.unusedVariables false
namespace Go.Proofs.YtjapglfpjhljpaaGreat.Pr
open Go Go.Lift Go.Proofs
structure EV where
  k:Nat
  ch:Int
  b:Oct
  ask:AK
  code:Int
  cl:Int
  id:Int
def evOut (b:Oct):EV:=⟨1,0,b,ak0,0,0,0⟩
def evCh (k:Nat) (ch:Int):EV:=⟨k,ch,[],ak0,0,0,0⟩
structure Cnn where
  st:Nat
  b:Oct
  ev:List EV
  closed:Bool
  deaf:Bool
  asms:List (Int × CA)
  ending:List (Int × Int)
  bv:SV
def cn0:Cnn:=⟨0,[],[],false,false,[],[],(none,0,0)⟩
def greeting:Oct:=[65,77,81,80,0,0,9,1]
def frameP (ch:Int) (m:PMM):Oct :=
  if frOk 1 ch ((methW m.1 m.2.1 m.2.2).getD []) then frW 1 ch.toNat ((methW m.1 m.2.1 m.2.2).getD []) else []
namespace Cnn
def tell (c:Cnn) (e:EV):Cnn:={ c with ev:=c.ev++[e] }
def send (c:Cnn) (ch:Int) (m:PMM):Cnn:=c.tell (evOut (frameP ch m))
def gone (c:Cnn):Cnn:=tell { c with st:=6,b:=[],bv:=(none,0,0) } (evCh 5 0)
def closing (c:Cnn):Cnn:={ c with st:=5 }
def wrong (c:Cnn) (n:Int) (m:PMM):Cnn:=c.closing.tell ⟨6,0,[],ak0,n,m.1,m.2.1⟩
def feed (c:Cnn) (b:Oct):Cnn:=if c.st≠6∧c.deaf=false then { c with b:=c.b++b } else c
end Cnn
def mmS (a b:Int) (s:List Oct):PMM:=(a,b,⟨[],s,[],[]⟩)
def mmN (a b:Int) (n:List Nat):PMM:=(a,b,⟨n,[],[],[]⟩)
def startM:PMM:=(10,10,⟨[0,9],[[80,76,65,73,78],[101,110,95,85,83]],[],[]⟩)
def namedF (k:Nat) (b:Oct):PMM:=if k=1 then namedP b else mm0 0 0
def greetP (c:Cnn):Bool × Cnn :=
  if greeting.take (min c.b.length 8)≠c.b.take (min c.b.length 8) then (true,(c.tell (evOut greeting)).gone)
  else if c.b.length<8 then (false,c)
  else (true,Cnn.send { c with b:=c.b.drop 8,st:=1 } 0 startM)
def lastP (c:Cnn) (k ch:Nat) (b:Oct):Cnn :=
  match methP b with
  | .inl _=>c
  | .inr m=>if ch≠0∨k≠1∨m.1≠10 then c
    else if m.2.1=50 then (c.send 0 (mm0 10 51)).gone else if m.2.1=51 then c.gone else c
def beginP (c:Cnn) (m:PMM):Cnn :=
  if c.st=1∧m.2.1=11 then Cnn.send { c with st:=2 } 0 (mmN 10 30 [16,4096,0])
  else if c.st=2∧m.2.1=31 then { c with st:=3 }
  else if c.st=3∧m.2.1=40∧m.2.2.S[0]? = some [47] then Cnn.send { c with st:=4 } 0 (mmS 10 41 [[]])
  else if c.st=3∧m.2.1=40 then c.wrong 530 m
  else c.wrong 503 m
def zeroP (c:Cnn) (k:Nat) (b:Oct):Cnn :=
  if k=8 then c else if k≠1 then c.wrong 505 (mm0 0 0)
  else match methP b with
    | .inl e=>c.wrong (codeP e) (namedF k b)
    | .inr m=>if m.1=10∧m.2.1=50 then (c.send 0 (mm0 10 51)).gone else if m.1=10 then beginP c m else c.wrong 503 (namedF k b)
def endP (c:Cnn) (k:Nat) (ch:Int) (b:Oct):Cnn :=
  match methP b with
  | .inl _=>c
  | .inr m=>if k≠1∨m.1≠20 then c
    else if m.2.1=40 then { c.send ch (mm0 20 41) with ending:=del c.ending ch } else if m.2.1=41 then { c with ending:=del c.ending ch } else c
def hardP (n:Nat):Bool:=decide (501≤n∧n≤506∨n=530∨n=540)
def askP (c:Cnn) (ch:Int) (a:CA) (k:Nat) (b:Oct):Cnn :=
  let r:=frameR k b a
  let c1:Cnn:={ c with asms:=upd c.asms ch r.2.2 }
  if r.2.1≠0 then (if hardP r.2.1 then c1.closing else c1).tell ⟨7,ch,[],ak0,r.2.1,r.1.m.1,r.1.m.2.1⟩
  else if r.1.rd=false then c1
  else if r.1.m.1=20∧r.1.m.2.1=10 then c1.wrong 504 (namedF k b)
  else if r.1.m.1=10∨r.1.m.1=20∧r.1.m.2.1=41 then c1.wrong 503 (namedF k b)
  else if r.1.m.1=20∧r.1.m.2.1=40 then Cnn.tell { c1.send ch (mm0 20 41) with asms:=del c1.asms ch } (evCh 4 ch)
  else c1.tell ⟨2,ch,[],r.1,0,0,0⟩
def channelP (c:Cnn) (k:Nat) (ch:Int) (b:Oct):Cnn :=
  if 0<(get? c.ending ch).getD 0 then endP c k ch b
  else match get? c.asms ch with
    | some a=>askP c ch a k b
    | none=>if k=1∧resE (methP b)=0∧(resM (methP b)).1=20∧(resM (methP b)).2.1=10 then (Cnn.send { c with asms:=upd c.asms ch ca0 } ch (mmS 20 11 [[]])).tell (evCh 3 ch) else c.wrong 504 (mm0 0 0)
def takeF (c:Cnn) (k ch:Nat) (b:Oct):Cnn :=
  if c.st=5 then lastP c k ch b else if ch=0 then zeroP c k b else if c.st≠4∨16<ch then c.wrong 504 (mm0 0 0) else channelP c k ch b
def stepP (c:Cnn):Bool × Cnn :=
  if c.st=6∨c.deaf=true then (false,c)
  else if c.st=0 then greetP c
  else match framP c.b with
    | .more=>(false,c)
    | .bad=>if c.st=5 then (true,c.gone) else (true,Cnn.wrong { c with b:=[],deaf:=true } 501 (mm0 0 0))
    | .ok k ch b n=>(true,takeF { c with b:=c.b.drop n } k ch b)
def nextP:Nat→Cnn→Option EV × Cnn
  | 0,c=>(none,c)
  | f+1,c=>match c.ev with
    | e::r=>(some e,{ c with ev:=r })
    | []=>if (stepP c).1=true then nextP f (stepP c).2 else (none,(stepP c).2)
def textP (n:Int):Oct:=if n=200 then [79,75] else if n=311 then [67,79,78,84,69,78,84,95,84,79,79,95,76,65,82,71,69] else if n=312 then [78,79,95,82,79,85,84,69]
  else if n=403 then [65,67,67,69,83,83,95,82,69,70,85,83,69,68] else if n=404 then [78,79,84,95,70,79,85,78,68] else if n=406 then [80,82,69,67,79,78,68,73,84,73,79,78,95,70,65,73,76,69,68]
  else if n=501 then [70,82,65,77,69,95,69,82,82,79,82] else if n=502 then [83,89,78,84,65,88,95,69,82,82,79,82] else if n=503 then [67,79,77,77,65,78,68,95,73,78,86,65,76,73,68]
  else if n=504 then [67,72,65,78,78,69,76,95,69,82,82,79,82] else if n=505 then [85,78,69,88,80,69,67,84,69,68,95,70,82,65,77,69] else if n=506 then [82,69,83,79,85,82,67,69,95,69,82,82,79,82]
  else if n=530 then [78,79,84,95,65,76,76,79,87,69,68] else if n=540 then [78,79,84,95,73,77,80,76,69,77,69,78,84,69,68] else []
def lowP (n:Int):Nat:=(n % 65536).toNat
def stoppingP (class' id n ofC ofI:Int):PMM:=(class',id,⟨[lowP n,lowP ofC,lowP ofI],[textP n],[],[]⟩)
def closeP (c:Cnn) (n cl id:Int):Oct × Cnn :=
  if (1≤c.st∧c.st≤4)∨(c.st=5∧c.closed=false) then (frameP 0 (stoppingP 10 50 n cl id),{ c with st:=5,closed:=true }) else ([],c)
end Go.Proofs.YtjapglfpjhljpaaGreat.Pr
end
