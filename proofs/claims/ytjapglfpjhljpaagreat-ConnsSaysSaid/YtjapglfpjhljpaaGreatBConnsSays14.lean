/- connsSays_holds: all that the theorem needs, in a few texts (bundle.py; made of the texts that NOTES.md names). -/
import Derived.Below
import Derived.KernelRfl
import Derived.Laws.Append
import Derived.Laws.Bits64
import Derived.Laws.BitsAllLaws
import Derived.Laws.BitsLemmas
import Derived.Laws.IdiomStrings
import Derived.Laws.Sem
import Derived.Laws.Strings
import Derived.Laws.StructEq
import Derived.LoopN
import Derived.MapKept
import Derived.Orders
import Derived.Test.YtjapglfpjhljpaaGreatChecked
import Derived.WideLaws
import Derived.Test.YtjapglfpjhljpaaGreatBConnsSays1
import Derived.Test.YtjapglfpjhljpaaGreatBConnsSays2
import Derived.Test.YtjapglfpjhljpaaGreatBConnsSays3
import Derived.Test.YtjapglfpjhljpaaGreatBConnsSays4
import Derived.Test.YtjapglfpjhljpaaGreatBConnsSays5
import Derived.Test.YtjapglfpjhljpaaGreatBConnsSays7
import Derived.Test.YtjapglfpjhljpaaGreatBConnsSays8
import Derived.Test.YtjapglfpjhljpaaGreatBConnsSays9
import Derived.Test.YtjapglfpjhljpaaGreatBConnsSays10
import Derived.Test.YtjapglfpjhljpaaGreatBConnsSays11
import Derived.Test.YtjapglfpjhljpaaGreatBConnsSays12
section
set_option linter.unusedVariables false
set_option linter.unusedSimpArgs false
namespace Go.Proofs.YtjapglfpjhljpaaGreat.Pr
open Go Go.Lift Go.Proofs
def headFl (x:PH):Nat:=(if x.2.2=[] then 0 else 32768)+(if x.2.1=0 then 0 else 4096)
def headT (x:PH):Oct:=if x.2.2=[] then [] else octsN 1 x.2.2.length++x.2.2
def headM (x:PH):Oct:=if x.2.1=0 then [] else octsN 1 (nat64 x.2.1)
def headW (x:PH):Oct:=octsN 2 60++octsN 2 0++octsN 8 x.1++octsN 2 (headFl x)++headT x++headM x
section
variable {K:KT}{L R:List Asr}{h:Heap}
theorem rheadS {t:SV}{bs:Oct}{x:PH} (S:St L h) [mt:In (fun b=>Im 1 t (u8s b)) L bs] (hb:bs.length<1073741824) (ht:x.2.2.length<1073741824)
    (hK:∀ p l c h',St (Ow 1 (p,l,c) (u8s (bs++headW x))::L) h'→K (.slice p l c) h'):CallsH P F.qas [.slice t.1 t.2.1 t.2.2,.agg (List.toArray (hcells x))] K h:=by
  refine qas.ok ?_
  unfold qas.p0
  simp only [bd]
  have S1:=S.al (hcells x) T.api_Head
  generalize al h (hcells x).toArray T.api_Head=h1 at *
  generalize top h=m at *
  unfold headW at hK
  have j4:∀ (p:OA) (l c:Nat) (out:Oct) (h':Heap),out.length<1099511627776→out++headM x=bs++(octsN 2 60++octsN 2 0++octsN 8 x.1++octsN 2 (headFl x)++headT x++headM x)→St (Ow 1 (p,l,c) (u8s out)::Bx m (hcells x)::L) h'→qas.j4 K p l c m h':=by
    intro p l c out h' hl he S'
    rw [← he] at hK
    unfold qas.j4
    unfold headM at hK
    simp only [rdN (S'.rc m 1 rfl),wrap_nat64]
    by_cases h0:x.2.1=0
    · rw [if_pos h0,List.append_nil] at hK
      exact ifF (by simp [h0]) (hK p l c h' S'.d1)
    · rw [if_neg h0] at hK
      exact ifT (by simp [h0]) (rputS (s:=(p,l,c)) (n:=1) S' S'.sl hl (by omega) fun p2 l2 c2 h2 S2=>⟨_,_,_,rfl,hK p2 l2 c2 h2 S2.d1.d1⟩)
  have j3:∀ (p:OA) (l c:Nat) (h':Heap),St (Ow 1 (p,l,c) (u8s (bs++octsN 2 60++octsN 2 0++octsN 8 x.1))::Bx m (hcells x)::L) h'→qas.j3 K p l c m (headFl x) h':=by
    intro p l c h' S'
    unfold qas.j3
    refine rputS (s:=(p,l,c)) (n:=2) S' S'.sl (by simp [octsN_length]; omega) (by omega) fun p2 l2 c2 h2 S2=>⟨_,_,_,rfl,?_⟩
    simp only [rdT (S2.rc m 2 rfl)]
    by_cases h0:x.2.2=[]
    · refine ifF (by rw [strB]; simp [h0]) (j4 p2 l2 c2 _ h2 (by simp [octsN_length]; omega) ?_ S2.d1)
      have:headT x=[]:=by unfold headT; rw [if_pos h0]
      rw [this]; simp only [List.append_assoc,List.append_nil]
    · refine ifT (by rw [strB]; simp [h0]) (rrshortS (s:=(p2,l2,c2)) S2 S2.sl (by simp [octsN_length]; omega) (by omega) fun p3 l3 c3 h3 S3=>⟨_,_,_,rfl,j4 p3 l3 c3 _ h3 (by simp [octsN_length]; omega) ?_ S3.d1.d1⟩)
      have:headT x=octsN 1 x.2.2.length++x.2.2:=by unfold headT; rw [if_neg h0]
      rw [this]; simp only [List.append_assoc]
  have j1:∀ (p:OA) (l c:Nat) (h':Heap),St (Ow 1 (p,l,c) (u8s (bs++octsN 2 60++octsN 2 0++octsN 8 x.1))::Bx m (hcells x)::L) h'→qas.j1 K p l c m h':=by
    intro p l c h' S'
    have j3':=j3 p l c h' S'
    unfold headFl at j3'
    unfold qas.j1 qas.j2
    simp only [rdT (S'.rc m 2 rfl),rdN (S'.rc m 1 rfl),bd]
    by_cases h0:x.2.2=[]
    · rw [if_pos h0] at j3'
      refine ifF (by rw [strB]; simp [h0]) ?_
      by_cases h1:x.2.1=0
      · rw [if_pos h1] at j3'
        exact ifF (by simp [h1]) j3'
      · rw [if_neg h1] at j3'
        exact ifT (by simp [h1]) j3'
    · rw [if_neg h0] at j3'
      refine ifT (by rw [strB]; simp [h0]) ?_
      by_cases h1:x.2.1=0
      · rw [if_pos h1] at j3'
        exact ifF (by simp [h1]) j3'
      · rw [if_neg h1] at j3'
        exact ifT (by simp [h1]) j3'
  have a1:∀ (K':KT),(∀ p l c h',St (Ow 1 (p,l,c) (u8s (bs++octsN 2 60))::Bx m (hcells x)::L) h'→K' (.slice p l c) h')→CallsH P F.qbq [.slice t.1 t.2.1 t.2.2,.int .i64 2,.int .u64 60] K' h1 :=
    fun K' hK'=>rputS (s:=t) (n:=2) (v:=60) S1 (isl8 S1 (s:=t) (bs:=bs)).1 (by omega) (by omega) hK'
  have a2:∀ (K':KT) (p:OA) (l c:Nat) (h':Heap),St (Ow 1 (p,l,c) (u8s (bs++octsN 2 60))::Bx m (hcells x)::L) h'→(∀ p l c h',St (Ow 1 (p,l,c) (u8s (bs++octsN 2 60++octsN 2 0))::Bx m (hcells x)::L) h'→K' (.slice p l c) h')→CallsH P F.qbq [.slice p l c,.int .i64 2,.int .u64 0] K' h' :=
    fun K' p l c h' S' hK'=>rputS (s:=(p,l,c)) (n:=2) (v:=0) S' S'.sl (by simp [octsN_length]; omega) (by omega) fun p2 l2 c2 h2 S2=>hK' p2 l2 c2 h2 S2.d1
  have a3:∀ (p:OA) (l c:Nat) (h':Heap),St (Ow 1 (p,l,c) (u8s (bs++octsN 2 60++octsN 2 0))::Bx m (hcells x)::L) h'→CallsH P F.qbq [.slice p l c,.int .i64 8,.int .u64 (x.1:Int)] (fun v h=>∃ p l c,v=.slice p l c∧qas.j1 K p l c m h) h' :=
    fun p l c h' S'=>rputS (s:=(p,l,c)) (n:=8) S' S'.sl (by simp [octsN_length]; omega) (by omega) fun p2 l2 c2 h2 S2=>⟨_,_,_,rfl,j1 p2 l2 c2 h2 S2.d1⟩
  simp only [rdN (S1.rc m 0 rfl)]
  refine ⟨a1 _ fun p l c h2 S2=>⟨_,_,_,rfl,a2 _ p l c h2 S2 fun p l c h3 S3=>⟨_,_,_,rfl,?_⟩,?_⟩,a1 _ fun p l c h2 S2=>⟨_,_,_,rfl,a2 _ p l c h2 S2 fun p l c h3 S3=>⟨_,_,_,rfl,a3 p l c h3 S3⟩⟩⟩
  · simp only [rdN (S3.rc m 0 rfl)]
    exact a3 p l c h3 S3
  · simp only [rdN (S2.rc m 0 rfl)]
    exact a2 _ p l c h2 S2 fun p l c h3 S3=>⟨_,_,_,rfl,a3 p l c h3 S3⟩
end
end Go.Proofs.YtjapglfpjhljpaaGreat.Pr
end
section
set_option linter.unusedVariables false
set_option linter.unusedSimpArgs false
namespace Go.Proofs.YtjapglfpjhljpaaGreat.Pr
open Go Go.Lift Go.Proofs
structure QV where
  sb:SV
  y:MV
  bv:SV
abbrev qnil:QV:=⟨nosv,mnil,nosv⟩
abbrev evc (e:EV) (q:QV):List Value:=[.int .i64 (e.k:Int),.int .i64 e.ch,q.sb.v,.bool e.ask.rd,.int .i64 e.ask.m.1,.int .i64 e.ask.m.2.1,q.y.n.v,q.y.s.v,q.y.f.v,q.y.t.v,.int .u64 (e.ask.hd.1:Int),.int .i64 e.ask.hd.2.1,.string (mkS e.ask.hd.2.2),q.bv.v,.int .i64 e.code,.int .i64 e.cl,.int .i64 e.id]
def evc2 (x:EV × QV):List Value:=evc x.1 x.2
theorem evc2_len (x:EV × QV):(evc2 x).length=17:=rfl
theorem evc2_one (x:EV × QV):∀ w∈evc2 x,one w=true:=by intro w hw; simp [evc2] at hw; rcases hw with rfl | rfl | rfl | rfl | rfl | rfl | rfl | rfl | rfl | rfl | rfl | rfl | rfl | rfl | rfl | rfl | rfl <;> rfl
def EvI (e:EV) (q:QV):Asr:=ex fun B:Nat→Prop=>stars [Ow 1 q.sb (u8s e.b),Im 1 q.y.n (nums e.ask.m.2.2.N),Im 1 q.y.s (strs e.ask.m.2.2.S),Im 1 q.y.f (bools e.ask.m.2.2.F),Tb B q.y.t e.ask.m.2.2.T,Ow 1 q.bv (u8s e.ask.body)]
def EvsI:List (EV × QV)→Asr
  | []=>emp
  | x::r=>sep (EvI x.1 x.2) (EvsI r)
def AsI:List (Int × Addr × CA)→Asr
  | []=>emp
  | x::r=>sep (AsmA x.2.1 x.2.2) (AsI r)
abbrev zev:List Value:=[.int .i64 0,.int .i64 0,.slice none 0 0,.bool false,.int .i64 0,.int .i64 0,.slice none 0 0,.slice none 0 0,.slice none 0 0,.slice none 0 0,.int .u64 0,.int .i64 0,.string (mkS []),.slice none 0 0,.int .i64 0,.int .i64 0,.int .i64 0]
theorem sl_ev:SlT P T.sl_api_Event T.api_Event 17 240 zev:=slT (by kernel_rfl) (by kernel_rfl)
theorem u_slev:P.underlying T.sl_api_Event=some (.slice T.api_Event):=by kernel_rfl
theorem bld_ev':(fun a b c d e f g h i j k l m n o p q:Value=>Instr.fill (Lift.places P (P.underlying T.sl_api_Event)) (zrow (zcl P T.api_Event).toList 1 (P.cellsOf T.api_Event)).toArray [(0,.agg (List.toArray [a,b,c,d,e,f,g,h,i,j,k,l,m,n,o,p,q]))])=fun a b c d e f g h i j k l m n o p q=>some (List.toArray [a,b,c,d,e,f,g,h,i,j,k,l,m,n,o,p,q]):=by kernel_rfl
theorem bld_ev (a b c d e f g h i j k l m n o p q:Value):bldS P T.sl_api_Event T.api_Event 1 [(0,.agg (List.toArray [a,b,c,d,e,f,g,h,i,j,k,l,m,n,o,p,q]))] [a,b,c,d,e,f,g,h,i,j,k,l,m,n,o,p,q]:=congrFun (congrFun (congrFun (congrFun (congrFun (congrFun (congrFun (congrFun (congrFun (congrFun (congrFun (congrFun (congrFun (congrFun (congrFun (congrFun (congrFun bld_ev' a) b) c) d) e) f) g) h) i) j) k) l) m) n) o) p) q
abbrev kI:Int→Value:=fun n=>.int .i64 n
abbrev vA:Addr→Value:=fun a=>.pointer (some a)
abbrev vI:Int→Value:=fun n=>.int .i64 n
theorem klCh:KeyL P T.int kI:=KeyL.int (by kernel_rfl)
abbrev ccells (s:Cnn) (bv ev:SV) (ma me:Nat):List Value:=[.int .i64 (s.st:Int),bv.v,ev.v,.bool s.closed,.bool s.deaf,.map (some ma),.map (some me)]
abbrev rowA (rows:List (Int × Addr × CA)):List (Int × Addr):=rows.map fun r=>(r.1,r.2.1)
def ConA (c:Addr) (s:Cnn):Asr:=ex fun v:SV × SV × List (EV × QV) × Nat × Nat × List (Int × Addr × CA)=>sep (fact ((v.1=s.bv∧v.2.2.1.map Prod.fst=s.ev)∧v.2.2.2.2.2.map (fun r=>(r.1,r.2.2))=s.asms))
  (stars [Bx c (ccells s v.1 v.2.1 v.2.2.2.1 v.2.2.2.2.1),Im 1 v.1 (u8s s.b),Ow 17 v.2.1 (v.2.2.1.flatMap evc2),EvsI v.2.2.1,Mq kI vA v.2.2.2.1 (rowA v.2.2.2.2.2),AsI v.2.2.2.2.2,Mq kI vI v.2.2.2.2.1 s.ending])
section
variable {K:KT}{L R:List Asr}{h:Heap}
theorem ConA.op {c:Addr}{s:Cnn} (S:St (ConA c s::L) h):∃ bv ev xs ma me rows,((bv=s.bv∧xs.map Prod.fst=s.ev)∧rows.map (fun r:Int × Addr × CA=>(r.1,r.2.2))=s.asms) ∧
    St (Bx c (ccells s bv ev ma me)::Im 1 bv (u8s s.b)::Ow 17 ev (xs.flatMap evc2)::EvsI xs::Mq kI vA ma (rowA rows)::AsI rows::Mq kI vI me s.ending::L) h:=by
  obtain ⟨⟨bv,ev,xs,ma,me,rows⟩,S⟩:=S.ex
  obtain ⟨f,S⟩:=S.split.fact
  exact ⟨bv,ev,xs,ma,me,rows,f,S.open⟩
theorem ConA.cl {c:Addr}{s:Cnn} (bv ev:SV) (xs:List (EV × QV)) (ma me:Nat) (rows:List (Int × Addr × CA)) (f1:bv=s.bv∧xs.map Prod.fst=s.ev) (f2:rows.map (fun r:Int × Addr × CA=>(r.1,r.2.2))=s.asms)
    (S:St (Bx c (ccells s bv ev ma me)::Im 1 bv (u8s s.b)::Ow 17 ev (xs.flatMap evc2)::EvsI xs::Mq kI vA ma (rowA rows)::AsI rows::Mq kI vI me s.ending::L) h):St (ConA c s::L) h :=
  St.ex' (bv,ev,xs,ma,me,rows) (St.join (St.fact' ⟨f1,f2⟩ (St.close (As:=[_,_,_,_,_,_,_]) S)))
theorem EvsI.snoc:∀ {xs:List (EV × QV)}{e:EV}{q:QV}{L:List Asr},St (EvI e q::EvsI xs::L) h→St (EvsI (xs++[(e,q)])::L) h
  | [],e,q,L,S=>St.join (A:=EvI e q) (B:=EvsI []) S
  | x::r,e,q,L,S=>by
    have S1:St (EvI x.1 x.2::EvsI r::EvI e q::L) h:=(show St (sep (EvI x.1 x.2) (EvsI r)::EvI e q::L) h from S.p1).split
    have S2:St (EvI e q::EvsI r::EvI x.1 x.2::L) h:=S1.to
    have S3:=EvsI.snoc S2
    exact St.join (A:=EvI x.1 x.2) (B:=EvsI (r++[(e,q)])) S3.p1
theorem evI_nil {e:EV} (hb:e.b=[]) (ha:e.ask=ak0) (S:St L h):St (EvI e qnil::L) h:=by
  have S1:St (Ow 1 nosv (u8s [])::Im 1 (none,0,0) []::Im 1 (none,0,0) []::Im 1 (none,0,0) []::Tb (fun _=>False) (none,0,0) []::Ow 1 nosv (u8s [])::L) h:=(((((tbNil 0 (S.owNil 1)).imNil 1 0).imNil 1 0).imNil 1 0).owNil 1)
  refine St.ex' (fun _=>False) (St.close (As:=[_,_,_,_,_,_]) ?_)
  rw [hb,ha]
  exact S1
theorem evI_out {b:Oct}{sb:SV} (S:St (Ow 1 sb (u8s b)::L) h):St (EvI (evOut b) ⟨sb,mnil,nosv⟩::L) h:=by
  have S0:St (Ow 1 nosv (u8s [])::Ow 1 sb (u8s b)::L) h:=S.owNil 1
  have S1:St (Ow 1 sb (u8s b)::Im 1 (none,0,0) []::Im 1 (none,0,0) []::Im 1 (none,0,0) []::Tb (fun _=>False) (none,0,0) []::Ow 1 nosv (u8s [])::L) h:=(show St (Im 1 (none,0,0) []::Im 1 (none,0,0) []::Im 1 (none,0,0) []::Tb (fun _=>False) (none,0,0) []::Ow 1 nosv (u8s [])::Ow 1 sb (u8s b)::L) h from (((tbNil 0 S0).imNil 1 0).imNil 1 0).imNil 1 0).to
  exact St.ex' (fun _=>False) (St.close (As:=[_,_,_,_,_,_]) S1)
theorem tellS {c:Addr}{s:Cnn}{e:EV}{q:QV} (S0:St (EvI e q::L) h) [H:Has (ConA c) L s R] (he:s.ev.length<1073741824) (hK:∀ h',St (ConA c (s.tell e)::R) h'→K (.tuple #[]) h') :
    CallsH P F.qdd [.pointer (some c),.agg (List.toArray (evc e q))] K h:=by
  refine qdd.ok ?_
  unfold qdd.p0
  obtain ⟨bv,ev,xs,ma,me,rows,⟨f1,f2⟩,S1⟩:=ConA.op (S0.get (ConA c))
  have S2:=S1.al (evc e q) T.api_Event
  simp only [bd]
  generalize al h (evc e q).toArray T.api_Event=h1 at *
  generalize top h=m at *
  have lx:xs.length=s.ev.length:=by rw [← f1.2]; simp
  have le:ev.2.1=xs.length:=by
    have:=(S2.osl 17 ev).1
    rw [flat_length evc2_len xs] at this
    omega
  have fin:∀ h2,h2=al h1 (evc e q).toArray T.api_Event→SemH P (Builtin.append_ #[T.sl_api_Event,T.sl_api_Event] T.sl_api_Event #[.slice ev.1 ev.2.1 ev.2.2,.slice (some (top h1)) 1 1]) (fun v7 h8=>∃ a9 a9l a9c,v7=.slice a9 a9l a9c∧∃ p10,some c=some p10∧∃ h11,stC h8 (p10.add 2) 0 [.slice a9 a9l a9c]=some h11∧K (.tuple #[]) h11) h2:=by
    intro h2 e2
    have S3:=S2.al (evc e q) T.api_Event
    rw [← e2] at S3
    generalize top h1=t at *
    have S4:St (Ow 17 ev (xs.flatMap evc2)::Bx t (evc e q)::Bx c (ccells s bv ev ma me)::EvI e q::Im 1 bv (u8s s.b)::EvsI xs::Mq kI vA ma (rowA rows)::AsI rows::Mq kI vI me s.ending::R) h2:=S3.to
    refine St.app sl_ev rfl u_slev (fun k e=>by cases e) S4 (Src.slice (n:=1) ⟨rfl,S3.mem.1⟩ (show ∀ w∈evc e q,one w=true from evc2_one (e,q))) (by omega) (by omega) fun p' c' h' S5=>⟨_,_,_,rfl,c,rfl,?_⟩
    refine S5.put1 c 2 (by simp) rfl fun h4 S6=>hK h4 ?_
    simp only [List.set_cons_succ,List.set_cons_zero] at S6
    have S7:St (EvI e q::EvsI xs::Bx c (ccells s bv (p',ev.2.1+1,c') ma me)::Ow 17 (p',ev.2.1+1,c') (xs.flatMap evc2++evc e q)::Im 1 bv (u8s s.b)::Mq kI vA ma (rowA rows)::AsI rows::Mq kI vI me s.ending::R) h4:=S6.to
    have S8:=EvsI.snoc S7
    have ex:(xs++[(e,q)]).flatMap evc2=xs.flatMap evc2++evc e q:=by simp [evc2]
    rw [← ex] at S8
    have S9:St (Bx c (ccells s bv (p',ev.2.1+1,c') ma me)::Im 1 bv (u8s s.b)::Ow 17 (p',ev.2.1+1,c') ((xs++[(e,q)]).flatMap evc2)::EvsI (xs++[(e,q)])::Mq kI vA ma (rowA rows)::AsI rows::Mq kI vI me s.ending::R) h4:=S8.to
    exact ConA.cl (s:=s.tell e) bv (p',ev.2.1+1,c') (xs++[(e,q)]) ma me rows ⟨f1.1,by simp [Cnn.tell,f1.2]⟩ f2 S9
  refine ⟨c,rfl,_,S2.rall m 17 rfl,⟨_,_,_,S2.rc c 2 rfl,_,bld_ev _ _ _ _ _ _ _ _ _ _ _ _ _ _ _ _ _,fin _ rfl⟩,⟨_,bld_ev _ _ _ _ _ _ _ _ _ _ _ _ _ _ _ _ _,?_⟩⟩
  have S3:=S2.al (evc e q) T.api_Event
  exact ⟨_,_,_,S3.rc c 2 rfl,fin _ rfl⟩
theorem cframeS {ch a b:Int}{y:MV}{x:PM}{B:Nat→Prop} (S:St L h) [In (Im 1 y.n) L (nums x.N)] [In (Im 1 y.s) L (strs x.S)] [In (Im 1 y.f) L (bools x.F)] [In (Tb B y.t) L x.T] (hx:smallM x) (hl:((methW a b x).getD []).length<1073741824)
    (ha:-9223372036854775808≤a∧a<9223372036854775808) (hbb:-9223372036854775808≤b∧b<9223372036854775808)
    (hK:∀ p l c h',St (Ow 1 (p,l,c) (u8s (frameP ch (a,b,x)))::L) h'→K (.slice p l c) h') :
    CallsH P F.qdq [.int .i64 ch,.agg (List.toArray (mcells a b y))] K h:=by
  refine qdq.ok ?_
  unfold qdq.p0
  have S1:=S.al (mcells a b y) T.api_Method
  simp only [bd]
  generalize al h (mcells a b y).toArray T.api_Method=h1 at *
  generalize top h=m at *
  have S2:St (Im 1 nosv (u8s [])::Bx m (mcells a b y)::L) h1:=S1.imNil 1 0
  refine ⟨_,S1.rall m 6 rfl,mappS (t:=nosv) (bs:=[]) (y:=y) (x:=x) (B:=B) S2 hx (by decide) ha hbb fun p l c h2 S3=>⟨_,_,_,_,rfl,?_⟩⟩
  have S4:=S3.fz 1 (p,l,c)
  rw [List.nil_append] at S4
  refine fappS (t:=nosv) (s:=(p,l,c)) (bs:=[]) (b:=(methW a b x).getD []) (k:=1) (c:=ch) S4 (by decide) hl fun p2 l2 c2 h3 S5=>⟨_,_,_,_,rfl,hK p2 l2 c2 h3 ?_⟩
  have e:frameP ch (a,b,x)=(if frOk 1 ch ((methW a b x).getD []) then []++frW (1:Int).toNat ch.toNat ((methW a b x).getD []) else []):=rfl
  rw [e]
  exact S5.to
theorem sendS {c:Addr}{s:Cnn}{ch a b:Int}{y:MV}{x:PM}{B:Nat→Prop} (S:St L h) [H:Has (ConA c) L s R] [In (Im 1 y.n) L (nums x.N)] [In (Im 1 y.s) L (strs x.S)] [In (Im 1 y.f) L (bools x.F)] [In (Tb B y.t) L x.T] (hx:smallM x) (hl:((methW a b x).getD []).length<1073741824)
    (ha:-9223372036854775808≤a∧a<9223372036854775808) (hbb:-9223372036854775808≤b∧b<9223372036854775808) (he:s.ev.length<1073741824)
    (hK:∀ h',St (ConA c (s.send ch (a,b,x))::R) h'→K (.tuple #[]) h') :
    CallsH P F.qdc [.pointer (some c),.int .i64 ch,.agg (List.toArray (mcells a b y))] K h:=by
  refine qdc.ok ?_
  unfold qdc.p0
  have S1:=S.al (mcells a b y) T.api_Method
  simp only [bd]
  generalize al h (mcells a b y).toArray T.api_Method=h1 at *
  generalize top h=m at *
  refine ⟨_,S1.rall m 6 rfl,cframeS (ch:=ch) (y:=y) (x:=x) (B:=B) S1 hx hl ha hbb fun p l cc h2 S2=>⟨_,_,_,rfl,?_⟩⟩
  have S3:=evI_out S2
  refine tellS (c:=c) (s:=s) (e:=evOut (frameP ch (a,b,x))) (q:=⟨(p,l,cc),mnil,nosv⟩) S3 he fun h3 S4=>⟨rfl,hK h3 S4.d1⟩
theorem goneS {c:Addr}{s:Cnn} (S0:St L h) [H:Has (ConA c) L s R] (he:s.ev.length<1073741824) (hK:∀ h',St (ConA c s.gone::R) h'→K (.tuple #[]) h'):CallsH P F.qde [.pointer (some c)] K h:=by
  refine qde.ok ?_
  unfold qde.p0
  obtain ⟨bv,ev,xs,ma,me,rows,⟨f1,f2⟩,S1⟩:=ConA.op (S0.get (ConA c))
  refine ⟨c,rfl,S1.put1 c 0 (by simp) rfl fun h2 S2=>⟨c,rfl,S2.put1 c 1 (by simp) rfl fun h3 S3=>?_⟩⟩
  simp only [List.set_cons_succ,List.set_cons_zero] at S3
  have S4:St (Im 1 nosv (u8s [])::Bx c (ccells { s with st:=6,b:=[],bv:=(none,0,0) } nosv ev ma me)::Ow 17 ev (xs.flatMap evc2)::EvsI xs::Mq kI vA ma (rowA rows)::AsI rows::Mq kI vI me s.ending::R) h3:=(show St (Im 1 nosv (u8s [])::_) h3 from S3.imNil 1 0).to
  have S5:St (ConA c { s with st:=6,b:=[],bv:=(none,0,0) }::R) h3:=ConA.cl (s:={ s with st:=6,b:=[],bv:=(none,0,0) }) nosv ev xs ma me rows ⟨rfl,f1.2⟩ f2 S4.p1
  refine tellS (c:=c) (s:={ s with st:=6,b:=[],bv:=(none,0,0) }) (e:=evCh 5 0) (q:=qnil) (evI_nil rfl rfl S5) he fun h4 S6=>⟨rfl,hK h4 S6⟩
theorem closingS {c:Addr}{s:Cnn} (S0:St L h) [H:Has (ConA c) L s R] (hK:∀ h',St (ConA c s.closing::R) h'→K (.tuple #[]) h'):CallsH P F.qcf [.pointer (some c)] K h:=by
  refine qcf.ok ?_
  unfold qcf.p0
  obtain ⟨bv,ev,xs,ma,me,rows,⟨f1,f2⟩,S1⟩:=ConA.op (S0.get (ConA c))
  refine ⟨c,rfl,S1.put1 c 0 (by simp) rfl fun h2 S2=>hK h2 ?_⟩
  exact ConA.cl (s:=s.closing) bv ev xs ma me rows f1 f2 S2
theorem wrongCS {c:Addr}{s:Cnn}{n a b:Int}{y:MV} (S:St L h) [H:Has (ConA c) L s R] (he:s.ev.length<1073741824) {x:PM} (hK:∀ h',St (ConA c (s.wrong n (a,b,x))::R) h'→K (.tuple #[]) h') :
    CallsH P F.qct [.pointer (some c),.int .i64 n,.agg (List.toArray (mcells a b y))] K h:=by
  refine qct.ok ?_
  unfold qct.p0
  have S1:=S.al (mcells a b y) T.api_Method
  simp only [bd]
  generalize al h (mcells a b y).toArray T.api_Method=h1 at *
  generalize top h=m at *
  refine closingS (c:=c) (s:=s) S1 fun h2 S2=>⟨rfl,?_⟩
  simp only [rdN (S2.rc m 0 rfl),rdN (S2.rc m 1 rfl)]
  refine tellS (c:=c) (s:=s.closing) (e:=⟨6,0,[],ak0,n,a,b⟩) (q:=qnil) (evI_nil rfl rfl S2) he fun h4 S6=>⟨rfl,hK h4 S6.d1⟩
theorem namedFS {k ch:Nat}{s:SV}{bs:Oct} (S:St L h) [mi:In (fun b=>Im 1 s (u8s b)) L bs] (hb:bs.length<1099511627776) (hK:∀ h',St L h'→K (.agg (List.toArray (mcells (namedF k bs).1 (namedF k bs).2.1 mnil))) h') :
    CallsH P F.qdp [.agg (List.toArray (fcl k ch s))] K h:=by
  refine qdp.ok ?_
  unfold qdp.p0
  have S1:=S.al (fcl k ch s) T.api_Frame
  simp only [bd]
  generalize al h (fcl k ch s).toArray T.api_Frame=h1 at *
  generalize top h=f at *
  have S2:=S1.al (mcells 0 0 mnil) T.api_Method
  have eh:al h1 #[.int .i64 0,.int .i64 0,.slice none 0 0,.slice none 0 0,.slice none 0 0,.slice none 0 0] T.api_Method=al h1 (mcells 0 0 mnil).toArray T.api_Method:=rfl
  rw [eh]
  generalize al h1 (mcells 0 0 mnil).toArray T.api_Method=h2 at *
  generalize top h1=m at *
  simp only [rdN (S2.rc f 0 rfl),rdS (S2.rc f 2 rfl)]
  unfold namedF at hK
  by_cases k1:k=1
  · rw [if_pos k1] at hK
    refine ifF (by rw [k1]; rfl) (namedS (s:=s) (bs:=bs) S2 hb fun h3 S3=>⟨_,rfl,rfl,S3.putA m (ws:=mcells (namedP bs).1 (namedP bs).2.1 mnil) rfl (by simp [one]) fun h4 S4=>⟨_,S4.rall m 6 rfl,hK h4 S4.to⟩⟩)
  · rw [if_neg k1] at hK
    refine ifT (by simp; omega) ⟨rfl,S2.putA m (ws:=mcells 0 0 mnil) rfl (by simp [one]) fun h4 S4=>⟨_,S4.rall m 6 rfl,hK h4 S4.to⟩⟩
end
end Go.Proofs.YtjapglfpjhljpaaGreat.Pr
end
