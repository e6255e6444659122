/- connsSays_holds: all that the theorem needs, in a few texts (bundle.py; made of the texts that NOTES.md names). -/
import Derived.Below
import Derived.KernelRfl
import Derived.Laws.Append
import Derived.Laws.Bits64
import Derived.Laws.BitsAllLaws
import Derived.Laws.BitsLemmas
import Derived.Laws.IdiomStrings
import Derived.Laws.Sem
import Derived.Laws.Strings
import Derived.Laws.StructEq
import Derived.Lib.ItoaNum
import Derived.Lib.SlBytesConst
import Derived.LoopIn
import Derived.LoopN
import Derived.LoopNIn
import Derived.MapKept
import Derived.Maps.AppendAt
import Derived.Orders
import Derived.OwnWalkIn
import Derived.RangeFuncGives
import Derived.RangeFuncSeq
import Derived.RegionIn
import Derived.Shelf.Abstract
import Derived.Shelf.Lay
import Derived.Shelf.SlIter.Collect
import Derived.Shelf.Small.Bits
import Derived.Sort.KeysCollected
import Derived.Sort.MapsRangeIn
import Derived.TacticsInMore
import Derived.Test.YtjapglfpjhljpaaGreatChecked
import Derived.WalkKit
import Derived.WideLaws
import Derived.Test.YtjapglfpjhljpaaGreatBConnsSays1
import Derived.Test.YtjapglfpjhljpaaGreatBConnsSays2
import Derived.Test.YtjapglfpjhljpaaGreatBConnsSays3
import Derived.Test.YtjapglfpjhljpaaGreatBConnsSays4
import Derived.Test.YtjapglfpjhljpaaGreatBConnsSays5
import Derived.Test.YtjapglfpjhljpaaGreatBConnsSays6
import Derived.Test.YtjapglfpjhljpaaGreatBConnsSays7
import Derived.Test.YtjapglfpjhljpaaGreatBConnsSays8
import Derived.Test.YtjapglfpjhljpaaGreatBConnsSays9
import Derived.Test.YtjapglfpjhljpaaGreatBConnsSays10
import Derived.Test.YtjapglfpjhljpaaGreatBConnsSays11
import Derived.Test.YtjapglfpjhljpaaGreatBConnsSays12
import Derived.Test.YtjapglfpjhljpaaGreatBConnsSays13
import Derived.Test.YtjapglfpjhljpaaGreatBConnsSays14
import Derived.Test.YtjapglfpjhljpaaGreatBConnsSays15
import Derived.Test.YtjapglfpjhljpaaGreatBConnsSays16
import Derived.Test.YtjapglfpjhljpaaGreatBConnsSays18
import Derived.Test.YtjapglfpjhljpaaGreatBConnsSays20
section
set_option linter.unusedVariables false
set_option linter.unusedSimpArgs false
namespace Go.Proofs.YtjapglfpjhljpaaGreat.Pr
open Go Go.Lift Go.Proofs
section
variable {K:KT}{L R:List Asr}{h:Heap}
theorem codeTextS {n:Int} (hK:K (.string (mkS (textP n))) h):CallsH P F.qdy [.int .i64 n] K h:=by
  refine qdy.ok ?_
  unfold qdy.p0
  have st:∀ (k:Int) (a b:Oct) {B:Prop},(K (.string (mkS b)) h→B)→K (.string (mkS (if n=k then a else b))) h→((n==k)=true→K (.string (mkS a)) h)∧((n==k)=false→B):=by
    intro k a b B f hk
    by_cases e:n=k
    · rw [if_pos e] at hk; exact ⟨fun _=>hk,fun x=>by rw [e] at x; simp at x⟩
    · rw [if_neg e] at hk; exact ⟨fun x=>absurd (by simpa using x) e,fun _=>f hk⟩
  unfold textP at hK
  simp only [bd]
  refine st _ _ _ (fun hK=>?_) hK
  refine st _ _ _ (fun hK=>?_) hK
  refine st _ _ _ (fun hK=>?_) hK
  refine st _ _ _ (fun hK=>?_) hK
  refine st _ _ _ (fun hK=>?_) hK
  refine st _ _ _ (fun hK=>?_) hK
  refine st _ _ _ (fun hK=>?_) hK
  refine st _ _ _ (fun hK=>?_) hK
  refine st _ _ _ (fun hK=>?_) hK
  refine st _ _ _ (fun hK=>?_) hK
  refine st _ _ _ (fun hK=>?_) hK
  refine st _ _ _ (fun hK=>?_) hK
  refine st _ _ _ (fun hK=>?_) hK
  exact st _ _ _ (fun hK=>hK) hK
theorem lowW (n:Int):IntKind.u64.wrap (bitsI .and .i64 n 65535)=((lowP n:Nat):Int):=by
  rw [m65535]
  have h1:0≤n % 65536:=Int.emod_nonneg _ (by decide)
  have h2:n % 65536<65536:=Int.emod_lt_of_pos _ (by decide)
  unfold lowP
  have e:n % 65536=(((n % 65536).toNat:Nat):Int):=by omega
  rw [e,wrap_len (by omega)]
  simp
theorem ite_len {c:Prop} [Decidable c] {a b:Oct} (ha:a.length<100) (hb:b.length<100):(if c then a else b).length<100:=by
  split
  · exact ha
  · exact hb
theorem textP_len (n:Int):(textP n).length<100:=by
  unfold textP
  repeat' (first | refine ite_len ?_ ?_ | decide)
theorem stoppingS {a b n x z:Int} (S:St L h) (hK:∀ y h',St (Im 1 y.n (nums (stoppingP a b n x z).2.2.N)::Im 1 y.s (strs (stoppingP a b n x z).2.2.S)::Im 1 y.f (bools [])::Tb (fun _=>False) y.t []::L) h'→K (.agg (List.toArray (mcells a b y))) h') :
    CallsH P F.qdf [.int .i64 a,.int .i64 b,.int .i64 n,.int .i64 x,.int .i64 z] K h:=by
  refine qdf.ok ?_
  unfold qdf.p0
  have S1:=S.al (mcells 0 0 mnil) T.api_Method
  have eh:al h #[.int .i64 0,.int .i64 0,.slice none 0 0,.slice none 0 0,.slice none 0 0,.slice none 0 0] T.api_Method=al h (mcells 0 0 mnil).toArray T.api_Method:=rfl
  simp only [bd,eh,lowW]
  generalize al h (mcells 0 0 mnil).toArray T.api_Method=h1 at *
  generalize top h=m at *
  have S2:=S1.lit [.int .u64 (lowP n:Nat),.int .u64 (lowP x:Nat),.int .u64 (lowP z:Nat)] T.uint64 3 rfl
  refine codeTextS ⟨_,rfl,?_⟩
  have S3:=S2.lit [.string (mkS (textP n))] T.string 1 rfl
  refine ⟨rfl,?_⟩
  have S3':St (Im 1 (some (top (al h1 #[.int .u64 (lowP n:Nat),.int .u64 (lowP x:Nat),.int .u64 (lowP z:Nat)] T.uint64)),1,1) (strs [textP n])::Im 1 (some (top h1),3,3) (nums [lowP n,lowP x,lowP z])::Bx m (mcells 0 0 mnil)::L) _:=S3
  have S4:=S3'.imNil 1 0
  have S5:=tbNil 0 S4
  refine S5.putA m (ws:=mcells a b ⟨(some (top h1),3,3),(some _,1,1),(none,0,0),(none,0,0)⟩) rfl (by simp [one]) fun h3 S6=>⟨_,S6.rall m 6 rfl,hK ⟨(some (top h1),3,3),(some _,1,1),(none,0,0),(none,0,0)⟩ h3 ?_⟩
  have S7:St (Im 1 (some (top h1),3,3) (nums [lowP n,lowP x,lowP z])::Im 1 (some (top (al h1 #[.int .u64 (lowP n:Nat),.int .u64 (lowP x:Nat),.int .u64 (lowP z:Nat)] T.uint64)),1,1) (strs [textP n])::Im 1 (none,0,0) []::Tb (fun _=>False) (none,0,0) []::L) h3:=S6.to
  exact S7
theorem methW_stop (a b n x z:Int) (hab:(a=10∧b=50)∨(a=20∧b=40)):((methW a b (stoppingP a b n x z).2.2).getD []).length<1073741824:=by
  have hl:∀ q:Int,lowP q<65536:=fun q=>by
    have:=Int.emod_lt_of_pos q (show (0:Int)<65536 by decide)
    unfold lowP; omega
  cases h:methW a b (stoppingP a b n x z).2.2 with
  | none=>simp
  | some o =>
    have ht:=textP_len n
    have:=(meth_back (a:=a) (b:=b) (by omega) (by omega) rfl (by
      intro v hv
      simp [stoppingP] at hv
      rcases hv with rfl | rfl | rfl
      · have:=hl n; omega
      · have:=hl x; omega
      · have:=hl z; omega) (by intro s hs; simp [stoppingP] at hs; subst hs; omega) h).2
    simp [stoppingP,sumS] at this ⊢
    omega
theorem stopFrame {ch a b n x z:Int} (hab:(a=10∧b=50)∨(a=20∧b=40)) (S:St L h) (hK:∀ p l c h',St (Ow 1 (p,l,c) (u8s (frameP ch (stoppingP a b n x z)))::L) h'→K (.slice p l c) h') :
    CallsH P F.qdf [.int .i64 a,.int .i64 b,.int .i64 n,.int .i64 x,.int .i64 z] (fun v5 h6=>∃ cs7,v5=.agg (List.toArray cs7)∧CallsH P F.qdq [.int .i64 ch,.agg (List.toArray cs7)] (fun v8 h9=>∃ a10 a10l a10c,v8=.slice a10 a10l a10c∧K (.slice a10 a10l a10c) h9) h6) h:=by
  refine stoppingS (a:=a) (b:=b) (n:=n) (x:=x) (z:=z) S fun y h2 S2=>⟨_,rfl,?_⟩
  have l1:∀ v∈[lowP n,lowP x,lowP z],v<18446744073709551616:=by
    have:∀ q:Int,lowP q<65536:=fun q=>by
      have:=Int.emod_lt_of_pos q (show (0:Int)<65536 by decide)
      unfold lowP; omega
    intro v hv
    simp at hv
    rcases hv with rfl | rfl | rfl
    · have:=this n; omega
    · have:=this x; omega
    · have:=this z; omega
  refine cframeS (ch:=ch) (a:=a) (b:=b) (y:=y) (x:=(stoppingP a b n x z).2.2) (B:=fun _=>False) S2 (smallM_of (by simp [stoppingP]) l1 (by simp [stoppingP]) (by simp [stoppingP]; have:=textP_len n; omega) (by simp [stoppingP]) smallP0) (methW_stop a b n x z hab) (by omega) (by omega) fun p l c h3 S3=>⟨_,_,_,rfl,hK p l c h3 ?_⟩
  have S4:St (Ow 1 (p,l,c) (u8s (frameP ch (a,b,(stoppingP a b n x z).2.2)))::L) h3:=S3.to
  exact S4
theorem closeS {c:Addr}{s:Cnn}{n cl id:Int} (S0:St L h) [H:Has (ConO c) L s R] (hK:∀ p l cc h',St (ConO c (closeP s n cl id).2::Ow 1 (p,l,cc) (u8s (closeP s n cl id).1)::R) h'→K (.slice p l cc) h') :
    CallsH P F.qay [.pointer (some c),.int .i64 n,.int .i64 cl,.int .i64 id] K h:=by
  refine qay.ok ?_
  unfold qay.p0
  have S1:=S0.get (ConO c)
  obtain ⟨bv,ev,xs,ma,me,rows,⟨f1,f2⟩,S2⟩:=ConO.op S1
  simp only [someE,rdN (S2.rc c 0 rfl),bd]
  have no:¬ ((1≤s.st∧s.st≤4)∨(s.st=5∧s.closed=false))→qay.j2 K (some c) n cl id true h:=by
    intro hn
    unfold closeP at hK
    rw [if_neg hn] at hK
    unfold qay.j2
    exact ifT rfl (hK none 0 0 h (show St (ConO c s::Ow 1 (none,0,0) []::R) h from (S1.owNil 1).p1))
  have yes:((1≤s.st∧s.st≤4)∨(s.st=5∧s.closed=false))→qay.j2 K (some c) n cl id false h:=by
    intro hn
    unfold closeP at hK
    rw [if_pos hn] at hK
    unfold qay.j2
    refine ifF rfl (qcf.ok ?_)
    unfold qcf.p0
    refine ⟨c,rfl,S2.put1 c 0 (by simp) rfl fun h2 S3=>⟨rfl,c,rfl,S3.put1 c 3 (by simp) rfl fun h3 S4=>?_⟩⟩
    simp only [List.set_cons_succ,List.set_cons_zero] at S4
    have S5:St (ConO c { s with st:=5,closed:=true }::R) h3:=ConO.cl (s:={ s with st:=5,closed:=true }) bv ev xs ma me rows f1 f2 S4
    exact stopFrame (ch:=0) (.inl ⟨rfl,rfl⟩) S5 fun p l cc h4 S6=>hK p l cc h4 S6.p1
  have j1t:(1≤s.st∧s.st≤4)→qay.j1 K (some c) n cl id true h:=by
    intro z
    unfold qay.j1
    exact ifF rfl (yes (.inl z))
  have j1f:¬ (1≤s.st∧s.st≤4)→qay.j1 K (some c) n cl id false h:=by
    intro z
    unfold qay.j1
    refine ifT rfl ?_
    simp only [someE,rdN (S2.rc c 0 rfl),rdB (S2.rc c 3 rfl)]
    by_cases h5:s.st=5
    · refine ifF' (by rw [h5]; rfl) ?_
      cases hc:s.closed with
      | true=>exact no (by rw [hc]; simp; omega)
      | false=>exact yes (.inr ⟨h5,hc⟩)
    · exact ifT' (by simp; omega) (no (by omega))
  by_cases h1:1≤s.st
  · refine ifT (by simp; omega) ?_
    by_cases h4:s.st≤4
    · rw [show decide (((s.st:Nat):Int)≤4)=true by simp; omega]; exact j1t ⟨h1,h4⟩
    · rw [show decide (((s.st:Nat):Int)≤4)=false by simp; omega]; exact j1f (by omega)
  · exact ifF (by simp; omega) (j1f (by omega))
theorem stateS {c:Addr}{s:Cnn} (S0:St L h) [H:Has (ConO c) L s R] (hK:K (.int .i64 (s.st:Int)) h):CallsH P F.qcv [.pointer (some c)] K h:=by
  refine qcv.ok ?_
  unfold qcv.p0
  obtain ⟨bv,ev,xs,ma,me,rows,⟨f1,f2⟩,S2⟩:=ConO.op (S0.get (ConO c))
  exact ⟨c,rfl,_,S2.rc c 0 rfl,hK⟩
theorem newCS (S:St L h) (hK:∀ a h',St (ConO a cn0::L) h'→K (.pointer (some a)) h'):CallsH P F.qdz [] K h:=by
  refine qdz.ok ?_
  unfold qdz.p0
  simp only [bd]
  have S1:=S.mqNew kI vA
  have S2:=S1.mqNew kI vI
  have S3:=S2.al (ccells cn0 (none,0,0) (none,0,0) h.size (h.push (.map #[] 0)).size) T.conns_Conn
  refine hK _ _ ?_
  refine ConO.cl (s:=cn0) (none,0,0) (none,0,0) [] h.size (h.push (.map #[] 0)).size [] rfl rfl ?_
  have S4:=(S3.owNil 17)
  have S5:=St.ouNil (U:=U8) S4
  have S6:=St.emp' (St.emp' S5)
  have S7:St (Bx (top ((h.push (.map #[] 0)).push (.map #[] 0))) (ccells cn0 (none,0,0) (none,0,0) h.size (h.push (.map #[] 0)).size)::Ou U8 (none,0,0) []::Ow 17 (none,0,0) []::emp::Mq kI vA h.size []::emp::Mq kI vI (h.push (.map #[] 0)).size []::L) _:=S6.to
  exact S7
theorem chansCS {c:Addr}{s:Cnn} (S0:St L h) [H:Has (ConO c) L s R] (hk:∀ x∈s.asms,-9223372036854775808≤x.1∧x.1<9223372036854775808) (hl:s.asms.length≤12)
    (hK:∀ (ks:List Int) t h',(if s.st=4 then ks.Perm (s.asms.map Prod.fst) else ks=[])→St (ConO c s::Ow 1 t (ks.map kI)::R) h'→K t.v h'):CallsH P F.qcw [.pointer (some c)] K h:=by
  refine qcw.ok ?_
  unfold qcw.p0
  have S1:=S0.get (ConO c)
  obtain ⟨bv,ev,xs,ma,me,rows,⟨f1,f2⟩,S2⟩:=ConO.op S1
  simp only [someE,rdN (S2.rc c 0 rfl)]
  by_cases h4:s.st=4
  · refine ifF (by rw [h4]; rfl) ⟨_,S2.rc c 5 rfl,?_⟩
    have S3:St (Mq kI vA ma (rowA rows)::AsI rows::Bx c (ccells s bv ev ma me)::Ou U8 bv (u8s s.b)::Ow 17 ev (xs.flatMap evc2)::EvsI xs::Mq kI vI me s.ending::R) h:=S2.to
    have ek:(rowA rows).map Prod.fst=s.asms.map Prod.fst:=by rw [← f2]; simp
    refine keys.sortedKeys_map_int_chans_Asm_int_chans_Asm (vv:=vA) S3 ?_ ?_ 0 ?_
    · intro k hkk
      rw [ek] at hkk
      obtain ⟨x,hx,rfl⟩:=List.mem_map.1 hkk
      have:=hk x hx
      exact keyOf_i (by kernel_rfl) (by simp [Lit.wf,IntKind.min,IntKind.max,IntKind.signed,IntKind.bits]; omega)
    · have:=congrArg List.length ek
      simp at this
      simp
      omega
    · intro h' t ks hp _ S4
      refine ⟨_,_,_,rfl,hK ks t h' ?_ ?_⟩
      · rw [if_pos h4,← ek]; exact hp
      · have S5:St (Bx c (ccells s bv ev ma me)::Ou U8 bv (u8s s.b)::Ow 17 ev (xs.flatMap evc2)::EvsI xs::Mq kI vA ma (rowA rows)::AsI rows::Mq kI vI me s.ending::Ow 1 t (ks.map kI)::R) h':=S4.to
        exact ConO.cl bv ev xs ma me rows f1 f2 S5
  · refine ifT (by simp; omega) (hK [] (none,0,0) h (by rw [if_neg h4]) (show St (ConO c s::Ow 1 (none,0,0) []::R) h from (S1.owNil 1).p1))
end
end Go.Proofs.YtjapglfpjhljpaaGreat.Pr
end
section
set_option linter.unusedVariables false
set_option linter.unusedSimpArgs false
namespace Go.Proofs.YtjapglfpjhljpaaGreat.Pr
open Go Go.Lift Go.Proofs
def hx1:PM:=⟨[],[[80,76,65,73,78],[],[101,110,95,85,83]],[],[]⟩
def hx2:PM:=⟨[16,4096,0],[],[],[]⟩
def hx3:PM:=⟨[],[[47],[]],[false],[]⟩
def hx4:PM:=⟨[],[[]],[],[]⟩
def helloP:Oct:=[65,77,81,80]++[0,0,9,1]++mfr 0 (10,11,hx1)++mfr 0 (10,31,hx2)++mfr 0 (10,40,hx3)++mfr 1 (20,10,hx4)++mfr 2 (20,10,hx4)
structure Inv (s:Cnn):Prop where
  e:s.ev.length≤1000
  b:s.b.length<1073741824
  a:AsO s
theorem Inv.nextP:∀ (f:Nat) {s:Cnn},Inv s→Inv (nextP f s).2
  | 0,s,i=>i
  | f+1,s,i=>by
    unfold Pr.nextP
    cases he:s.ev with
    | cons e r=>exact ⟨by have:=i.e; rw [he] at this; simp at this ⊢; omega,i.b,i.a⟩
    | nil =>
      have i2:Inv (stepP s).2:=⟨by have:=EvB.step s; unfold EvB at this; rw [he] at this; simp at this; omega,by have:=step_b s; have:=i.b; omega,AsO.step i.a⟩
      dsimp only
      split
      · exact Inv.nextP f i2
      · exact i2
theorem Inv.nxt {s:Cnn} (i:Inv s):Inv (nxt s).2:=Inv.nextP _ i
theorem Inv.feed {s:Cnn} (i:Inv s) {b:Oct} (h:s.b.length+b.length<1073741824):Inv (s.feed b):=by
  unfold Cnn.feed
  split
  · exact ⟨i.e,by simp; omega,i.a⟩
  · exact i
theorem Inv.zero:Inv cn0:=⟨by decide,by decide,fun x hx=>by cases hx⟩
def outs:Option EV→Nat
  | none=>0
  | some e=>if e.k=1 then 1 else 0
def runN:Nat→Cnn→Nat × Cnn
  | 0,s=>(0,s)
  | k+1,s=>((runN k (nxt s).2).1+outs (nxt s).1,(runN k (nxt s).2).2)
def hs0:Cnn:=⟨4,[],[],false,false,[(1,ca0),(2,ca0)],[],(none,0,0)⟩
theorem helloRun:runN 20 (cn0.feed helloP)=(5,hs0):=by kernel_rfl
theorem helloLen:helloP.length<1000:=by decide +kernel
section
variable {K:KT}{L R:List Asr}{h:Heap}
theorem SmM1:SmM 10 11 hx1:=⟨by decide,by decide,rfl,by decide,by decide,by decide⟩
theorem SmM2:SmM 10 31 hx2:=⟨by decide,by decide,rfl,by decide,by decide,by decide⟩
theorem SmM3:SmM 10 40 hx3:=⟨by decide,by decide,rfl,by decide,by decide,by decide⟩
theorem SmM4:SmM 20 10 hx4:=⟨by decide,by decide,rfl,by decide,by decide,by decide⟩
theorem mfr_len {ch:Nat}{a b:Int}{x:PM} (m:SmM a b x):(mfr ch (a,b,x)).length≤4096:=by
  unfold mfr; rw [frW_length]; exact Nat.add_le_add_left m.len 8
theorem appI {s t:SV}{bs ws:Oct} (S:St (Im 1 t (u8s ws)::Ow 1 s (u8s bs)::L) h) (hl:bs.length+ws.length<1000000) (hK:∀ p l c h',St (Ow 1 (p,l,c) (u8s (bs++ws))::L) h'→K (.slice p l c) h') :
    SemH P (Builtin.append_ #[T.sl_uint8,T.sl_uint8] T.sl_uint8 #[.slice s.1 s.2.1 s.2.2,.slice t.1 t.2.1 t.2.2]) K h :=
  appS (s:=s) (bs:=bs) S (Src.slice (isl8 S (s:=t) (bs:=ws)).1 (u8s_one _)) (by omega) fun p l c h' S'=>hK p l c h' S'.d1
theorem hStep {M:List Asr}{ch:Nat}{a b:Int}{x:PM}{n s f o:SV}{bs:Oct} (S:St M h) [In (Im 1 n) M (nums x.N)] [In (Im 1 s) M (strs x.S)] [In (Im 1 f) M (bools x.F)] [HS:Sub (Ow 1 o (u8s bs)::L) M] (sm:SmM a b x) (hch:ch<65536) (hl:bs.length<100000)
    (hK:∀ p l c h',St (Ow 1 (p,l,c) (u8s (bs++mfr ch (a,b,x)))::L) h'→K (.slice p l c) h') :
    CallsH P F.qcg [.int .i64 (ch:Int),.agg (List.toArray (mcells a b ⟨n,s,f,(none,0,0)⟩))] (fun v10 h11=>∃ a12 a12l a12c,v10=.slice a12 a12l a12c∧SemH P (Builtin.append_ #[T.sl_uint8,T.sl_uint8] T.sl_uint8 #[.slice o.1 o.2.1 o.2.2,.slice a12 a12l a12c]) K h11) h:=by
  have q:=mfr_len (ch:=ch) sm
  refine meth24T (ch:=ch) (n:=n) (s:=s) (f:=f) (x:=x) S hch sm fun p1 l1 c1 h4 S5=>⟨_,_,_,rfl,?_⟩
  have S6:St (Im 1 (p1,l1,c1) (u8s (mfr ch (a,b,x)))::Ow 1 o (u8s bs)::L) h4:=(St.perm S5 (HS.ex.choose_spec.cons _)).left (L:=Im 1 (p1,l1,c1) (u8s (mfr ch (a,b,x)))::Ow 1 o (u8s bs)::L) (D:=HS.ex.choose)
  exact appI (s:=o) (t:=(p1,l1,c1)) (bs:=bs) (ws:=mfr ch (a,b,x)) S6 (by omega) hK
theorem hl1:∀ {o:Oct}{ch:Nat}{a b:Int}{x:PM}{n:Nat},SmM a b x→o.length≤n→(o++mfr ch (a,b,x)).length≤n+4096:=fun sm h=>by
  rw [List.length_append]
  exact Nat.add_le_add h (mfr_len sm)
theorem helloS (S:St L h) (hK:∀ p l c h',St (Ow 1 (p,l,c) (u8s helloP)::L) h'→K (.slice p l c) h'):CallsH P F.qck [] K h:=by
  refine qck.ok ?_
  unfold qck.p0
  generalize e0:([65,77,81,80]++[0,0,9,1]:Oct)=o0
  have n0:o0.length≤8:=by rw [← e0]; decide
  have n1:=hl1 (ch:=0) SmM1 n0
  have n2:=hl1 (ch:=0) SmM2 n1
  have n3:=hl1 (ch:=0) SmM3 n2
  have n4:=hl1 (ch:=1) SmM4 n3
  refine (bdE _ _).2 (bytesConst (bs:=[65,77,81,80]) (n:=4) rfl S fun h1 S1=>⟨_,_,_,rfl,?_⟩)
  have S2:St (Im 1 (some (top h1),4,4) (u8s [0,0,9,1])::Ow 1 (some (top h),4,4) (u8s [65,77,81,80])::L) (al h1 #[.int .u8 0,.int .u8 0,.int .u8 9,.int .u8 1] T.uint8):=S1.lit [.int .u8 0,.int .u8 0,.int .u8 9,.int .u8 1] T.uint8 4 rfl
  refine (bdE _ _).2 (appI (s:=(some (top h),4,4)) (t:=(some (top h1),4,4)) (bs:=[65,77,81,80]) (ws:=[0,0,9,1]) S2 (by decide) fun p l c h2 S3=>⟨_,_,_,rfl,?_⟩)
  rw [e0] at S3
  refine bdS (S3.imNil 1 0) hx1.S (n:=3) rfl fun h3 S4=>?_
  refine hStep (ch:=0) (a:=10) (b:=11) (n:=(none,0,0)) (s:=(some (top h2),3,3)) (f:=(none,0,0)) (o:=(p,l,c)) (bs:=o0) (L:=L) (x:=hx1) S4 SmM1 (by decide) (by omega) fun p l c h5 S6=>⟨_,_,_,rfl,?_⟩
  refine bdN (S6.imNil 1 0) hx2.N (n:=3) rfl fun h6 S7=>?_
  refine hStep (ch:=0) (a:=10) (b:=31) (n:=(some (top h5),3,3)) (s:=(none,0,0)) (f:=(none,0,0)) (o:=(p,l,c)) (bs:=o0++mfr 0 (10,11,hx1)) (L:=L) (x:=hx2) S7 SmM2 (by decide) (by omega) fun p l c h8 S10=>⟨_,_,_,rfl,?_⟩
  refine bdS (S10.imNil 1 0) hx3.S (n:=2) rfl fun h9 S11=>bdB S11 hx3.F (n:=1) rfl fun h10 S12=>?_
  refine hStep (ch:=0) (a:=10) (b:=40) (n:=(none,0,0)) (s:=(some (top h8),2,2)) (f:=(some (top h9),1,1)) (o:=(p,l,c)) (bs:=o0++mfr 0 (10,11,hx1)++mfr 0 (10,31,hx2)) (L:=L) (x:=hx3) S12 SmM3 (by decide) (by omega) fun p l c h12 S15=>⟨_,_,_,rfl,?_⟩
  refine bdS (S15.imNil 1 0) hx4.S (n:=1) rfl fun h13 S16=>?_
  refine hStep (ch:=1) (a:=20) (b:=10) (n:=(none,0,0)) (s:=(some (top h12),1,1)) (f:=(none,0,0)) (o:=(p,l,c)) (bs:=o0++mfr 0 (10,11,hx1)++mfr 0 (10,31,hx2)++mfr 0 (10,40,hx3)) (L:=L) (x:=hx4) S16 SmM4 (by decide) (by omega) fun p l c h15 S19=>⟨_,_,_,rfl,?_⟩
  refine bdS (S19.imNil 1 0) hx4.S (n:=1) rfl fun h16 S20=>?_
  refine hStep (ch:=2) (a:=20) (b:=10) (n:=(none,0,0)) (s:=(some (top h15),1,1)) (f:=(none,0,0)) (o:=(p,l,c)) (bs:=o0++mfr 0 (10,11,hx1)++mfr 0 (10,31,hx2)++mfr 0 (10,40,hx3)++mfr 1 (20,10,hx4)) (L:=L) (x:=hx4) S20 SmM4 (by decide) (by omega) fun p l c h18 S23=>⟨_,_,_,rfl,hK p l c h18 ?_⟩
  unfold helloP
  rw [e0]
  exact S23
end
end Go.Proofs.YtjapglfpjhljpaaGreat.Pr
end
section
set_option linter.unusedVariables false
set_option linter.unusedSimpArgs false
namespace Go.Proofs.YtjapglfpjhljpaaGreat.Pr
open Go Go.Lift Go.Proofs
section
variable {K:KT}{L R:List Asr}{h:Heap}
theorem evI_len {e:EV}{q:QV} (S:St (EvI e q::L) h):q.sb.2.1=e.b.length:=by
  obtain ⟨B,S⟩:=S.ex
  have S1:St ([Ow 1 q.sb (u8s e.b),Im 1 q.y.n (nums e.ask.m.2.2.N),Im 1 q.y.s (strs e.ask.m.2.2.S),Im 1 q.y.f (bools e.ask.m.2.2.F),Tb B q.y.t e.ask.m.2.2.T,Ow 1 q.bv (u8s e.ask.body)]++L) h:=St.open S
  have:=(S1:St (Ow 1 q.sb (u8s e.b)::_) h).ow.1
  simp [u8s] at this
  omega
def http:Oct:=[72,84,84,80]
def hk1:Cnn:=⟨6,[],[evCh 5 0],false,false,[],[],(none,0,0)⟩
def hk2:Cnn:=⟨6,[],[],false,false,[],[],(none,0,0)⟩
theorem http1:nxt (cn0.feed http)=(some (evOut greeting),hk1):=by kernel_rfl
theorem http2:nxt hk1=(some (evCh 5 0),hk2):=by kernel_rfl
theorem http3:nxt hk2=(none,hk2):=by kernel_rfl
theorem zev_al (h:Heap):al h #[.int .i64 0,.int .i64 0,.slice none 0 0,.bool false,.int .i64 0,.int .i64 0,.slice none 0 0,.slice none 0 0,.slice none 0 0,.slice none 0 0,.int .u64 0,.int .i64 0,.string (mkS ([]:List UInt8)),.slice none 0 0,.int .i64 0,.int .i64 0,.int .i64 0] T.api_Event=al h zev.toArray T.api_Event:=rfl
theorem awakeL {c d x y:Addr}{b16 b22 b28:Bool}:∀ (k:Nat) (s:Cnn) (n i:Nat) (h:Heap),i+k=20→n≤i→St (ConO d s::L) h→Inv s →
    (∀ h',St (ConO d (runN k s).2::L) h'→qak.j2 K (some c) (some d) x b16 y b22 b28 ((n+(runN k s).1:Nat):Int) h')→qak.L3 K (k+1) (some c) (some d) x b16 y b22 b28 (n:Int) (i:Int) h
  | 0,s,n,i,h,hi,hn,S,iv,hK=>by
    unfold qak.L3
    have:i=20:=by omega
    subst this
    exact ⟨fun e=>(by simp at e),fun _=>hK h S⟩
  | k+1,s,n,i,h,hi,hn,S,iv,hK=>by
    unfold qak.L3
    refine ⟨fun _=>?_,fun e=>(by have:=of_decide_eq_false e; omega)⟩
    have iv2:=iv.nxt
    have wi:IntKind.i64.wrap ((i:Int)+1)=((i+1:Nat):Int):=wrapI (by omega) (by omega)
    have wn:IntKind.i64.wrap ((n:Int)+1)=((n+1:Nat):Int):=wrapI (by omega) (by omega)
    refine nextS (c:=d) (s:=s) S (by have:=iv.e; omega) iv.b iv.a ?_
    intro h1
    cases hx:(nxt s).1 with
    | none =>
      intro S1
      refine ⟨_,_,rfl,?_⟩
      have S2:=S1.al zev T.api_Event
      refine (bdE _ _).2 ?_
      rw [zev_al]
      refine ⟨rfl,S2.putA (top h1) (ws:=zev) rfl (by simp [one]) fun h2 S3=>?_⟩
      refine ifF rfl ?_
      unfold qak.j5
      refine ifF rfl ?_
      unfold qak.j4
      refine (bdE _ _).2 ?_
      rw [wi]
      refine awakeL k (nxt s).2 n (i+1) h2 (by omega) (by omega) S3.tl iv2 fun h' S'=>?_
      have e:runN (k+1) s=((runN k (nxt s).2).1+0,(runN k (nxt s).2).2):=by
        conv=>lhs; unfold runN; rw [hx]
        rfl
      rw [e] at hK
      exact hK h' S'
    | some e =>
      intro q S1
      refine ⟨_,_,rfl,?_⟩
      have S2:=S1.al zev T.api_Event
      refine (bdE _ _).2 ?_
      rw [zev_al]
      refine ⟨rfl,S2.putA (top h1) (ws:=evc e q) rfl (evc2_one (e,q)) fun h2 S3=>?_⟩
      refine ifT rfl ⟨_,S3.rc (top h1) 0 rfl,?_⟩
      unfold qak.j5
      by_cases h1':e.k=1
      · refine ifT (by rw [h1']; rfl) ((bdE _ _).2 ?_)
        unfold qak.j4
        refine (bdE _ _).2 ?_
        rw [wi,wn]
        refine awakeL k (nxt s).2 (n+1) (i+1) h2 (by omega) (by omega) S3.tl.d1 iv2 fun h' S'=>?_
        have e2:runN (k+1) s=((runN k (nxt s).2).1+1,(runN k (nxt s).2).2):=by
          conv=>lhs; unfold runN; rw [hx]
          simp [outs,h1']
        rw [e2] at hK
        have e3:n+1+(runN k (nxt s).2).1=n+((runN k (nxt s).2).1+1):=by omega
        rw [e3]
        exact hK h' S'
      · refine ifF (by simp; omega) ?_
        unfold qak.j4
        refine (bdE _ _).2 ?_
        rw [wi]
        refine awakeL k (nxt s).2 n (i+1) h2 (by omega) (by omega) S3.tl.d1 iv2 fun h' S'=>?_
        have e2:runN (k+1) s=((runN k (nxt s).2).1+0,(runN k (nxt s).2).2):=by
          conv=>lhs; unfold runN; rw [hx]
          simp [outs,h1']
        rw [e2] at hK
        exact hK h' S'
theorem awake25S (S:St L h) (hK:∀ h',St L h'→K (.bool true) h'):CallsH P F.qak [] K h:=by
  refine qak.ok ?_
  unfold qak.p0
  refine newCS S fun c h1 S1=>⟨_,rfl,newCS S1 fun d h2 S2=>⟨_,rfl,?_⟩⟩
  refine ifF' rfl ?_
  unfold qak.j1
  refine ifF rfl ?_
  refine (bdE _ _).2 (bytesConst (bs:=http) (n:=4) rfl S2 fun h3 S3=>⟨_,_,_,rfl,?_⟩)
  have S4:St (ConO c cn0::Im 1 (some (top h2),4,4) (u8s http)::ConO d cn0::L) h3:=S3.im.p2
  refine feedS (c:=c) (s:=cn0) (t:=(some (top h2),4,4)) (bs:=http) S4 (by decide) (by decide) fun h4 S5=>⟨rfl,?_⟩
  have ih:Inv (cn0.feed http):=Inv.zero.feed (by decide)
  refine nextS (c:=c) (s:=cn0.feed http) S5 (by have:=ih.e; omega) ih.b ih.a ?_
  rw [http1]
  intro h5 q S6
  refine ⟨_,_,rfl,(bdE _ _).2 ?_⟩
  rw [zev_al]
  have lq:=evI_len S6.p1
  have S7:=S6.al zev T.api_Event
  refine ⟨rfl,S7.putA (top h5) (ws:=evc (evOut greeting) q) rfl (evc2_one (evOut greeting,q)) fun h6 S8=>?_⟩
  generalize top h5=x at *
  have i1:Inv hk1:=⟨by decide,by decide,fun z hz=>by cases hz⟩
  have i2:Inv hk2:=⟨by decide,by decide,fun z hz=>by cases hz⟩
  refine nextS (c:=c) (s:=hk1) S8 (by decide) (by decide) i1.a ?_
  rw [http2]
  intro h7 q2 S9
  refine ⟨_,_,rfl,(bdE _ _).2 ?_⟩
  rw [zev_al]
  have S10:=S9.al zev T.api_Event
  refine ⟨rfl,S10.putA (top h7) (ws:=evc (evCh 5 0) q2) rfl (evc2_one (evCh 5 0,q2)) fun h8 S11=>?_⟩
  generalize top h7=y at *
  refine nextS (c:=c) (s:=hk2) S11 (by decide) (by decide) i2.a ?_
  rw [http3]
  intro h9 S12
  refine ⟨_,_,rfl,(bdE _ _).2 ?_⟩
  rw [zev_al]
  have S13:=S12.al zev T.api_Event
  refine ⟨rfl,S13.putA (top h9) (ws:=zev) rfl (by simp [one]) fun h10 S14=>?_⟩
  have S15:St (ConO d cn0::ConO c hk2::Bx x (evc (evOut greeting) q)::Bx y (evc (evCh 5 0) q2)::L) h10:=S14.to
  refine helloS S15 fun p l cc h11 S16=>⟨_,_,_,rfl,?_⟩
  have hl:=helloLen
  refine feedS (c:=d) (s:=cn0) (t:=(p,l,cc)) (bs:=helloP) S16.im (by decide) (by omega) fun h12 S17=>⟨rfl,21,?_⟩
  have S18:St (ConO d (cn0.feed helloP)::ConO c hk2::Bx x (evc (evOut greeting) q)::Bx y (evc (evCh 5 0) q2)::L) h12:=S17.d1
  refine awakeL 20 (cn0.feed helloP) 0 0 h12 rfl (Nat.le_refl _) S18 (Inv.zero.feed (by show 0+_<_; omega)) fun h13 S19=>?_
  rw [helloRun] at S19 ⊢
  unfold qak.j2
  refine ifT rfl ⟨_,S19.rc x 0 rfl,ifT rfl ⟨_,_,_,S19.rc x 2 rfl,ifT (by rw [lq]; rfl) (ifT rfl ⟨_,S19.rc y 0 rfl,ifT rfl (ifT rfl (stateS (c:=c) (s:=hk2) S19 ⟨_,rfl,ifT rfl (ifT rfl (stateS (c:=d) (s:=hs0) S19 ⟨_,rfl,ifT rfl ?_⟩))⟩))⟩)⟩⟩
  refine chansCS (c:=d) (s:=hs0) S19 (by intro z hz; simp [hs0] at hz; rcases hz with rfl | rfl <;> decide) (by decide) fun ks t h14 hp S20=>⟨_,_,_,rfl,?_⟩
  have hp':ks.Perm [1,2]:=hp
  have lt:t.2.1=2:=by
    have h1:=(S20.osl 1 t).1
    have h2:=hp'.length_eq
    simp at h1 h2
    omega
  refine (bdE _ _).2 ?_
  rw [lt]
  exact hK h14 (show St L h14 from S20.to)
end
end Go.Proofs.YtjapglfpjhljpaaGreat.Pr
end
