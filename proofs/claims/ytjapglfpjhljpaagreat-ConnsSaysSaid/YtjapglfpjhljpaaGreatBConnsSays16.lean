/- connsSays_holds: all that the theorem needs, in a few texts (bundle.py; made of the texts that NOTES.md names). -/
import Derived.Below
import Derived.KernelRfl
import Derived.Laws.Append
import Derived.Laws.Bits64
import Derived.Laws.BitsAllLaws
import Derived.Laws.BitsLemmas
import Derived.Laws.IdiomStrings
import Derived.Laws.Sem
import Derived.Laws.Strings
import Derived.Laws.StructEq
import Derived.Lib.SlBytesConst
import Derived.LoopN
import Derived.MapKept
import Derived.Orders
import Derived.Test.YtjapglfpjhljpaaGreatChecked
import Derived.WideLaws
import Derived.Test.YtjapglfpjhljpaaGreatBConnsSays1
import Derived.Test.YtjapglfpjhljpaaGreatBConnsSays2
import Derived.Test.YtjapglfpjhljpaaGreatBConnsSays3
import Derived.Test.YtjapglfpjhljpaaGreatBConnsSays4
import Derived.Test.YtjapglfpjhljpaaGreatBConnsSays5
import Derived.Test.YtjapglfpjhljpaaGreatBConnsSays6
import Derived.Test.YtjapglfpjhljpaaGreatBConnsSays7
import Derived.Test.YtjapglfpjhljpaaGreatBConnsSays8
import Derived.Test.YtjapglfpjhljpaaGreatBConnsSays9
import Derived.Test.YtjapglfpjhljpaaGreatBConnsSays10
import Derived.Test.YtjapglfpjhljpaaGreatBConnsSays11
import Derived.Test.YtjapglfpjhljpaaGreatBConnsSays12
import Derived.Test.YtjapglfpjhljpaaGreatBConnsSays14
import Derived.Test.YtjapglfpjhljpaaGreatBConnsSays15
section
set_option linter.unusedVariables false
set_option linter.unusedSimpArgs false
namespace Go.Proofs.YtjapglfpjhljpaaGreat.Pr
open Go Go.Lift Go.Proofs
section
variable {K:KT}{L R:List Asr}{h:Heap}
theorem cutS {s:Oct} (hK:K (.string (mkS (s.take 255))) h):CallsH P F.qcy [.string (mkS s),.int .i64 255] K h:=by
  refine qcy.ok ?_
  unfold qcy.p0
  by_cases hl:(255:Int)<((s.length:Nat):Int)
  · rw [if_pos hl]
    exact ⟨⟨by omega,by omega⟩,hK⟩
  · rw [if_neg hl]
    refine ⟨⟨by omega,by omega⟩,?_⟩
    have e:s.take (Int.toNat ((s.length:Nat):Int))=s.take 255:=by
      rw [Int.toNat_natCast,List.take_of_length_le (Nat.le_refl _),List.take_of_length_le (by omega)]
    simp only [bd,e]
    exact hK
theorem bdN {F:Heap→Prop} (S:St L h) (l:List Nat) {n:Nat} (hn:l.length=n) (hF:∀ h',St (Im 1 (some (top h),n,n) (nums l)::L) h'→F h'):bd (al h (nums l).toArray T.uint64) F:=hF _ (S.lit (nums l) T.uint64 n (by simp [nums,hn]))
theorem bdS {F:Heap→Prop} (S:St L h) (l:List Oct) {n:Nat} (hn:l.length=n) (hF:∀ h',St (Im 1 (some (top h),n,n) (strs l)::L) h'→F h'):bd (al h (strs l).toArray T.string) F:=hF _ (S.lit (strs l) T.string n (by simp [strs,hn]))
theorem bdB {F:Heap→Prop} (S:St L h) (l:List Bool) {n:Nat} (hn:l.length=n) (hF:∀ h',St (Im 1 (some (top h),n,n) (bools l)::L) h'→F h'):bd (al h (bools l).toArray T.bool) F:=hF _ (S.lit (bools l) T.bool n (by simp [bools,hn]))
def mfr (ch:Nat) (m:PMM):Oct:=frW 1 ch ((methW m.1 m.2.1 m.2.2).getD [])
theorem meth24S {ch:Nat}{a b:Int}{y:MV}{x:PM}{B:Nat→Prop} (S:St L h) [In (Im 1 y.n) L (nums x.N)] [In (Im 1 y.s) L (strs x.S)] [In (Im 1 y.f) L (bools x.F)] [In (Tb B y.t) L x.T] (hch:ch<65536)
    (hx:x.N.length<1000000∧x.S.length<1000000∧x.F.length<1000000) (h64:∀ v∈x.N,v<18446744073709551616) (hsl:∀ s∈x.S,s.length<1073741824) (hw:wtD 8 x.T≤67108864) (hl:((methW a b x).getD []).length<1073741824)
    (hK:∀ p l c h',St (Ow 1 (p,l,c) (u8s (mfr ch (a,b,x)))::L) h'→K (.slice p l c) h') :
    CallsH P F.qcg [.int .i64 (ch:Int),.agg (List.toArray (mcells a b y))] K h:=by
  refine qcg.ok ?_
  unfold qcg.p0
  have S1:=S.al (mcells a b y) T.api_Method
  simp only [bd]
  generalize al h (mcells a b y).toArray T.api_Method=h1 at *
  generalize top h=m at *
  have S2:St (Im 1 nosv (u8s [])::Bx m (mcells a b y)::L) h1:=S1.imNil 1 0
  refine ⟨_,S1.rall m 6 rfl,rmethS (t:=nosv) (bs:=[]) (y:=y) (x:=x) (B:=B) S2 hx h64 hsl hw (by decide) fun p l c h2 S3=>⟨_,_,_,_,rfl,?_⟩⟩
  rw [List.nil_append] at S3
  have S4:St (Im 1 (p,l,c) (u8s ((methW a b x).getD []))::Im 1 nosv (u8s [])::Bx m (mcells a b y)::L) h2:=S3
  have S5:St (Im 1 nosv (u8s [])::Im 1 (p,l,c) (u8s ((methW a b x).getD []))::L) h2:=S4.to
  refine rframeS (t:=nosv) (s:=(p,l,c)) (bs:=[]) (b:=(methW a b x).getD []) (k:=1) (c:=ch) S5 (by decide) hl (by omega) hch fun p2 l2 c2 h3 S6=>⟨_,_,_,rfl,hK p2 l2 c2 h3 ?_⟩
  rw [List.nil_append] at S6
  have S7:St (Ow 1 (p2,l2,c2) (u8s (frW 1 ch ((methW a b x).getD [])))::L) h3:=S6.to
  exact S7
def flB (f0:Int) (n:Nat):List Bool:=(List.range n).map fun i:Nat=>bitsI .and .i64 (shrI .i64 f0 (i:Int)) 1==1
theorem flB_len (F:Int) (n:Nat):(flB F n).length=n:=by simp [flB]
abbrev flV (t:Addr):Value:=.func (.func F.qba) #[] #[.pointer (some t)]
theorem slB:SlT P T.sl_bool T.bool 1 1 [.bool false]:=slT (by kernel_rfl) (by kernel_rfl)
theorem uslB:P.underlying T.sl_bool=some (.slice T.bool):=by kernel_rfl
theorem flS {t:Addr}{cs:List Value}{f0:Int}{n:Nat} (hn:n≤5) (S0:St L h) [H:Has (Bx t) L cs R] (hc:cs[3]? = some (.int .i64 f0)) (hK:∀ p l c h',St (Ow 1 (p,l,c) (bools (flB f0 n))::L) h'→K (.slice p l c) h') :
    CallV P (flV t) [.int .i64 (n:Int)] K h:=by
  refine callV_fn ?_
  show CallsH P F.qba [.int .i64 (n:Int),.pointer (some t)] K h
  refine qba.ok ?_
  unfold qba.p0
  have loop:∀ (k i:Nat) (s:SV) (h2:Heap),i+k=n→St (Ow 1 s (bools (flB f0 i))::L) h2→qba.L1 K (k+1) (n:Int) t s.1 s.2.1 s.2.2 (i:Int) h2:=by
    intro k
    induction k with
    | zero =>
      intro i s h2 hi S
      unfold qba.L1
      have:i=n:=by omega
      subst this
      exact ⟨fun e=>by simp at e,fun _=>hK _ _ _ h2 S⟩
    | succ k ih =>
      intro i s h2 hi S
      unfold qba.L1
      refine ⟨fun _=>?_,fun e=>by simp at e; omega⟩
      have S1:St (Ow 1 s (bools (flB f0 i))::Bx t cs::R) h2:=S.perm (H.perm.cons _)
      refine ⟨f0,S1.rc t 3 hc,by rw [wrap_len (show i<18446744073709551616 by omega)]; omega,?_⟩
      rw [wrap_len (show i<18446744073709551616 by omega)]
      simp only [bd]
      have S2:=S.al [.bool (bitsI .and .i64 (shrI .i64 f0 (i:Int)) 1==1)] T.bool
      have ls:s.2.1=i:=by have:=S.ow.1; simp [bools,flB_len] at this; omega
      refine St.app slB rfl uslB (fun k e=>by cases e) S2.p1 (Src.slice (n:=1) ⟨rfl,S2.mem.1⟩ (by simp [one])) (by omega) (by omega) fun p' c' h' S3=>⟨_,_,_,rfl,?_⟩
      have e1:bools (flB f0 i)++[.bool (bitsI .and .i64 (shrI .i64 f0 (i:Int)) 1==1)]=bools (flB f0 (i+1)):=by simp [bools,flB,List.range_succ]
      rw [e1] at S3
      rw [show IntKind.i64.wrap ((i:Int)+1)=((i+1:Nat):Int) from wrapI (by omega) (by omega)]
      exact ih (i+1) (p',s.2.1+1,c') h' (by omega) S3.d1
  exact ⟨n+1,loop n 0 (none,0,0) h (by omega) (S0.owNil 1)⟩
def bodW (ch:Nat):Nat→Oct→Oct
  | 0,_=>[]
  | k+1,b=>if b=[] then [] else frW 3 ch (b.take 4088)++bodW ch k (b.drop 4088)
def contW (ch:Nat) (x:PH) (b:Oct):Oct:=frW 2 ch (headW (b.length,x.2))++bodW ch (b.length+1) b
theorem bodW_len (ch:Nat):∀ (k:Nat) (b:Oct),(bodW ch k b).length≤9 * b.length
  | 0,b=>by simp [bodW]
  | k+1,b=>by
    unfold bodW
    split
    · simp
    · rename_i hb
      have:=bodW_len ch k (b.drop 4088)
      have h1:=List.length_pos_iff.2 hb
      rw [List.length_append,frW_length,List.length_take]
      rw [List.length_drop] at this
      omega
theorem headW_len (x:PH):(headW x).length≤30+x.2.2.length:=by
  unfold headW headT headM
  simp only [List.length_append,octsN_length]
  split <;> split <;> simp [octsN_length] <;> omega
theorem contentS {t sb:SV}{bs body:Oct}{x:PH}{ch:Nat} (S:St L h) [mt:In (fun b=>Im 1 t (u8s b)) L bs] [mb:In (fun b=>Im 1 sb (u8s b)) L body] (hch:ch<65536) (hb:bs.length<1000000) (hbody:body.length<1000000) (ht:x.2.2.length<1000000)
    (hK:∀ p l c h',St (Im 1 (p,l,c) (u8s (bs++contW ch x body))::L) h'→K (.slice p l c) h') :
    CallsH P F.qbg [.slice t.1 t.2.1 t.2.2,.int .i64 (ch:Int),.agg (List.toArray (hcells x)),.slice sb.1 sb.2.1 sb.2.2] K h:=by
  refine qbg.ok ?_
  unfold qbg.p0
  have S1:=S.al (hcells x) T.api_Head
  simp only [bd]
  generalize al h (hcells x).toArray T.api_Head=h1 at *
  generalize top h=m at *
  have lb:=Sl.len (isl8 S (s:=sb) (bs:=body)).1
  rw [lb,wrap_len (show body.length<18446744073709551616 by omega)]
  refine S1.put1 m 0 (by simp) rfl fun h2 S2=>?_
  simp only [List.set_cons_zero] at S2
  have S3:St (Im 1 nosv (u8s [])::Bx m (hcells (body.length,x.2))::L) h2:=S2.imNil 1 0
  refine ⟨_,S2.rall m 3 rfl,rheadS (t:=nosv) (bs:=[]) (x:=(body.length,x.2)) S3 (by decide) (by show x.2.2.length<_; omega) fun p l c h3 S4=>⟨_,_,_,rfl,?_⟩⟩
  rw [List.nil_append] at S4
  have S5:St (Im 1 (p,l,c) (u8s (headW (body.length,x.2)))::L) h3:=(S4.fz 1 (p,l,c)).to
  have hh:=headW_len (body.length,x.2)
  haveI:In (fun b=>Im 1 (p,l,c) (u8s b)) (Im 1 (p,l,c) (u8s (headW (body.length,x.2)))::L) (headW (body.length,x.2)):=In.head
  refine rframeS (t:=t) (s:=(p,l,c)) (bs:=bs) (b:=headW (body.length,x.2)) (k:=2) (c:=ch) S5 (by omega) (by simp only at hh; omega) (by omega) hch fun p2 l2 c2 h4 S6=>⟨_,_,_,rfl,?_⟩
  have lf:(frW 2 ch (headW (body.length,x.2))).length≤38+x.2.2.length:=by rw [frW_length]; simp only at hh; omega
  have loop:∀ (k:Nat) (o bd':Oct) (s sb:SV) (h5:Heap),bd'.length≤k→o.length+9 * bd'.length<100000000→St (Im 1 s (u8s o)::Im 1 sb (u8s bd')::L) h5→(∀ p l c h',St (Im 1 (p,l,c) (u8s (o++bodW ch (k+1) bd'))::L) h'→K (.slice p l c) h') →
      qbg.L1 K (k+1) s.1 s.2.1 s.2.2 (ch:Int) sb.1 sb.2.1 sb.2.2 h5:=by
    intro k
    induction k with
    | zero =>
      intro o bd' s sb h5 hl _ S hk
      have e:bd'=[]:=List.eq_nil_of_length_eq_zero (by omega)
      subst e
      unfold qbg.L1
      have l0:sb.2.1=0:=Sl.len (isl8 S (s:=sb) (bs:=[])).1
      rw [l0]
      refine ⟨fun e=>by simp at e,fun _=>hk _ _ _ h5 ?_⟩
      have:o++bodW ch 1 []=o:=by simp [bodW]
      rw [this]
      exact S.d1
    | succ k ih =>
      intro o bd' s sb h5 hl hb9 S hk
      unfold qbg.L1
      have l0:sb.2.1=bd'.length:=Sl.len (isl8 S (s:=sb) (bs:=bd')).1
      have lc:=(isl8 S (s:=sb) (bs:=bd')).2
      by_cases hd:bd'=[]
      · subst hd
        rw [l0]
        refine ⟨fun e=>by simp at e,fun _=>hk _ _ _ h5 ?_⟩
        have:o++bodW ch (k+2) []=o:=by simp [bodW]
        rw [this]
        exact S.d1
      · have hp:=List.length_pos_iff.2 hd
        refine ⟨fun _=>?_,fun e=>by rw [l0] at e; have:=of_decide_eq_false e; omega⟩
        have en:(if (4088:Int)<((sb.2.1:Nat):Int) then 4088 else ((sb.2.1:Nat):Int))=((min 4088 bd'.length:Nat):Int):=by rw [l0]; split <;> omega
        simp only [bd]
        rw [en]
        generalize hn:min 4088 bd'.length=n
        have hn1:1≤n:=by omega
        have hn2:n≤bd'.length:=by omega
        have eb:bd'.take 4088=bd'.take n:=by
          by_cases h4:4088≤bd'.length
          · rw [show n=4088 by omega]
          · rw [List.take_of_length_le (by omega),List.take_of_length_le (by omega)]
        have ed:bd'.drop 4088=bd'.drop n:=by
          by_cases h4:4088≤bd'.length
          · rw [show n=4088 by omega]
          · rw [List.drop_of_length_le (by omega),List.drop_of_length_le (by omega)]
        refine ⟨⟨by omega,by omega⟩,?_⟩
        rw [Int.toNat_natCast]
        have S2:=St.itake (show St (Im 1 s (u8s o)::Im 1 sb (u8s bd')::L) h5 from S) sb (n:=n) (by omega)
        have e1:(u8s bd').take n=u8s (bd'.take n):=by simp [u8s,List.map_take]
        rw [e1] at S2
        have S3:St (Im 1 (sb.1,n,sb.2.2) (u8s (bd'.take n))::Im 1 s (u8s o)::Im 1 sb (u8s bd')::L) h5:=S2
        have ez:slA sb.1 0 sb.2.2 1=sb.1:=slA_zero ..
        rw [ez]
        have lt:(bd'.take n).length=n:=by rw [List.length_take]; omega
        haveI:In (fun b=>Im 1 (sb.1,n,sb.2.2) (u8s b)) (Im 1 (sb.1,n,sb.2.2) (u8s (bd'.take n))::Im 1 s (u8s o)::Im 1 sb (u8s bd')::L) (bd'.take n):=In.head
        haveI:In (fun b=>Im 1 s (u8s b)) (Im 1 (sb.1,n,sb.2.2) (u8s (bd'.take n))::Im 1 s (u8s o)::Im 1 sb (u8s bd')::L) o:=⟨List.mem_cons_of_mem _ (List.mem_cons_self ..)⟩
        refine rframeS (t:=s) (s:=(sb.1,n,sb.2.2)) (bs:=o) (b:=bd'.take n) (k:=3) (c:=ch) S3 (by omega) (by omega) (by omega) hch fun p l c h6 S4=>⟨_,_,_,rfl,⟨by omega,by omega⟩,?_⟩
        have S5:St (Im 1 sb (u8s bd')::Im 1 (p,l,c) (u8s (o++frW 3 ch (bd'.take n)))::L) h6:=(S4.fz 1 (p,l,c)).to
        have S6:=St.idrop S5 sb (n:=n) (by omega)
        have e2:(u8s bd').drop n=u8s (bd'.drop n):=by simp [u8s,List.map_drop]
        rw [e2] at S6
        have S7:St (Im 1 (p,l,c) (u8s (o++frW 3 ch (bd'.take n)))::Im 1 (slA sb.1 n sb.2.2 1,sb.2.1 - n,sb.2.2 - n) (u8s (bd'.drop n))::L) h6:=S6.to
        refine ih (o++frW 3 ch (bd'.take n)) (bd'.drop n) (p,l,c) (slA sb.1 n sb.2.2 1,sb.2.1 - n,sb.2.2 - n) h6 (by rw [List.length_drop]; omega) (by rw [List.length_append,frW_length,lt,List.length_drop]; omega) S7 fun p' l' c' h' S8=>hk p' l' c' h' ?_
        have:o++bodW ch (k+2) bd'=o++frW 3 ch (bd'.take n)++bodW ch (k+1) (bd'.drop n):=by
          conv=>lhs; unfold bodW
          rw [if_neg hd,eb,ed,List.append_assoc]
        rw [this]
        exact S8
  have S7:St (Im 1 (p2,l2,c2) (u8s (bs++frW 2 ch (headW (body.length,x.2))))::L) h4:=(S6.fz 1 (p2,l2,c2)).to
  haveI:In (Im 1 sb) (Im 1 (p2,l2,c2) (u8s (bs++frW 2 ch (headW (body.length,x.2))))::L) (u8s body):=⟨List.mem_cons_of_mem _ mb.mem⟩
  have S8:=S7.idup 1 sb
  have S9:St (Im 1 (p2,l2,c2) (u8s (bs++frW 2 ch (headW (body.length,x.2))))::Im 1 sb (u8s body)::L) h4:=S8.p1
  refine ⟨body.length+1,?_⟩
  have:=loop body.length (bs++frW 2 ch (headW (body.length,x.2))) body (p2,l2,c2) sb h4 (Nat.le_refl _) (by rw [List.length_append]; omega) S9 fun p l c h' S'=>hK p l c h' (by
    unfold contW
    rw [← List.append_assoc]
    exact S')
  rw [lb] at this
  exact this
end
end Go.Proofs.YtjapglfpjhljpaaGreat.Pr
end
section
set_option linter.unusedVariables false
set_option linter.unusedSimpArgs false
namespace Go.Proofs.YtjapglfpjhljpaaGreat.Pr
open Go Go.Lift Go.Proofs
structure CL where
  ch:Int
  kind:Int
  n:Int
  f:Int
  a:Oct
  b:Oct
  c:Oct
  body:Oct
abbrev callc (x:CL) (v:SV):List Value:=[.int .i64 x.ch,.int .i64 x.kind,.int .i64 x.n,.int .i64 x.f,.string (mkS x.a),.string (mkS x.b),.string (mkS x.c),v.v]
def CL.cn (x:CL):Nat:=(x.ch % 256).toNat % 3
def CL.kn (x:CL):Nat:=(x.kind % 256).toNat % 28
def CL.A (x:CL):Oct:=x.a.take 255
def CL.B (x:CL):Oct:=x.b.take 255
def CL.C (x:CL):Oct:=x.c.take 255
abbrev tops (f:Int):Int:=bitsI .and .i64 (shrI .i64 f 4) 15
abbrev bitA (f i:Int):Bool:=bitsI .and .i64 (shrI .i64 f i) 1==1
def u64n (z:Int):Nat:=(IntKind.u64.wrap z).toNat
theorem u64n_eq (z:Int):((u64n z:Nat):Int)=IntKind.u64.wrap z:=by unfold u64n; rw [IntKind.wrap_u64]; omega
theorem u64n_lt (z:Int):u64n z<18446744073709551616:=by unfold u64n; rw [IntKind.wrap_u64]; omega
def kinds4 (b:Oct):List Oct:=[[100,105,114,101,99,116],[102,97,110,111,117,116],[116,111,112,105,99],b]
def bye:Oct:=[98,121,101]
def flags3 (f:Int):List Bool:=[tops f==15,tops f==14,bitA f 2]
def octM (x:CL):PMM :=
  let k:=x.kn
  if k≤2 then (60,40,⟨[0],[x.A,x.B],[bitsI .and .i64 x.f 1==1,tops x.f==15],[]⟩)
  else if k=3 then (50,10,⟨[0],[x.A],flB x.f 2++flags3 x.f,[]⟩)
  else if k=4 then (40,10,⟨[0],[x.A,(kinds4 x.B).getD (x.n % 4).toNat []],flB x.f 2++flags3 x.f,[]⟩)
  else if k≤6 then (50,20,⟨[0],[x.A,x.B,x.C],flB x.f 1,[]⟩)
  else if k≤8 then (60,20,⟨[0],[x.A,x.B],[tops x.f==15,bitsI .and .i64 x.f 1==1,tops x.f==14,bitA x.f 1],[]⟩)
  else if k≤10 then (60,70,⟨[0],[x.A],flB x.f 1,[]⟩)
  else if k≤12 then (60,80,⟨[u64n (bitsI .and .i64 x.n 255)],[],flB x.f 1,[]⟩)
  else if k=13 then (60,90,⟨[u64n (bitsI .and .i64 x.n 255)],[],flB x.f 1,[]⟩)
  else if k=14 then (60,120,⟨[u64n (bitsI .and .i64 x.n 255)],[],flB x.f 2,[]⟩)
  else if k=15 then (60,10,⟨[u64n (IntKind.i64.wrap (Int.tdiv (tops x.f) 15)),u64n (bitsI .and .i64 x.n 7)],[],flB x.f 1,[]⟩)
  else if k≤18 then mm0 90 (([10,20,20,30]:List Int).getD (x.n % 4).toNat 0)
  else if k=19 then (60,30,⟨[],[x.B],flB x.f 1,[]⟩)
  else if k=20 then (50,30,⟨[0],[x.A],flB x.f 1,[]⟩)
  else if k=21 then (50,40,⟨[0],[x.A],flB x.f 3,[]⟩)
  else if k=22 then (if x.n % 2=1 then (40,20,⟨[0],[x.A],flB x.f 2,[]⟩) else (50,50,⟨[0],[x.A,x.B,x.C],[],[]⟩))
  else if k=23 then (60,110,⟨[],[],flB x.f 1,[]⟩)
  else if k=24 then (if x.n % 2=1 then (20,10,⟨[],[[]],[],[]⟩) else (20,40,⟨[200,0,0],[bye],[],[]⟩))
  else if k=25 then mm0 20 41
  else if 0<x.n % 16 then ((madeC x.n).1.1,(madeC x.n).1.2,madeF [1,0,2] [x.A,x.B,x.C] x.f [] true (madeC x.n).2)
  else (10,50+x.f % 2,⟨([200,0,0]:List Nat).take (3 * (1 - x.f % 2)).toNat,([bye]:List Oct).take (1 - x.f % 2).toNat,[],[]⟩)
def octH (x:CL):PH:=(0,IntKind.i64.wrap ((1:Int)+bitsI .and .i64 (shrI .i64 x.f 2) 1),if bitA x.f 3 then x.C else [])
def octP (x:CL):Oct :=
  if x.kn≤2 then mfr x.cn (octM x)++contW x.cn (octH x) (x.body.take 11000)
  else if x.kn≤25 then mfr x.cn (octM x)
  else if x.kn=26 then mfr (if 0<x.n % 16 then x.cn else 0) (octM x)
  else if 0<x.n % 8 then frW (([1,2,3,8]:List Nat).getD (x.n / 8 % 4).toNat 0) x.cn (x.body.take 4088) else x.body.take 60
structure SmM (a b:Int) (x:PM):Prop where
  ha:0≤a∧a<65536
  hb:0≤b∧b<65536
  T:x.T=[]
  N:x.N.length≤10∧∀ v∈x.N,v<18446744073709551616
  S:x.S.length≤10∧∀ s∈x.S,s.length≤255
  F:x.F.length≤20
theorem sumS_le:∀ (l:List Oct),(∀ s∈l,s.length≤255)→sumS l≤259 * l.length
  | [],_=>by simp [sumS]
  | s::l,h=>by
    have:=sumS_le l (fun z hz=>h z (List.mem_cons_of_mem _ hz))
    have h1:=h s (List.mem_cons_self ..)
    rw [sumS_cons,List.length_cons]
    omega
theorem SmM.len {a b:Int}{x:PM} (m:SmM a b x):((methW a b x).getD []).length≤4088:=by
  cases h:methW a b x with
  | none=>simp
  | some o =>
    have:=(meth_back m.ha m.hb m.T m.N.2 (fun s hs=>by have:=m.S.2 s hs; omega) h).2
    have h1:=sumS_le x.S m.S.2
    have h2:=m.N.1; have h3:=m.S.1; have h4:=m.F
    simp only [Option.getD_some]
    omega
theorem take255 (l:Oct):(l.take 255).length≤255:=by rw [List.length_take]; omega
theorem CL.A_len (x:CL):x.A.length≤255:=take255 _
theorem CL.B_len (x:CL):x.B.length≤255:=take255 _
theorem CL.C_len (x:CL):x.C.length≤255:=take255 _
section
variable {K:KT}{L R:List Asr}{h:Heap}
theorem meth24T {ch:Nat}{a b:Int}{n s f:SV}{x:PM} (S:St L h) [In (Im 1 n) L (nums x.N)] [In (Im 1 s) L (strs x.S)] [In (Im 1 f) L (bools x.F)] (hch:ch<65536) (m:SmM a b x)
    (hK:∀ p l c h',St (Im 1 (p,l,c) (u8s (mfr ch (a,b,x)))::L) h'→K (.slice p l c) h') :
    CallsH P F.qcg [.int .i64 (ch:Int),.agg (List.toArray (mcells a b ⟨n,s,f,(none,0,0)⟩))] K h:=by
  have hl:=m.len
  have S1:St (Tb (fun _=>False) (none,0,0) x.T::L) h:=by rw [m.T]; exact tbNil 0 S
  have hw:wtD 8 x.T≤67108864:=by rw [m.T]; decide
  refine meth24S (ch:=ch) (a:=a) (b:=b) (y:=⟨n,s,f,(none,0,0)⟩) (x:=x) (B:=fun _=>False) S1 hch ⟨by have:=m.N.1; omega,by have:=m.S.1; omega,by have:=m.F; omega⟩ m.N.2 (fun z hz=>by have:=m.S.2 z hz; omega) hw (by omega) fun p l c h' S2=>hK p l c h' ?_
  exact S2.im.d1
def J6 (x:CL) (t:Addr) (v:SV) (L:List Asr) (b1 b3 b5 b21 b22 b24:Bool) (a44 a48:Addr) (s5:SV) (a63:Addr) (s22 s24:SV) (h:Heap):Prop :=
  St (cond b1 (Im 1 (some a44,1,1) (nums [0])) emp::cond b3 (Im 1 (some a48,1,1) (strs [x.A])) emp::cond b22 (Im 1 s22 (bools (flB x.f 2++flags3 x.f))) (cond b5 (Ow 1 s5 (bools (flB x.f 2))) emp)::cond b21 (Im 1 (some a63,3,3) (bools (flags3 x.f))) emp ::
    cond b24 (Im 1 s24 (u8s (mfr x.cn (octM x)))) emp::Bx t (callc x v)::L) h
theorem apB {s:SV}{a:Addr}{n:Nat}{l1 l2:List Bool}{L2:List Asr} (S:St (Ow 1 s (bools l1)::L) h) [In (Im 1 (some a,n,n)) L (bools l2)] (h1:l1.length≤100) (h2:l2.length≤100)
    (hK:∀ p l c h',St (Im 1 (p,l,c) (bools (l1++l2))::L) h'→K (.slice p l c) h'):SemH P (Builtin.append_ #[T.sl_bool,T.sl_bool] T.sl_bool #[.slice s.1 s.2.1 s.2.2,.slice (some a) n n]) K h:=by
  have sl:=S.tl.isl 1 (some a,n,n)
  have e1:=sl.1
  have e2:=S.ow.1
  simp [bools] at e1 e2
  refine St.app (n:=n) slB rfl uslB (fun k e=>by cases e) S (Src.slice sl (by intro w hw; obtain ⟨z,_,rfl⟩:=List.mem_map.1 hw; rfl)) (by omega) (by omega) fun p' c' h' S3=>hK p' _ c' h' ?_
  have e:bools (l1++l2)=bools l1++bools l2:=by simp [bools]
  rw [e]
  exact S3.im
theorem oct_r6 {x:CL}{t:Addr}{v:SV} (S:St (Bx t (callc x v)::L) h) (hk:x.kn=3) (hK:∀ p l c h',St (Im 1 (p,l,c) (u8s (octP x))::L) h'→K (.slice p l c) h'):qaa.r6 K t (x.cn:Int) x.A (flV t) h:=by
  have em:octM x=(50,10,⟨[0],[x.A],flB x.f 2++flags3 x.f,[]⟩):=by unfold octM; simp [hk]
  have eo:octP x=mfr x.cn (octM x):=by unfold octP; simp [hk]
  have sm:SmM 50 10 ⟨[0],[x.A],flB x.f 2++flags3 x.f,[]⟩:=⟨by decide,by decide,rfl,by simp,by simp [x.A_len],by simp [flB_len,flags3]⟩
  refine qaa.r6.rule (n59:=x.f) (n60:=x.f) (n61:=x.f) (fun d a44 a48 a54 a54l a54c a63 a69 a69l a69c a77 a77l a77c h=>J6 x t v L (d 1) (d 3) (d 5) (d 21) (d 22) (d 24) a44 a48 (a54,a54l,a54c) a63 (a69,a69l,a69c) (a77,a77l,a77c) h) ?_ ?_ ?_ ?_ ?_ ?_ ?_ ?_ ?_ ?_ ?_ ?_ ?_ ?_
  · exact St.emp' (St.emp' (St.emp' (St.emp' (St.emp' S))))
  · intro d a44 a48 a54 a54l a54c a63 a69 a69l a69c a77 a77l a77c h k1 h1 h24 J hk
    unfold J6 at J
    rw [h1] at J
    exact bdN J.tl [0] rfl fun h' S'=>hk _ _ (show J6 x t v L true (d 3) (d 5) (d 21) (d 22) (d 24) _ _ _ _ _ _ _ from S')
  · intro d a44 a48 a54 a54l a54c a63 a69 a69l a69c a77 a77l a77c h k1 h1 h24 J hk
    unfold J6 at J
    rw [h1] at J
    exact bdS J.p1.tl [x.A] rfl fun h' S'=>hk _ _ (show J6 x t v L (d 1) true (d 5) (d 21) (d 22) (d 24) _ _ _ _ _ _ _ from S'.p1)
  · intro d a44 a48 a54 a54l a54c a63 a69 a69l a69c a77 a77l a77c h k1 h5 h22 h24 J hk
    unfold J6 at J
    rw [h5,h22] at J
    exact flS (t:=t) (f0:=x.f) (n:=2) (by decide) J.p2.tl rfl fun p l c h' S'=>⟨_,_,_,rfl,hk _ _ _ _ (show J6 x t v L (d 1) (d 3) true (d 21) (d 22) (d 24) _ _ _ _ _ _ _ by unfold J6; rw [h22]; exact St.back [_,_] S')⟩
  · intro d a44 a48 a54 a54l a54c a63 a69 a69l a69c a77 a77l a77c h _ _ _ J
    exact St.rc J t 3 rfl
  · intros; omega
  · intro d a44 a48 a54 a54l a54c a63 a69 a69l a69c a77 a77l a77c h _ _ _ J
    exact St.rc J t 3 rfl
  · intros; omega
  · intro d a44 a48 a54 a54l a54c a63 a69 a69l a69c a77 a77l a77c h _ _ _ J
    exact St.rc J t 3 rfl
  · intros; omega
  · intro d a44 a48 a54 a54l a54c a63 a69 a69l a69c a77 a77l a77c h k1 h21 h22 h24 J hk
    unfold J6 at J
    rw [h21] at J
    exact bdB J.p3.tl (flags3 x.f) rfl fun h' S'=>hk _ _ (show J6 x t v L (d 1) (d 3) (d 5) true (d 22) (d 24) _ _ _ _ _ _ _ from St.back [_,_,_] S')
  · intro d a44 a48 a54 a54l a54c a63 a69 a69l a69c a77 a77l a77c h k1 h22 h5 h21 h24 J hk
    unfold J6 at J
    rw [h22,h5,h21] at J
    have J1:St (Ow 1 (a54,a54l,a54c) (bools (flB x.f 2))::cond (d 1) (Im 1 (some a44,1,1) (nums [0])) emp::cond (d 3) (Im 1 (some a48,1,1) (strs [x.A])) emp::Im 1 (some a63,3,3) (bools (flags3 x.f))::cond (d 24) (Im 1 (a77,a77l,a77c) (u8s (mfr x.cn (octM x)))) emp::Bx t (callc x v)::L) h:=J.p2
    exact apB (L2:=[]) (s:=(a54,a54l,a54c)) (a:=a63) (n:=3) (l1:=flB x.f 2) (l2:=flags3 x.f) J1 (by simp [flB_len]) (by simp [flags3]) fun p l c h' S'=>⟨_,_,_,rfl,hk _ _ _ _ (show J6 x t v L (d 1) (d 3) (d 5) (d 21) true (d 24) _ _ _ _ _ _ _ by unfold J6; rw [h21]; exact St.back [_,_] S')⟩
  · intro d a44 a48 a54 a54l a54c a63 a69 a69l a69c a77 a77l a77c h k1 h24 h1 h3 h5 h21 h22 J hk
    unfold J6 at J
    rw [h24,h1,h3,h22] at J
    have J1:St (Im 1 (some a44,1,1) (nums [0])::Im 1 (some a48,1,1) (strs [x.A])::Im 1 (a69,a69l,a69c) (bools (flB x.f 2++flags3 x.f))::cond (d 21) (Im 1 (some a63,3,3) (bools (flags3 x.f))) emp::Bx t (callc x v)::L) h:=(St.front [_,_,_,_] J).tl
    refine meth24T (ch:=x.cn) (a:=50) (b:=10) (n:=(some a44,1,1)) (s:=(some a48,1,1)) (f:=(a69,a69l,a69c)) (x:=⟨[0],[x.A],flB x.f 2++flags3 x.f,[]⟩) J1 (by unfold CL.cn; omega) sm fun p l c h' S'=>⟨_,_,_,rfl,hk _ _ _ _ (show J6 x t v L (d 1) (d 3) (d 5) (d 21) (d 22) true _ _ _ _ _ _ _ from ?_)⟩
    unfold J6
    rw [h1,h3,h22,em]
    exact St.back [_,_,_,_] S'
  · intro d a44 a48 a54 a54l a54c a63 a69 a69l a69c a77 a77l a77c h _ _ _ _ _ h24 J
    unfold J6 at J
    rw [h24] at J
    unfold qaa.j5
    rw [← eo] at J
    have J2:=St.front [_,_,_,_] J
    exact hK _ _ _ h (show St (Im 1 (a77,a77l,a77c) (u8s (octP x))::L) h from J2.d1.d1.d1.d1.d1)
def J8 (x:CL) (t:Addr) (v:SV) (L:List Asr) (b1 b4 b10 b12 b28 b29 b31:Bool) (a96 a100 a107:Addr) (s12:SV) (a122:Addr) (s29 s31:SV) (h:Heap):Prop :=
  St (cond b1 (Im 1 (some a96,1,1) (nums [0])) emp::cond b4 (Im 1 (some a100,4,4) (strs (kinds4 x.B))) emp::cond b29 (Im 1 s29 (bools (flB x.f 2++flags3 x.f))) (cond b12 (Ow 1 s12 (bools (flB x.f 2))) emp)::cond b28 (Im 1 (some a122,3,3) (bools (flags3 x.f))) emp ::
    cond b31 (Im 1 s31 (u8s (mfr x.cn (octM x)))) emp::cond b10 (Im 1 (some a107,2,2) (strs [x.A,(kinds4 x.B).getD (x.n % 4).toNat []])) emp::Bx t (callc x v)::L) h
theorem m3' (a:Int):bitsI .and .i64 a 3=a % 4:=mask_i64 a 2 (by decide)
theorem kinds4_len (b:Oct) (hb:b.length≤255):∀ n:Nat,((kinds4 b).getD n []).length≤255:=by
  intro n
  match n with
  | 0=>simp [kinds4]
  | 1=>simp [kinds4]
  | 2=>simp [kinds4]
  | 3=>exact hb
  | n+4=>simp [kinds4]
theorem oct_r8 {x:CL}{t:Addr}{v:SV} (S:St (Bx t (callc x v)::L) h) (hk:x.kn=4) (hK:∀ p l c h',St (Im 1 (p,l,c) (u8s (octP x))::L) h'→K (.slice p l c) h'):qaa.r8 K t (x.cn:Int) x.A x.B (flV t) h:=by
  have em:octM x=(40,10,⟨[0],[x.A,(kinds4 x.B).getD (x.n % 4).toNat []],flB x.f 2++flags3 x.f,[]⟩):=by unfold octM; simp [hk]
  have eo:octP x=mfr x.cn (octM x):=by unfold octP; simp [hk]
  have sm:SmM 40 10 ⟨[0],[x.A,(kinds4 x.B).getD (x.n % 4).toNat []],flB x.f 2++flags3 x.f,[]⟩:=⟨by decide,by decide,rfl,by simp,⟨by simp,by
    intro s hs
    rcases List.mem_cons.1 hs with rfl | hs
    · exact x.A_len
    · rcases List.mem_cons.1 hs with rfl | hs
      · exact kinds4_len _ x.B_len _
      · cases hs⟩,by simp [flB_len,flags3]⟩
  have h4:0≤x.n % 4∧x.n % 4<4:=⟨Int.emod_nonneg _ (by decide),Int.emod_lt_of_pos _ (by decide)⟩
  refine qaa.r8.rule (n103:=x.n) (s105:=(kinds4 x.B).getD (x.n % 4).toNat []) (n118:=x.f) (n119:=x.f) (n120:=x.f) (fun d a96 a100 a107 a113 a113l a113c a122 a128 a128l a128c a136 a136l a136c h=>J8 x t v L (d 1) (d 4) (d 10) (d 12) (d 28) (d 29) (d 31) a96 a100 a107 (a113,a113l,a113c) a122 (a128,a128l,a128c) (a136,a136l,a136c) h) ?_ ?_ ?_ ?_ ?_ ?_ ?_ ?_ ?_ ?_ ?_ ?_ ?_ ?_ ?_ ?_ ?_ ?_
  · exact St.emp' (St.emp' (St.emp' (St.emp' (St.emp' (St.emp' S)))))
  · intro d a96 a100 a107 a113 a113l a113c a122 a128 a128l a128c a136 a136l a136c h k1 h1 h31 J hk
    unfold J8 at J
    rw [h1] at J
    exact bdN J.tl [0] rfl fun h' S'=>hk _ _ (show J8 x t v L true (d 4) (d 10) (d 12) (d 28) (d 29) (d 31) _ _ _ _ _ _ _ _ from S')
  · intro d a96 a100 a107 a113 a113l a113c a122 a128 a128l a128c a136 a136l a136c h k1 h4' h10 h31 J hk
    unfold J8 at J
    rw [h4'] at J
    exact bdS J.p1.tl (kinds4 x.B) rfl fun h' S'=>hk _ _ (show J8 x t v L (d 1) true (d 10) (d 12) (d 28) (d 29) (d 31) _ _ _ _ _ _ _ _ from S'.p1)
  · intro d a96 a100 a107 a113 a113l a113c a122 a128 a128l a128c a136 a136l a136c h _ _ J
    exact St.rc J t 2 rfl
  · intro d a96 a100 a107 a113 a113l a113c a122 a128 a128l a128c a136 a136l a136c h _ _ _ J
    rw [m3']
    exact ⟨rfl,h4.1,h4.2⟩
  · intro d a96 a100 a107 a113 a113l a113c a122 a128 a128l a128c a136 a136l a136c h h4' _ _ J
    unfold J8 at J
    rw [h4'] at J
    have J1:St (Im 1 (some a100,4,4) (strs (kinds4 x.B))::_) h:=J.p1
    have sl:=J1.isl 1 (some a100,4,4)
    rw [m3']
    have hlt:(x.n % 4).toNat<(kinds4 x.B).length:=by simp [kinds4]; omega
    have hg:(kinds4 x.B)[(x.n % 4).toNat]? = some ((kinds4 x.B).getD (x.n % 4).toNat []):=by
      rw [List.getD_eq_getElem?_getD,List.getElem?_eq_getElem hlt]; rfl
    obtain ⟨a,ea,_,_,b,hc,eb⟩:=ix (C:=fun w:Oct=>Value.string (mkS w)) (F:=fun w=>w=(kinds4 x.B).getD (x.n % 4).toNat []) sl (i:=x.n % 4) (n:=(x.n % 4).toNat) (by omega) hg rfl
    cases ea
    rw [← eb]
    exact hc
  · intro d a96 a100 a107 a113 a113l a113c a122 a128 a128l a128c a136 a136l a136c h k1 h10 _ h31 J hk
    unfold J8 at J
    rw [h10] at J
    exact bdS (St.front [_,_,_,_,_] J).tl [x.A,(kinds4 x.B).getD (x.n % 4).toNat []] rfl fun h' S'=>hk _ _ (show J8 x t v L (d 1) (d 4) true (d 12) (d 28) (d 29) (d 31) _ _ _ _ _ _ _ _ from St.back [_,_,_,_,_] S')
  · intro d a96 a100 a107 a113 a113l a113c a122 a128 a128l a128c a136 a136l a136c h k1 h12 h29 h31 J hk
    unfold J8 at J
    rw [h12,h29] at J
    exact flS (t:=t) (f0:=x.f) (n:=2) (by decide) J.p2.tl rfl fun p l c h' S'=>⟨_,_,_,rfl,hk _ _ _ _ (show J8 x t v L (d 1) (d 4) (d 10) true (d 28) (d 29) (d 31) _ _ _ _ _ _ _ _ by unfold J8; rw [h29]; exact St.back [_,_] S')⟩
  · intro d a96 a100 a107 a113 a113l a113c a122 a128 a128l a128c a136 a136l a136c h _ _ _ J
    exact St.rc J t 3 rfl
  · intros; omega
  · intro d a96 a100 a107 a113 a113l a113c a122 a128 a128l a128c a136 a136l a136c h _ _ _ J
    exact St.rc J t 3 rfl
  · intros; omega
  · intro d a96 a100 a107 a113 a113l a113c a122 a128 a128l a128c a136 a136l a136c h _ _ _ J
    exact St.rc J t 3 rfl
  · intros; omega
  · intro d a96 a100 a107 a113 a113l a113c a122 a128 a128l a128c a136 a136l a136c h k1 h28 h29 h31 J hk
    unfold J8 at J
    rw [h28] at J
    exact bdB J.p3.tl (flags3 x.f) rfl fun h' S'=>hk _ _ (show J8 x t v L (d 1) (d 4) (d 10) (d 12) true (d 29) (d 31) _ _ _ _ _ _ _ _ from St.back [_,_,_] S')
  · intro d a96 a100 a107 a113 a113l a113c a122 a128 a128l a128c a136 a136l a136c h k1 h29 h12 h28 h31 J hk
    unfold J8 at J
    rw [h29,h12,h28] at J
    have J1:St (Ow 1 (a113,a113l,a113c) (bools (flB x.f 2))::cond (d 1) (Im 1 (some a96,1,1) (nums [0])) emp::cond (d 4) (Im 1 (some a100,4,4) (strs (kinds4 x.B))) emp::Im 1 (some a122,3,3) (bools (flags3 x.f))::cond (d 31) (Im 1 (a136,a136l,a136c) (u8s (mfr x.cn (octM x)))) emp::cond (d 10) (Im 1 (some a107,2,2) (strs [x.A,(kinds4 x.B).getD (x.n % 4).toNat []])) emp::Bx t (callc x v)::L) h:=J.p2
    exact apB (L2:=[]) (s:=(a113,a113l,a113c)) (a:=a122) (n:=3) (l1:=flB x.f 2) (l2:=flags3 x.f) J1 (by simp [flB_len]) (by simp [flags3]) fun p l c h' S'=>⟨_,_,_,rfl,hk _ _ _ _ (show J8 x t v L (d 1) (d 4) (d 10) (d 12) (d 28) true (d 31) _ _ _ _ _ _ _ _ by unfold J8; rw [h28]; exact St.back [_,_] S')⟩
  · intro d a96 a100 a107 a113 a113l a113c a122 a128 a128l a128c a136 a136l a136c h k1 h31 h1 h4' h10 h12 h28 h29 J hk
    unfold J8 at J
    rw [h31,h1,h10,h29] at J
    have J1:St (Im 1 (some a96,1,1) (nums [0])::cond (d 4) (Im 1 (some a100,4,4) (strs (kinds4 x.B))) emp::Im 1 (a128,a128l,a128c) (bools (flB x.f 2++flags3 x.f))::cond (d 28) (Im 1 (some a122,3,3) (bools (flags3 x.f))) emp::Im 1 (some a107,2,2) (strs [x.A,(kinds4 x.B).getD (x.n % 4).toNat []])::Bx t (callc x v)::L) h:=(St.front [_,_,_,_] J).tl
    refine meth24T (ch:=x.cn) (a:=40) (b:=10) (n:=(some a96,1,1)) (s:=(some a107,2,2)) (f:=(a128,a128l,a128c)) (x:=⟨[0],[x.A,(kinds4 x.B).getD (x.n % 4).toNat []],flB x.f 2++flags3 x.f,[]⟩) J1 (by unfold CL.cn; omega) sm fun p l c h' S'=>⟨_,_,_,rfl,hk _ _ _ _ (show J8 x t v L (d 1) (d 4) (d 10) (d 12) (d 28) (d 29) true _ _ _ _ _ _ _ _ from ?_)⟩
    unfold J8
    rw [h1,h10,h29,em]
    exact St.back [_,_,_,_] S'
  · intro d a96 a100 a107 a113 a113l a113c a122 a128 a128l a128c a136 a136l a136c h _ _ _ _ _ _ h31 J
    unfold J8 at J
    rw [h31] at J
    unfold qaa.j7
    rw [← eo] at J
    have J2:=St.front [_,_,_,_] J
    exact hK _ _ _ h (show St (Im 1 (a136,a136l,a136c) (u8s (octP x))::L) h from J2.d1.d1.d1.d1.d1.d1)
def J19 (x:CL) (t:Addr) (v:SV) (L:List Asr) (b4 b11 b18:Bool) (a399 a404:Addr) (s18:SV) (h:Heap):Prop :=
  St (cond b4 (Im 1 (some a399,3,3) (nums [200,0,0])) emp::cond b11 (Im 1 (some a404,1,1) (strs [bye])) emp::cond b18 (Im 1 s18 (u8s (mfr 0 (octM x)))) emp::Bx t (callc x v)::Im 1 (none,0,0) []::L) h
theorem oct_r19 {x:CL}{t:Addr}{v:SV} (S:St (Bx t (callc x v)::L) h) (hk:x.kn=26) (hn:¬ 0<x.n % 16) (hK:∀ p l c h',St (Im 1 (p,l,c) (u8s (octP x))::L) h'→K (.slice p l c) h'):qaa.r19 K t h:=by
  have hf:x.f % 2=0∨x.f % 2=1:=by omega
  have w1:IntKind.i64.wrap ((1:Int) - x.f % 2)=1 - x.f % 2:=wrapI (by omega) (by omega)
  have w2:IntKind.i64.wrap ((3:Int) * (1 - x.f % 2))=3 * (1 - x.f % 2):=wrapI (by omega) (by omega)
  have w3:IntKind.i64.wrap ((50:Int)+x.f % 2)=50+x.f % 2:=wrapI (by omega) (by omega)
  have em:octM x=(10,50+x.f % 2,⟨([200,0,0]:List Nat).take (3 * (1 - x.f % 2)).toNat,([bye]:List Oct).take (1 - x.f % 2).toNat,[],[]⟩):=by unfold octM; simp [hk,hn]
  have eo:octP x=mfr 0 (octM x):=by unfold octP; simp [hk,hn]
  have sm:SmM 10 (50+x.f % 2) ⟨([200,0,0]:List Nat).take (3 * (1 - x.f % 2)).toNat,([bye]:List Oct).take (1 - x.f % 2).toNat,[],[]⟩:=by
    rcases hf with e | e <;> rw [e] <;> exact ⟨by decide,by decide,rfl,by decide,by decide,by decide⟩
  refine qaa.r19.rule (n397:=x.f) (n402:=x.f) (n407:=x.f) (fun d a399 a404 a411 a411l a411c h=>J19 x t v L (d 4) (d 11) (d 18) a399 a404 (a411,a411l,a411c) h) ?_ ?_ ?_ ?_ ?_ ?_ ?_ ?_ ?_ ?_
  · exact St.emp' (St.emp' (St.emp' (S.imNil 1 0).p1))
  · intro d a399 a404 a411 a411l a411c h _ J
    exact St.rc J t 3 rfl
  · intro d a399 a404 a411 a411l a411c h k1 h4 h18 J hk
    unfold J19 at J
    rw [h4] at J
    exact bdN J.tl [200,0,0] rfl fun h' S'=>hk _ _ (show J19 x t v L true (d 11) (d 18) _ _ _ _ from S')
  · intro d a399 a404 a411 a411l a411c h _ J
    exact St.rc J t 3 rfl
  · intro d a399 a404 a411 a411l a411c h _ _ J
    rw [m1,w1,w2]
    exact ⟨by omega,by omega⟩
  · intro d a399 a404 a411 a411l a411c h k1 h11 h18 J hk
    unfold J19 at J
    rw [h11] at J
    exact bdS J.p1.tl [bye] rfl fun h' S'=>hk _ _ (show J19 x t v L (d 4) true (d 18) _ _ _ _ from S'.p1)
  · intro d a399 a404 a411 a411l a411c h _ J
    exact St.rc J t 3 rfl
  · intro d a399 a404 a411 a411l a411c h _ _ J
    rw [m1,w1]
    exact ⟨by omega,by omega⟩
  · intro d a399 a404 a411 a411l a411c h k1 h18 h4 h11 J hk
    unfold J19 at J
    rw [h18,h4,h11] at J
    rw [m1,w1,w2,w3,slA_zero,slA_zero]
    have J1:St (Im 1 (some a399,3,3) (nums [200,0,0])::Im 1 (some a404,1,1) (strs [bye])::Bx t (callc x v)::Im 1 (none,0,0) []::L) h:=J.p2.tl
    have J2:=St.itake J1 (some a399,3,3) (n:=(3 * (1 - x.f % 2)).toNat) (by show _≤3; omega)
    have J3:=St.itake J2 (some a404,1,1) (n:=(1 - x.f % 2).toNat) (by show _≤1; omega)
    have e1:(nums [200,0,0]).take (3 * (1 - x.f % 2)).toNat=nums (([200,0,0]:List Nat).take (3 * (1 - x.f % 2)).toNat):=by simp [nums,List.map_take]
    have e2:(strs [bye]).take (1 - x.f % 2).toNat=strs (([bye]:List Oct).take (1 - x.f % 2).toNat):=by simp [strs,List.map_take]
    rw [e1,e2] at J3
    have J4:St (Im 1 (some a404,(1 - x.f % 2).toNat,1) (strs (([bye]:List Oct).take (1 - x.f % 2).toNat))::Im 1 (some a399,(3 * (1 - x.f % 2)).toNat,3) (nums (([200,0,0]:List Nat).take (3 * (1 - x.f % 2)).toNat))::Im 1 (some a399,3,3) (nums [200,0,0])::Im 1 (some a404,1,1) (strs [bye])::Bx t (callc x v)::Im 1 (none,0,0) []::L) h:=J3
    refine meth24T (ch:=0) (a:=10) (b:=50+x.f % 2) (n:=(some a399,(3 * (1 - x.f % 2)).toNat,3)) (s:=(some a404,(1 - x.f % 2).toNat,1)) (f:=(none,0,0)) (x:=⟨([200,0,0]:List Nat).take (3 * (1 - x.f % 2)).toNat,([bye]:List Oct).take (1 - x.f % 2).toNat,[],[]⟩) J4 (by decide) sm fun p l c h' S'=>⟨_,_,_,rfl,hk _ _ _ _ (show J19 x t v L (d 4) (d 11) true _ _ _ _ from ?_)⟩
    unfold J19
    rw [h4,h11,em]
    exact St.back [_,_] S'.d1.d1
  · intro d a399 a404 a411 a411l a411c h _ _ h18 J
    unfold J19 at J
    rw [h18] at J
    unfold qaa.j18
    rw [← eo] at J
    exact hK _ _ _ h (show St (Im 1 (a411,a411l,a411c) (u8s (octP x))::L) h from J.p2.d1.d1.d1.d1)
end
end Go.Proofs.YtjapglfpjhljpaaGreat.Pr
end
section
set_option linter.unusedVariables false
set_option linter.unusedSimpArgs false
namespace Go.Proofs.YtjapglfpjhljpaaGreat.Pr
open Go Go.Lift Go.Proofs
theorem numAt_mid {p q:Oct}{n v:Nat} (hn:n≤8) (hv:v<256 ^ n):numAt (p++octsN n v++q) p.length n=some v:=by
  unfold numAt
  rw [if_pos (by simp [octsN_length])]
  have:((p++octsN n v++q).drop p.length).take n=octsN n v:=by
    rw [List.append_assoc,List.drop_append_of_le_length (Nat.le_refl _),List.drop_of_length_le (Nat.le_refl _),List.nil_append,List.take_append_of_le_length (by rw [octsN_length]; exact Nat.le_refl _),List.take_of_length_le (by rw [octsN_length]; exact Nat.le_refl _)]
  rw [this,numN_octsN hv hn]
theorem textAt_mid {p s q:Oct}{n:Nat} (hn:n≤8) (hv:s.length<256 ^ n):textAt (p++octsN n s.length++s++q) p.length n=some (s,p.length+n+s.length):=by
  have h1:numAt (p++octsN n s.length++s++q) p.length n=some s.length:=by
    rw [List.append_assoc (p++octsN n s.length) s q]; exact numAt_mid hn hv
  unfold textAt
  rw [h1]
  dsimp only
  rw [if_pos (by simp [octsN_length]; omega)]
  have:(p++octsN n s.length++s++q).drop (p.length+n)=s++q:=by
    have e:p.length+n=(p++octsN n s.length).length:=by simp [octsN_length]
    rw [e,List.append_assoc (p++octsN n s.length) s q,List.drop_append_of_le_length (Nat.le_refl _),List.drop_of_length_le (Nat.le_refl _),List.nil_append]
  rw [this]
  simp
section
variable {K:KT}{L R:List Asr}{h:Heap}
theorem rsizeS {c:UInt8} (hc:c=49∨c=50∨c=52∨c=56) (hK:K (.int .i64 ((c.toNat - 48:Nat):Int)) h):CallsH P F.qbh [.int .u8 (c.toNat:Int)] K h:=by
  refine qbh.ok ?_
  unfold qbh.p0
  have j:∀ {n:Int},IntKind.i64.wrap (IntKind.u8.wrap (n - 48))=((c.toNat - 48:Nat):Int)→qbh.j1 K n true h:=by
    intro n e
    unfold qbh.j1
    refine ifT rfl ((bdE _ _).2 ?_)
    rw [e]; exact hK
  rcases hc with rfl | rfl | rfl | rfl
  · exact ifT' rfl (j (by decide))
  · exact ifF' rfl (ifT' rfl (j (by decide)))
  · exact ifF' rfl (ifF' rfl (ifT' rfl (j (by decide))))
  · exact ifF' rfl (ifF' rfl (ifF' rfl (j (by decide))))
theorem rreadS {p:OA}{c:Nat} (S:St L h) (hK:∀ h',St L h'→K (.tuple #[.slice none 0 0,.bool true]) h'):CallsH P F.qce [.slice p 0 c] K h:=by
  refine qce.ok ?_
  unfold qce.p0
  refine ifF rfl (qai.ok ?_)
  unfold qai.p0
  refine ⟨1,?_⟩
  unfold qai.L1
  refine ifF rfl ⟨_,_,_,_,rfl,ifF' rfl ?_⟩
  have S1:St (Tb (fun _=>False) (none,0,0) []::L) h:=tbNil 0 S
  refine rtokS (B:=fun _=>False) (s:=(none,0,0)) (fs:=[]) S1 (by decide) fun h1 S2=>⟨_,rfl,?_⟩
  rw [show tableOkP []=true by decide +kernel]
  exact ifF rfl (hK h1 S2.tl)
theorem rd_loop {s:SV}{o:Oct}{t2 t8:Addr}{a b:Int}{ff:Oct}{z2:List Value} (hz2:z2.length=6) (ho:o.length<100000) [mi:In (fun z=>Im 1 s (u8s z)) L o]
    (hK:∀ y h',St L h'→K (.tuple #[.agg (List.toArray (mcells a b y)),.int .i64 0]) h') :
    ∀ (f:Oct) (dn:Oct) (k:Nat) (pre:Oct) (x xz:PM) (xd:PM) (h:Heap),ff=dn++f→ff.length<100→(∀ c∈f,letterD c∧c≠102)→f.length<k→x.T=[]→(∀ v∈x.N,v<18446744073709551616)→(∀ w∈x.S,w.length<4294967296) →
      xd.N.length≤dn.length→xd.S.length≤dn.length→formW k f (pre,x)=some (o,xz)→St (MB t8 a b xd::Bx t2 z2::L) h→qac.L3 K (f.length+1) s.1 s.2.1 s.2.2 t2 t8 ff (pre.length:Int) 0 (dn.length:Int) h
  | [],dn,k,pre,x,xz,xd,h,hff,hlen,hf,hk,hT,hN,hS,lN,lS,hw,S=>by
    unfold qac.L3
    rw [List.append_nil] at hff
    subst hff
    refine ifF (by simp) ?_
    have eo:o=pre:=by
      cases k with
      | zero=>unfold formW at hw; cases hw
      | succ k=>unfold formW at hw; rw [if_pos rfl] at hw; cases hw; rfl
    obtain ⟨y,B,S1⟩:=MB.op S
    have ls:s.2.1=o.length:=Sl.len (isl8 S1 (s:=s) (bs:=o)).1
    unfold qac.j2
    refine ifF (by rw [ls,eo]; simp) ⟨_,S1.rall t8 6 rfl,rfl,S1.putA t2 (ws:=mcells a b y) (by rw [hz2]; rfl) (by simp [one]) fun h2 S2=>⟨_,S2.rall t2 6 rfl,hK y h2 ?_⟩⟩
    exact S2.d1.d1.d1.d1.d1.tl
  | c::r,dn,k,pre,x,xz,xd,h,hff,hlen,hf,hk,hT,hN,hS,lN,lS,hw,S=>by
    have hc:=hf c (List.mem_cons_self ..)
    have hr:∀ c∈r,letterD c∧c≠102:=fun c hc=>hf c (List.mem_cons_of_mem _ hc)
    have hil:dn.length<ff.length:=by rw [hff]; simp
    have hget:ff[dn.length]? = some c:=by rw [hff]; simp
    have el:lb ff (dn.length:Int)=(c.toNat:Int):=by
      have:ff.getD dn.length 0=c:=by rw [List.getD_eq_getElem?_getD,hget]; rfl
      unfold lb; rw [Int.toNat_natCast,this]
    have wi:IntKind.i64.wrap ((dn.length:Int)+1)=(((dn++[c]).length:Nat):Int):=by rw [wrapI (by omega) (by omega)]; simp
    have e102:=eb8 c 102
    have e115:=eb8 c 115
    have e108:=eb8 c 108
    have e116:=eb8 c 116
    simp only [show ((116:UInt8).toNat:Int)=116 from rfl,show ((115:UInt8).toNat:Int)=115 from rfl,show ((108:UInt8).toNat:Int)=108 from rfl,show ((102:UInt8).toNat:Int)=102 from rfl] at e115 e108 e116 e102
    obtain ⟨k,rfl⟩:∃ k',k=k'+1:=⟨k - 1,by omega⟩
    have hk':r.length<k:=by simp at hk; omega
    have hf0:(c::r)≠[]:=by simp
    have hfl:¬ 0<flagsP (c::r):=by unfold flagsP; rw [if_neg hc.2]; simp
    unfold formW at hw
    rw [if_neg hf0,if_neg hfl] at hw
    have e0:(c::r).getD 0 0=c:=rfl
    have dr:(c::r).drop 1=r:=rfl
    rw [e0,dr] at hw
    -- what follows
    have next:∀ {pre':Oct}{x' xd':PM}{h':Heap},x'.T=[]→(∀ v∈x'.N,v<18446744073709551616)→(∀ w∈x'.S,w.length<4294967296)→xd'.N.length≤dn.length+1→xd'.S.length≤dn.length+1→formW k r (pre',x')=some (o,xz)→St (MB t8 a b xd'::Bx t2 z2::L) h' →
        qac.j4 K (qac.L3 K (r.length+1)) s.1 s.2.1 s.2.2 t2 t8 ff (pre'.length:Int) 0 (dn.length:Int) h':=by
      intro pre' x' xd' h' h1 h2 h3 h4 h5 h6 S'
      unfold qac.j4
      refine (bdE _ _).2 ?_
      rw [wi]
      exact rd_loop hz2 ho hK r (dn++[c]) k pre' x' xz xd' h' (by rw [hff]; simp) hlen hr hk' h1 h2 h3 (by simp; omega) (by simp; omega) h6 S'
    have back:∀ {pre':Oct}{x':PM},x'.T=[]→(∀ v∈x'.N,v<18446744073709551616)→(∀ w∈x'.S,w.length<4294967296)→formW k r (pre',x')=some (o,xz)→∃ w,o=pre'++w:=by
      intro pre' x' h1 h2 h3 h6
      have few:fewF r:=fun j hj=>by
        have:flagsP (r.drop j)=0:=by
          cases hd:r.drop j with
          | nil=>rfl
          | cons z zs =>
            have hz:z∈r:=List.mem_of_mem_drop (i:=j) (by rw [hd]; exact List.mem_cons_self ..)
            unfold flagsP
            rw [if_neg (hr z hz).2]
        omega
      obtain ⟨w,_,_,_,e,_⟩:=form_back k r pre' x' o xz (fun c hc=>(hr c hc).1) few h1 h2 h3 h6
      exact ⟨w,e⟩
    obtain ⟨y,B,S1⟩:=MB.op S
    have lNy:y.n.2.1=xd.N.length:=by have:=(S1.ows 1 y.n).1; simp only [nums,List.length_map,Nat.mul_one] at this; omega
    have lSy:y.s.2.1=xd.S.length:=by have:=(S1.ows 1 y.s).1; simp only [strs,List.length_map,Nat.mul_one] at this; omega
    have hdn:dn.length<100:=by omega
    unfold qac.L3
    refine ifT (by simp; omega) ⟨by omega,by omega,(bdE _ _).2 ?_⟩
    rw [el]
    refine ifT (by simp only [bne]; rw [e102]; simp [hc.2]) ?_
    unfold qac.j5
    -- a text,or a table
    have txt:∀ (n:Nat) (w:Oct) (x':PM) (xd':PM→PM),n=1∨n=4→c≠116→w.length<256 ^ n→x'.T=[]→x'.N=x.N→(∀ w∈x'.S,w.length<4294967296)→formW k r (pre++octsN n w.length++w,x')=some (o,xz) →
        qac.j7 K (qac.L3 K (r.length+1)) s.1 s.2.1 s.2.2 t2 t8 ff (pre.length:Int) 0 (dn.length:Int) (c.toNat:Int) (n:Int) h:=by
      intro n w x' _ hn h116 hw1 hT1 hN1 hS1 hw2
      obtain ⟨w2,ew⟩:=back hT1 (by rw [hN1]; exact hN) hS1 hw2
      have hta:textAt o pre.length n=some (w,pre.length+n+w.length):=by rw [ew]; exact textAt_mid (by omega) hw1
      unfold qac.j7
      refine rtextS (s:=s) (bs:=o) (a:=pre.length) (n:=n) S1 (by omega) (by rw [ew]; simp) (by omega) (fun e=>by rw [hta] at e; cases e) fun q m d t e he S2=>⟨_,_,_,_,_,rfl,?_⟩
      rw [hta] at he
      cases he
      refine ifF rfl (ifT (by simp only [bne]; rw [e116]; simp [h116]) ⟨_,_,_,S2.rc t8 3 rfl,?_⟩)
      refine str_ok u_sl u_u8 u_str (S2.isl 1 (q,m,d)) ⟨_,rfl,(bdE _ _).2 ?_⟩
      refine St.push1 sl_string S2 t8 3 y.s rfl (by simp) (by omega) (by omega) fun p2 c2 h2 S3=>?_
      have e:strs xd.S++[.string (mkS w)]=strs (xd.S++[w]):=by simp [strs]
      simp only [e,List.set_cons_succ,List.set_cons_zero] at S3
      have en:(pre.length+n+w.length:Nat)=(pre++octsN n w.length++w).length:=by simp [octsN_length]; omega
      rw [en]
      refine next (x':=x') (xd':={ xd with S:=xd.S++[w] }) hT1 (by rw [hN1]; exact hN) hS1 (by simp only; omega) (by simp; omega) hw2 (MB.cl ⟨y.n,(p2,y.s.2.1+1,c2),y.f,y.t⟩ B ?_)
      exact S3.to
    unfold oneW at hw
    simp only at hw
    by_cases h115:c=115
    · rw [if_pos h115] at hw
      cases hs:x.S with
      | nil=>rw [hs] at hw; cases hw
      | cons w W =>
        rw [hs] at hw
        simp only at hw
        by_cases h255:w.length > 255
        · rw [if_pos h255] at hw; cases hw
        rw [if_neg h255,Option.bind_some] at hw
        rw [e115]
        refine (bdE _ _).2 (ifT (by simp [h115]) ?_)
        unfold qac.j6
        refine ifT (by simp [h115]) ?_
        rw [e115]
        exact ifT (by simp [h115]) (txt 1 w { x with S:=W } id (.inl rfl) (by rw [h115]; decide) (by omega) hT rfl (fun z hz=>hS z (by rw [hs]; exact List.mem_cons_of_mem _ hz)) hw)
    · rw [if_neg h115] at hw
      by_cases h108:c=108
      · rw [if_pos h108] at hw
        cases hs:x.S with
        | nil=>rw [hs] at hw; cases hw
        | cons w W =>
          rw [hs] at hw
          simp only [Option.bind_some] at hw
          rw [e115,e108]
          refine (bdE _ _).2 (ifF (by simp [h115]) ((bdE _ _).2 (ifT (by simp [h108]) ?_)))
          unfold qac.j6
          refine ifT (by simp [h108]) ?_
          rw [e115]
          have hl:=hS w (by rw [hs]; exact List.mem_cons_self ..)
          exact ifF (by simp [h115]) (txt 4 w { x with S:=W } id (.inr rfl) (by rw [h108]; decide) (by omega) hT rfl (fun z hz=>hS z (by rw [hs]; exact List.mem_cons_of_mem _ hz)) hw)
      · rw [if_neg h108] at hw
        by_cases h116:c=116
        · rw [if_pos h116,hT] at hw
          have et:tableP []=some []:=by decide +kernel
          rw [et] at hw
          simp only [Option.bind_some,List.append_nil,List.length_nil] at hw
          obtain ⟨w2,ew⟩:=back (x':={ x with T:=[] }) rfl hN hS hw
          have hta:textAt o pre.length 4=some ([],pre.length+4):=by
            have:=textAt_mid (p:=pre) (s:=[]) (q:=w2) (n:=4) (by omega) (by decide)
            simp only [List.append_nil,List.length_nil,Nat.add_zero] at this
            rw [ew]; exact this
          rw [e115,e108,e116]
          refine (bdE _ _).2 (ifF (by simp [h115]) ((bdE _ _).2 (ifF (by simp [h108]) ((bdE _ _).2 ?_))))
          rw [show decide (c=116)=true by simp [h116]]
          unfold qac.j6
          refine ifT rfl ?_
          rw [e115]
          refine ifF (by simp [h115]) ?_
          unfold qac.j7
          refine rtextS (s:=s) (bs:=o) (a:=pre.length) (n:=4) S1 (by omega) (by rw [ew]; simp) (by omega) (fun e=>by rw [hta] at e; cases e) fun q m d t e he S2=>⟨_,_,_,_,_,rfl,?_⟩
          rw [hta] at he
          cases he
          refine ifF rfl (ifF (by simp only [bne]; rw [e116]; simp [h116]) ?_)
          have lm:m=0:=by have:=(S2.isl 1 (q,m,d)).1; simpa [u8s] using this.symm
          subst lm
          refine rreadS S2.tl fun h2 S3=>⟨_,_,_,_,rfl,ifF rfl (S3.put1 t8 5 (by simp) rfl fun h3 S4=>?_)⟩
          simp only [List.set_cons_succ,List.set_cons_zero] at S4
          have en:(pre.length+4:Nat)=(pre++octsN 4 0).length:=by simp [octsN_length]
          rw [en]
          have S5:=tbNil 0 S4
          refine next (x':={ x with T:=[] }) (xd':={ xd with T:=[] }) rfl hN hS (by simp only; omega) (by simp only; omega) hw (MB.cl ⟨y.n,y.s,y.f,(none,0,0)⟩ (fun _=>False) ?_)
          exact S5.to
        · rw [if_neg h116] at hw
          have hd:c=49∨c=50∨c=52∨c=56:=by
            rcases hc.1 with e | e | e | e | e | e | e | e
            · exact absurd e hc.2
            · exact absurd e h115
            · exact absurd e h108
            · exact absurd e h116
            · exact .inl e
            · exact .inr (.inl e)
            · exact .inr (.inr (.inl e))
            · exact .inr (.inr (.inr e))
          have hd8:c.toNat - 48≤8:=by rcases hd with rfl | rfl | rfl | rfl <;> decide
          cases hs:x.N with
          | nil=>rw [hs] at hw; cases hw
          | cons v V =>
            rw [hs] at hw
            simp only at hw
            by_cases hv:c.toNat - 48=8∨v / 256 ^ (c.toNat - 48)=0
            · rw [if_pos hv,Option.bind_some] at hw
              have hv64:=hN v (by rw [hs]; exact List.mem_cons_self ..)
              have hlt:v<256 ^ (c.toNat - 48):=by
                rcases hv with e | e
                · rw [e]; exact hv64
                · exact (Nat.div_eq_zero_iff_lt (Nat.pow_pos (by decide))).1 e
              have hN2:∀ z∈V,z<18446744073709551616:=fun z hz=>hN z (by rw [hs]; exact List.mem_cons_of_mem _ hz)
              obtain ⟨w2,ew⟩:=back (x':={ x with N:=V }) hT hN2 hS hw
              have hna:numAt o pre.length (c.toNat - 48)=some v:=by rw [ew]; exact numAt_mid hd8 hlt
              rw [e115,e108,e116]
              refine (bdE _ _).2 (ifF (by simp [h115]) ((bdE _ _).2 (ifF (by simp [h108]) ((bdE _ _).2 ?_))))
              rw [show decide (c=116)=false by simp [h116]]
              unfold qac.j6
              rw [e102]
              refine ifF rfl ((bdE _ _).2 (ifF (by simp [hc.2]) ?_))
              refine rsizeS hd ⟨_,rfl,?_⟩
              refine refNum.spec (at':=pre.length) (n:=c.toNat - 48) (bs:=o) (isl8 S1 (s:=s) (bs:=o)).1 (by omega) (by rw [ew] at ho; simp at ho; omega) (by omega) (.inl (by rw [ew]; simp)) ?_
              rw [hna]
              refine ⟨_,_,rfl,ifF rfl ⟨_,_,_,S1.rc t8 2 rfl,(bdE _ _).2 ?_⟩⟩
              simp only [Option.getD_some]
              refine St.push1 sl_uint64 S1 t8 2 y.n rfl (by simp) (by omega) (by omega) fun p2 c2 h2 S3=>?_
              have e:nums xd.N++[.int .u64 (v:Int)]=nums (xd.N++[v]):=by simp [nums]
              simp only [e,List.set_cons_succ,List.set_cons_zero] at S3
              refine rsizeS hd ⟨_,rfl,(bdE _ _).2 ?_⟩
              have lp:pre.length≤o.length:=by rw [ew]; simp
              have en:IntKind.i64.wrap ((pre.length:Int)+((c.toNat - 48:Nat):Int))=((pre++octsN (c.toNat - 48) v).length:Int):=by
                rw [wrapI (by omega) (by omega)]; simp [octsN_length]
              rw [en]
              refine next (x':={ x with N:=V }) (xd':={ xd with N:=xd.N++[v] }) hT hN2 hS (by simp; omega) (by simp only; omega) hw (MB.cl ⟨(p2,y.n.2.1+1,c2),y.s,y.f,y.t⟩ B ?_)
              exact S3.to
            · rw [if_neg hv] at hw; cases hw
theorem rmethOfS {s:SV}{o:Oct}{a b:Int}{x:PM}{f:Oct} (S:St L h) [mi:In (fun z=>Im 1 s (u8s z)) L o] (hf:formP (a,b)=some f) (nf:∀ c∈f,c≠102) (hm:methW a b x=some o) (sm:SmM a b x)
    (hK:∀ y h',St L h'→K (.tuple #[.agg (List.toArray (mcells a b y)),.int .i64 0]) h'):CallsH P F.qac [.slice s.1 s.2.1 s.2.2] K h:=by
  refine qac.ok ?_
  unfold qac.p0
  have hl:=sm.len
  rw [hm] at hl
  simp only [Option.getD_some] at hl
  have nice:=formP_nice hf
  have few:fewF f:=forms_few ((a,b),f) (get?_mem hf)
  unfold methW at hm
  rw [hf] at hm
  simp only at hm
  cases hw:formW (f.length+1) f (octsN 2 (nat64 a)++octsN 2 (nat64 b),x) with
  | none=>rw [hw] at hm; cases hm
  | some z =>
    rw [hw] at hm
    simp only at hm
    have ez:z.1=o:=by
      split at hm
      · cases hm; rfl
      · cases hm
    have hN:=sm.N.2
    have hS:∀ w∈x.S,w.length<4294967296:=fun w h=>by have:=sm.S.2 w h; omega
    have hw':formW (f.length+1) f (octsN 2 (nat64 a)++octsN 2 (nat64 b),x)=some (o,z.2):=by rw [hw,← ez]
    obtain ⟨w,_,_,_,ew,_⟩:=form_back _ f _ x o z.2 nice.1 few sm.T hN hS hw'
    have ha:=sm.ha
    have hb:=sm.hb
    have ea:((nat64 a:Nat):Int)=a:=by unfold nat64; omega
    have eb:((nat64 b:Nat):Int)=b:=by unfold nat64; omega
    have n0:numAt o 0 2=some (nat64 a):=by
      have:=numAt_mid (p:=[]) (q:=octsN 2 (nat64 b)++w) (n:=2) (v:=nat64 a) (by omega) (by omega)
      rw [ew,List.append_assoc]; exact this
    have n2:numAt o 2 2=some (nat64 b):=by
      have:=numAt_mid (p:=octsN 2 (nat64 a)) (q:=w) (n:=2) (v:=nat64 b) (by omega) (by omega)
      rw [octsN_length] at this
      rw [ew]; exact this
    have S1:=S.al (mcells 0 0 mnil) T.api_Method
    have eh:∀ h,al h #[.int .i64 0,.int .i64 0,.slice none 0 0,.slice none 0 0,.slice none 0 0,.slice none 0 0] T.api_Method=al h (mcells 0 0 mnil).toArray T.api_Method:=fun _=>rfl
    refine (bdE _ _).2 ?_
    rw [eh]
    generalize al h (mcells 0 0 mnil).toArray T.api_Method=h1 at *
    generalize top h=t2 at *
    have sl:=(isl8 S1 (s:=s) (bs:=o)).1
    have lo4:4≤o.length:=by rw [ew]; simp [octsN_length]; omega
    have q2:∀ {Q:KT},Q (.tuple #[.int .u64 ((nat64 b:Nat):Int),.bool true]) h1→CallsH P F.qbc [.slice s.1 s.2.1 s.2.2,.int .i64 ((2:Nat):Int),.int .i64 ((2:Nat):Int)] Q h1:=by
      intro Q hQ
      refine refNum.spec (at':=2) (n:=2) sl (by omega) (by omega) (by omega) (.inl (by omega)) ?_
      rw [n2]; exact hQ
    have q0:∀ {Q:KT},Q (.tuple #[.int .u64 ((nat64 a:Nat):Int),.bool true]) h1→CallsH P F.qbc [.slice s.1 s.2.1 s.2.2,.int .i64 ((0:Nat):Int),.int .i64 ((2:Nat):Int)] Q h1:=by
      intro Q hQ
      refine refNum.spec (at':=0) (n:=2) sl (by omega) (by omega) (by omega) (.inl (by omega)) ?_
      rw [n0]; exact hQ
    refine q0 ⟨_,_,rfl,q2 ⟨_,_,rfl,ifF' rfl ?_⟩⟩
    unfold qac.j1
    refine ifF rfl ((bdE _ _).2 ?_)
    rw [eh,ea,eb,wrapI (by omega) (by omega),wrapI (by omega) (by omega)]
    have S2:=S1.al (mcells 0 0 mnil) T.api_Method
    refine ⟨rfl,S2.putA (top h1) (ws:=mcells a b mnil) rfl (by simp [one]) fun h2 S3=>?_⟩
    generalize top h1=t8 at *
    refine ⟨_,S3.rc t8 0 rfl,_,S3.rc t8 1 rfl,refForm.spec ?_⟩
    rw [hf]
    refine ⟨_,_,rfl,ifF rfl ⟨f.length+1,?_⟩⟩
    have S4:St (MB t8 a b noM::Bx t2 (mcells 0 0 mnil)::L) h2:=MB.cl mnil (fun _=>False) (((((tbNil 0 S3).owNil 1).owNil 1).owNil 1).p4)
    have l4:((octsN 2 (nat64 a)++octsN 2 (nat64 b)).length:Int)=4:=by simp [octsN_length]
    have:=rd_loop (K:=K) (L:=L) (s:=s) (o:=o) (t2:=t2) (t8:=t8) (a:=a) (b:=b) (ff:=f) (z2:=mcells 0 0 mnil) rfl (by omega) hK f [] (f.length+1) (octsN 2 (nat64 a)++octsN 2 (nat64 b)) x z.2 noM h2 rfl (by have:=nice.2.2; omega) (fun c hc=>⟨nice.1 c hc,nf c hc⟩) (by omega) sm.T hN hS (by simp [noM]) (by simp [noM]) hw' S4
    rw [l4] at this
    exact this
end
end Go.Proofs.YtjapglfpjhljpaaGreat.Pr
end
section
set_option linter.unusedVariables false
set_option linter.unusedSimpArgs false
namespace Go.Proofs.YtjapglfpjhljpaaGreat.Pr
open Go Go.Lift Go.Proofs
section
variable {K:KT}{L R:List Asr}{h:Heap}
theorem stepK {k c:Nat}{A B:Bool→Prop} (ha:k=c→A true) (hb:k≠c→B false):bd ((((k:Nat):Int)==(c:Int)):Bool) fun b=>(b=true→A b)∧(b=false→B b):=by
  refine (bdE _ _).2 ?_
  show ((((k:Nat):Int)==(c:Int))=true→A (((k:Nat):Int)==(c:Int)))∧((((k:Nat):Int)==(c:Int))=false→B (((k:Nat):Int)==(c:Int)))
  by_cases e:k=c
  · rw [show (((k:Nat):Int)==(c:Int))=true by rw [e]; simp]
    exact ⟨fun _=>ha e,fun x=>(by cases x)⟩
  · rw [show (((k:Nat):Int)==(c:Int))=false by simp; omega]
    exact ⟨fun x=>(by cases x),fun _=>hb e⟩
theorem stepL {k c:Nat}{G:Bool→Prop} (ha:k=c→G true) (hb:k≠c→G false):bd ((((k:Nat):Int)==(c:Int)):Bool) fun b=>G b:=by
  refine (bdE _ _).2 ?_
  show G (((k:Nat):Int)==(c:Int))
  by_cases e:k=c
  · rw [show (((k:Nat):Int)==(c:Int))=true by rw [e]; simp]; exact ha e
  · rw [show (((k:Nat):Int)==(c:Int))=false by simp; omega]; exact hb e
abbrev OctK (K:KT) (L:List Asr) (x:CL):Prop:=∀ p l c h',St (Im 1 (p,l,c) (u8s (octP x))::L) h'→K (.slice p l c) h'
theorem leafS {x:CL}{M:List Asr}{a b:Int}{n s f:SV}{m:PM} (S:St M h) [In (Im 1 n) M (nums m.N)] [In (Im 1 s) M (strs m.S)] [In (Im 1 f) M (bools m.F)] [HS:Sub L M] (sm:SmM a b m) (e:octP x=mfr x.cn (a,b,m)) (hK:OctK K L x) :
    CallsH P F.qcg [.int .i64 (x.cn:Int),.agg (List.toArray (mcells a b ⟨n,s,f,(none,0,0)⟩))] (fun v14 h15=>∃ a16 a16l a16c,v14=.slice a16 a16l a16c∧K (.slice a16 a16l a16c) h15) h:=by
  refine meth24T (ch:=x.cn) (n:=n) (s:=s) (f:=f) (x:=m) S (by unfold CL.cn; omega) sm fun p l c h' S'=>⟨_,_,_,rfl,hK p l c h' ?_⟩
  rw [← e] at S'
  exact St.perm ((St.perm S' (HS.ex.choose_spec.cons _)).left (L:=Im 1 (p,l,c) (u8s (octP x))::L) (D:=HS.ex.choose)) (.refl _)
abbrev Bs (t:Addr) (x:CL) (v:SV) (L:List Asr):List Asr:=Bx t (callc x v)::Im 1 (none,0,0) []::Im 1 v (u8s x.body)::L
theorem sm1 {a b z:Int}{fl:List Bool} (ha:0≤a∧a<65536) (hb:0≤b∧b<65536) (hf:fl.length≤20):SmM a b ⟨[u64n z],[],fl,[]⟩:=⟨ha,hb,rfl,⟨by simp,by intro v hv; simp at hv; subst hv; exact u64n_lt _⟩,by simp,hf⟩
theorem sm2 {a b z w:Int}{fl:List Bool} (ha:0≤a∧a<65536) (hb:0≤b∧b<65536) (hf:fl.length≤20):SmM a b ⟨[u64n z,u64n w],[],fl,[]⟩:=⟨ha,hb,rfl,⟨by simp,by intro v hv; simp at hv; rcases hv with rfl | rfl <;> exact u64n_lt _⟩,by simp,hf⟩
theorem bdU {F:Heap→Prop} (S:St L h) (z:Int) (hF:∀ h',St (Im 1 (some (top h),1,1) (nums [u64n z])::L) h'→F h'):bd (al h #[.int .u64 (IntKind.u64.wrap z)] T.uint64) F:=by
  rw [← u64n_eq]
  exact bdN S [u64n z] rfl hF
theorem bdU2 {F:Heap→Prop} (S:St L h) (z w:Int) (hF:∀ h',St (Im 1 (some (top h),2,2) (nums [u64n z,u64n w])::L) h'→F h'):bd (al h #[.int .u64 (IntKind.u64.wrap z),.int .u64 (IntKind.u64.wrap w)] T.uint64) F:=by
  rw [← u64n_eq,← u64n_eq]
  exact bdN S [u64n z,u64n w] rfl hF
theorem fl1 {t:Addr}{cs:List Value}{f0:Int} (S0:St L h) [H:Has (Bx t) L cs R] (hc:cs[3]? = some (.int .i64 f0)) (hK:∀ p l c h',St (Ow 1 (p,l,c) (bools (flB f0 1))::L) h'→K (.slice p l c) h') :
    CallV P (flV t) [.int .i64 1] K h:=flS (n:=1) (by decide) S0 hc hK
end
end Go.Proofs.YtjapglfpjhljpaaGreat.Pr
end
section
set_option linter.unusedVariables false
set_option linter.unusedSimpArgs false
namespace Go.Proofs.YtjapglfpjhljpaaGreat.Pr
open Go Go.Lift Go.Proofs
section
variable {K:KT}{L R:List Asr}{h:Heap}
theorem oct3 {x:CL}{t m:Addr}{v:SV} (S:St (Bx m (hcells (octH x))::Bs t x v L) h) (hk:x.kn≤2) (hK:OctK K L x):qaa.j3 K t (x.cn:Int) x.A x.B m h:=by
  unfold qaa.j3
  have hA:=x.A_len
  have hB:=x.B_len
  have hC:=x.C_len
  have em:octM x=(60,40,⟨[0],[x.A,x.B],[bitsI .and .i64 x.f 1==1,tops x.f==15],[]⟩):=by unfold octM; simp only; rw [if_pos hk]
  have eo:octP x=mfr x.cn (octM x)++contW x.cn (octH x) (x.body.take 11000):=by unfold octP; rw [if_pos hk]
  have sm:SmM 60 40 ⟨[0],[x.A,x.B],[bitsI .and .i64 x.f 1==1,tops x.f==15],[]⟩:=⟨by decide,by decide,rfl,by simp,by simp [hA,hB],by simp⟩
  refine bdN S [0] rfl fun h0 S0=>bdS S0 [x.A,x.B] rfl fun h1 S1=>⟨_,S1.rc t 3 rfl,_,S1.rc t 3 rfl,by decide,bdB S1 [bitsI .and .i64 x.f 1==1,tops x.f==15] rfl fun h2 S2=>?_⟩
  refine meth24T (ch:=x.cn) (a:=60) (b:=40) (n:=(some (top h),1,1)) (s:=(some (top h0),2,2)) (f:=(some (top h1),2,2)) (x:=⟨[0],[x.A,x.B],[bitsI .and .i64 x.f 1==1,tops x.f==15],[]⟩) S2 (by unfold CL.cn; omega) sm fun p l c h3 S3=>⟨_,_,_,rfl,?_⟩
  have S4:St (Im 1 (p,l,c) (u8s (mfr x.cn (octM x)))::Bx m (hcells (octH x))::Bx t (callc x v)::Im 1 v (u8s x.body)::L) h3:=by rw [em]; exact S3.to
  have lb:=Sl.len (isl8 S4 (s:=v) (bs:=x.body)).1
  have lc:=(isl8 S4 (s:=v) (bs:=x.body)).2
  have en:(if (11000:Int)<((v.2.1:Nat):Int) then 11000 else ((v.2.1:Nat):Int))=((min 11000 x.body.length:Nat):Int):=by rw [lb]; split <;> omega
  have inb:inB (if (11000:Int)<((v.2.1:Nat):Int) then 11000 else ((v.2.1:Nat):Int)) v.2.2:=by rw [en]; exact ⟨by omega,by omega⟩
  have lm:(mfr x.cn (octM x)).length≤4096:=by
    unfold mfr
    rw [frW_length,em]
    exact Nat.add_le_add_left sm.len 8
  have cl:CallsH P F.qbg [.slice p l c,.int .i64 (x.cn:Int),.agg (List.toArray (hcells (octH x))),.slice (slA v.1 0 v.2.2 1) (Int.toNat (if (11000:Int)<((v.2.1:Nat):Int) then 11000 else ((v.2.1:Nat):Int))) v.2.2]
      (fun v19 h20=>∃ a21 a21l a21c,v19=.slice a21 a21l a21c∧qaa.j4 K a21 a21l a21c h20) h3:=by
    rw [en,Int.toNat_natCast,slA_zero]
    generalize hn:min 11000 x.body.length=n
    have hn2:n≤x.body.length:=by omega
    have eb:x.body.take 11000=x.body.take n:=by
      by_cases h4:11000≤x.body.length
      · rw [show n=11000 by omega]
      · rw [List.take_of_length_le (by omega),List.take_of_length_le (by omega)]
    have S5:=St.itake S4 v (n:=n) (by omega)
    have e1:(u8s x.body).take n=u8s (x.body.take n):=by simp [u8s,List.map_take]
    rw [e1] at S5
    have S6:St (Im 1 (v.1,n,v.2.2) (u8s (x.body.take n))::Im 1 (p,l,c) (u8s (mfr x.cn (octM x)))::L) h3:=S5.to
    haveI:In (fun b=>Im 1 (v.1,n,v.2.2) (u8s b)) (Im 1 (v.1,n,v.2.2) (u8s (x.body.take n))::Im 1 (p,l,c) (u8s (mfr x.cn (octM x)))::L) (x.body.take n):=In.head
    have hh:(octH x).2.2.length≤255:=by unfold octH; simp only; split <;> simp [hC]
    refine contentS (t:=(p,l,c)) (sb:=(v.1,n,v.2.2)) (bs:=mfr x.cn (octM x)) (body:=x.body.take n) (x:=octH x) (ch:=x.cn) S6 (by unfold CL.cn; omega) (by omega) (by rw [List.length_take]; omega) (by omega) fun p' l' c' h' S7=>⟨_,_,_,rfl,?_⟩
    unfold qaa.j4
    refine hK p' l' c' h' ?_
    rw [eo,eb]
    exact S7.d1.d1
  have S:=S4
  repeat' first
    | exact cl
    | exact inb
    | with_reducible refine And.intro ?_ ?_
    | (with_reducible refine ⟨_,_,_,S.rc t 7 rfl,?_⟩)
    | (with_reducible refine ⟨_,S.rall m 3 rfl,?_⟩)
theorem tm28 (n:Int):Int.tmod (bitsI .and .i64 n 255) 28=(((n % 256).toNat % 28:Nat):Int):=by
  rw [m255,Int.tmod_eq_emod_of_nonneg (by omega)]; omega
theorem tm3 (n:Int):Int.tmod (bitsI .and .i64 n 255) 3=(((n % 256).toNat % 3:Nat):Int):=by
  rw [m255,Int.tmod_eq_emod_of_nonneg (by omega)]; omega
end
end Go.Proofs.YtjapglfpjhljpaaGreat.Pr
end
section
set_option linter.unusedVariables false
set_option linter.unusedSimpArgs false
namespace Go.Proofs.YtjapglfpjhljpaaGreat.Pr
open Go Go.Lift Go.Proofs
section
variable {K:KT}{L R:List Asr}{h:Heap}
theorem smallM_of {n:List Nat}{s:List Oct}{f:List Bool} (h1:n.length<1000000) (h2:∀ v∈n,v<18446744073709551616) (h3:s.length<1000000) (h4:∀ x∈s,x.length<1073741824) (h5:f.length<1000000) (h6:smallP 8 []):smallM ⟨n,s,f,[]⟩:=⟨h1,h2,h3,h4,h5,h6,by simp⟩
theorem smallP0:smallP 8 []:=by unfold smallP; simp
theorem send0S {c:Addr}{s:Cnn}{ch a b:Int} (S:St L h) [H:Has (ConA c) L s R] (hl:((methW a b noM).getD []).length<1073741824)
    (ha:-9223372036854775808≤a∧a<9223372036854775808) (hbb:-9223372036854775808≤b∧b<9223372036854775808) (he:s.ev.length<1073741824)
    (hK:∀ h',St (ConA c (s.send ch (mm0 a b))::R) h'→K (.tuple #[]) h') :
    CallsH P F.qdc [.pointer (some c),.int .i64 ch,.agg (List.toArray (mcells a b mnil))] K h:=by
  have S1:St (Im 1 mnil.n (nums [])::Im 1 mnil.s (strs [])::Im 1 mnil.f (bools [])::Tb (fun _=>False) mnil.t []::L) h:=meNil S
  refine sendS (c:=c) (s:=s) (y:=mnil) (x:=noM) (B:=fun _=>False) S1 (smallM_of (by simp) (by simp) (by simp) (by simp) (by simp) smallP0) hl ha hbb he fun h2 S2=>hK h2 ?_
  exact S2.d1.d1.d1.d1
theorem methP_e {bs:Oct}{e:Nat} (hp:methP bs=.inl e):e=4∨e=5:=by
  unfold methP at hp
  split at hp
  · cases hp; exact .inl rfl
  · split at hp
    · cases hp; exact .inr rfl
    · split at hp <;> cases hp; exact .inl rfl
theorem oneP_S (c:UInt8) (s:RS) (x:PM):∃ t,(oneP c s x).1.S=x.S++t:=by
  unfold oneP
  repeat' split
  · exact ⟨[_],rfl⟩
  · exact ⟨[_],rfl⟩
  · exact ⟨[],(List.append_nil _).symm⟩
  · exact ⟨[],(List.append_nil _).symm⟩
theorem formR_S:∀ (k:Nat) (f:Oct) (s:RS) (x:PM) (ok:Bool),∃ t,(formR k f s x ok).1.S=x.S++t
  | 0,_,_,x,_=>⟨[],by simp [formR]⟩
  | k+1,f,s,x,ok=>by
    unfold formR
    split
    · exact ⟨[],by simp⟩
    · split
      · exact formR_S k _ _ _ _
      · obtain ⟨t1,h1⟩:=oneP_S (f.getD 0 0) s x
        obtain ⟨t2,h2⟩:=formR_S k (f.drop 1) (oneP (f.getD 0 0) s x).2.2 (oneP (f.getD 0 0) s x).1 ((oneP (f.getD 0 0) s x).2.1 && ok)
        exact ⟨t1++t2,by rw [h2,h1,List.append_assoc]⟩
theorem methP_open {bs:Oct}{x:Int × Int × PM} (hp:methP bs=.inr x) (h1:x.1=10) (h2:x.2.1=40):∃ z,x.2.2.S[0]? = some z:=by
  unfold methP at hp
  split at hp
  · cases hp
  · split at hp
    · cases hp
    · rename_i f hf
      split at hp
      · cases hp
      · cases hp
        simp only at h1 h2 ⊢
        rw [h1,h2] at hf
        have ef:f=[115,115,102]:=by
          have e:formP (10,40)=some [115,115,102]:=by decide +kernel
          rw [e] at hf; cases hf; rfl
        subst ef
        generalize (takeP 2 (takeP 2 (bs,false)).2).2=r
        show ∃ z,(formR 4 [115,115,102] r noM true).1.S[0]? = some z
        unfold formR
        rw [if_neg (by simp),if_neg (by decide)]
        obtain ⟨t,ht⟩:=formR_S 3 [115,102] (oneP 115 r noM).2.2 (oneP 115 r noM).1 ((oneP 115 r noM).2.1 && true)
        have e1:(oneP 115 r noM).1.S=[(measP 1 r).1]:=rfl
        rw [e1] at ht
        exact ⟨(measP 1 r).1,by show (formR 3 [115,102] (oneP 115 r noM).2.2 (oneP 115 r noM).1 ((oneP 115 r noM).2.1 && true)).1.S[0]? = _; rw [ht]; rfl⟩
theorem lastS {c:Addr}{s:Cnn}{k ch:Nat}{t:SV}{bs:Oct} (S0:St L h) [H:Has (ConA c) L s R] [mi:In (fun b=>Im 1 t (u8s b)) L bs] (hb:bs.length<1099511627776) (he:s.ev.length<536870912)
    (hK:∀ h',St (ConA c (lastP s k ch bs)::R) h'→K (.tuple #[]) h'):CallsH P F.qbl [.pointer (some c),.agg (List.toArray (fcl k ch t))] K h:=by
  refine qbl.ok ?_
  unfold qbl.p0
  have S1:=S0.al (fcl k ch t) T.api_Frame
  simp only [bd]
  generalize al h (fcl k ch t).toArray T.api_Frame=h1 at *
  generalize top h=f at *
  simp only [rdS (S1.rc f 2 rfl)]
  refine methS (s:=t) (bs:=bs) S1 hb fun y B h2 S2=>⟨_,_,rfl,?_⟩
  have S3:=S2.al (mcells 0 0 mnil) T.api_Method
  refine ⟨rfl,S3.putA (top h2) (ws:=mcells (resM (methP bs)).1 (resM (methP bs)).2.1 y) rfl (by simp [one]) fun h3 S4=>?_⟩
  generalize top h2=m at *
  have S5:St (ConA c s::Bx m (mcells (resM (methP bs)).1 (resM (methP bs)).2.1 y)::Bx f (fcl k ch t)::R) h3:=(S4.get (ConA c)).to
  simp only [rdN (S5.rc f 0 rfl),rdN (S5.rc f 1 rfl),rdN (S5.rc m 0 rfl)]
  have no:lastP s k ch bs=s→qbl.j1 K (some c) m true h3:=by
    intro e
    unfold qbl.j1
    rw [e] at hK
    exact ifT rfl (hK h3 S5.d1.d1)
  by_cases c0:ch=0
  · refine ifF' (by rw [c0]; rfl) ?_
    by_cases k1:k=1
    · refine ifF' (by rw [k1]; rfl) ?_
      cases hp:methP bs with
      | inl e =>
        refine ifT' (by rcases methP_e hp with rfl | rfl <;> rfl) (no (by unfold lastP; rw [hp]))
      | inr x =>
        refine ifF' rfl ?_
        rw [hp] at S5
        simp only [resM] at S5 ⊢
        by_cases h10:x.1=10
        · rw [show (x.1 != 10)=false by rw [h10]; rfl]
          unfold qbl.j1
          refine ifF rfl ?_
          simp only [rdN (S5.rc m 1 rfl),bd]
          have el:lastP s k ch bs=if x.2.1=50 then (s.send 0 (mm0 10 51)).gone else if x.2.1=51 then s.gone else s:=by
            unfold lastP; rw [hp]; simp only; rw [if_neg (by simp [c0,k1,h10])]
          rw [el] at hK
          by_cases h50:x.2.1=50
          · rw [if_pos h50] at hK
            refine ifT (by rw [h50]; rfl) (send0S (c:=c) (s:=s) S5 (by decide +kernel) (by decide) (by decide) (by omega) fun h4 S6=>⟨rfl,?_⟩)
            refine goneS (c:=c) (s:=s.send 0 (mm0 10 51)) S6 (by simp [Cnn.send,Cnn.tell]; omega) fun h5 S7=>⟨rfl,hK h5 S7.d1.d1⟩
          · rw [if_neg h50] at hK
            refine ifF (by simpa using h50) ?_
            by_cases h51:x.2.1=51
            · rw [if_pos h51] at hK
              exact ifT (by rw [h51]; rfl) (goneS (c:=c) (s:=s) S5 (by omega) fun h5 S7=>⟨rfl,hK h5 S7.d1.d1⟩)
            · rw [if_neg h51] at hK
              exact ifF (by simpa using h51) (hK h3 S5.d1.d1)
        · rw [show (x.1 != 10)=true by simpa using h10]
          exact no (by unfold lastP; rw [hp]; simp only; rw [if_pos (.inr (.inr h10))])
    · exact ifT' (by simp; omega) (no (by unfold lastP; cases methP bs <;> simp [k1]))
  · exact ifT' (by simp; omega) (no (by unfold lastP; cases methP bs <;> simp [c0]))
theorem beginS {c:Addr}{s:Cnn}{a b:Int}{y:MV}{x:PM} (S0:St L h) [H:Has (ConA c) L s R] [ms:In (Im 1 y.s) R (strs x.S)] (hS:b=40→∃ z,x.S[0]? = some z) (he:s.ev.length<536870912)
    (hK:∀ h',St (ConA c (beginP s (a,b,x))::R) h'→K (.tuple #[]) h'):CallsH P F.qap [.pointer (some c),.agg (List.toArray (mcells a b y))] K h:=by
  refine qap.ok ?_
  unfold qap.p0
  have S1:=(S0.get (ConA c)).al (mcells a b y) T.api_Method
  simp only [bd]
  generalize al h (mcells a b y).toArray T.api_Method=h1 at *
  generalize top h=m at *
  obtain ⟨bv,ev,xs,ma,me,rows,⟨f1,f2⟩,S2⟩:=ConA.op (S1.get (ConA c))
  have cl:∀ {n:Nat}{h2:Heap},St (Bx c (ccells { s with st:=n } bv ev ma me)::Im 1 bv (u8s s.b)::Ow 17 ev (xs.flatMap evc2)::EvsI xs::Mq kI vA ma (rowA rows)::AsI rows::Mq kI vI me s.ending::Bx m (mcells a b y)::R) h2→St (ConA c { s with st:=n }::R) h2 :=
    fun {n h2} S=>(ConA.cl (s:={ s with st:=n }) bv ev xs ma me rows f1 f2 S).d1
  have S3:St (ConA c s::Bx m (mcells a b y)::R) h1:=S1.to
  simp only [someE,rdN (S2.rc c 0 rfl),rdN (S2.rc m 1 rfl)]
  -- another one
  have j4a:s.st=3→b=40→beginP s (a,b,x)=s.wrong 530 (a,b,x)→qap.j4 K (some c) m true h1:=by
    intro e1 e2 e
    unfold qap.j4
    refine ifT rfl ?_
    simp only [rdN (S2.rc m 0 rfl),rdN (S2.rc m 1 rfl)]
    rw [e] at hK
    exact (wrongCS (c:=c) (s:=s) (y:=mnil) (x:=x) S3 (by omega) fun h2 S4=>⟨rfl,hK h2 S4.d1⟩)
  have j4b:beginP s (a,b,x)=s.wrong 503 (a,b,x)→qap.j4 K (some c) m false h1:=by
    intro e
    unfold qap.j4
    refine ifF rfl ?_
    simp only [rdN (S2.rc m 0 rfl),rdN (S2.rc m 1 rfl)]
    rw [e] at hK
    exact (wrongCS (c:=c) (s:=s) (y:=mnil) (x:=x) S3 (by omega) fun h2 S4=>⟨rfl,hK h2 S4.d1⟩)
  have j3t:beginP s (a,b,x)=Cnn.send { s with st:=4 } 0 (mmS 10 41 [[]])→qap.j3 K (some c) m true h1:=by
    intro e
    unfold qap.j3
    refine ifT rfl ?_
    simp only [someE,bd]
    refine (S2.put1 c 0 (by simp) rfl fun h2 S4=>?_)
    simp only [List.set_cons_zero] at S4
    have S5:=(cl (n:=4) S4).lit [.string (mkS [])] T.string 1 rfl
    have S6:St (Im 1 (some (top h2),1,1) (strs [[]])::ConA c { s with st:=4 }::R) _:=S5
    have S7:=(tbNil 0 ((S6.imNil 1 0).imNil 1 0))
    rw [e] at hK
    refine sendS (c:=c) (s:={ s with st:=4 }) (y:=⟨(none,0,0),(some (top h2),1,1),(none,0,0),(none,0,0)⟩) (x:=⟨[],[[]],[],[]⟩) (B:=fun _=>False) S7 (smallM_of (by simp) (by simp) (by simp) (by simp) (by simp) smallP0) (by decide +kernel) (by decide) (by decide) (by show s.ev.length<_; omega) fun h5 S10=>⟨rfl,?_⟩
    have S11:St (ConA c (Cnn.send { s with st:=4 } 0 (10,41,⟨[],[[]],[],[]⟩))::R) h5:=S10.to
    exact hK h5 S11
  have j3f:(s.st=3→b=40→beginP s (a,b,x)=s.wrong 530 (a,b,x))→(¬ (s.st=3∧b=40)→beginP s (a,b,x)=s.wrong 503 (a,b,x))→qap.j3 K (some c) m false h1:=by
    intro e1 e2
    unfold qap.j3
    refine ifF rfl ?_
    simp only [someE,rdN (S2.rc c 0 rfl),rdN (S2.rc m 1 rfl),bd]
    by_cases h3:s.st=3
    · refine ifT (by rw [h3]; rfl) ?_
      by_cases h40:b=40
      · rw [show (b==40)=true by rw [h40]; rfl]; exact j4a h3 h40 (e1 h3 h40)
      · rw [show (b==40)=false by simpa using h40]; exact j4b (e2 fun z=>h40 z.2)
    · exact ifF (by simp; omega) (j4b (e2 fun z=>h3 z.1))
  have j2f:¬ (s.st=1∧b=11)→¬ (s.st=2∧b=31)→qap.j2 K (some c) m false h1:=by
    intro n1 n2
    unfold qap.j2
    refine ifF rfl ?_
    simp only [someE,rdN (S2.rc c 0 rfl),rdN (S2.rc m 1 rfl),rdS (S2.rc m 3 rfl),bd]
    by_cases h3:s.st=3
    · refine ifT (by rw [h3]; rfl) ?_
      by_cases h40:b=40
      · refine ifT (by rw [h40]; rfl) ?_
        obtain ⟨z,hz⟩:=hS h40
        refine ix (C:=fun w:Oct=>Value.string (mkS w)) (S2.isl 1 y.s) (n:=0) rfl hz ?_
        by_cases h47:z=[47]
        · rw [show (z==[47])=true by rw [h47]; rfl]
          exact j3t (by unfold beginP; simp only; rw [if_neg n1,if_neg n2,if_pos ⟨h3,h40,by rw [hz,h47]⟩])
        · rw [show (z==[47])=false by simpa using h47]
          exact j3f (fun _ _=>by unfold beginP; simp only; rw [if_neg n1,if_neg n2,if_neg (by rw [hz]; simp [h47]),if_pos ⟨h3,h40⟩]) fun e=>absurd ⟨h3,h40⟩ e
      · exact ifF (by simpa using h40) (j3f (fun _ e=>absurd e h40) fun _=>by unfold beginP; simp only; rw [if_neg n1,if_neg n2,if_neg (fun z=>h40 z.2.1),if_neg (fun z=>h40 z.2)])
    · exact ifF (by simp; omega) (j3f (fun e _=>absurd e h3) fun _=>by unfold beginP; simp only; rw [if_neg n1,if_neg n2,if_neg (fun z=>h3 z.1),if_neg (fun z=>h3 z.1)])
  have j1f:¬ (s.st=1∧b=11)→qap.j1 K (some c) m false h1:=by
    intro n1
    unfold qap.j1
    refine ifF rfl ?_
    simp only [someE,rdN (S2.rc c 0 rfl),rdN (S2.rc m 1 rfl),bd]
    by_cases h2:s.st=2
    · refine ifT (by rw [h2]; rfl) ?_
      by_cases h31:b=31
      · rw [show (b==31)=true by rw [h31]; rfl]
        unfold qap.j2
        refine ifT rfl ?_
        simp only [someE]
        refine (S2.put1 c 0 (by simp) rfl fun h3 S4=>?_)
        simp only [List.set_cons_zero] at S4
        have e:beginP s (a,b,x)={ s with st:=3 }:=by unfold beginP; simp only; rw [if_neg n1,if_pos ⟨h2,h31⟩]
        rw [e] at hK
        exact hK h3 (cl (n:=3) S4)
      · rw [show (b==31)=false by simpa using h31]
        exact j2f n1 fun z=>h31 z.2
    · exact ifF (by simp; omega) (j2f n1 fun z=>h2 z.1)
  by_cases h1':s.st=1
  · refine ifT (by rw [h1']; rfl) ?_
    by_cases h11:b=11
    · rw [show (b==11)=true by rw [h11]; rfl]
      unfold qap.j1
      refine ifT rfl ?_
      simp only [someE,bd]
      refine (S2.put1 c 0 (by simp) rfl fun h2 S4=>?_)
      simp only [List.set_cons_zero] at S4
      have S5:=(cl (n:=2) S4).lit [.int .u64 16,.int .u64 4096,.int .u64 0] T.uint64 3 rfl
      have S6:St (Im 1 (some (top h2),3,3) (nums [16,4096,0])::ConA c { s with st:=2 }::R) _:=S5
      have S7:=(tbNil 0 ((S6.imNil 1 0).imNil 1 0))
      have e:beginP s (a,b,x)=Cnn.send { s with st:=2 } 0 (mmN 10 30 [16,4096,0]):=by unfold beginP; simp only; rw [if_pos ⟨h1',h11⟩]
      rw [e] at hK
      refine sendS (c:=c) (s:={ s with st:=2 }) (y:=⟨(some (top h2),3,3),(none,0,0),(none,0,0),(none,0,0)⟩) (x:=⟨[16,4096,0],[],[],[]⟩) (B:=fun _=>False) S7 (smallM_of (by simp) (by simp) (by simp) (by simp) (by simp) smallP0) (by decide +kernel) (by decide) (by decide) (by show s.ev.length<_; omega) fun h5 S10=>⟨rfl,?_⟩
      have S11:St (ConA c (Cnn.send { s with st:=2 } 0 (10,30,⟨[16,4096,0],[],[],[]⟩))::R) h5:=S10.to
      exact hK h5 S11
    · rw [show (b==11)=false by simpa using h11]
      exact j1f fun z=>h11 z.2
  · exact ifF (by simp; omega) (j1f fun z=>h1' z.1)
theorem zeroS {c:Addr}{s:Cnn}{k ch:Nat}{t:SV}{bs:Oct} (S0:St L h) [H:Has (ConA c) L s R] [mi:In (fun b=>Im 1 t (u8s b)) R bs] (hb:bs.length<1099511627776) (he:s.ev.length<536870912)
    (hK:∀ h',St (ConA c (zeroP s k bs)::R) h'→K (.tuple #[]) h'):CallsH P F.qbt [.pointer (some c),.agg (List.toArray (fcl k ch t))] K h:=by
  refine qbt.ok ?_
  unfold qbt.p0
  have S1:=(S0.get (ConA c)).al (fcl k ch t) T.api_Frame
  simp only [bd]
  generalize al h (fcl k ch t).toArray T.api_Frame=h1 at *
  generalize top h=f at *
  simp only [rdN (S1.rc f 0 rfl),rdS (S1.rc f 2 rfl)]
  unfold zeroP at hK
  by_cases k8:k=8
  · rw [if_pos k8] at hK
    exact ifT (by rw [k8]; rfl) (hK h1 S1.tl)
  rw [if_neg k8] at hK
  refine ifF (by simp; omega) ?_
  by_cases k1n:k≠1
  · rw [if_pos k1n] at hK
    exact ifT (by simp; omega) (wrongCS (c:=c) (s:=s) (y:=mnil) (x:=noM) S1 (by omega) fun h2 S2=>⟨rfl,hK h2 S2.d1⟩)
  rw [if_neg k1n] at hK
  have k1:k=1:=by omega
  refine ifF (by rw [k1]; rfl) (methS (s:=t) (bs:=bs) S1 hb fun y B h2 S2=>⟨_,_,rfl,?_⟩)
  have S3:=S2.al (mcells 0 0 mnil) T.api_Method
  refine ⟨rfl,S3.putA (top h2) (ws:=mcells (resM (methP bs)).1 (resM (methP bs)).2.1 y) rfl (by simp [one]) fun h3 S4=>?_⟩
  generalize top h2=m at *
  cases hp:methP bs with
  | inl e =>
    rw [hp] at hK S4
    refine ifT (by rcases methP_e hp with rfl | rfl <;> rfl) ?_
    have S5:St (ConA c s::Bx f (fcl k ch t)::R) h3:=(S4.get (ConA c)).to
    have fin:CallsH P F.qdp [.agg (List.toArray (fcl k ch t))] (fun v18 h19=>∃ cs20,v18=.agg (List.toArray cs20)∧CallsH P F.qct [.pointer (some c),.int .i64 (codeP e:Nat),.agg (List.toArray cs20)] (fun v21 h22=>v21=.tuple #[]∧K (.tuple #[]) h22) h19) h3 :=
      namedFS (k:=k) (ch:=ch) (s:=t) (bs:=bs) S5 hb fun h4 S6=>⟨_,rfl,wrongCS (c:=c) (s:=s) (y:=mnil) (x:=(namedF k bs).2.2) S6 (by omega) fun h5 S7=>⟨rfl,hK h5 S7.d1⟩⟩
    exact ⟨codeS (e:=e) ⟨_,rfl,_,S5.rall f 3 rfl,fin⟩,⟨_,S5.rall f 3 rfl,codeS (e:=e) ⟨_,rfl,fin⟩⟩⟩
  | inr x =>
    rw [hp] at hK S4
    simp only [resM] at S4 ⊢
    refine ifF rfl ?_
    have S5:St (ConA c s::Im 1 y.s (strs x.2.2.S)::Bx m (mcells x.1 x.2.1 y)::Bx f (fcl k ch t)::R) h3:=(S4.get (ConA c)).to
    simp only [rdN (S5.rc m 0 rfl),rdN (S5.rc m 1 rfl)]
    have j1t:x.1=10→x.2.1=50→qbt.j1 K (some c) f m true h3:=by
      intro e1 e2
      unfold qbt.j1
      simp only at hK
      rw [if_pos ⟨e1,e2⟩] at hK
      refine ifT rfl (send0S (c:=c) (s:=s) S5 (by decide +kernel) (by decide) (by decide) (by omega) fun h4 S6=>⟨rfl,?_⟩)
      exact goneS (c:=c) (s:=s.send 0 (mm0 10 51)) S6 (by simp [Cnn.send,Cnn.tell]; omega) fun h5 S7=>⟨rfl,hK h5 S7.d1.d1.d1⟩
    have j1f:¬ (x.1=10∧x.2.1=50)→qbt.j1 K (some c) f m false h3:=by
      intro hn
      unfold qbt.j1
      simp only at hK
      rw [if_neg hn] at hK
      refine ifF rfl ?_
      simp only [rdN (S5.rc m 0 rfl),bd]
      by_cases h10:x.1=10
      · rw [if_pos h10] at hK
        exact ifT (by rw [h10]; rfl) ⟨_,S5.rall m 6 rfl,beginS (c:=c) (s:=s) (y:=y) (x:=x.2.2) S5 (fun e=>methP_open hp h10 e) he fun h4 S6=>⟨rfl,hK h4 S6.d1.d1.d1⟩⟩
      · rw [if_neg h10] at hK
        refine ifF (by simpa using h10) ⟨_,S5.rall f 3 rfl,namedFS (k:=k) (ch:=ch) (s:=t) (bs:=bs) S5 hb fun h4 S6=>⟨_,rfl,wrongCS (c:=c) (s:=s) (y:=mnil) (x:=(namedF k bs).2.2) S6 (by omega) fun h5 S7=>⟨rfl,hK h5 S7.d1.d1.d1⟩⟩⟩
    by_cases h10:x.1=10
    · refine ifT (by rw [h10]; rfl) ?_
      by_cases h50:x.2.1=50
      · rw [show (x.2.1==50)=true by rw [h50]; rfl]; exact j1t h10 h50
      · rw [show (x.2.1==50)=false by simpa using h50]; exact j1f fun z=>h50 z.2
    · exact ifF (by simpa using h10) (j1f fun z=>h10 z.1)
theorem umEnd:P.underlying T.map_int_int=some (.map T.int T.int):=by kernel_rfl
theorem umAsm:P.underlying T.map_int_p_chans_Asm=some (.map T.int T.p_chans_Asm):=by kernel_rfl
theorem endS {c:Addr}{s:Cnn}{k ch:Nat}{t:SV}{bs:Oct} (S0:St L h) [H:Has (ConA c) L s R] [mi:In (fun b=>Im 1 t (u8s b)) R bs] (hb:bs.length<1099511627776) (he:s.ev.length<536870912)
    (hK:∀ h',St (ConA c (endP s k ch bs)::R) h'→K (.tuple #[]) h'):CallsH P F.qbv [.pointer (some c),.agg (List.toArray (fcl k ch t))] K h:=by
  refine qbv.ok ?_
  unfold qbv.p0
  have S1:=(S0.get (ConA c)).al (fcl k ch t) T.api_Frame
  simp only [bd]
  generalize al h (fcl k ch t).toArray T.api_Frame=h1 at *
  generalize top h=f at *
  simp only [rdS (S1.rc f 2 rfl)]
  refine methS (s:=t) (bs:=bs) S1 hb fun y B h2 S2=>⟨_,_,rfl,?_⟩
  have S3:=S2.al (mcells 0 0 mnil) T.api_Method
  refine ⟨rfl,S3.putA (top h2) (ws:=mcells (resM (methP bs)).1 (resM (methP bs)).2.1 y) rfl (by simp [one]) fun h3 S4=>?_⟩
  generalize top h2=m at *
  have S5:St (ConA c s::Bx m (mcells (resM (methP bs)).1 (resM (methP bs)).2.1 y)::Bx f (fcl k ch t)::R) h3:=(S4.get (ConA c)).to
  simp only [rdN (S5.rc f 0 rfl),rdN (S5.rc m 0 rfl)]
  have no:endP s k ch bs=s→qbv.j1 K (some c) f m true h3:=by
    intro e
    unfold qbv.j1
    rw [e] at hK
    exact ifT rfl (hK h3 S5.d1.d1)
  have dl:∀ {s':Cnn}{h4:Heap}{Q:Heap→Prop},St (ConA c s'::Bx m (mcells (resM (methP bs)).1 (resM (methP bs)).2.1 y)::Bx f (fcl k ch t)::R) h4→(∀ h5,St (ConA c { s' with ending:=del s'.ending ch }::R) h5→Q h5) →
      ∃ m15,hcell h4 (c.add 6)=some (.map m15)∧∃ n16,hcell h4 (f.add 1)=some (.int .i64 n16)∧SemH P (Builtin.delete_ #[T.map_int_int,T.int] T.unit #[.map m15,.int .i64 n16]) (fun v17 h18=>Q h18) h4:=by
    intro s' h4 Q S6 hQ
    obtain ⟨bv,ev,xs,ma,me,rows,⟨f1,f2⟩,S7⟩:=ConA.op S6
    refine ⟨_,S7.rc c 6 rfl,_,S7.rc f 1 rfl,?_⟩
    have S8:St (Mq kI vI me s'.ending::Bx c (ccells s' bv ev ma me)::Im 1 bv (u8s s'.b)::Ow 17 ev (xs.flatMap evc2)::EvsI xs::Mq kI vA ma (rowA rows)::AsI rows::R) h4:=S7.to
    refine St.delete klCh umEnd S8 (k:=(ch:Int)) fun h5 S9=>hQ h5 ?_
    exact ConA.cl (s:={ s' with ending:=del s'.ending ch }) bv ev xs ma me rows f1 f2 (St.to S9)
  by_cases k1:k=1
  · refine ifF' (by rw [k1]; rfl) ?_
    cases hp:methP bs with
    | inl e=>exact ifT' (by rcases methP_e hp with rfl | rfl <;> rfl) (no (by unfold endP; rw [hp]))
    | inr x =>
      refine ifF' rfl ?_
      rw [hp] at S5 dl
      simp only [resM] at S5 dl ⊢
      by_cases h20:x.1=20
      · rw [show (x.1 != 20)=false by rw [h20]; rfl]
        unfold qbv.j1
        refine ifF rfl ?_
        simp only [rdN (S5.rc m 1 rfl),bd,someE]
        have el:endP s k ch bs=if x.2.1=40 then { s.send ch (mm0 20 41) with ending:=del s.ending ch } else if x.2.1=41 then { s with ending:=del s.ending ch } else s:=by
          unfold endP; rw [hp]; simp only; rw [if_neg (by simp [k1,h20])]
        rw [el] at hK
        by_cases h40:x.2.1=40
        · rw [if_pos h40] at hK
          refine ifT (by rw [h40]; rfl) ⟨_,S5.rc f 1 rfl,send0S (c:=c) (s:=s) (ch:=ch) S5 (by decide +kernel) (by decide) (by decide) (by omega) fun h4 S6=>⟨rfl,dl S6 fun h5 S7=>hK h5 S7⟩⟩
        · rw [if_neg h40] at hK
          refine ifF (by simpa using h40) ?_
          by_cases h41:x.2.1=41
          · rw [if_pos h41] at hK
            exact ifT (by rw [h41]; rfl) (dl S5 fun h5 S7=>hK h5 S7)
          · rw [if_neg h41] at hK
            exact ifF (by simpa using h41) (hK h3 S5.d1.d1)
      · rw [show (x.1 != 20)=true by simpa using h20]
        exact no (by unfold endP; rw [hp]; simp only; rw [if_pos (.inr h20)])
  · exact ifT' (by simp; omega) (no (by unfold endP; cases methP bs <;> simp [k1]))
end
end Go.Proofs.YtjapglfpjhljpaaGreat.Pr
end
section
set_option linter.unusedVariables false
set_option linter.unusedSimpArgs false
namespace Go.Proofs.YtjapglfpjhljpaaGreat.Pr
open Go Go.Lift Go.Proofs
abbrev rowC (rows:List (Int × Addr × CA)):List (Int × CA):=rows.map fun r=>(r.1,r.2.2)
section
variable {K:KT}{L R:List Asr}{h:Heap}
theorem AsI.mid:∀ {pre post:List (Int × Addr × CA)}{x:Int × Addr × CA}{L:List Asr},St (AsI (pre++x::post)::L) h→St (AsmA x.2.1 x.2.2::AsI (pre++post)::L) h
  | [],post,x,L,S=>St.split (A:=AsmA x.2.1 x.2.2) (B:=AsI post) S
  | y::pre,post,x,L,S=>by
    have S1:St (AsmA y.2.1 y.2.2::AsI (pre++x::post)::L) h:=St.split (A:=AsmA y.2.1 y.2.2) (B:=AsI (pre++x::post)) S
    have S2:=AsI.mid S1.p1
    have S3:St (AsmA y.2.1 y.2.2::AsI (pre++post)::AsmA x.2.1 x.2.2::L) h:=S2.to
    exact (St.join (A:=AsmA y.2.1 y.2.2) (B:=AsI (pre++post)) S3).p1
theorem AsI.unmid:∀ {pre post:List (Int × Addr × CA)}{x:Int × Addr × CA}{L:List Asr},St (AsmA x.2.1 x.2.2::AsI (pre++post)::L) h→St (AsI (pre++x::post)::L) h
  | [],post,x,L,S=>St.join (A:=AsmA x.2.1 x.2.2) (B:=AsI post) S
  | y::pre,post,x,L,S=>by
    have S1:St (AsmA y.2.1 y.2.2::AsI (pre++post)::AsmA x.2.1 x.2.2::L) h:=St.split (A:=AsmA y.2.1 y.2.2) (B:=AsI (pre++post)) S.p1
    have S2:St (AsmA x.2.1 x.2.2::AsI (pre++post)::AsmA y.2.1 y.2.2::L) h:=S1.to
    have S3:=AsI.unmid S2
    exact St.join (A:=AsmA y.2.1 y.2.2) (B:=AsI (pre++x::post)) S3.p1
theorem rows_split:∀ {rows:List (Int × Addr × CA)}{ch:Int}{a:Addr},get? (rowA rows) ch=some a→∃ pre ca post,rows=pre++(ch,a,ca)::post∧ch ∉ pre.map (·.1)
  | [],ch,a,e=>by simp [get?,fnd] at e
  | y::r,ch,a,e=>by
    by_cases hk:ch=y.1
    · have:get? (rowA (y::r)) ch=some y.2.1:=by
        unfold get? fnd; simp [hk]
      rw [this] at e
      cases e
      exact ⟨[],y.2.2,r,by rw [hk]; rfl,by simp⟩
    · have e2:get? (rowA r) ch=some a:=by
        rw [← e]
        show get? (rowA r) ch=get? ((y.1,y.2.1)::rowA r) ch
        have g:∀ (l:List (Int × Addr)) (i j:Nat),(fnd l ch i).map (·.2)=(fnd l ch j).map (·.2):=by
          intro l
          induction l with
          | nil=>intros; rfl
          | cons z l ih=>intro i j; unfold fnd; split; rfl; exact ih _ _
        unfold get?
        conv=>rhs; unfold fnd
        rw [if_neg hk]
        exact g _ _ _
      obtain ⟨pre,ca,post,h1,h2⟩:=rows_split e2
      exact ⟨y::pre,ca,post,by rw [h1]; rfl,by simp [h2]; exact fun e=>hk e⟩
theorem upd_mid:∀ {pre post:List (Int × Addr × CA)}{ch:Int}{a:Addr}{ca ca':CA},ch ∉ pre.map (·.1)→upd (rowC (pre++(ch,a,ca)::post)) ch ca'=rowC (pre++(ch,a,ca')::post)
  | [],post,ch,a,ca,ca',_=>by show upd ((ch,ca)::rowC post) ch ca'=_; unfold upd; rw [if_pos rfl]; rfl
  | y::pre,post,ch,a,ca,ca',hn=>by
    have hk:ch≠y.1:=fun e=>hn (by simp [e])
    show upd ((y.1,y.2.2)::rowC (pre++(ch,a,ca)::post)) ch ca'=_
    unfold upd
    rw [if_neg hk,upd_mid (fun e=>hn (by simp at e ⊢; exact .inr e))]
    rfl
theorem AsI.del:∀ {rows:List (Int × Addr × CA)}{ch:Int}{L:List Asr},St (AsI rows::L) h→∃ rows2,rowA rows2=del (rowA rows) ch∧rowC rows2=del (rowC rows) ch∧St (AsI rows2::L) h
  | [],ch,L,S=>⟨[],rfl,rfl,S⟩
  | y::r,ch,L,S=>by
    have S1:St (AsmA y.2.1 y.2.2::AsI r::L) h:=St.split (A:=AsmA y.2.1 y.2.2) (B:=AsI r) S
    by_cases hk:ch=y.1
    · refine ⟨r,?_,?_,S1.tl⟩
      · show rowA r=Lift.del ((y.1,y.2.1)::rowA r) ch
        unfold Lift.del; rw [if_pos hk]
      · show rowC r=Lift.del ((y.1,y.2.2)::rowC r) ch
        unfold Lift.del; rw [if_pos hk]
    · obtain ⟨r2,h1,h2,S2⟩:=AsI.del (ch:=ch) S1.p1
      refine ⟨y::r2,?_,?_,St.join (A:=AsmA y.2.1 y.2.2) (B:=AsI r2) S2.p1⟩
      · show (y.1,y.2.1)::rowA r2=Lift.del ((y.1,y.2.1)::rowA r) ch
        unfold Lift.del; rw [if_neg hk,h1]
      · show (y.1,y.2.2)::rowC r2=Lift.del ((y.1,y.2.2)::rowC r) ch
        unfold Lift.del; rw [if_neg hk,h2]
theorem hardS {n:Nat} (hK:K (.bool (hardP n)) h):CallsH P F.qec [.int .i64 (n:Int)] K h:=by
  refine qec.ok ?_
  unfold qec.p0
  unfold hardP at hK
  simp only [bd]
  have e540:∀ {q:Prop} [Decidable q],(q↔(n:Int)=540)→K (.bool (decide q)) h→K (.bool ((n:Int)==540)) h:=by
    intro q _ hq hk
    rw [show ((n:Int)==540)=decide q by rw [Bool.eq_iff_iff]; simp [hq]]
    exact hk
  by_cases h1:501≤n
  · refine ifT (by simp; omega) ?_
    by_cases h6:n≤506
    · rw [show decide (501≤n∧n≤506∨n=530∨n=540)=true by simp; omega] at hK
      exact ifT' (by simp; omega) hK
    · refine ifF' (by simp; omega) ?_
      by_cases h530:n=530
      · rw [show decide (501≤n∧n≤506∨n=530∨n=540)=true by simp; omega] at hK
        exact ifT' (by rw [h530]; rfl) hK
      · exact ifF' (by simp; omega) (e540 (by omega) hK)
  · refine ifF (by simp; omega) ?_
    by_cases h530:n=530
    · omega
    · exact ifF' (by simp; omega) (e540 (by omega) hK)
theorem bld_evA':(fun (a b:Int) (c d e f g i j k l m n:Value)=>Instr.fill (Lift.places P (P.underlying T.api_Event)) (zcl P T.api_Event) [(0,.int .i64 a),(1,.int .i64 b),(3,.agg (List.toArray [c,d,e,f,g,i,j,k,l,m,n]))])=fun a b c d e f g i j k l m n=>some (List.toArray [.int .i64 a,.int .i64 b,.slice none 0 0,c,d,e,f,g,i,j,k,l,m,n,.int .i64 0,.int .i64 0,.int .i64 0]):=by kernel_rfl
theorem bld_evA (a b:Int) (c d e f g i j k l m n:Value):bld P T.api_Event [(0,.int .i64 a),(1,.int .i64 b),(3,.agg (List.toArray [c,d,e,f,g,i,j,k,l,m,n]))] [.int .i64 a,.int .i64 b,.slice none 0 0,c,d,e,f,g,i,j,k,l,m,n,.int .i64 0,.int .i64 0,.int .i64 0] :=
  congrFun (congrFun (congrFun (congrFun (congrFun (congrFun (congrFun (congrFun (congrFun (congrFun (congrFun (congrFun (congrFun bld_evA' a) b) c) d) e) f) g) i) j) k) l) m) n
theorem askCS {c:Addr}{s:Cnn}{k ch:Nat}{t:SV}{bs:Oct}{a:Addr}{bv ev:SV}{xs:List (EV × QV)}{ma me:Nat}{pre post:List (Int × Addr × CA)}{ca:CA} (f1:bv=s.bv∧xs.map Prod.fst=s.ev) (f2:rowC (pre++((ch:Int),a,ca)::post)=s.asms) (f3:(ch:Int) ∉ pre.map (·.1))
    (S0:St (Bx c (ccells s bv ev ma me)::Im 1 bv (u8s s.b)::Ow 17 ev (xs.flatMap evc2)::EvsI xs::Mq kI vA ma (rowA (pre++((ch:Int),a,ca)::post))::AsI (pre++((ch:Int),a,ca)::post)::Mq kI vI me s.ending::R) h)
    [mi:In (fun b=>Im 1 t (u8s b)) R bs] (hb:bs.length<1099511627776) (he:s.ev.length<536870912) (hc:ca.body.length<1099511627776) (hh:ca.w=2→ca.hd.1<1099511627776)
    (hK:∀ h',St (ConA c (askP s ch ca k bs)::R) h'→K (.tuple #[]) h'):CallsH P F.qat [.pointer (some c),.int .i64 (ch:Int),.pointer (some a),.agg (List.toArray (fcl k ch t))] K h:=by
  refine qat.ok ?_
  unfold qat.p0
  have S1:=S0.al (fcl k ch t) T.api_Frame
  simp only [bd]
  generalize al h (fcl k ch t).toArray T.api_Frame=h1 at *
  generalize top h=f at *
  refine ⟨_,S1.rall f 3 rfl,?_⟩
  have S2:St (AsI (pre++((ch:Int),a,ca)::post)::Bx c (ccells s bv ev ma me)::Im 1 bv (u8s s.b)::Ow 17 ev (xs.flatMap evc2)::EvsI xs::Mq kI vA ma (rowA (pre++((ch:Int),a,ca)::post))::Mq kI vI me s.ending::Bx f (fcl k ch t)::R) h1:=S1.to
  have S3:=AsI.mid S2
  refine frameS (a:=a) (c:=ca) (kind:=k) (ch:=ch) (s:=t) (bs:=bs) S3 hb hc hh ?_
  intro y B bv2 h2 S4
  refine ⟨_,_,rfl,?_⟩
  generalize hr:frameR k bs ca=r at *
  have S5:=(show St (AsmA a r.2.2::AsI (pre++post)::Im 1 y.n (nums r.1.m.2.2.N)::Im 1 y.s (strs r.1.m.2.2.S)::Im 1 y.f (bools r.1.m.2.2.F)::Tb B y.t r.1.m.2.2.T::Ow 1 bv2 (u8s r.1.body)::Bx c (ccells s bv ev ma me)::Im 1 bv (u8s s.b)::Ow 17 ev (xs.flatMap evc2)::EvsI xs::Mq kI vA ma (rowA (pre++((ch:Int),a,ca)::post))::Mq kI vI me s.ending::Bx f (fcl k ch t)::R) h2 from S4.to)
  have S6:=AsI.unmid (x:=((ch:Int),a,r.2.2)) S5
  have er:rowA (pre++((ch:Int),a,ca)::post)=rowA (pre++((ch:Int),a,r.2.2)::post):=by simp
  rw [er] at S6
  have S7:St (ConA c { s with asms:=upd s.asms ch r.2.2 }::EvI ⟨2,ch,[],r.1,0,0,0⟩ ⟨nosv,y,bv2⟩::Bx f (fcl k ch t)::R) h2:=by
    have S8:St (Ow 1 nosv (u8s [])::Im 1 y.n (nums r.1.m.2.2.N)::Im 1 y.s (strs r.1.m.2.2.S)::Im 1 y.f (bools r.1.m.2.2.F)::Tb B y.t r.1.m.2.2.T::Ow 1 bv2 (u8s r.1.body)::Bx c (ccells s bv ev ma me)::Im 1 bv (u8s s.b)::Ow 17 ev (xs.flatMap evc2)::EvsI xs::Mq kI vA ma (rowA (pre++((ch:Int),a,r.2.2)::post))::AsI (pre++((ch:Int),a,r.2.2)::post)::Mq kI vI me s.ending::Bx f (fcl k ch t)::R) h2:=(show St (Ow 1 nosv (u8s [])::_) h2 from S6.owNil 1).to
    have S9:St (EvI ⟨2,ch,[],r.1,0,0,0⟩ ⟨nosv,y,bv2⟩::Bx c (ccells s bv ev ma me)::Im 1 bv (u8s s.b)::Ow 17 ev (xs.flatMap evc2)::EvsI xs::Mq kI vA ma (rowA (pre++((ch:Int),a,r.2.2)::post))::AsI (pre++((ch:Int),a,r.2.2)::post)::Mq kI vI me s.ending::Bx f (fcl k ch t)::R) h2:=St.ex' B (St.close (As:=[_,_,_,_,_,_]) S8)
    have S10:St (Bx c (ccells s bv ev ma me)::Im 1 bv (u8s s.b)::Ow 17 ev (xs.flatMap evc2)::EvsI xs::Mq kI vA ma (rowA (pre++((ch:Int),a,r.2.2)::post))::AsI (pre++((ch:Int),a,r.2.2)::post)::Mq kI vI me s.ending::EvI ⟨2,ch,[],r.1,0,0,0⟩ ⟨nosv,y,bv2⟩::Bx f (fcl k ch t)::R) h2:=S9.to
    exact ConA.cl (s:={ s with asms:=upd s.asms ch r.2.2 }) bv ev xs ma me _ f1 (by rw [← f2]; exact (upd_mid f3).symm) S10
  have S8:=S7.al zeros T.api_Ask
  have eh:al h2 #[.bool false,.int .i64 0,.int .i64 0,.slice none 0 0,.slice none 0 0,.slice none 0 0,.slice none 0 0,.int .u64 0,.int .i64 0,.string (mkS ([]:List UInt8)),.slice none 0 0] T.api_Ask=al h2 zeros.toArray T.api_Ask:=rfl
  rw [eh]
  generalize al h2 zeros.toArray T.api_Ask=h3 at *
  generalize top h2=x at *
  refine ⟨rfl,S8.putA x (ws:=askc r.1 y bv2) rfl (by simp [one]) fun h4 S9=>?_⟩
  refine (S9.get (Bx x)).rdP 1 (n:=6) (by simp) ?_
  have S10:=S9.al (mcells 0 0 mnil) T.api_Method
  have eh2:al h4 #[.int .i64 0,.int .i64 0,.slice none 0 0,.slice none 0 0,.slice none 0 0,.slice none 0 0] T.api_Method=al h4 (mcells 0 0 mnil).toArray T.api_Method:=rfl
  rw [eh2]
  generalize al h4 (mcells 0 0 mnil).toArray T.api_Method=h5 at *
  generalize top h4=m at *
  refine ⟨rfl,S10.putA m (ws:=mcells r.1.m.1 r.1.m.2.1 y) rfl (by simp [one]) fun h6 S11=>?_⟩
  have S12:St (ConA c { s with asms:=upd s.asms ch r.2.2 }::EvI ⟨2,ch,[],r.1,0,0,0⟩ ⟨nosv,y,bv2⟩::Bx x (askc r.1 y bv2)::Bx m (mcells r.1.m.1 r.1.m.2.1 y)::Bx f (fcl k ch t)::R) h6:=S11.to
  generalize hs1:({ s with asms:=upd s.asms ch r.2.2 }:Cnn)=s1 at *
  have he1:s1.ev.length<536870912:=by rw [← hs1]; exact he
  have ed:askP s ch ca k bs=if r.2.1≠0 then (if hardP r.2.1 then s1.closing else s1).tell ⟨7,ch,[],ak0,r.2.1,r.1.m.1,r.1.m.2.1⟩
      else if r.1.rd=false then s1
      else if r.1.m.1=20∧r.1.m.2.1=10 then s1.wrong 504 (namedF k bs)
      else if r.1.m.1=10∨r.1.m.1=20∧r.1.m.2.1=41 then s1.wrong 503 (namedF k bs)
      else if r.1.m.1=20∧r.1.m.2.1=40 then Cnn.tell { s1.send ch (mm0 20 41) with asms:=del s1.asms ch } (evCh 4 ch)
      else s1.tell ⟨2,ch,[],r.1,0,0,0⟩:=by unfold askP; rw [hr,← hs1]
  rw [ed] at hK
  have j1:∀ {s2:Cnn}{h7:Heap},s2.ev.length<536870912→St (ConA c s2::EvI ⟨2,ch,[],r.1,0,0,0⟩ ⟨nosv,y,bv2⟩::Bx x (askc r.1 y bv2)::Bx m (mcells r.1.m.1 r.1.m.2.1 y)::Bx f (fcl k ch t)::R) h7→askP s ch ca k bs=s2.tell ⟨7,ch,[],ak0,r.2.1,r.1.m.1,r.1.m.2.1⟩→qat.j1 K (some c) (ch:Int) (r.2.1:Nat) m h7:=by
    intro s2 h7 hl S13 e
    unfold qat.j1
    simp only [rdN (S13.rc m 0 rfl),rdN (S13.rc m 1 rfl)]
    rw [← ed,e] at hK
    exact tellS (c:=c) (s:=s2) (e:=⟨7,ch,[],ak0,r.2.1,r.1.m.1,r.1.m.2.1⟩) (q:=qnil) (evI_nil rfl rfl S13) (by omega) fun h8 S14=>⟨rfl,hK h8 S14.d1.d1.d1.d1⟩
  by_cases hn:r.2.1≠0
  · refine ifT (by simp; omega) (hardS ⟨_,rfl,?_⟩)
    cases hh2:hardP r.2.1 with
    | true=>exact ifT rfl (closingS (c:=c) (s:=s1) S12 fun h7 S13=>⟨rfl,j1 (s2:=s1.closing) he1 S13 (by rw [ed,if_pos hn,hh2]; rfl)⟩)
    | false=>exact ifF rfl (j1 he1 S12 (by rw [ed,if_pos hn,hh2]; rfl))
  rw [if_neg hn] at hK
  refine ifF (by simp; omega) ?_
  simp only [rdB (S12.rc x 0 rfl)]
  cases hrd:r.1.rd with
  | false =>
    rw [if_pos hrd] at hK
    exact ifT rfl (hK h6 S12.d1.d1.d1.d1)
  | true =>
  rw [if_neg (by rw [hrd]; simp)] at hK
  refine ifF rfl ?_
  simp only [rdN (S12.rc m 0 rfl),rdN (S12.rc m 1 rfl)]
  have S13:St (ConA c s1::Bx f (fcl k ch t)::R) h6:=S12.to
  have nm:∀ {n:Nat},(∀ h',St (ConA c (s1.wrong n (namedF k bs))::R) h'→K (.tuple #[]) h')→CallsH P F.qdp [.agg (List.toArray (fcl k ch t))] (fun v25 h26=>∃ cs27,v25=.agg (List.toArray cs27)∧CallsH P F.qct [.pointer (some c),.int .i64 (n:Int),.agg (List.toArray cs27)] (fun v28 h29=>v28=.tuple #[]∧K (.tuple #[]) h29) h26) h6 :=
    fun {n} hK=>namedFS (k:=k) (ch:=ch) (s:=t) (bs:=bs) S13 hb fun h7 S14=>⟨_,rfl,wrongCS (c:=c) (s:=s1) (y:=mnil) (x:=(namedF k bs).2.2) S14 (by omega) fun h8 S15=>⟨rfl,hK h8 S15.d1⟩⟩
  have j4t:r.1.m.1=20→r.1.m.2.1=40→qat.j4 K (some c) (ch:Int) x true h6:=by
    intro e1 e2
    unfold qat.j4
    rw [if_neg (by rw [e1,e2]; decide),if_neg (by rw [e1,e2]; decide),if_pos ⟨e1,e2⟩] at hK
    refine ifT rfl (send0S (c:=c) (s:=s1) (ch:=ch) S13 (by decide +kernel) (by decide) (by decide) (by omega) fun h7 S14=>⟨rfl,c,rfl,?_⟩)
    obtain ⟨bv',ev',xs',ma',me',rows',⟨g1,g2⟩,S15⟩:=ConA.op S14
    refine ⟨_,S15.rc c 5 rfl,?_⟩
    have S16:St (Mq kI vA ma' (rowA rows')::AsI rows'::Bx c (ccells (s1.send ch (mm0 20 41)) bv' ev' ma' me')::Im 1 bv' (u8s (s1.send ch (mm0 20 41)).b)::Ow 17 ev' (xs'.flatMap evc2)::EvsI xs'::Mq kI vI me' (s1.send ch (mm0 20 41)).ending::R) h7:=S15.to
    refine St.delete klCh umAsm S16 (k:=(ch:Int)) fun h8 S17=>?_
    obtain ⟨rows2,r1,r2,S18⟩:=AsI.del (ch:=(ch:Int)) S17.p1
    have S19:St (ConA c { s1.send ch (mm0 20 41) with asms:=del s1.asms ch }::R) h8:=by
      refine ConA.cl (s:={ s1.send ch (mm0 20 41) with asms:=del s1.asms ch }) bv' ev' xs' ma' me' rows2 g1 (by show rowC rows2=del s1.asms ch; rw [r2,show rowC rows'=s1.asms from g2]) ?_
      rw [← r1] at S18
      exact St.to S18
    exact tellS (c:=c) (s:={ s1.send ch (mm0 20 41) with asms:=del s1.asms ch }) (e:=evCh 4 ch) (q:=qnil) (evI_nil rfl rfl S19) (by simp [Cnn.send,Cnn.tell]; omega) fun h9 S20=>⟨rfl,hK h9 S20⟩
  have j4f:¬ (r.1.m.1=20∧r.1.m.2.1=10)→¬ (r.1.m.1=10∨r.1.m.1=20∧r.1.m.2.1=41)→¬ (r.1.m.1=20∧r.1.m.2.1=40)→qat.j4 K (some c) (ch:Int) x false h6:=by
    intro n1 n2 n3
    unfold qat.j4
    rw [if_neg n1,if_neg n2,if_neg n3] at hK
    have S14:St (EvI ⟨2,ch,[],r.1,0,0,0⟩ ⟨nosv,y,bv2⟩::ConA c s1::Bx x (askc r.1 y bv2)::Bx m (mcells r.1.m.1 r.1.m.2.1 y)::Bx f (fcl k ch t)::R) h6:=S12.to
    exact ifF rfl ⟨_,S12.rall x 11 rfl,_,bld_evA _ _ _ _ _ _ _ _ _ _ _ _ _,tellS (c:=c) (s:=s1) (e:=⟨2,ch,[],r.1,0,0,0⟩) (q:=⟨nosv,y,bv2⟩) S14 (by omega) fun h9 S15=>⟨rfl,hK h9 S15.d1.d1.d1⟩⟩
  have j3t:¬ (r.1.m.1=20∧r.1.m.2.1=10)→(r.1.m.1=10∨r.1.m.1=20∧r.1.m.2.1=41)→qat.j3 K (some c) (ch:Int) f x m true h6:=by
    intro n1 n2
    unfold qat.j3
    rw [if_neg n1,if_pos n2] at hK
    exact ifT rfl ⟨_,S12.rall f 3 rfl,nm (n:=503) hK⟩
  have j3f:¬ (r.1.m.1=20∧r.1.m.2.1=10)→¬ (r.1.m.1=10∨r.1.m.1=20∧r.1.m.2.1=41)→qat.j3 K (some c) (ch:Int) f x m false h6:=by
    intro n1 n2
    unfold qat.j3
    refine ifF rfl ?_
    simp only [rdN (S12.rc m 0 rfl),rdN (S12.rc m 1 rfl),bd]
    by_cases h20:r.1.m.1=20
    · refine ifT (by rw [h20]; rfl) ?_
      by_cases h40:r.1.m.2.1=40
      · rw [show (r.1.m.2.1==40)=true by rw [h40]; rfl]; exact j4t h20 h40
      · rw [show (r.1.m.2.1==40)=false by simpa using h40]; exact j4f n1 n2 fun z=>h40 z.2
    · exact ifF (by simpa using h20) (j4f n1 n2 fun z=>h20 z.1)
  have j2t:(r.1.m.1=20∧r.1.m.2.1=10)→qat.j2 K (some c) (ch:Int) f x m true h6:=by
    intro n1
    unfold qat.j2
    rw [if_pos n1] at hK
    exact ifT rfl ⟨_,S12.rall f 3 rfl,nm (n:=504) hK⟩
  have j2f:¬ (r.1.m.1=20∧r.1.m.2.1=10)→qat.j2 K (some c) (ch:Int) f x m false h6:=by
    intro n1
    unfold qat.j2
    refine ifF rfl ?_
    simp only [rdN (S12.rc m 0 rfl),rdN (S12.rc m 1 rfl),bd]
    by_cases h10:r.1.m.1=10
    · exact ifT' (by rw [h10]; rfl) (j3t n1 (.inl h10))
    · refine ifF' (by simpa using h10) ?_
      by_cases h20:r.1.m.1=20
      · refine ifT (by rw [h20]; rfl) ?_
        by_cases h41:r.1.m.2.1=41
        · rw [show (r.1.m.2.1==41)=true by rw [h41]; rfl]; exact j3t n1 (.inr ⟨h20,h41⟩)
        · rw [show (r.1.m.2.1==41)=false by simpa using h41]; exact j3f n1 fun z=>z.elim h10 fun z=>h41 z.2
      · exact ifF (by simpa using h20) (j3f n1 fun z=>z.elim h10 fun z=>h20 z.1)
  by_cases h20:r.1.m.1=20
  · refine ifT (by rw [h20]; rfl) ?_
    by_cases h10:r.1.m.2.1=10
    · rw [show (r.1.m.2.1==10)=true by rw [h10]; rfl]; exact j2t ⟨h20,h10⟩
    · rw [show (r.1.m.2.1==10)=false by simpa using h10]; exact j2f fun z=>h10 z.2
  · exact ifF (by simpa using h20) (j2f fun z=>h20 z.1)
end
end Go.Proofs.YtjapglfpjhljpaaGreat.Pr
end
section
set_option linter.unusedVariables false
set_option linter.unusedSimpArgs false
namespace Go.Proofs.YtjapglfpjhljpaaGreat.Pr
open Go Go.Lift Go.Proofs
def AOk (a:CA):Prop:=(a.w≠2→a.body=[])∧(a.w=2→a.hd.1≤10000∧a.body.length≤a.hd.1)
theorem AOk.zero:AOk ca0:=⟨fun _=>rfl,fun h=>absurd h (by decide)⟩
theorem AOk.step {a:CA} (o:AOk a) (k:Int) (b:Oct):AOk (frameR k b a).2.2:=by
  have wr:∀ n m,AOk (wrongR n m a).2.2:=fun _ _=>AOk.zero
  unfold frameR
  split
  · unfold methodR
    split
    · exact wr _ _
    · split
      · exact wr _ _
      · split
        · exact ⟨fun _=>rfl,fun h=>absurd h (by simp)⟩
        · exact AOk.zero
  · split
    · unfold headR
      split
      · exact wr _ _
      · rename_i hw
        split
        · exact wr _ _
        · rename_i x hx
          split
          · exact wr _ _
          · rename_i h1
            split
            · exact AOk.zero
            · have e:a.body=[]:=o.1 (by omega)
              exact ⟨fun h=>absurd rfl h,fun _=>⟨by simp; omega,by simp [e]⟩⟩
    · split
      · unfold bodyR
        split
        · exact wr _ _
        · rename_i hw
          split
          · exact wr _ _
          · rename_i h1
            split
            · exact AOk.zero
            · have:=o.2 (by omega)
              exact ⟨fun h=>absurd (show a.w=2 by omega) h,fun _=>⟨this.1,by simp; omega⟩⟩
      · exact wr _ _
theorem AOk.body {a:CA} (o:AOk a):a.body.length<1099511627776:=by
  by_cases h:a.w=2
  · have:=o.2 h; omega
  · rw [o.1 h]; simp
theorem AOk.hd {a:CA} (o:AOk a) (h:a.w=2):a.hd.1<1099511627776:=by have:=o.2 h; omega
theorem get?_nk {ν:Type}:∀ {l:List (Int × ν)}{k:Int},get? l k=none↔k ∉ l.map (·.1):=by
  have g:∀ (l:List (Int × ν)) (k:Int) (i:Nat),fnd l k i=none↔k ∉ l.map (·.1):=by
    intro l k
    induction l with
    | nil=>intro i; simp [fnd]
    | cons z l ih =>
      intro i
      unfold fnd
      by_cases hk:k=z.1
      · rw [if_pos hk]; simp [hk]
      · rw [if_neg hk,ih (i+1)]; simp [hk]
  intro l k
  have:=g l k 0
  unfold get?
  cases hf:fnd l k 0 with
  | none=>exact ⟨fun _=>this.1 hf,fun _=>rfl⟩
  | some x=>simp; rw [hf] at this; simpa using this
theorem upd_new {ν:Type}:∀ {l:List (Int × ν)}{k:Int}{v:ν},k ∉ l.map (·.1)→upd l k v=l++[(k,v)]
  | [],k,v,_=>rfl
  | y::r,k,v,hn=>by
    have hk:k≠y.1:=fun e=>hn (by simp [e])
    show upd (y::r) k v=_
    unfold upd
    rw [if_neg hk,upd_new (fun e=>hn (by simp at e ⊢; exact .inr e))]
    rfl
theorem rows_keys (rows:List (Int × Addr × CA)):(rowA rows).map (·.1)=(rowC rows).map (·.1):=by simp
theorem get_mid {ν:Type}:∀ {pre post:List (Int × ν)}{k:Int}{v:ν},k ∉ pre.map (·.1)→get? (pre++(k,v)::post) k=some v:=by
  have g:∀ (l:List (Int × ν)) (k:Int) (i j:Nat),(fnd l k i).map (·.2)=(fnd l k j).map (·.2):=by
    intro l k
    induction l with
    | nil=>intros; rfl
    | cons z l ih=>intro i j; unfold fnd; split; rfl; exact ih _ _
  intro pre
  induction pre with
  | nil=>intro post k v _; unfold get?; simp [fnd]
  | cons y r ih =>
    intro post k v hn
    have hk:k≠y.1:=fun e=>hn (by simp [e])
    have:=ih (post:=post) (k:=k) (v:=v) (fun e=>hn (by simp at e ⊢; exact .inr e))
    rw [← this]
    unfold get?
    conv=>lhs; rw [List.cons_append]; unfold fnd
    rw [if_neg hk]
    exact g _ _ _ _
section
variable {K:KT}{L R:List Asr}{h:Heap}
theorem channelS {c:Addr}{s:Cnn}{k ch:Nat}{t:SV}{bs:Oct} (S0:St L h) [H:Has (ConA c) L s R] [mi:In (fun b=>Im 1 t (u8s b)) R bs] (hb:bs.length<1099511627776) (he:s.ev.length<536870912) (hA:∀ x∈s.asms,AOk x.2)
    (hK:∀ h',St (ConA c (channelP s k ch bs)::R) h'→K (.tuple #[]) h'):CallsH P F.qar [.pointer (some c),.agg (List.toArray (fcl k ch t))] K h:=by
  refine qar.ok ?_
  unfold qar.p0
  have S1:=(S0.get (ConA c)).al (fcl k ch t) T.api_Frame
  simp only [bd]
  generalize al h (fcl k ch t).toArray T.api_Frame=h1 at *
  generalize top h=f at *
  obtain ⟨bv,ev,xs,ma,me,rows,⟨f1,f2⟩,S2⟩:=ConA.op (S1.get (ConA c))
  refine ⟨c,rfl,_,S2.rc c 5 rfl,_,S2.rc f 1 rfl,?_⟩
  have S3:St (Mq kI vA ma (rowA rows)::Bx c (ccells s bv ev ma me)::Im 1 bv (u8s s.b)::Ow 17 ev (xs.flatMap evc2)::EvsI xs::AsI rows::Mq kI vI me s.ending::Bx f (fcl k ch t)::R) h1:=S2.to
  refine St.lookup klCh umAsm (z:=.pointer none) (by kernel_rfl) S3 (k:=(ch:Int)) ⟨get? (rowA rows) (ch:Int),(get? (rowA rows) (ch:Int)).isSome,by cases get? (rowA rows) (ch:Int) <;> rfl,_,_,_,S2.rc f 2 rfl,?_⟩
  refine methS (s:=t) (bs:=bs) S2 hb fun y B h2 S4=>⟨_,_,rfl,?_⟩
  have S5:=S4.al (mcells 0 0 mnil) T.api_Method
  refine ⟨rfl,S5.putA (top h2) (ws:=mcells (resM (methP bs)).1 (resM (methP bs)).2.1 y) rfl (by simp [one]) fun h3 S6=>?_⟩
  generalize top h2=m at *
  generalize hr:methP bs=r at *
  have S7:St (Bx c (ccells s bv ev ma me)::Im 1 bv (u8s s.b)::Ow 17 ev (xs.flatMap evc2)::EvsI xs::Mq kI vA ma (rowA rows)::AsI rows::Mq kI vI me s.ending::Bx m (mcells (resM r).1 (resM r).2.1 y)::Bx f (fcl k ch t)::R) h3:=S6.to
  have S8:St (ConA c s::Bx m (mcells (resM r).1 (resM r).2.1 y)::Bx f (fcl k ch t)::R) h3:=ConA.cl bv ev xs ma me rows f1 f2 S7
  have e0:resE r=0∨resE r=4∨resE r=5:=by
    cases r with
    | inl e=>exact .inr (methP_e hr)
    | inr x=>exact .inl rfl
  have j3:∀ {s1:Cnn}{h4:Heap},s1.ev.length<536870912→St (ConA c s1::Bx f (fcl k ch t)::R) h4→(Cnn.send s1 ch (mmS 20 11 [[]])).tell (evCh 3 ch)=channelP s k ch bs→qar.j3 K (some c) f h4:=by
    intro s1 h4 hl S9 e
    unfold qar.j3
    simp only [rdN (S9.rc f 1 rfl),bd]
    have S10:=S9.lit [.string (mkS [])] T.string 1 rfl
    have S11:St (Im 1 (some (top h4),1,1) (strs [[]])::ConA c s1::Bx f (fcl k ch t)::R) _:=S10
    have S12:=(tbNil 0 ((S11.imNil 1 0).imNil 1 0))
    refine sendS (c:=c) (s:=s1) (y:=⟨(none,0,0),(some (top h4),1,1),(none,0,0),(none,0,0)⟩) (x:=⟨[],[[]],[],[]⟩) (B:=fun _=>False) S12 (smallM_of (by simp) (by simp) (by simp) (by simp) (by simp) smallP0) (by decide +kernel) (by decide) (by decide) (by omega) fun h5 S13=>⟨rfl,?_⟩
    have S14:St (ConA c (Cnn.send s1 ch (20,11,⟨[],[[]],[],[]⟩))::Bx f (fcl k ch t)::R) h5:=S13.to
    simp only [rdN (S14.rc f 1 rfl)]
    refine tellS (c:=c) (s:=Cnn.send s1 ch (20,11,⟨[],[[]],[],[]⟩)) (e:=evCh 3 ch) (q:=qnil) (evI_nil rfl rfl S14) (by simp [Cnn.send,Cnn.tell]; omega) fun h6 S15=>⟨rfl,hK h6 ?_⟩
    rw [← e]
    exact S15.d1
  have j2:∀ (o:Bool),¬ (0<(get? s.ending (ch:Int)).getD 0)→(o=true↔(k=1∧resE r=0∧(resM r).1=20∧(resM r).2.1=10)∧get? (rowA rows) (ch:Int)=none)→qar.j2 K (some c) f (get? (rowA rows) (ch:Int)) (get? (rowA rows) (ch:Int)).isSome o h3:=by
    intro o hz ho
    unfold qar.j2
    cases o with
    | true =>
      obtain ⟨ho1,ho2⟩:=ho.1 rfl
      have nA:=get?_nk.1 ho2
      have nC:(ch:Int) ∉ (rowC rows).map (·.1):=by rw [← rows_keys]; exact nA
      have ec:channelP s k ch bs=(Cnn.send { s with asms:=upd s.asms ch ca0 } ch (mmS 20 11 [[]])).tell (evCh 3 ch):=by
        unfold channelP
        have:get? s.asms (ch:Int)=none:=by rw [← f2]; exact get?_nk.2 nC
        rw [if_neg hz,this,hr]
        simp only
        rw [if_pos ho1]
      refine ifT rfl ⟨c,rfl,?_⟩
      have fin:∀ {h4:Heap}{a:Addr},St (AsmA a ca0::Bx c (ccells s bv ev ma me)::Im 1 bv (u8s s.b)::Ow 17 ev (xs.flatMap evc2)::EvsI xs::Mq kI vA ma (rowA rows)::AsI rows::Mq kI vI me s.ending::Bx m (mcells (resM r).1 (resM r).2.1 y)::Bx f (fcl k ch t)::R) h4 →
          SemH P (unit (Instr.mapUpdate T.map_int_p_chans_Asm (.map (some ma)) (.int .i64 ch) (.pointer (some a)))) (fun v39 h40=>qar.j3 K (some c) f h40) h4:=by
        intro h4 a S9
        have S10:St (Mq kI vA ma (rowA rows)::AsmA a ca0::AsI rows::Bx c (ccells s bv ev ma me)::Im 1 bv (u8s s.b)::Ow 17 ev (xs.flatMap evc2)::EvsI xs::Mq kI vI me s.ending::Bx f (fcl k ch t)::R) h4:=S9.to
        refine St.update klCh umAsm S10 (k:=(ch:Int)) (v:=a) fun u h5 S11=>?_
        rw [upd_new nA] at S11
        have S12:St (AsI (rows++[((ch:Int),a,ca0)])::Mq kI vA ma (rowA rows++[((ch:Int),a)])::Bx c (ccells s bv ev ma me)::Im 1 bv (u8s s.b)::Ow 17 ev (xs.flatMap evc2)::EvsI xs::Mq kI vI me s.ending::Bx f (fcl k ch t)::R) h5:=by
          refine AsI.unmid (pre:=rows) (post:=[]) (x:=((ch:Int),a,ca0)) ?_
          rw [List.append_nil]
          exact S11.to
        have er:rowA rows++[((ch:Int),a)]=rowA (rows++[((ch:Int),a,ca0)]):=by simp
        rw [er] at S12
        have S13:St (ConA c { s with asms:=upd s.asms ch ca0 }::Bx f (fcl k ch t)::R) h5:=by
          refine ConA.cl (s:={ s with asms:=upd s.asms ch ca0 }) bv ev xs ma me (rows++[((ch:Int),a,ca0)]) f1 ?_ (St.to S12)
          show _=upd s.asms (ch:Int) ca0
          rw [← f2,upd_new nC]; simp
        exact j3 (s1:={ s with asms:=upd s.asms ch ca0 }) he S13 ec.symm
      have nw:∀ {Q:KT},(∀ h' a,St (AsmA a ca0::Bx c (ccells s bv ev ma me)::Im 1 bv (u8s s.b)::Ow 17 ev (xs.flatMap evc2)::EvsI xs::Mq kI vA ma (rowA rows)::AsI rows::Mq kI vI me s.ending::Bx m (mcells (resM r).1 (resM r).2.1 y)::Bx f (fcl k ch t)::R) h'→Q (.pointer (some a)) h')→CallsH P F.qef [] Q h3 :=
        fun hQ=>newS S7 fun h' S'=>hQ h' _ S'
      refine ⟨⟨_,S7.rc c 5 rfl,⟨_,S7.rc f 1 rfl,nw fun h' a S'=>⟨_,rfl,fin S'⟩⟩,nw fun h' a S'=>⟨_,rfl,_,S'.rc f 1 rfl,fin S'⟩⟩,⟨_,S7.rc f 1 rfl,⟨_,S7.rc c 5 rfl,nw fun h' a S'=>⟨_,rfl,fin S'⟩⟩,nw fun h' a S'=>⟨_,rfl,_,S'.rc c 5 rfl,fin S'⟩⟩,nw fun h' a S'=>⟨_,rfl,_,S'.rc c 5 rfl,_,S'.rc f 1 rfl,fin S'⟩⟩
    | false =>
      refine ifF rfl ?_
      simp only [bd]
      cases hg:get? (rowA rows) (ch:Int) with
      | none =>
        have nC:(ch:Int) ∉ (rowC rows).map (·.1):=by rw [← rows_keys]; exact get?_nk.1 hg
        have ec:channelP s k ch bs=s.wrong 504 (mm0 0 0):=by
          unfold channelP
          have:get? s.asms (ch:Int)=none:=by rw [← f2]; exact get?_nk.2 nC
          rw [if_neg hz,this,hr]
          simp only
          rw [if_neg]
          intro z
          have:=ho.2 ⟨z,hg⟩
          cases this
        rw [ec] at hK
        exact ifT rfl (wrongCS (c:=c) (s:=s) (y:=mnil) (x:=noM) S8 (by omega) fun h4 S9=>⟨rfl,hK h4 S9.d1.d1⟩)
      | some a =>
        obtain ⟨pre,ca,post,er,hn⟩:=rows_split hg
        refine ifF rfl ⟨_,S7.rc f 1 rfl,_,S7.rall f 3 rfl,?_⟩
        subst er
        have hm:get? s.asms (ch:Int)=some ca:=by
          rw [← f2]
          have:rowC (pre++((ch:Int),a,ca)::post)=rowC pre++((ch:Int),ca)::rowC post:=by simp
          exact (congrArg (fun l=>get? l (ch:Int)) this).trans (get_mid (by simpa using hn))
        have ec:channelP s k ch bs=askP s ch ca k bs:=by
          unfold channelP
          rw [if_neg hz,hm]
        rw [ec] at hK
        have oa:AOk ca:=hA ((ch:Int),ca) (by rw [← f2]; simp)
        have S9:St (Bx c (ccells s bv ev ma me)::Im 1 bv (u8s s.b)::Ow 17 ev (xs.flatMap evc2)::EvsI xs::Mq kI vA ma (rowA (pre++((ch:Int),a,ca)::post))::AsI (pre++((ch:Int),a,ca)::post)::Mq kI vI me s.ending::R) h3:=S7.to
        exact askCS (k:=k) (ch:=ch) (t:=t) (bs:=bs) f1 f2 hn S9 hb he oa.body oa.hd fun h4 S10=>⟨rfl,hK h4 S10⟩
  have j1:∀ (o:Bool),(o=true↔(k=1∧resE r=0∧(resM r).1=20∧(resM r).2.1=10))→qar.j1 K (some c) f (get? (rowA rows) (ch:Int)) (get? (rowA rows) (ch:Int)).isSome o h3:=by
    intro o ho
    unfold qar.j1
    refine ⟨c,rfl,_,S7.rc c 6 rfl,_,S7.rc f 1 rfl,?_⟩
    have S9:St (Mq kI vI me s.ending::Bx m (mcells (resM r).1 (resM r).2.1 y)::Bx f (fcl k ch t)::R) h3:=S7.to
    refine St.lookup klCh umEnd (z:=.int .i64 0) (by kernel_rfl) S9 (k:=(ch:Int)) ⟨(get? s.ending (ch:Int)).getD 0,by cases get? s.ending (ch:Int) <;> rfl,?_⟩
    simp only [bd]
    by_cases hz:0<(get? s.ending (ch:Int)).getD 0
    · have ec:channelP s k ch bs=endP s k ch bs:=by unfold channelP; rw [if_pos hz]
      rw [ec] at hK
      exact ifT (by simpa using hz) ⟨_,S8.rall f 3 rfl,endS (c:=c) (s:=s) (k:=k) (ch:=ch) (t:=t) (bs:=bs) S8 hb he fun h4 S10=>⟨rfl,hK h4 S10.d1.d1⟩⟩
    · refine ifF (by simpa using hz) ?_
      cases o with
      | true =>
        refine ifT rfl (j2 _ hz ?_)
        cases hg:get? (rowA rows) (ch:Int) with
        | none=>simp [ho.1 rfl]
        | some a=>simp
      | false =>
        refine ifF rfl (j2 _ hz ?_)
        constructor
        · intro e; cases e
        · intro z; have:=ho.2 z.1; cases this
  simp only [rdN (S7.rc f 0 rfl),rdN (S7.rc m 0 rfl),rdN (S7.rc m 1 rfl)]
  by_cases k1:k=1
  · refine ifT (by rw [k1]; rfl) ?_
    by_cases z0:resE r=0
    · refine ifT (by rw [z0]; rfl) ?_
      by_cases h20:(resM r).1=20
      · refine ifT (by rw [h20]; rfl) ?_
        exact j1 _ (by simp [k1,z0,h20])
      · exact ifF (by simpa using h20) (j1 _ (by simp [h20]))
    · exact ifF (by simp; omega) (j1 _ (by simp [z0]))
  · exact ifF (by simp; omega) (j1 _ (by simp [k1]))
theorem takeFS {c:Addr}{s:Cnn}{k ch:Nat}{t:SV}{bs:Oct} (S0:St L h) [H:Has (ConA c) L s R] [mi:In (fun b=>Im 1 t (u8s b)) R bs] (hb:bs.length<1099511627776) (he:s.ev.length<536870912) (hA:∀ x∈s.asms,AOk x.2)
    (hK:∀ h',St (ConA c (takeF s k ch bs)::R) h'→K (.tuple #[]) h'):CallsH P F.qbu [.pointer (some c),.agg (List.toArray (fcl k ch t))] K h:=by
  refine qbu.ok ?_
  unfold qbu.p0
  have S1:=(S0.get (ConA c)).al (fcl k ch t) T.api_Frame
  simp only [bd]
  generalize al h (fcl k ch t).toArray T.api_Frame=h1 at *
  generalize top h=f at *
  obtain ⟨bv,ev,xs,ma,me,rows,⟨f1,f2⟩,S2⟩:=ConA.op (S1.get (ConA c))
  have S3:St (ConA c s::Bx f (fcl k ch t)::R) h1:=S1.to
  simp only [someE,rdN (S2.rc c 0 rfl),rdN (S2.rc f 1 rfl)]
  unfold takeF at hK
  by_cases h5:s.st=5
  · rw [if_pos h5] at hK
    exact ifT (by rw [h5]; rfl) ⟨_,S2.rall f 3 rfl,lastS (c:=c) (s:=s) (k:=k) (ch:=ch) (t:=t) (bs:=bs) S3 hb he fun h4 S10=>⟨rfl,hK h4 S10.d1⟩⟩
  rw [if_neg h5] at hK
  refine ifF (by simp; omega) ?_
  by_cases h0:ch=0
  · rw [if_pos h0] at hK
    exact ifT (by rw [h0]; rfl) ⟨_,S2.rall f 3 rfl,zeroS (c:=c) (s:=s) (k:=k) (ch:=ch) (t:=t) (bs:=bs) S3 hb he fun h4 S10=>⟨rfl,hK h4 S10.d1⟩⟩
  rw [if_neg h0] at hK
  refine ifF (by simp; omega) ?_
  have bad:s.st≠4∨16<ch→qbu.j1 K (some c) f true h1:=by
    intro z
    rw [if_pos z] at hK
    unfold qbu.j1
    exact ifT rfl (wrongCS (c:=c) (s:=s) (y:=mnil) (x:=noM) S3 (by omega) fun h4 S9=>⟨rfl,hK h4 S9.d1⟩)
  by_cases h4:s.st=4
  · refine ifF' (by rw [h4]; rfl) ?_
    by_cases h16:16<ch
    · rw [show decide (((ch:Nat):Int) > 16)=true by simp; omega]
      exact bad (.inr h16)
    · rw [show decide (((ch:Nat):Int) > 16)=false by simp; omega]
      unfold qbu.j1
      rw [if_neg (by omega)] at hK
      exact ifF rfl ⟨_,S2.rall f 3 rfl,channelS (c:=c) (s:=s) (k:=k) (ch:=ch) (t:=t) (bs:=bs) S3 hb he hA fun h4 S10=>⟨rfl,hK h4 S10.d1⟩⟩
  · exact ifT' (by simp; omega) (bad (.inl h4))
end
end Go.Proofs.YtjapglfpjhljpaaGreat.Pr
end
section
set_option linter.unusedVariables false
set_option linter.unusedSimpArgs false
namespace Go.Proofs.YtjapglfpjhljpaaGreat.Pr
open Go Go.Lift Go.Proofs
def U8:Value→Prop:=fun v=>∃ n,v=.int .u8 n
theorem U8.u8s (b:Oct):∀ v∈u8s b,U8 v:=by intro v hv; obtain ⟨x,_,rfl⟩:=List.mem_map.1 hv; exact ⟨_,rfl⟩
theorem U8.nums (l:List Nat):∀ v∈nums l,¬ U8 v:=by intro v hv ⟨n,e⟩; obtain ⟨x,_,rfl⟩:=List.mem_map.1 hv; cases e
theorem U8.strs (l:List Oct):∀ v∈strs l,¬ U8 v:=by intro v hv ⟨n,e⟩; obtain ⟨x,_,rfl⟩:=List.mem_map.1 hv; cases e
theorem U8.bools (l:List Bool):∀ v∈bools l,¬ U8 v:=by intro v hv ⟨n,e⟩; obtain ⟨x,_,rfl⟩:=List.mem_map.1 hv; cases e
theorem TRep.less {D B:Nat→Prop}{h:Heap} (u:∀ b,D b→UBb U8 h b):∀ {d:Nat}{p:OA}{l:Nat}{fs:List PF},TRep d B h p l fs→TRep d (fun b=>B b∧¬ D b) h p l fs
  | 0,_,_,_,t=>False.elim t
  | d+1,p,l,fs,t=>by
    obtain ⟨h1,h2⟩:=t
    refine ⟨h1,?_⟩
    cases p with
    | none=>exact h2
    | some a =>
      obtain ⟨h3,ts,h4,h5,h6⟩:=h2
      refine ⟨fun e=>⟨h3 e,fun hD=>?_⟩,ts,h4,h5,fun i f t e1 e2=>⟨(h6 i f t e1 e2).1,TRep.less u (h6 i f t e1 e2).2⟩⟩
      obtain ⟨f,fs',rfl⟩:=List.exists_cons_of_ne_nil e
      obtain ⟨s,ts',rfl⟩:=List.exists_cons_of_ne_nil (show ts≠[] by intro x; subst x; simp at h4)
      have hc:=h5.get (i:=0) (v:=.string (mkS f.name)) rfl
      obtain ⟨n,e⟩:=u a.block hD _ (by rw [add_block]) _ hc
      cases e
theorem Tw.tb {B:Nat→Prop}{s:SV}{fs:List PF}:Tw U8 (Tb B s fs) (ex fun B'=>Tb B' s fs):=by
  refine Tw.shr fun D h ⟨h1,d,t⟩ u I' hd hl=>⟨fun b=>B b∧¬ D b,fun _=>rfl,hd,fun h2 l2=>?_⟩
  refine Tb.lc _ s fs h h2 (fun b hb=>?_) ⟨h1,d,TRep.less u t⟩
  have hn:=(hd b).2 hb
  cases ho:I' b with
  | none=>exact absurd ho hn
  | some o=>rw [l2 b o ho,hl b o ho]
theorem Tw.mono {U:Value→Prop}{A A' A'':Asr} (t:Tw U A A') (m:∀ E I,A' E I→A'' E I):Tw U A A'':=fun D E I h a e i n u=>by
  obtain ⟨I',a',s,z⟩:=t D E I h a e i n u
  exact ⟨I',m _ _ a',s,z⟩
theorem sep_mono {A B A' B':Asr} (ma:∀ E I,A E I→A' E I) (mb:∀ E I,B E I→B' E I) (E I:Frag):sep A B E I→sep A' B' E I:=fun ⟨E1,I1,E2,I2,hA,hB,r⟩=>⟨E1,I1,E2,I2,ma _ _ hA,mb _ _ hB,r⟩
theorem sep_exr {α:Sort _}{A:Asr}{F:α→Asr} (E I:Frag):sep A (ex F) E I→ex (fun x=>sep A (F x)) E I:=fun ⟨E1,I1,E2,I2,hA,⟨x,hB⟩,r⟩=>⟨x,E1,I1,E2,I2,hA,hB,r⟩
theorem sep_exl {α:Sort _}{B:Asr}{F:α→Asr} (E I:Frag):sep (ex F) B E I→ex (fun x=>sep (F x) B) E I:=fun ⟨E1,I1,E2,I2,⟨x,hA⟩,hB,r⟩=>⟨x,E1,I1,E2,I2,hA,hB,r⟩
theorem five_ex {α:Sort _}{A B C D:Asr}{F:α→Asr}{L:List Asr} (E I:Frag):stars (A::B::C::D::ex F::L) E I→ex (fun x=>stars (A::B::C::D::F x::L)) E I:=by
  intro s
  have s1:=sep_mono (fun _ _ x=>x) (sep_mono (fun _ _ x=>x) (sep_mono (fun _ _ x=>x) (sep_mono (fun _ _ x=>x) (sep_exl (B:=stars L))))) E I s
  have s2:=sep_mono (fun _ _ x=>x) (sep_mono (fun _ _ x=>x) (sep_mono (fun _ _ x=>x) sep_exr)) E I s1
  have s3:=sep_mono (fun _ _ x=>x) (sep_mono (fun _ _ x=>x) sep_exr) E I s2
  have s4:=sep_mono (fun _ _ x=>x) sep_exr E I s3
  exact sep_exr E I s4
theorem Tw.evI {e:EV}{q:QV}:Tw U8 (EvI e q) (EvI e q):=by
  refine Tw.ex1 fun B=>Tw.mono (A':=stars [Ow 1 q.sb (u8s e.b),Im 1 q.y.n (nums e.ask.m.2.2.N),Im 1 q.y.s (strs e.ask.m.2.2.S),Im 1 q.y.f (bools e.ask.m.2.2.F),ex fun B'=>Tb B' q.y.t e.ask.m.2.2.T,Ow 1 q.bv (u8s e.ask.body)]) ?_ (fun E I x=>five_ex E I x)
  exact Tw.sep Tw.own (Tw.sep (Tw.im (U8.nums _)) (Tw.sep (Tw.im (U8.strs _)) (Tw.sep (Tw.im (U8.bools _)) (Tw.sep Tw.tb (Tw.sep Tw.own Tw.emp)))))
theorem Tw.evsI:∀ {xs:List (EV × QV)},Tw U8 (EvsI xs) (EvsI xs)
  | []=>Tw.emp
  | x::r=>Tw.sep Tw.evI Tw.evsI
theorem Tw.asm {a:Addr}{c:CA}:Tw U8 (AsmA a c) (AsmA a c):=by
  refine Tw.ex fun y=>⟨y,Tw.ex1 fun B=>?_⟩
  intro D E I h ⟨bv,x⟩ e i n u
  have t:Tw U8 (stars [Bx a (acells c y bv),Im 1 y.n (nums c.m.2.2.N),Im 1 y.s (strs c.m.2.2.S),Im 1 y.f (bools c.m.2.2.F),Tb B y.t c.m.2.2.T,Ow 1 bv (u8s c.body)])
      (ex fun B'=>stars [Bx a (acells c y bv),Im 1 y.n (nums c.m.2.2.N),Im 1 y.s (strs c.m.2.2.S),Im 1 y.f (bools c.m.2.2.F),Tb B' y.t c.m.2.2.T,Ow 1 bv (u8s c.body)]) :=
    Tw.mono (Tw.sep Tw.own (Tw.sep (Tw.im (U8.nums _)) (Tw.sep (Tw.im (U8.strs _)) (Tw.sep (Tw.im (U8.bools _)) (Tw.sep Tw.tb (Tw.sep Tw.own Tw.emp)))))) (fun E I x=>five_ex E I x)
  obtain ⟨I',⟨B',a'⟩,s,z⟩:=t D E I h x e i n u
  exact ⟨I',⟨B',bv,a'⟩,s,z⟩
theorem Tw.asI:∀ {rows:List (Int × Addr × CA)},Tw U8 (AsI rows) (AsI rows)
  | []=>Tw.emp
  | x::r=>Tw.sep Tw.asm Tw.asI
def ConO (c:Addr) (s:Cnn):Asr:=ex fun v:SV × SV × List (EV × QV) × Nat × Nat × List (Int × Addr × CA)=>sep (fact (v.2.2.1.map Prod.fst=s.ev∧v.2.2.2.2.2.map (fun r=>(r.1,r.2.2))=s.asms))
  (stars [Bx c (ccells s v.1 v.2.1 v.2.2.2.1 v.2.2.2.2.1),Ou U8 v.1 (u8s s.b),Ow 17 v.2.1 (v.2.2.1.flatMap evc2),EvsI v.2.2.1,Mq kI vA v.2.2.2.1 (rowA v.2.2.2.2.2),AsI v.2.2.2.2.2,Mq kI vI v.2.2.2.2.1 s.ending])
section
variable {K:KT}{L R:List Asr}{h:Heap}
theorem ConO.op {c:Addr}{s:Cnn} (S:St (ConO c s::L) h):∃ bv ev xs ma me rows,(xs.map Prod.fst=s.ev∧rows.map (fun r:Int × Addr × CA=>(r.1,r.2.2))=s.asms) ∧
    St (Bx c (ccells s bv ev ma me)::Ou U8 bv (u8s s.b)::Ow 17 ev (xs.flatMap evc2)::EvsI xs::Mq kI vA ma (rowA rows)::AsI rows::Mq kI vI me s.ending::L) h:=by
  obtain ⟨⟨bv,ev,xs,ma,me,rows⟩,S⟩:=S.ex
  obtain ⟨f,S⟩:=S.split.fact
  exact ⟨bv,ev,xs,ma,me,rows,f,S.open⟩
theorem ConO.cl {c:Addr}{s:Cnn} (bv ev:SV) (xs:List (EV × QV)) (ma me:Nat) (rows:List (Int × Addr × CA)) (f1:xs.map Prod.fst=s.ev) (f2:rows.map (fun r:Int × Addr × CA=>(r.1,r.2.2))=s.asms)
    (S:St (Bx c (ccells s bv ev ma me)::Ou U8 bv (u8s s.b)::Ow 17 ev (xs.flatMap evc2)::EvsI xs::Mq kI vA ma (rowA rows)::AsI rows::Mq kI vI me s.ending::L) h):St (ConO c s::L) h :=
  St.ex' (bv,ev,xs,ma,me,rows) (St.join (St.fact' ⟨f1,f2⟩ (St.close (As:=[_,_,_,_,_,_,_]) S)))
theorem St.unav1 {D:Nat→Prop}{A:Asr} (S:St (av D A::L) h):St (A::L) h:=by
  obtain ⟨E,I,T,e,⟨a,o1,o2,o3⟩,hk,hp,ha⟩:=S.cons_elim
  exact St.cons_intro e ⟨a.1,o1,o2,o3⟩ hk hp ha
theorem lendC {c:Addr}{s:Cnn} (S:St (ConO c s::R) h):∃ bv:SV,bv.2.1=s.b.length∧bv.2.1≤bv.2.2∧St (ConA c { s with bv:=bv }::Lent U8 bv (u8s s.b)::R.map (av (odm bv))) h:=by
  obtain ⟨bv,ev,xs,ma,me,rows,⟨f1,f2⟩,S1⟩:=ConO.op S
  have S2:St (Ou U8 bv (u8s s.b)::Bx c (ccells s bv ev ma me)::Ow 17 ev (xs.flatMap evc2)::EvsI xs::Mq kI vA ma (rowA rows)::AsI rows::Mq kI vI me s.ending::R) h:=S1.p1
  have S3:St (stars [Bx c (ccells s bv ev ma me),Ow 17 ev (xs.flatMap evc2),EvsI xs,Mq kI vA ma (rowA rows),AsI rows,Mq kI vI me s.ending]::Ou U8 bv (u8s s.b)::R) h:=St.close (As:=[_,_,_,_,_,_]) (show St (Bx c (ccells s bv ev ma me)::Ow 17 ev (xs.flatMap evc2)::EvsI xs::Mq kI vA ma (rowA rows)::AsI rows::Mq kI vI me s.ending::Ou U8 bv (u8s s.b)::R) h from S2.to)
  have S4:=S3.p1
  have ho:=S4.ouOwn
  refine ⟨bv,by have:=ho.1; simp [u8s] at this; omega,ho.2.1,?_⟩
  have S5:St (Lent U8 bv (u8s s.b)::av (odm bv) (stars [Bx c (ccells s bv ev ma me),Ow 17 ev (xs.flatMap evc2),EvsI xs,Mq kI vA ma (rowA rows),AsI rows,Mq kI vI me s.ending])::R.map (av (odm bv))) h:=S4.lend
  have S6:=S5.lentIm
  have S7:=St.unav1 (S6.p2)
  have S8:St (Bx c (ccells s bv ev ma me)::Ow 17 ev (xs.flatMap evc2)::EvsI xs::Mq kI vA ma (rowA rows)::AsI rows::Mq kI vI me s.ending::Im 1 bv (u8s s.b)::Lent U8 bv (u8s s.b)::R.map (av (odm bv))) h:=St.open S7
  have S9:St (Bx c (ccells s bv ev ma me)::Im 1 bv (u8s s.b)::Ow 17 ev (xs.flatMap evc2)::EvsI xs::Mq kI vA ma (rowA rows)::AsI rows::Mq kI vI me s.ending::Lent U8 bv (u8s s.b)::R.map (av (odm bv))) h:=S8.to
  exact ConA.cl (s:={ s with bv:=bv }) bv ev xs ma me rows ⟨rfl,f1⟩ f2 S9
def BvOk (bv:SV) (b:Oct) (s':Cnn):Prop:=(∃ n,n≤bv.2.1∧s'.bv=(slA bv.1 n bv.2.2 1,bv.2.1 - n,bv.2.2 - n)∧s'.b=b.drop n)∨(s'.bv=(none,0,0)∧s'.b=[])
theorem thawC {c:Addr}{s':Cnn}{bv:SV}{b:Oct} (ok:BvOk bv b s') (S:St (ConA c s'::Lent U8 bv (u8s b)::R.map (av (odm bv))) h):St (ConO c s'::R) h:=by
  obtain ⟨bv',ev,xs,ma,me,rows,⟨⟨f0,f1⟩,f2⟩,S1⟩:=ConA.op S
  have S2:St (stars [Bx c (ccells s' bv' ev ma me),Ow 17 ev (xs.flatMap evc2),EvsI xs,Mq kI vA ma (rowA rows),AsI rows,Mq kI vI me s'.ending]::Lent U8 bv (u8s b)::R.map (av (odm bv))) h:=St.close (As:=[_,_,_,_,_,_]) S1.p1.tl
  have S3:=St.thaw (Tw.sep Tw.own (Tw.sep Tw.own (Tw.sep Tw.evsI (Tw.sep Tw.own (Tw.sep Tw.asI (Tw.sep Tw.own Tw.emp)))))) S2
  have fin:St (Ou U8 bv' (u8s s'.b)::stars [Bx c (ccells s' bv' ev ma me),Ow 17 ev (xs.flatMap evc2),EvsI xs,Mq kI vA ma (rowA rows),AsI rows,Mq kI vI me s'.ending]::R) h:=by
    rcases ok with ⟨n,hn,e1,e2⟩ | ⟨e1,e2⟩
    · have S4:=St.ouDrop (n:=n) S3 hn
      have eb:(u8s b).drop n=u8s (b.drop n):=by simp [u8s,List.map_drop]
      rw [eb,← e2,← e1,← f0] at S4
      exact S4
    · rw [f0,e1,e2]
      have S4:=St.ouNil (U:=U8) S3.tl
      rw [f0,e1] at S4
      exact S4
  have S5:St (Bx c (ccells s' bv' ev ma me)::Ow 17 ev (xs.flatMap evc2)::EvsI xs::Mq kI vA ma (rowA rows)::AsI rows::Mq kI vI me s'.ending::Ou U8 bv' (u8s s'.b)::R) h:=St.open fin.p1
  have S6:St (Bx c (ccells s' bv' ev ma me)::Ou U8 bv' (u8s s'.b)::Ow 17 ev (xs.flatMap evc2)::EvsI xs::Mq kI vA ma (rowA rows)::AsI rows::Mq kI vI me s'.ending::R) h:=S5.to
  exact ConO.cl bv' ev xs ma me rows f1 f2 S6
theorem u_z:U8 (.int .u8 0):=⟨_,rfl⟩
theorem feedS {c:Addr}{s:Cnn}{t:SV}{bs:Oct} (S0:St L h) [H:Has (ConO c) L s R] [mi:In (fun b=>Im 1 t (u8s b)) R bs] (hb:s.b.length<1073741824) (hc:bs.length<1073741824) (hK:∀ h',St (ConO c (s.feed bs)::R) h'→K (.tuple #[]) h') :
    CallsH P F.qbp [.pointer (some c),.slice t.1 t.2.1 t.2.2] K h:=by
  refine qbp.ok ?_
  unfold qbp.p0
  obtain ⟨bv,ev,xs,ma,me,rows,⟨f1,f2⟩,S1⟩:=ConO.op (S0.get (ConO c))
  simp only [someE,rdN (S1.rc c 0 rfl),rdB (S1.rc c 4 rfl)]
  have no:(s.st≠6∧s.deaf=false→False)→qbp.j1 K (some c) t.1 t.2.1 t.2.2 false h:=by
    intro hn
    unfold qbp.j1
    have e:s.feed bs=s:=by unfold Cnn.feed; rw [if_neg hn]
    rw [e] at hK
    exact ifF rfl (hK h (S0.get (ConO c)))
  by_cases h6:s.st=6
  · exact ifF (by rw [h6]; rfl) (no fun x=>x.1 h6)
  · refine ifT (by simp; omega) ?_
    cases hd:s.deaf with
    | true=>exact no fun x=>by rw [hd] at x; cases x.2
    | false =>
      show qbp.j1 K (some c) t.1 t.2.1 t.2.2 true h
      unfold qbp.j1
      refine ifT rfl ⟨c,rfl,_,_,_,S1.rc c 1 rfl,?_⟩
      have S2:St (Ou U8 bv (u8s s.b)::Bx c (ccells s bv ev ma me)::Ow 17 ev (xs.flatMap evc2)::EvsI xs::Mq kI vA ma (rowA rows)::AsI rows::Mq kI vI me s.ending::R) h:=S1.p1
      have ho:=S2.ouOwn.1
      have hi:=(isl8 S1 (s:=t) (bs:=bs)).1
      have hi1:=hi.1
      simp only [u8s_length,Nat.mul_one] at ho hi1
      refine St.ouApp sl_uint8 u_sl (fun k e=>by cases e) u_z S2 (Src.slice hi (u8s_one _)) (U8.u8s _) (U8.u8s _) (by omega) (by omega) fun p cc h2 S3=>⟨_,_,_,rfl,c,rfl,?_⟩
      refine S3.put1 c 1 (by simp) rfl fun h3 S4=>hK h3 ?_
      simp only [List.set_cons_succ,List.set_cons_zero] at S4
      have e:s.feed bs={ s with b:=s.b++bs }:=by unfold Cnn.feed; rw [if_pos ⟨h6,hd⟩]
      rw [e]
      have eu:u8s s.b++u8s bs=u8s (s.b++bs):=by simp [u8s]
      rw [eu] at S4
      exact ConO.cl (s:={ s with b:=s.b++bs }) (p,bv.2.1+t.2.1,cc) ev xs ma me rows f1 f2 S4
end
end Go.Proofs.YtjapglfpjhljpaaGreat.Pr
end
section
set_option linter.unusedVariables false
set_option linter.unusedSimpArgs false
namespace Go.Proofs.YtjapglfpjhljpaaGreat.Pr
open Go Go.Lift Go.Proofs
def er (s:Cnn):Cnn:={ s with bv:=(none,0,0) }
theorem ConO.er {c:Addr}{s s':Cnn} (e:er s=er s'):ConO c s=ConO c s':=by
  have e1:∀ s,ConO c s=ConO c (Pr.er s):=fun _=>rfl
  rw [e1 s,e,← e1]
theorem er_last (s:Cnn) (k ch:Nat) (b:Oct):er (lastP s k ch b)=lastP (er s) k ch b:=by
  cases s; unfold lastP er; dsimp only
  repeat' (first | rfl | split)
theorem er_begin (s:Cnn) (m:PMM):er (beginP s m)=beginP (er s) m:=by
  cases s; unfold beginP er; dsimp only
  repeat' (first | rfl | split)
theorem er_zero (s:Cnn) (k:Nat) (b:Oct):er (zeroP s k b)=zeroP (er s) k b:=by
  have e:=er_begin s
  unfold zeroP
  split
  · rfl
  · split
    · rfl
    · split
      · rfl
      · split
        · rfl
        · split
          · exact e _
          · rfl
theorem er_end (s:Cnn) (k:Nat) (ch:Int) (b:Oct):er (endP s k ch b)=endP (er s) k ch b:=by
  cases s; unfold endP er; dsimp only
  repeat' (first | rfl | split)
theorem er_ask (s:Cnn) (ch:Int) (a:CA) (k:Nat) (b:Oct):er (askP s ch a k b)=askP (er s) ch a k b:=by
  cases s; unfold askP er; dsimp only
  repeat' (first | rfl | split)
theorem er_channel (s:Cnn) (k:Nat) (ch:Int) (b:Oct):er (channelP s k ch b)=channelP (er s) k ch b:=by
  have e1:=er_end s k ch b
  have e2:=fun a=>er_ask s ch a k b
  unfold channelP
  show er (if 0<(get? s.ending ch).getD 0 then _ else _)=if 0<(get? s.ending ch).getD 0 then _ else match get? s.asms ch with | some a=>_ | none=>_
  split
  · exact e1
  · cases hg:get? s.asms ch with
    | some a=>exact e2 a
    | none =>
      show er (if k=1∧resE (methP b)=0∧(resM (methP b)).1=20∧(resM (methP b)).2.1=10 then _ else _)=if k=1∧resE (methP b)=0∧(resM (methP b)).1=20∧(resM (methP b)).2.1=10 then _ else _
      split <;> rfl
theorem er_take (s:Cnn) (k ch:Nat) (b:Oct):er (takeF s k ch b)=takeF (er s) k ch b:=by
  have e1:=er_last s k ch b
  have e2:=er_zero s k b
  have e3:=er_channel s k ch b
  unfold takeF
  show er (if s.st=5 then _ else if ch=0 then _ else if s.st≠4∨16<ch then _ else _)=if s.st=5 then _ else if ch=0 then _ else if s.st≠4∨16<ch then _ else _
  split
  · exact e1
  · split
    · exact e2
    · split
      · rfl
      · exact e3
def KB (s s':Cnn):Prop:=(s'.bv=s.bv∧s'.b=s.b)∨(s'.bv=(none,0,0)∧s'.b=[])
theorem KB.last (s:Cnn) (k ch:Nat) (b:Oct):KB s (lastP s k ch b):=by
  unfold lastP
  repeat' (first | exact .inl ⟨rfl,rfl⟩ | exact .inr ⟨rfl,rfl⟩ | split)
theorem KB.begin (s:Cnn) (m:PMM):KB s (beginP s m):=by
  unfold beginP
  repeat' (first | exact .inl ⟨rfl,rfl⟩ | exact .inr ⟨rfl,rfl⟩ | split)
theorem KB.zero (s:Cnn) (k:Nat) (b:Oct):KB s (zeroP s k b):=by
  unfold zeroP
  repeat' (first | exact .inl ⟨rfl,rfl⟩ | exact .inr ⟨rfl,rfl⟩ | exact KB.begin _ _ | split)
theorem KB.end (s:Cnn) (k:Nat) (ch:Int) (b:Oct):KB s (endP s k ch b):=by
  unfold endP
  repeat' (first | exact .inl ⟨rfl,rfl⟩ | exact .inr ⟨rfl,rfl⟩ | split)
theorem KB.ask (s:Cnn) (ch:Int) (a:CA) (k:Nat) (b:Oct):KB s (askP s ch a k b):=by
  unfold askP
  dsimp only
  generalize frameR k b a=r
  split
  · cases hardP r.2.1 <;> exact .inl ⟨rfl,rfl⟩
  · repeat' (first | exact .inl ⟨rfl,rfl⟩ | exact .inr ⟨rfl,rfl⟩ | split)
theorem KB.channel (s:Cnn) (k:Nat) (ch:Int) (b:Oct):KB s (channelP s k ch b):=by
  unfold channelP
  repeat' (first | exact .inl ⟨rfl,rfl⟩ | exact .inr ⟨rfl,rfl⟩ | exact KB.end _ _ _ _ | exact KB.ask _ _ _ _ _ | split)
theorem KB.take (s:Cnn) (k ch:Nat) (b:Oct):KB s (takeF s k ch b):=by
  unfold takeF
  repeat' (first | exact .inl ⟨rfl,rfl⟩ | exact .inr ⟨rfl,rfl⟩ | exact KB.last _ _ _ _ | exact KB.zero _ _ _ | exact KB.channel _ _ _ _ | split)
theorem upd_mem {ν:Type}:∀ {l:List (Int × ν)}{k:Int}{v:ν}{x:Int × ν},x∈upd l k v→x∈l∨x.2=v
  | [],k,v,x,h=>by unfold upd at h; simp at h; exact .inr (by rw [h])
  | y::r,k,v,x,h=>by
    unfold upd at h
    split at h
    · rcases List.mem_cons.1 h with rfl | h
      · exact .inr rfl
      · exact .inl (List.mem_cons_of_mem _ h)
    · rcases List.mem_cons.1 h with rfl | h
      · exact .inl (List.mem_cons_self ..)
      · exact (upd_mem h).imp (List.mem_cons_of_mem _) id
theorem del_mem {ν:Type}:∀ {l:List (Int × ν)}{k:Int}{x:Int × ν},x∈Lift.del l k→x∈l
  | [],k,x,h=>by unfold Lift.del at h; exact h
  | y::r,k,x,h=>by
    unfold Lift.del at h
    split at h
    · exact List.mem_cons_of_mem _ h
    · rcases List.mem_cons.1 h with rfl | h
      · exact List.mem_cons_self ..
      · exact List.mem_cons_of_mem _ (del_mem h)
theorem get?_mem' {l:List (Int × CA)}{k:Int}{a:CA} (h:get? l k=some a):(k,a)∈l:=get?_mem h
def AsO (s:Cnn):Prop:=∀ x∈s.asms,AOk x.2
theorem AsO.begin {s:Cnn} (o:AsO s) (m:PMM):AsO (beginP s m):=by
  unfold beginP
  repeat' (first | exact o | split)
theorem AsO.last {s:Cnn} (o:AsO s) (k ch:Nat) (b:Oct):AsO (lastP s k ch b):=by
  unfold lastP
  repeat' (first | exact o | split)
theorem AsO.zero {s:Cnn} (o:AsO s) (k:Nat) (b:Oct):AsO (zeroP s k b):=by
  unfold zeroP
  repeat' (first | exact o | exact AsO.begin o _ | split)
theorem AsO.end {s:Cnn} (o:AsO s) (k:Nat) (ch:Int) (b:Oct):AsO (endP s k ch b):=by
  unfold endP
  repeat' (first | exact o | split)
theorem AsO.ask {s:Cnn} (o:AsO s) (ch:Int) (a:CA) (oa:AOk a) (k:Nat) (b:Oct):AsO (askP s ch a k b):=by
  have o2:∀ x∈upd s.asms ch (frameR k b a).2.2,AOk x.2:=fun x hx=>by
    rcases upd_mem hx with h | h
    · exact o x h
    · rw [h]; exact oa.step k b
  unfold askP
  dsimp only
  generalize frameR k b a=r at *
  split
  · cases hardP r.2.1 <;> exact o2
  · split
    · exact o2
    · split
      · exact o2
      · split
        · exact o2
        · split
          · exact fun x hx=>o2 x (del_mem hx)
          · exact o2
theorem AsO.channel {s:Cnn} (o:AsO s) (k:Nat) (ch:Int) (b:Oct):AsO (channelP s k ch b):=by
  unfold channelP
  split
  · exact AsO.end o _ _ _
  · split
    · rename_i a ha
      exact AsO.ask o ch a (o (ch,a) (get?_mem' ha)) k b
    · split
      · exact fun x hx=>by
          rcases upd_mem hx with h | h
          · exact o x h
          · rw [h]; exact AOk.zero
      · exact o
theorem AsO.take {s:Cnn} (o:AsO s) (k ch:Nat) (b:Oct):AsO (takeF s k ch b):=by
  unfold takeF
  repeat' (first | exact o | exact AsO.last o _ _ _ | exact AsO.zero o _ _ | exact AsO.channel o _ _ _ | split)
theorem AsO.greet {s:Cnn} (o:AsO s):AsO (greetP s).2:=by
  unfold greetP
  repeat' (first | exact o | split)
theorem AsO.step {s:Cnn} (o:AsO s):AsO (stepP s).2:=by
  unfold stepP
  split
  · exact o
  · split
    · exact AsO.greet o
    · split
      · exact o
      · split <;> exact o
      · rename_i k ch b n _
        exact AsO.take (s:={ s with b:=s.b.drop n }) o k ch b
theorem framP_n {bs:Oct}{k ch n:Nat}{b:Oct} (h:framP bs=.ok k ch b n):n≤bs.length:=by
  unfold framP at h
  split at h
  · cases h
  · repeat' (first | (cases h; done) | split at h)
    cases h
    rename_i hl _
    omega
theorem framP_b {bs:Oct}{k ch n:Nat}{b:Oct} (h:framP bs=.ok k ch b n):b.length≤4088:=by
  unfold framP at h
  split at h
  · cases h
  · repeat' (first | (cases h; done) | split at h)
    cases h
    rename_i h1 _ _
    rw [List.length_take]
    omega
section
variable {K:KT}{L R:List Asr}{h:Heap}
theorem greetS {c:Addr}{s:Cnn} (S0:St L h) [H:Has (ConA c) L s R] (he:s.ev.length<536870912) (hb:s.b.length<1073741824) (hK:∀ h' s',er s'=er (greetP s).2→BvOk s.bv s.b s'→St (ConA c s'::R) h'→K (.bool (greetP s).1) h') :
    CallsH P F.qcr [.pointer (some c)] K h:=by
  refine qcr.ok ?_
  unfold qcr.p0
  obtain ⟨bv,ev,xs,ma,me,rows,⟨f1,f2⟩,S1⟩:=ConA.op (S0.get (ConA c))
  have lb:=Sl.len (isl8 S1 (s:=bv) (bs:=s.b)).1
  have lc:=(isl8 S1 (s:=bv) (bs:=s.b)).2
  simp only [someE,rdS (S1.rc c 1 rfl),bd]
  have hn:(if (8:Int)<((bv.2.1:Nat):Int) then 8 else ((bv.2.1:Nat):Int))=((min s.b.length 8:Nat):Int):=by
    rw [lb]; split <;> omega
  rw [hn]
  generalize hm:min s.b.length 8=n at *
  refine ⟨⟨by omega,by omega⟩,?_⟩
  have sl0:Sl 1 h (slA bv.1 0 bv.2.2 1) n (u8s (s.b.take n)):=by
    have:=Sl.take (isl8 S1 (s:=bv) (bs:=s.b)).1 (n:=n) (by omega)
    rw [slA_zero]
    simpa [u8s,List.map_take] using this
  rw [Int.toNat_natCast]
  refine str_ok u_sl u_u8 u_str sl0 ⟨_,rfl,prefixS ⟨_,rfl,?_⟩⟩
  have ln:(s.b.take n).length=n:=by rw [List.length_take]; omega
  rw [ln]
  unfold greetP at hK
  rw [hm] at hK
  by_cases hp:greeting.take n=s.b.take n
  · rw [if_neg (by simpa using hp)] at hK
    refine ifF (by rw [show decide (List.take n ([65,77,81,80,0,0,9,1]:List UInt8)=s.b.take n)=true from decide_eq_true hp]; rfl) ?_
    by_cases h8:s.b.length<8
    · rw [if_pos h8] at hK
      exact ifT (by simp; omega) (hK h s rfl (.inl ⟨0,Nat.zero_le _,by rw [slA_zero]; rfl,rfl⟩) (S0.get (ConA c)))
    · rw [if_neg h8] at hK
      have n8:n=8:=by omega
      refine ifF (by simp; omega) ⟨_,_,_,S1.rc c 1 rfl,⟨by omega,by omega⟩,?_⟩
      have S2:=St.idrop (show St (Im 1 bv (u8s s.b)::Bx c (ccells s bv ev ma me)::Ow 17 ev (xs.flatMap evc2)::EvsI xs::Mq kI vA ma (rowA rows)::AsI rows::Mq kI vI me s.ending::R) h from S1.p1) bv (n:=8) (by omega)
      have eb:(u8s s.b).drop 8=u8s (s.b.drop 8):=by simp [u8s,List.map_drop]
      rw [eb] at S2
      rw [n8]
      refine S2.put1 c 1 (by simp) rfl fun h2 S3=>S3.put1 c 0 (by simp) rfl fun h3 S4=>?_
      simp only [List.set_cons_succ,List.set_cons_zero] at S4
      have S4':St (Bx c (ccells { s with b:=s.b.drop 8,st:=1,bv:=(slA bv.1 8 bv.2.2 1,bv.2.1 - 8,bv.2.2 - 8) } (slA bv.1 8 bv.2.2 1,bv.2.1 - 8,bv.2.2 - 8) ev ma me)::Im 1 (slA bv.1 8 bv.2.2 1,bv.2.1 - 8,bv.2.2 - 8) (u8s (s.b.drop 8))::Ow 17 ev (xs.flatMap evc2)::EvsI xs::Mq kI vA ma (rowA rows)::AsI rows::Mq kI vI me s.ending::R) h3:=S4.to
      have S5:St (ConA c { s with b:=s.b.drop 8,st:=1,bv:=(slA bv.1 8 bv.2.2 1,bv.2.1 - 8,bv.2.2 - 8) }::R) h3:=ConA.cl (s:={ s with b:=s.b.drop 8,st:=1,bv:=(slA bv.1 8 bv.2.2 1,bv.2.1 - 8,bv.2.2 - 8) }) (slA bv.1 8 bv.2.2 1,bv.2.1 - 8,bv.2.2 - 8) ev xs ma me rows ⟨rfl,f1.2⟩ f2 S4'
      have S6:=S5.lit [.int .u64 0,.int .u64 9] T.uint64 2 rfl
      generalize top h3=p1 at *
      have S7:=S6.lit [.string (mkS [80,76,65,73,78]),.string (mkS [101,110,95,85,83])] T.string 2 rfl
      have S8:St (Im 1 (some (top (al h3 [Value.int .u64 0,.int .u64 9].toArray T.uint64)),2,2) (strs [[80,76,65,73,78],[101,110,95,85,83]])::Im 1 (some p1,2,2) (nums [0,9])::ConA c { s with b:=s.b.drop 8,st:=1,bv:=(slA bv.1 8 bv.2.2 1,bv.2.1 - 8,bv.2.2 - 8) }::R) _:=S7
      have S9:=tbNil 0 (S8.imNil 1 0)
      refine sendS (c:=c) (s:={ s with b:=s.b.drop 8,st:=1,bv:=(slA bv.1 8 bv.2.2 1,bv.2.1 - 8,bv.2.2 - 8) }) (y:=⟨(some p1,2,2),(some _,2,2),(none,0,0),(none,0,0)⟩) (x:=startM.2.2) (B:=fun _=>False) S9 (smallM_of (by simp) (by simp) (by simp) (by simp) (by simp) smallP0) (by decide +kernel) (by decide) (by decide) (by simpa using by omega) fun h5 S10=>⟨rfl,?_⟩
      have S11:St (ConA c (Cnn.send { s with b:=s.b.drop 8,st:=1,bv:=(slA bv.1 8 bv.2.2 1,bv.2.1 - 8,bv.2.2 - 8) } 0 (10,10,startM.2.2))::R) h5:=S10.to
      exact hK h5 (Cnn.send { s with b:=s.b.drop 8,st:=1,bv:=(slA bv.1 8 bv.2.2 1,bv.2.1 - 8,bv.2.2 - 8) } 0 (10,10,startM.2.2)) rfl (.inl ⟨8,by rw [← f1.1]; omega,by rw [← f1.1]; rfl,rfl⟩) S11
  · rw [if_pos (by simpa using hp)] at hK
    refine ifT (by rw [show decide (List.take n ([65,77,81,80,0,0,9,1]:List UInt8)=s.b.take n)=false from decide_eq_false hp]; rfl) ?_
    refine bytesConst (bs:=greeting) (n:=8) rfl (S0.get (ConA c)) fun h2 S2=>⟨_,_,_,rfl,?_⟩
    refine tellS (c:=c) (s:=s) (e:=evOut greeting) (q:=⟨(some (top h),8,8),mnil,nosv⟩) (evI_out S2) (by omega) fun h3 S3=>⟨rfl,?_⟩
    refine goneS (c:=c) (s:=s.tell (evOut greeting)) S3 (by simp [Cnn.tell]; omega) fun h4 S4=>⟨rfl,hK h4 _ rfl (.inr ⟨rfl,rfl⟩) S4⟩
theorem drop_zero_bv (bv:SV):(slA bv.1 0 bv.2.2 1,bv.2.1 - 0,bv.2.2 - 0)=bv:=by rw [slA_zero]; rfl
theorem stepAS {c:Addr}{s:Cnn} (S0:St L h) [H:Has (ConA c) L s R] (he:s.ev.length<536870912) (hb:s.b.length<1073741824) (hA:AsO s)
    (hK:∀ h' s',er s'=er (stepP s).2→BvOk s.bv s.b s'→St (ConA c s'::R) h'→K (.bool (stepP s).1) h'):CallsH P F.qaz [.pointer (some c)] K h:=by
  refine qaz.ok ?_
  unfold qaz.p0
  have S1:=S0.get (ConA c)
  obtain ⟨bv,ev,xs,ma,me,rows,⟨⟨f0,f1⟩,f2⟩,S2⟩:=ConA.op S1
  have same:BvOk s.bv s.b s:=.inl ⟨0,Nat.zero_le _,(drop_zero_bv _).symm,rfl⟩
  simp only [someE,rdN (S2.rc c 0 rfl),rdB (S2.rc c 4 rfl)]
  unfold stepP at hK
  have stop:s.st=6∨s.deaf=true→qaz.j1 K (some c) true h:=by
    intro z
    rw [if_pos z] at hK
    unfold qaz.j1
    exact ifT rfl (hK h s rfl same S1)
  have go:¬ (s.st=6∨s.deaf=true)→qaz.j1 K (some c) false h:=by
    intro z
    rw [if_neg z] at hK
    unfold qaz.j1
    refine ifF rfl ?_
    simp only [someE,rdN (S2.rc c 0 rfl)]
    by_cases h0:s.st=0
    · rw [if_pos h0] at hK
      exact ifT (by rw [h0]; rfl) (greetS (c:=c) (s:=s) S1 he hb fun h' s' e1 e2 S'=>⟨_,rfl,hK h' s' e1 e2 S'⟩)
    rw [if_neg h0] at hK
    refine ifF (by simp; omega) ⟨_,_,_,S2.rc c 1 rfl,?_⟩
    have lb:=Sl.len (isl8 S2 (s:=bv) (bs:=s.b)).1
    refine framS (s:=bv) (bs:=s.b) S2 (by omega) fun p l cc h2 S3=>⟨_,_,_,rfl,?_⟩
    have S4:=S3.al (fcl 0 0 ((none,0,0):SV)) T.api_Frame
    refine ⟨rfl,S4.putA (top h2) (ws:=fcl (framP s.b).k (framP s.b).ch (p,l,cc)) rfl (by simp [one]) fun h3 S5=>?_⟩
    generalize top h2=f at *
    have S6:St (Bx c (ccells s bv ev ma me)::Im 1 bv (u8s s.b)::Ow 17 ev (xs.flatMap evc2)::EvsI xs::Mq kI vA ma (rowA rows)::AsI rows::Mq kI vI me s.ending::Bx f (fcl (framP s.b).k (framP s.b).ch (p,l,cc))::Im 1 (p,l,cc) (u8s (framP s.b).b)::R) h3:=S5.to
    have S7:St (ConA c s::R) h3:=(ConA.cl bv ev xs ma me rows ⟨f0,f1⟩ f2 S6).d1.d1
    simp only [bd]
    cases hf:framP s.b with
    | more =>
      rw [hf] at hK
      exact ifT rfl (hK h3 s rfl same S7)
    | bad =>
      rw [hf] at hK S6
      refine ifF rfl (ifT rfl ?_)
      simp only [someE,rdN (S6.rc c 0 rfl)]
      by_cases h5:s.st=5
      · rw [if_pos h5] at hK
        rw [show (((s.st:Nat):Int)==5)=true by rw [h5]; rfl]
        unfold qaz.j2
        exact ifT rfl (goneS (c:=c) (s:=s) S7 (by omega) fun h4 S8=>⟨rfl,hK h4 _ rfl (.inr ⟨rfl,rfl⟩) S8⟩)
      · rw [if_neg h5] at hK
        rw [show (((s.st:Nat):Int)==5)=false by simp; omega]
        unfold qaz.j2
        refine ifF rfl ?_
        simp only [bd,someE]
        refine ifT rfl ?_
        refine S6.put1 c 1 (by simp) rfl fun h4 S8=>S8.put1 c 4 (by simp) rfl fun h5' S9=>?_
        simp only [List.set_cons_succ,List.set_cons_zero] at S9
        have S10:St (Im 1 nosv (u8s [])::Bx c (ccells { s with b:=[],deaf:=true,bv:=(none,0,0) } nosv ev ma me)::Ow 17 ev (xs.flatMap evc2)::EvsI xs::Mq kI vA ma (rowA rows)::AsI rows::Mq kI vI me s.ending::R) h5':=(show St (Im 1 nosv (u8s [])::_) h5' from S9.imNil 1 0).to
        have S11:St (ConA c { s with b:=[],deaf:=true,bv:=(none,0,0) }::R) h5':=ConA.cl (s:={ s with b:=[],deaf:=true,bv:=(none,0,0) }) nosv ev xs ma me rows ⟨rfl,f1⟩ f2 S10.p1
        exact wrongCS (c:=c) (s:={ s with b:=[],deaf:=true,bv:=(none,0,0) }) (y:=mnil) (x:=noM) S11 (by show s.ev.length<_; omega) fun h6 S12=>⟨rfl,hK h6 (Cnn.wrong { s with b:=[],deaf:=true,bv:=(none,0,0) } 501 (mm0 0 0)) rfl (.inr ⟨rfl,rfl⟩) S12⟩
    | ok k ch b n =>
      rw [hf] at hK S6
      have hn:n≤s.b.length:=framP_n hf
      refine ifF rfl (ifF rfl ?_)
      unfold qaz.j2
      refine ifF rfl ?_
      simp only [bd,someE]
      refine ifF rfl ⟨_,_,_,S6.rc c 1 rfl,⟨by simp only [FR.n]; omega,by simp only [FR.n]; omega⟩,?_⟩
      have S8:=St.idrop (show St (Im 1 bv (u8s s.b)::Bx c (ccells s bv ev ma me)::Ow 17 ev (xs.flatMap evc2)::EvsI xs::Mq kI vA ma (rowA rows)::AsI rows::Mq kI vI me s.ending::Bx f (fcl k ch (p,l,cc))::Im 1 (p,l,cc) (u8s b)::R) h3 from S6.p1) bv (n:=n) (by omega)
      have eb:(u8s s.b).drop n=u8s (s.b.drop n):=by simp [u8s,List.map_drop]
      rw [eb] at S8
      have en:(((FR.ok k ch b n).n:Nat):Int).toNat=n:=Int.toNat_natCast _
      rw [en]
      refine S8.put1 c 1 (by simp) rfl fun h4 S9=>?_
      simp only [List.set_cons_succ,List.set_cons_zero] at S9
      have S10:St (Bx c (ccells { s with b:=s.b.drop n,bv:=(slA bv.1 n bv.2.2 1,bv.2.1 - n,bv.2.2 - n) } (slA bv.1 n bv.2.2 1,bv.2.1 - n,bv.2.2 - n) ev ma me)::Im 1 (slA bv.1 n bv.2.2 1,bv.2.1 - n,bv.2.2 - n) (u8s (s.b.drop n))::Ow 17 ev (xs.flatMap evc2)::EvsI xs::Mq kI vA ma (rowA rows)::AsI rows::Mq kI vI me s.ending::Bx f (fcl k ch (p,l,cc))::Im 1 (p,l,cc) (u8s b)::R) h4:=S9.to
      have S11:St (ConA c { s with b:=s.b.drop n,bv:=(slA bv.1 n bv.2.2 1,bv.2.1 - n,bv.2.2 - n) }::Bx f (fcl k ch (p,l,cc))::Im 1 (p,l,cc) (u8s b)::R) h4:=ConA.cl (s:={ s with b:=s.b.drop n,bv:=(slA bv.1 n bv.2.2 1,bv.2.1 - n,bv.2.2 - n) }) (slA bv.1 n bv.2.2 1,bv.2.1 - n,bv.2.2 - n) ev xs ma me rows ⟨rfl,f1⟩ f2 S10
      refine ⟨_,S11.rall f 3 rfl,takeFS (c:=c) (s:={ s with b:=s.b.drop n,bv:=(slA bv.1 n bv.2.2 1,bv.2.1 - n,bv.2.2 - n) }) (k:=k) (ch:=ch) (t:=(p,l,cc)) (bs:=b) S11 (by have:=framP_b hf; omega) he hA fun h5 S12=>⟨rfl,?_⟩⟩
      refine hK h5 (takeF { s with b:=s.b.drop n,bv:=(slA bv.1 n bv.2.2 1,bv.2.1 - n,bv.2.2 - n) } k ch b) ?_ ?_ S12.d1.d1
      · rw [er_take]; exact (er_take { s with b:=s.b.drop n } k ch b).symm
      · rcases KB.take { s with b:=s.b.drop n,bv:=(slA bv.1 n bv.2.2 1,bv.2.1 - n,bv.2.2 - n) } k ch b with ⟨e1,e2⟩ | ⟨e1,e2⟩
        · exact .inl ⟨n,by rw [← f0]; omega,by rw [e1,← f0],e2⟩
        · exact .inr ⟨e1,e2⟩
  by_cases h6:s.st=6
  · exact ifT' (by rw [h6]; rfl) (stop (.inl h6))
  · refine ifF' (by simp; omega) ?_
    cases hd:s.deaf with
    | true=>exact stop (.inr hd)
    | false=>exact go (by rw [hd]; simp [h6])
theorem stepS {c:Addr}{s:Cnn} (S0:St L h) [H:Has (ConO c) L s R] (he:s.ev.length<536870912) (hb:s.b.length<1073741824) (hA:AsO s)
    (hK:∀ h',St (ConO c (stepP s).2::R) h'→K (.bool (stepP s).1) h'):CallsH P F.qaz [.pointer (some c)] K h:=by
  obtain ⟨bv,hl,hc,S1⟩:=lendC (S0.get (ConO c))
  have e2:(stepP { s with bv:=bv }).1=(stepP s).1∧er (stepP { s with bv:=bv }).2=er (stepP s).2:=by
    unfold stepP
    show (if s.st=6∨s.deaf=true then _ else if s.st=0 then greetP { s with bv:=bv } else _:Bool × Cnn).1=_∧er (if s.st=6∨s.deaf=true then (false,{ s with bv:=bv }) else if s.st=0 then greetP { s with bv:=bv } else _:Bool × Cnn).2=_
    split
    · exact ⟨rfl,rfl⟩
    · split
      · unfold greetP
        show (if greeting.take (min s.b.length 8)≠s.b.take (min s.b.length 8) then _ else if s.b.length<8 then _ else _:Bool × Cnn).1=_∧er (if greeting.take (min s.b.length 8)≠s.b.take (min s.b.length 8) then _ else if s.b.length<8 then _ else _:Bool × Cnn).2=_
        split
        · exact ⟨rfl,rfl⟩
        · split <;> exact ⟨rfl,rfl⟩
      · show (match framP s.b with | .more=>_ | .bad=>if s.st=5 then _ else _ | .ok k ch b n=>_:Bool × Cnn).1=_∧er (match framP s.b with | .more=>_ | .bad=>if s.st=5 then _ else _ | .ok k ch b n=>_:Bool × Cnn).2=_
        cases framP s.b with
        | more=>exact ⟨rfl,rfl⟩
        | bad=>dsimp only; split <;> exact ⟨rfl,rfl⟩
        | ok k ch b n=>exact ⟨rfl,(er_take { s with b:=s.b.drop n,bv:=bv } k ch b).trans (er_take { s with b:=s.b.drop n } k ch b).symm⟩
  refine stepAS (c:=c) (s:={ s with bv:=bv }) S1 he hb hA fun h' s' e1 ok S2=>?_
  have S3:=thawC ok S2
  rw [ConO.er (e1.trans e2.2)] at S3
  rw [e2.1]
  exact hK h' S3
end
end Go.Proofs.YtjapglfpjhljpaaGreat.Pr
end
section
set_option linter.unusedVariables false
set_option linter.unusedSimpArgs false
namespace Go.Proofs.YtjapglfpjhljpaaGreat.Pr
open Go Go.Lift Go.Proofs
def EvB (s s':Cnn):Prop:=s'.ev.length≤s.ev.length+2
theorem EvB.last (s:Cnn) (k ch:Nat) (b:Oct):EvB s (lastP s k ch b):=by
  unfold lastP EvB
  repeat' (first | (simp [Cnn.send,Cnn.gone,Cnn.tell]; done) | split)
theorem EvB.begin (s:Cnn) (m:PMM):EvB s (beginP s m):=by
  unfold beginP EvB
  repeat' (first | (simp [Cnn.send,Cnn.gone,Cnn.tell,Cnn.wrong,Cnn.closing]; done) | split)
theorem EvB.zero (s:Cnn) (k:Nat) (b:Oct):EvB s (zeroP s k b):=by
  unfold zeroP
  repeat' (first | exact EvB.begin _ _ | (simp [EvB,Cnn.send,Cnn.gone,Cnn.tell,Cnn.wrong,Cnn.closing]; done) | split)
theorem EvB.end (s:Cnn) (k:Nat) (ch:Int) (b:Oct):EvB s (endP s k ch b):=by
  unfold endP
  repeat' (first | (simp [EvB,Cnn.send,Cnn.gone,Cnn.tell,Cnn.wrong,Cnn.closing]; done) | split)
theorem EvB.ask (s:Cnn) (ch:Int) (a:CA) (k:Nat) (b:Oct):EvB s (askP s ch a k b):=by
  unfold askP
  dsimp only
  generalize frameR k b a=r
  split
  · cases hardP r.2.1 <;> simp [EvB,Cnn.tell,Cnn.closing]
  · repeat' (first | (simp [EvB,Cnn.send,Cnn.gone,Cnn.tell,Cnn.wrong,Cnn.closing]; done) | split)
theorem EvB.channel (s:Cnn) (k:Nat) (ch:Int) (b:Oct):EvB s (channelP s k ch b):=by
  unfold channelP
  repeat' (first | exact EvB.end _ _ _ _ | exact EvB.ask _ _ _ _ _ | (simp [EvB,Cnn.send,Cnn.gone,Cnn.tell,Cnn.wrong,Cnn.closing]; done) | split)
theorem EvB.take (s:Cnn) (k ch:Nat) (b:Oct):EvB s (takeF s k ch b):=by
  unfold takeF
  repeat' (first | exact EvB.last _ _ _ _ | exact EvB.zero _ _ _ | exact EvB.channel _ _ _ _ | (simp [EvB,Cnn.send,Cnn.gone,Cnn.tell,Cnn.wrong,Cnn.closing]; done) | split)
theorem EvB.greet (s:Cnn):EvB s (greetP s).2:=by
  unfold greetP
  repeat' (first | (simp [EvB,Cnn.send,Cnn.gone,Cnn.tell,Cnn.wrong,Cnn.closing]; done) | split)
theorem EvB.step (s:Cnn):EvB s (stepP s).2:=by
  unfold stepP
  split
  · simp [EvB]
  · split
    · exact EvB.greet s
    · split
      · simp [EvB]
      · split <;> simp [EvB,Cnn.send,Cnn.gone,Cnn.tell,Cnn.wrong,Cnn.closing]
      · exact EvB.take { s with b:=_ } _ _ _
theorem framP_n8 {bs:Oct}{k ch n:Nat}{b:Oct} (h:framP bs=.ok k ch b n):8≤n:=by
  unfold framP at h
  split at h
  · cases h
  · repeat' (first | (cases h; done) | split at h)
    cases h
    omega
theorem step_prog (s:Cnn) (h:(stepP s).1=true):(stepP s).2.ev≠[]∨(stepP s).2.b.length<s.b.length:=by
  unfold stepP at h ⊢
  by_cases h1:s.st=6∨s.deaf=true
  · rw [if_pos h1] at h; cases h
  · rw [if_neg h1] at h ⊢
    by_cases h2:s.st=0
    · rw [if_pos h2] at h ⊢
      unfold greetP at h ⊢
      split
      · exact .inl (by simp [Cnn.send,Cnn.gone,Cnn.tell])
      · split
        · rename_i a b; rw [if_neg a,if_pos b] at h; cases h
        · exact .inl (by simp [Cnn.send,Cnn.gone,Cnn.tell])
    · rw [if_neg h2] at h ⊢
      cases hf:framP s.b with
      | more=>rw [hf] at h; cases h
      | bad =>
        dsimp only
        split <;> exact .inl (by simp [Cnn.send,Cnn.gone,Cnn.tell,Cnn.wrong])
      | ok k ch b n =>
        have h8:=framP_n8 hf
        have hn:=framP_n hf
        refine .inr ?_
        rcases KB.take { s with b:=s.b.drop n } k ch b with ⟨_,e⟩ | ⟨_,e⟩
        · show (takeF { s with b:=s.b.drop n } k ch b).b.length<_; rw [e]; simp; omega
        · show (takeF { s with b:=s.b.drop n } k ch b).b.length<_; rw [e]; simp; omega
theorem step_b (s:Cnn):(stepP s).2.b.length≤s.b.length:=by
  unfold stepP
  split
  · exact Nat.le_refl _
  · split
    · unfold greetP
      repeat' (first | (simp [Cnn.send,Cnn.gone,Cnn.tell]; done) | split)
    · cases hf:framP s.b with
      | more=>exact Nat.le_refl _
      | bad=>dsimp only; split <;> simp [Cnn.send,Cnn.gone,Cnn.tell,Cnn.wrong,Cnn.closing]
      | ok k ch b n =>
        rcases KB.take { s with b:=s.b.drop n } k ch b with ⟨_,e⟩ | ⟨_,e⟩
        · show (takeF { s with b:=s.b.drop n } k ch b).b.length≤_; rw [e]; simp
        · show (takeF { s with b:=s.b.drop n } k ch b).b.length≤_; rw [e]; simp
def need (s:Cnn):Nat:=if s.ev=[] then s.b.length+2 else 1
theorem need_step {s:Cnn} (h:(stepP s).1=true) (he:s.ev=[]):need (stepP s).2+1≤need s:=by
  unfold need
  rw [if_pos he]
  rcases step_prog s h with h1 | h1
  · rw [if_neg h1]; omega
  · split <;> omega
def nxt (s:Cnn):Option EV × Cnn:=nextP (need s) s
theorem nextP_more:∀ {f g:Nat}{s:Cnn},need s≤f→need s≤g→nextP f s=nextP g s
  | 0,g,s,h,_=>by unfold need at h; split at h <;> omega
  | f+1,0,s,_,h=>by unfold need at h; split at h <;> omega
  | f+1,g+1,s,h1,h2=>by
    unfold nextP
    cases he:s.ev with
    | cons e r=>rfl
    | nil =>
      dsimp only
      by_cases hs:(stepP s).1=true
      · rw [if_pos hs,if_pos hs]
        have:=need_step hs he
        exact nextP_more (by omega) (by omega)
      · rw [if_neg hs,if_neg hs]
theorem nxt_ev {s:Cnn}{e:EV}{r:List EV} (he:s.ev=e::r):nxt s=(some e,{ s with ev:=r }):=by
  unfold nxt need
  rw [if_neg (by rw [he]; simp)]
  unfold nextP
  rw [he]
theorem nxt_step {s:Cnn} (he:s.ev=[]) (hs:(stepP s).1=true):nxt s=nxt (stepP s).2:=by
  have:=need_step hs he
  unfold nxt
  obtain ⟨k,hk⟩:∃ k,need s=k+1:=⟨need s - 1,by omega⟩
  rw [hk]
  conv=>lhs; unfold nextP
  rw [he]
  dsimp only
  rw [if_pos hs]
  exact nextP_more (by omega) (Nat.le_refl _)
theorem nxt_stop {s:Cnn} (he:s.ev=[]) (hs:(stepP s).1=false):nxt s=(none,(stepP s).2):=by
  unfold nxt need
  rw [if_pos he]
  unfold nextP
  rw [he]
  dsimp only
  rw [if_neg (by rw [hs]; simp)]
section
variable {K:KT}{L R:List Asr}{h:Heap}
def NextK (K:KT) (c:Addr) (R:List Asr) (r:Option EV × Cnn):Prop:=∀ h',match r.1 with
  | some e=>∀ q,St (ConO c r.2::EvI e q::R) h'→K (.tuple #[.agg (List.toArray (evc e q)),.bool true]) h'
  | none=>St (ConO c r.2::R) h'→K (.tuple #[.agg (List.toArray zev),.bool false]) h'
theorem nextL {c t:Addr}:∀ (fuel:Nat) {s:Cnn}{h:Heap}{zs:List Value},zs.length=17→need s≤fuel→St (ConO c s::Bx t zs::R) h→s.ev.length<536870912→s.b.length<1073741824→AsO s→NextK K c R (nxt s)→qbf.L2 K fuel (some c) t h
  | 0,s,h,zs,hz,hn,_,_,_,_,_=>by unfold need at hn; split at hn <;> omega
  | fuel+1,s,h,zs,hz,hn,S,he,hb,hA,hK=>by
    unfold qbf.L2
    obtain ⟨bv,ev,xs,ma,me,rows,⟨f1,f2⟩,S1⟩:=ConO.op S
    refine ⟨c,rfl,_,_,_,S1.rc c 2 rfl,?_⟩
    have lx:xs.length=s.ev.length:=by rw [← f1]; simp
    have le:ev.2.1=xs.length:=by
      have:=(S1.osl 17 ev).1
      rw [flat_length evc2_len xs] at this
      omega
    cases xs with
    | nil =>
      have e0:s.ev=[]:=by rw [← f1]; rfl
      refine ifT (by rw [le]; rfl) (stepS (c:=c) (s:=s) S he hb hA fun h2 S2=>⟨_,rfl,?_⟩)
      cases hs:(stepP s).1 with
      | false =>
        rw [nxt_stop e0 hs] at hK
        refine ifT rfl ⟨rfl,S2.putA t (ws:=zev) (by rw [hz]; rfl) (by simp [one]) fun h3 S3=>⟨_,S3.rall t 17 rfl,hK h3 S3.tl⟩⟩
      | true =>
        rw [nxt_step e0 hs] at hK
        have h1:=need_step hs e0
        have h2':=EvB.step s
        have h3:=step_b s
        unfold EvB at h2'
        exact ifF rfl (nextL fuel hz (by omega) S2 (by rw [e0] at h2'; simp at h2'; omega) (by omega) (AsO.step hA) hK)
    | cons x r =>
      have e1:s.ev=x.1::r.map Prod.fst:=by rw [← f1]; rfl
      rw [nxt_ev e1] at hK
      have le':ev.2.1=r.length+1:=le
      refine ifF (by simp; omega) ?_
      unfold qbf.j1
      refine ⟨c,rfl,_,_,_,S1.rc c 2 rfl,?_⟩
      refine ixS evc2_len (by decide) (S1.osl 17 ev) (n:=0) rfl rfl ?_
      simp only [bd]
      have S2:=S1.al zev T.api_Event
      refine ⟨rfl,S2.putA (top h) (ws:=evc2 x) rfl (evc2_one x) fun h2 S3=>⟨c,rfl,_,_,_,S3.rc c 2 rfl,⟨by omega,by omega⟩,c,rfl,?_⟩⟩
      generalize top h=b at *
      have S4:St (Ow 17 ev ((x::r).flatMap evc2)::Bx b (evc2 x)::Bx c (ccells s bv ev ma me)::Ou U8 bv (u8s s.b)::EvsI (x::r)::Mq kI vA ma (rowA rows)::AsI rows::Mq kI vI me s.ending::Bx t zs::R) h2:=S3.to
      have S5:=S4.owDrop (n:=1) (by rw [le]; simp)
      have ed:((x::r).flatMap evc2).drop (1 * 17)=r.flatMap evc2:=flat_drop evc2_len (x::r) 1
      rw [ed] at S5
      refine S5.put1 c 2 (by simp) rfl fun h3 S6=>?_
      simp only [List.set_cons_succ,List.set_cons_zero,show Int.toNat 1=1 from rfl] at S6
      refine ⟨_,S6.rall b 17 rfl,rfl,S6.putA t (ws:=evc2 x) (by rw [hz]; rfl) (evc2_one x) fun h4 S7=>⟨_,S7.rall t 17 rfl,hK h4 x.2 ?_⟩⟩
      have S8:St (EvsI (x::r)::Bx c (ccells s bv (slA ev.1 1 ev.2.2 17,ev.2.1 - 1,ev.2.2 - 1) ma me)::Ou U8 bv (u8s s.b)::Ow 17 (slA ev.1 1 ev.2.2 17,ev.2.1 - 1,ev.2.2 - 1) (r.flatMap evc2)::Mq kI vA ma (rowA rows)::AsI rows::Mq kI vI me s.ending::R) h4:=S7.to
      have S9:St (EvI x.1 x.2::EvsI r::Bx c (ccells s bv (slA ev.1 1 ev.2.2 17,ev.2.1 - 1,ev.2.2 - 1) ma me)::Ou U8 bv (u8s s.b)::Ow 17 (slA ev.1 1 ev.2.2 17,ev.2.1 - 1,ev.2.2 - 1) (r.flatMap evc2)::Mq kI vA ma (rowA rows)::AsI rows::Mq kI vI me s.ending::R) h4:=St.split (A:=EvI x.1 x.2) (B:=EvsI r) S8
      have S10:St (Bx c (ccells s bv (slA ev.1 1 ev.2.2 17,ev.2.1 - 1,ev.2.2 - 1) ma me)::Ou U8 bv (u8s s.b)::Ow 17 (slA ev.1 1 ev.2.2 17,ev.2.1 - 1,ev.2.2 - 1) (r.flatMap evc2)::EvsI r::Mq kI vA ma (rowA rows)::AsI rows::Mq kI vI me s.ending::EvI x.1 x.2::R) h4:=S9.to
      exact ConO.cl (s:={ s with ev:=r.map Prod.fst }) bv _ r ma me rows rfl f2 S10
theorem nextS {c:Addr}{s:Cnn} (S0:St L h) [H:Has (ConO c) L s R] (he:s.ev.length<536870912) (hb:s.b.length<1073741824) (hA:AsO s) (hK:NextK K c R (nxt s)):CallsH P F.qbf [.pointer (some c)] K h:=by
  refine qbf.ok ?_
  unfold qbf.p0
  have S1:=(S0.get (ConO c)).al zev T.api_Event
  simp only [bd]
  exact ⟨need s,nextL (need s) (zs:=zev) rfl (Nat.le_refl _) S1.p1 he hb hA hK⟩
end
end Go.Proofs.YtjapglfpjhljpaaGreat.Pr
end
section
set_option linter.unusedVariables false
set_option linter.unusedSimpArgs false
namespace Go.Proofs.YtjapglfpjhljpaaGreat.Pr
open Go Go.Lift Go.Proofs
theorem made_sm (w f:Int) (s:List Oct):SmM (madeC w).1.1 (madeC w).1.2 (madeF [1,0,2] s f [] true (madeC w).2):=by
  have hr:=madeC_rng w
  have hg:=madeC_good w
  have h9:∀ x∈knownL,x.2.length≤9:=by decide +kernel
  have l9:=h9 _ (madeC_mem w)
  have ml:=madeF_len [1,0,2] s f [] true (madeC w).2
  have key:∀ (l:Oct) (x:PM),(∀ c∈l,c=102∨letter c)→x.T=[]→(∀ v∈x.N,v<18446744073709551616)→(∀ z∈x.S,z.length≤255) →
      (l.foldl (madeOne [1,0,2] s f [] true) x).T=[]∧(∀ v∈(l.foldl (madeOne [1,0,2] s f [] true) x).N,v<18446744073709551616)∧(∀ z∈(l.foldl (madeOne [1,0,2] s f [] true) x).S,z.length≤255):=by
    intro l
    induction l with
    | nil=>intro x _ a b c; exact ⟨a,b,c⟩
    | cons c l ih =>
      intro x hl a b d
      have hc:=hl c (List.mem_cons_self ..)
      rw [List.foldl_cons]
      refine ih _ (fun z hz=>hl z (List.mem_cons_of_mem _ hz)) ?_ ?_ ?_
      · unfold madeOne
        split
        · exact a
        · split
          · rfl
          · split <;> exact a
      · unfold madeOne
        split
        · exact b
        · split
          · exact b
          · split
            · exact b
            · rename_i h1 h2 h3
              intro v hv
              rcases List.mem_append.1 hv with hv | hv
              · exact b v hv
              · rw [List.mem_singleton.1 hv]
                have hk:c.toNat - 48≤8:=by
                  rcases hc with e | e | e | e | e
                  · exact absurd e h3
                  · exact absurd (.inl e) h1
                  · exact absurd (.inr e) h1
                  · exact absurd e h2
                  · omega
                have h8:256 ^ (c.toNat - 48)≤256 ^ 8:=Nat.pow_le_pow_right (by decide) hk
                have e8:(256:Nat) ^ 8=18446744073709551616:=by decide
                exact Nat.lt_of_lt_of_le (Nat.mod_lt _ (Nat.pow_pos (by decide))) (by omega)
      · unfold madeOne
        split
        · intro z hz
          rcases List.mem_append.1 hz with hz | hz
          · exact d z hz
          · rw [List.mem_singleton.1 hz]; exact take255 _
        · split
          · exact d
          · split <;> exact d
  have hk:=key (madeC w).2 noM hg.1 rfl (fun v hv=>by cases hv) (fun z hz=>by cases hz)
  exact ⟨by omega,by omega,hk.1,⟨by have:=ml.1; omega,hk.2.1⟩,⟨by have:=ml.2.1; omega,hk.2.2⟩,by have:=ml.2.2; omega⟩
section
variable {K:KT}{L R:List Asr}{h:Heap}
theorem oct_made {x:CL}{t:Addr}{v:SV} (S:St (Bs t x v L) h) (hk:x.kn=26) (hn:0<x.n % 16) (hK:OctK K L x) :
    ∃ n387,hcell h (Addr.add t 2)=some (.int .i64 n387)∧bd (al h #[.int .u64 1,.int .u64 0,.int .u64 2] T.uint64) fun h388=>bd (al h388 #[.string (mkS x.A),.string (mkS x.B),.string (mkS x.C)] T.string) fun h389=>∃ n390,hcell h389 (Addr.add t 3)=some (.int .i64 n390) ∧
      CallsH P F.qag [.int .i64 n387,.slice (some (top h)) 3 3,.slice (some (top h388)) 3 3,.int .i64 n390,.slice none 0 0] (fun v391 h392=>∃ cs393,v391=.agg (List.toArray cs393)∧CallsH P F.qcg [.int .i64 (x.cn:Int),.agg (List.toArray cs393)] (fun v394 h395=>∃ a396 a396l a396c,v394=.slice a396 a396l a396c∧K (.slice a396 a396l a396c) h395) h392) h389:=by
  have em:octM x=((madeC x.n).1.1,(madeC x.n).1.2,madeF [1,0,2] [x.A,x.B,x.C] x.f [] true (madeC x.n).2):=by unfold octM; simp [hk,hn]
  have eo:octP x=mfr x.cn (octM x):=by unfold octP; simp [hk,hn]
  have sm:=made_sm x.n x.f [x.A,x.B,x.C]
  refine ⟨_,S.rc t 2 rfl,bdN S [1,0,2] rfl fun h1 S1=>bdS S1 [x.A,x.B,x.C] rfl fun h2 S2=>⟨_,S2.rc t 3 rfl,?_⟩⟩
  have S3:=tbNil 0 S2
  refine madeS (which:=x.n) (ff:=x.f) (sn:=(some (top h),3,3)) (ss:=(some (top h1),3,3)) (t:=(none,0,0)) (n:=[1,0,2]) (s:=[x.A,x.B,x.C]) (tt:=[]) (B0:=fun _=>False) (tok:=true) S3 (by decide) (fun {L' K' h'} S' m hk'=>by
    haveI:In (Tb (fun _=>False) ((none,0,0):SV)) L' []:=⟨m⟩
    refine rtokS (B:=fun _=>False) (s:=(none,0,0)) (fs:=[]) S' (by decide) fun h'' S''=>?_
    rw [show tableOkP []=true by decide +kernel]
    exact hk' h'' S'') fun y B h3 S4=>⟨_,rfl,?_⟩
  generalize hx:madeF [1,0,2] [x.A,x.B,x.C] x.f [] true (madeC x.n).2=z at *
  have S5:=((S4.fz 1 y.n).fz 1 y.s).fz 1 y.f
  have hw:wtD 8 z.T≤67108864:=by rw [sm.T]; decide
  have hl:=sm.len
  refine meth24S (ch:=x.cn) (a:=(madeC x.n).1.1) (b:=(madeC x.n).1.2) (y:=y) (x:=z) (B:=B) S5 (by unfold CL.cn; omega) ⟨by have:=sm.N.1; omega,by have:=sm.S.1; omega,by have:=sm.F; omega⟩ sm.N.2 (fun w hw=>by have:=sm.S.2 w hw; omega) hw (by omega) fun p l c h4 S6=>⟨_,_,_,rfl,hK p l c h4 ?_⟩
  rw [eo,em]
  have S7:=S6.im
  have S8:St (Im 1 (p,l,c) (u8s (mfr x.cn ((madeC x.n).1.1,(madeC x.n).1.2,z)))::L) h4:=S7.d1.d1.d1.d1.d1.d1.d1.d1.d1.d1
  exact S8
def J21 (x:CL) (t:Addr) (v:SV) (L:List Asr) (b0 b16:Bool) (a423:Addr) (s16:SV) (h:Heap):Prop :=
  St (cond b0 (Im 1 (some a423,4,4) (([1,2,3,8]:List Nat).map fun z:Nat=>Value.int .i64 (z:Int))) emp::cond b16 (Im 1 s16 (u8s (octP x))) emp::Bs t x v L) h
theorem oct_r21 {x:CL}{t:Addr}{v:SV} (S:St (Bs t x v L) h) (hk:x.kn=27) (hn:0<x.n % 8) (hK:OctK K L x):qaa.r21 K t (x.cn:Int) h:=by
  have eo:octP x=frW (([1,2,3,8]:List Nat).getD (x.n / 8 % 4).toNat 0) x.cn (x.body.take 4088):=by unfold octP; simp [hk,hn]
  have e3:bitsI .and .i64 (shrI .i64 x.n 3) 3=x.n / 8 % 4:=by
    rw [m3']
    have:=shr_i64 x.n 3 (by decide)
    rw [show shrI .i64 x.n 3=x.n / ((2 ^ 3:Nat):Int) from this]
    rfl
  have h4:0≤x.n / 8 % 4∧x.n / 8 % 4<4:=⟨Int.emod_nonneg _ (by decide),Int.emod_lt_of_pos _ (by decide)⟩
  have hlt:(x.n / 8 % 4).toNat<([1,2,3,8]:List Nat).length:=by simp; omega
  have hg:([1,2,3,8]:List Nat)[(x.n / 8 % 4).toNat]? = some (([1,2,3,8]:List Nat).getD (x.n / 8 % 4).toNat 0):=by
    rw [List.getD_eq_getElem?_getD,List.getElem?_eq_getElem hlt]; rfl
  have hkk:([1,2,3,8]:List Nat).getD (x.n / 8 % 4).toNat 0<256:=by
    generalize (x.n / 8 % 4).toNat=j
    match j with
    | 0=>decide
    | 1=>decide
    | 2=>decide
    | 3=>decide
    | j+4=>simp
  have lb:=Sl.len (isl8 S (s:=v) (bs:=x.body)).1
  have lc:=(isl8 S (s:=v) (bs:=x.body)).2
  have en:(if (4088:Int)<((v.2.1:Nat):Int) then 4088 else ((v.2.1:Nat):Int))=((min 4088 x.body.length:Nat):Int):=by rw [lb]; split <;> omega
  refine qaa.r21.rule (n426:=x.n) (n428:=((([1,2,3,8]:List Nat).getD (x.n / 8 % 4).toNat 0:Nat):Int)) (a429:=v.1) (a429l:=v.2.1) (a429c:=v.2.2) (a430:=v.1) (a430l:=v.2.1) (a430c:=v.2.2) (fun d a423 a434 a434l a434c h=>J21 x t v L (d 0) (d 16) a423 (a434,a434l,a434c) h) ?_ ?_ ?_ ?_ ?_ ?_ ?_ ?_ ?_ ?_ ?_
  · exact St.emp' (St.emp' S)
  · intro d a423 a434 a434l a434c h k0 h0 h16 J hk
    unfold J21 at J
    rw [h0] at J
    exact hk _ _ (show J21 x t v L true (d 16) _ _ _ from J.tl.lit [.int .i64 1,.int .i64 2,.int .i64 3,.int .i64 8] T.int 4 rfl)
  · intro d a423 a434 a434l a434c h _ J
    exact St.rc J t 2 rfl
  · intros; omega
  · intro d a423 a434 a434l a434c h _ _ J
    rw [e3]
    exact ⟨rfl,h4.1,h4.2⟩
  · intro d a423 a434 a434l a434c h h0 _ J
    unfold J21 at J
    rw [h0] at J
    have J1:St (Im 1 (some a423,4,4) (([1,2,3,8]:List Nat).map fun z:Nat=>Value.int .i64 (z:Int))::_) h:=J
    have sl:=J1.isl 1 (some a423,4,4)
    rw [e3]
    obtain ⟨a,ea,_,_,b,hc,eb⟩:=ix (C:=fun w:Nat=>Value.int .i64 (w:Int)) (F:=fun w=>w=([1,2,3,8]:List Nat).getD (x.n / 8 % 4).toNat 0) sl (i:=x.n / 8 % 4) (n:=(x.n / 8 % 4).toNat) (by omega) hg rfl
    cases ea
    rw [← eb]
    exact hc
  · intro d a423 a434 a434l a434c h _ J
    exact St.rc J t 7 rfl
  · intro d a423 a434 a434l a434c h _ J
    exact St.rc J t 7 rfl
  · intro d a423 a434 a434l a434c h _ J
    rw [en]
    exact ⟨by omega,by omega⟩
  · intro d a423 a434 a434l a434c h k16 h16 h0 J hk
    unfold J21 at J
    rw [h16] at J
    rw [en,Int.toNat_natCast,slA_zero]
    have J1:St (cond (d 0) (Im 1 (some a423,4,4) (([1,2,3,8]:List Nat).map fun z:Nat=>Value.int .i64 (z:Int))) emp::Bs t x v L) h:=J.p1.tl
    have J2:=St.itake J1 v (n:=min 4088 x.body.length) (by omega)
    have e1:(u8s x.body).take (min 4088 x.body.length)=u8s (x.body.take 4088):=by
      simp only [u8s,← List.map_take]
      congr 1
      by_cases h4:4088≤x.body.length
      · rw [show min 4088 x.body.length=4088 by omega]
      · rw [List.take_of_length_le (by omega),List.take_of_length_le (by omega)]
    rw [e1] at J2
    have J3:St (Im 1 nosv (u8s [])::Im 1 (v.1,min 4088 x.body.length,v.2.2) (u8s (x.body.take 4088))::cond (d 0) (Im 1 (some a423,4,4) (([1,2,3,8]:List Nat).map fun z:Nat=>Value.int .i64 (z:Int))) emp::Bs t x v L) h:=J2.imNil 1 0
    haveI:In (fun b=>Im 1 (v.1,min 4088 x.body.length,v.2.2) (u8s b)) (Im 1 nosv (u8s [])::Im 1 (v.1,min 4088 x.body.length,v.2.2) (u8s (x.body.take 4088))::cond (d 0) (Im 1 (some a423,4,4) (([1,2,3,8]:List Nat).map fun z:Nat=>Value.int .i64 (z:Int))) emp::Bs t x v L) (x.body.take 4088):=⟨List.mem_cons_of_mem _ (List.mem_cons_self ..)⟩
    refine rframeS (t:=nosv) (s:=(v.1,min 4088 x.body.length,v.2.2)) (bs:=[]) (b:=x.body.take 4088) (k:=([1,2,3,8]:List Nat).getD (x.n / 8 % 4).toNat 0) (c:=x.cn) J3 (by decide) (by rw [List.length_take]; omega) hkk (by unfold CL.cn; omega) fun p l c h' S'=>⟨_,_,_,rfl,hk _ _ _ _ (show J21 x t v L (d 0) true _ _ _ from ?_)⟩
    rw [List.nil_append,← eo] at S'
    unfold J21
    exact (S'.im.d1.d1).p1
  · intro d a423 a434 a434l a434c h _ h16 J
    unfold J21 at J
    rw [h16] at J
    unfold qaa.j20
    exact hK _ _ _ h (show St (Im 1 (a434,a434l,a434c) (u8s (octP x))::L) h from J.p1.d1.d1.d1.d1)
theorem oct17A {x:CL}{t:Addr}{v:SV}{o:Bool} (S:St (Bs t x v L) h) (ho:o=true↔(16≤x.kn∧x.kn≤18)) (hk:16≤x.kn) (hK:OctK K L x) :
    qaa.j17 K t (x.cn:Int) x.A x.B x.C (flV t) (x.kn:Int) o h:=by
  unfold qaa.j17
  have hA:=x.A_len
  have hB:=x.B_len
  have hC:=x.C_len
  have e25:3≤x.kn→x.kn≤25→octP x=mfr x.cn (octM x):=fun e1 e2=>by unfold octP; rw [if_neg (by omega),if_pos e2]
  have cut:∀ {y:PMM},3≤x.kn→x.kn≤25→octM x=y→octP x=mfr x.cn y:=fun e1 e2 e3=>by rw [e25 e1 e2,e3]
  cases o with
  | true =>
    obtain ⟨k1,k2⟩:=ho.1 rfl
    have h4:0≤x.n % 4∧x.n % 4<4:=⟨Int.emod_nonneg _ (by decide),Int.emod_lt_of_pos _ (by decide)⟩
    refine ifT rfl ?_
    have S1:=S.lit [.int .i64 10,.int .i64 20,.int .i64 20,.int .i64 30] T.int 4 rfl
    simp only [bd]
    refine ⟨_,S1.rc t 2 rfl,?_⟩
    rw [m3']
    have hlt:(x.n % 4).toNat<([10,20,20,30]:List Int).length:=by simp; omega
    have hg:([10,20,20,30]:List Int)[(x.n % 4).toNat]? = some (([10,20,20,30]:List Int).getD (x.n % 4).toNat 0):=by
      rw [List.getD_eq_getElem?_getD,List.getElem?_eq_getElem hlt]; rfl
    have sl:=S1.isl 1 (some (top h),4,4)
    refine ix (C:=fun w:Int=>Value.int .i64 w) (xs:=[10,20,20,30]) sl (i:=x.n % 4) (n:=(x.n % 4).toNat) (by omega) hg ?_
    have em:octM x=mm0 90 (([10,20,20,30]:List Int).getD (x.n % 4).toNat 0):=by
      unfold octM
      simp only
      rw [if_neg (by omega),if_neg (by omega),if_neg (by omega),if_neg (by omega),if_neg (by omega),if_neg (by omega),if_neg (by omega),if_neg (by omega),if_neg (by omega),if_neg (by omega),if_pos (by omega)]
    have hr:∀ k:Nat,0≤([10,20,20,30]:List Int).getD k 0∧([10,20,20,30]:List Int).getD k 0<65536:=by
      intro k
      match k with
      | 0=>decide
      | 1=>decide
      | 2=>decide
      | 3=>decide
      | k+4=>simp
    exact leafS (a:=90) (n:=(none,0,0)) (s:=(none,0,0)) (f:=(none,0,0)) (m:=noM) S1 ⟨by decide,hr _,rfl,by decide,by decide,by decide⟩ (cut (by omega) (by omega) em) hK
  | false =>
    have k19:19≤x.kn:=by
      by_cases e:x.kn≤18
      · have:=ho.2 ⟨hk,e⟩; cases this
      · omega
    refine ifF rfl (stepK (c:=19) (fun e=>?_) fun n19=>stepK (c:=20) (fun e=>?_) fun n20=>stepK (c:=21) (fun e=>?_) fun n21=>stepK (c:=22) (fun e=>?_) fun n22=>stepK (c:=23) (fun e=>?_) fun n23=>stepK (c:=24) (fun e=>?_) fun n24=>stepK (c:=25) (fun e=>?_) fun n25=>stepK (c:=26) (fun e=>?_) fun n26=>?_)
    · refine bdS S [x.B] rfl fun h1 S1=>flS (t:=t) (f0:=x.f) (n:=1) (by decide) S1 rfl fun p l c h2 S2=>⟨_,_,_,rfl,?_⟩
      exact leafS (a:=60) (b:=30) (n:=(none,0,0)) (s:=(some (top h),1,1)) (f:=(p,l,c)) (m:=⟨[],[x.B],flB x.f 1,[]⟩) S2.im ⟨by decide,by decide,rfl,by simp,by simp [hB],by simp [flB_len]⟩ (cut (by omega) (by omega) (by unfold octM; simp [e])) hK
    · refine bdN S [0] rfl fun h0 S0=>bdS S0 [x.A] rfl fun h1 S1=>flS (t:=t) (f0:=x.f) (n:=1) (by decide) S1 rfl fun p l c h2 S2=>⟨_,_,_,rfl,?_⟩
      exact leafS (a:=50) (b:=30) (n:=(some (top h),1,1)) (s:=(some (top h0),1,1)) (f:=(p,l,c)) (m:=⟨[0],[x.A],flB x.f 1,[]⟩) S2.im ⟨by decide,by decide,rfl,by simp,by simp [hA],by simp [flB_len]⟩ (cut (by omega) (by omega) (by unfold octM; simp [e])) hK
    · refine bdN S [0] rfl fun h0 S0=>bdS S0 [x.A] rfl fun h1 S1=>flS (t:=t) (f0:=x.f) (n:=3) (by decide) S1 rfl fun p l c h2 S2=>⟨_,_,_,rfl,?_⟩
      exact leafS (a:=50) (b:=40) (n:=(some (top h),1,1)) (s:=(some (top h0),1,1)) (f:=(p,l,c)) (m:=⟨[0],[x.A],flB x.f 3,[]⟩) S2.im ⟨by decide,by decide,rfl,by simp,by simp [hA],by simp [flB_len]⟩ (cut (by omega) (by omega) (by unfold octM; simp [e])) hK
    · refine ⟨_,S.rc t 2 rfl,?_⟩
      rw [m1]
      by_cases hb1:x.n % 2=1
      · refine ifT (by rw [hb1]; rfl) (bdN S [0] rfl fun h0 S0=>bdS S0 [x.A] rfl fun h1 S1=>flS (t:=t) (f0:=x.f) (n:=2) (by decide) S1 rfl fun p l c h2 S2=>⟨_,_,_,rfl,?_⟩)
        exact leafS (a:=40) (b:=20) (n:=(some (top h),1,1)) (s:=(some (top h0),1,1)) (f:=(p,l,c)) (m:=⟨[0],[x.A],flB x.f 2,[]⟩) S2.im ⟨by decide,by decide,rfl,by simp,by simp [hA],by simp [flB_len]⟩ (cut (by omega) (by omega) (by unfold octM; simp [e,hb1])) hK
      · refine ifF (by simpa using hb1) (bdN S [0] rfl fun h0 S0=>bdS S0 [x.A,x.B,x.C] rfl fun h1 S1=>?_)
        exact leafS (a:=50) (b:=50) (n:=(some (top h),1,1)) (s:=(some (top h0),3,3)) (f:=(none,0,0)) (m:=⟨[0],[x.A,x.B,x.C],[],[]⟩) S1 ⟨by decide,by decide,rfl,by simp,by simp [hA,hB,hC],by simp⟩ (cut (by omega) (by omega) (by unfold octM; simp [e,hb1])) hK
    · refine flS (t:=t) (f0:=x.f) (n:=1) (by decide) S rfl fun p l c h2 S2=>⟨_,_,_,rfl,?_⟩
      exact leafS (a:=60) (b:=110) (n:=(none,0,0)) (s:=(none,0,0)) (f:=(p,l,c)) (m:=⟨[],[],flB x.f 1,[]⟩) S2.im ⟨by decide,by decide,rfl,by simp,by simp,by simp [flB_len]⟩ (cut (by omega) (by omega) (by unfold octM; simp [e])) hK
    · refine ⟨_,S.rc t 2 rfl,?_⟩
      rw [m1]
      by_cases hb1:x.n % 2=1
      · refine ifT (by rw [hb1]; rfl) (bdS S [[]] rfl fun h1 S1=>?_)
        exact leafS (a:=20) (b:=10) (n:=(none,0,0)) (s:=(some (top h),1,1)) (f:=(none,0,0)) (m:=⟨[],[[]],[],[]⟩) S1 ⟨by decide,by decide,rfl,by simp,by simp,by simp⟩ (cut (by omega) (by omega) (by unfold octM; simp [e,hb1])) hK
      · refine ifF (by simpa using hb1) (bdN S [200,0,0] rfl fun h0 S0=>bdS S0 [bye] rfl fun h1 S1=>?_)
        exact leafS (a:=20) (b:=40) (n:=(some (top h),3,3)) (s:=(some (top h0),1,1)) (f:=(none,0,0)) (m:=⟨[200,0,0],[bye],[],[]⟩) S1 ⟨by decide,by decide,rfl,by simp,by simp [bye],by simp⟩ (cut (by omega) (by omega) (by unfold octM; simp [e,hb1])) hK
    · exact leafS (a:=20) (b:=41) (n:=(none,0,0)) (s:=(none,0,0)) (f:=(none,0,0)) (m:=noM) S ⟨by decide,by decide,rfl,by decide,by decide,by decide⟩ (cut (by omega) (by omega) (by unfold octM; simp [e])) hK
    · refine ⟨_,S.rc t 2 rfl,?_⟩
      have e15:bitsI .and .i64 x.n 15=x.n % 16:=mask_i64 x.n 4 (by decide)
      rw [e15]
      by_cases hn':0<x.n % 16
      · exact ifT (by simpa using hn') (oct_made S e hn' hK)
      · exact ifF (by simpa using hn') (oct_r19 S e hn' fun p l c h' S'=>hK p l c h' S'.d1.d1)
    · have h27:x.kn=27:=by unfold CL.kn at *; omega
      refine ⟨_,S.rc t 2 rfl,?_⟩
      rw [m7]
      by_cases hn':0<x.n % 8
      · exact ifT (by simpa using hn') (oct_r21 S h27 hn' hK)
      · refine ifF (by simpa using hn') ⟨_,_,_,S.rc t 7 rfl,_,_,_,S.rc t 7 rfl,?_⟩
        have eo:octP x=x.body.take 60:=by unfold octP; rw [if_neg (by omega),if_neg (by omega),if_neg (by omega),if_neg hn']
        have lb:=Sl.len (isl8 S (s:=v) (bs:=x.body)).1
        have lc:=(isl8 S (s:=v) (bs:=x.body)).2
        have en:(if (60:Int)<((v.2.1:Nat):Int) then 60 else ((v.2.1:Nat):Int))=((min 60 x.body.length:Nat):Int):=by rw [lb]; split <;> omega
        rw [en]
        refine ⟨⟨by omega,by omega⟩,(bdE _ _).2 ((bdE _ _).2 ((bdE _ _).2 ?_))⟩
        rw [Int.toNat_natCast,slA_zero]
        have S5:=St.itake S v (n:=min 60 x.body.length) (by omega)
        have e1:(u8s x.body).take (min 60 x.body.length)=u8s (octP x):=by
          rw [eo]
          simp only [u8s,← List.map_take]
          congr 1
          by_cases h4:60≤x.body.length
          · rw [show min 60 x.body.length=60 by omega]
          · rw [List.take_of_length_le (by omega),List.take_of_length_le (by omega)]
        rw [e1] at S5
        exact hK v.1 (min 60 x.body.length) v.2.2 h (show St (Im 1 (v.1,min 60 x.body.length,v.2.2) (u8s (octP x))::L) h from S5.d1.d1.d1)
theorem oct12A {x:CL}{t:Addr}{v:SV}{o:Bool} (S:St (Bs t x v L) h) (ho:o=true↔(11≤x.kn∧x.kn≤12)) (hk:11≤x.kn) (hK:OctK K L x) :
    qaa.j12 K t (x.cn:Int) x.A x.B x.C (flV t) (x.kn:Int) o h:=by
  unfold qaa.j12
  have cut:∀ {y:PMM},x.kn≤25→octM x=y→octP x=mfr x.cn y:=fun e2 e3=>by unfold octP; rw [if_neg (by omega),if_pos e2,e3]
  have fin:∀ {p:OA}{l c:Nat}{h2:Heap},St (Im 1 (p,l,c) (u8s (octP x))::L) h2→K (.slice p l c) h2:=fun S'=>hK _ _ _ _ S'
  cases o with
  | true =>
    obtain ⟨k1,k2⟩:=ho.1 rfl
    have e:=cut (by omega) (show octM x=(60,80,⟨[u64n (bitsI .and .i64 x.n 255)],[],flB x.f 1,[]⟩) by unfold octM; simp only; rw [if_neg (by omega),if_neg (by omega),if_neg (by omega),if_neg (by omega),if_neg (by omega),if_neg (by omega),if_pos (by omega)])
    have sm:SmM 60 80 ⟨[u64n (bitsI .and .i64 x.n 255)],[],flB x.f 1,[]⟩:=sm1 (by decide) (by decide) (by simp [flB_len])
    refine ifT rfl ⟨⟨_,S.rc t 2 rfl,bdU S _ fun h0 S0=>flS (t:=t) (f0:=x.f) (n:=1) (by decide) S0 rfl fun p l c h2 S2=>⟨_,_,_,rfl,?_⟩,flS (t:=t) (f0:=x.f) (n:=1) (by decide) S rfl fun p l c h2 S2=>⟨_,_,_,rfl,bdU S2.im _ fun h0 S0=>?_⟩⟩,flS (t:=t) (f0:=x.f) (n:=1) (by decide) S rfl fun p l c h2 S2=>⟨_,_,_,rfl,_,S2.rc t 2 rfl,bdU S2.im _ fun h0 S0=>?_⟩⟩
    · exact leafS (a:=60) (b:=80) (n:=(some (top h),1,1)) (s:=(none,0,0)) (f:=(p,l,c)) S2.im sm e hK
    · exact leafS (a:=60) (b:=80) (n:=(some (top h2),1,1)) (s:=(none,0,0)) (f:=(p,l,c)) S0 sm e hK
    · exact leafS (a:=60) (b:=80) (n:=(some (top h2),1,1)) (s:=(none,0,0)) (f:=(p,l,c)) S0 sm e hK
  | false =>
    have k13:13≤x.kn:=by
      by_cases e:x.kn≤12
      · have:=ho.2 ⟨hk,e⟩; cases this
      · omega
    refine ifF rfl (stepK (c:=13) (fun e=>?_) fun n13=>stepK (c:=14) (fun e=>?_) fun n14=>stepK (c:=15) (fun e=>?_) fun n15=>?_)
    · have eo:=cut (by omega) (show octM x=(60,90,⟨[u64n (bitsI .and .i64 x.n 255)],[],flB x.f 1,[]⟩) by unfold octM; simp [e])
      have sm:SmM 60 90 ⟨[u64n (bitsI .and .i64 x.n 255)],[],flB x.f 1,[]⟩:=sm1 (by decide) (by decide) (by simp [flB_len])
      refine ⟨⟨_,S.rc t 2 rfl,bdU S _ fun h0 S0=>flS (t:=t) (f0:=x.f) (n:=1) (by decide) S0 rfl fun p l c h2 S2=>⟨_,_,_,rfl,?_⟩,flS (t:=t) (f0:=x.f) (n:=1) (by decide) S rfl fun p l c h2 S2=>⟨_,_,_,rfl,bdU S2.im _ fun h0 S0=>?_⟩⟩,flS (t:=t) (f0:=x.f) (n:=1) (by decide) S rfl fun p l c h2 S2=>⟨_,_,_,rfl,_,S2.rc t 2 rfl,bdU S2.im _ fun h0 S0=>?_⟩⟩
      · exact leafS (a:=60) (b:=90) (n:=(some (top h),1,1)) (s:=(none,0,0)) (f:=(p,l,c)) S2.im sm eo hK
      · exact leafS (a:=60) (b:=90) (n:=(some (top h2),1,1)) (s:=(none,0,0)) (f:=(p,l,c)) S0 sm eo hK
      · exact leafS (a:=60) (b:=90) (n:=(some (top h2),1,1)) (s:=(none,0,0)) (f:=(p,l,c)) S0 sm eo hK
    · have eo:=cut (by omega) (show octM x=(60,120,⟨[u64n (bitsI .and .i64 x.n 255)],[],flB x.f 2,[]⟩) by unfold octM; simp [e])
      have sm:SmM 60 120 ⟨[u64n (bitsI .and .i64 x.n 255)],[],flB x.f 2,[]⟩:=sm1 (by decide) (by decide) (by simp [flB_len])
      refine ⟨⟨_,S.rc t 2 rfl,bdU S _ fun h0 S0=>flS (t:=t) (f0:=x.f) (n:=2) (by decide) S0 rfl fun p l c h2 S2=>⟨_,_,_,rfl,?_⟩,flS (t:=t) (f0:=x.f) (n:=2) (by decide) S rfl fun p l c h2 S2=>⟨_,_,_,rfl,bdU S2.im _ fun h0 S0=>?_⟩⟩,flS (t:=t) (f0:=x.f) (n:=2) (by decide) S rfl fun p l c h2 S2=>⟨_,_,_,rfl,_,S2.rc t 2 rfl,bdU S2.im _ fun h0 S0=>?_⟩⟩
      · exact leafS (a:=60) (b:=120) (n:=(some (top h),1,1)) (s:=(none,0,0)) (f:=(p,l,c)) S2.im sm eo hK
      · exact leafS (a:=60) (b:=120) (n:=(some (top h2),1,1)) (s:=(none,0,0)) (f:=(p,l,c)) S0 sm eo hK
      · exact leafS (a:=60) (b:=120) (n:=(some (top h2),1,1)) (s:=(none,0,0)) (f:=(p,l,c)) S0 sm eo hK
    · have eo:=cut (by omega) (show octM x=(60,10,⟨[u64n (IntKind.i64.wrap (Int.tdiv (tops x.f) 15)),u64n (bitsI .and .i64 x.n 7)],[],flB x.f 1,[]⟩) by unfold octM; simp [e])
      have sm:SmM 60 10 ⟨[u64n (IntKind.i64.wrap (Int.tdiv (tops x.f) 15)),u64n (bitsI .and .i64 x.n 7)],[],flB x.f 1,[]⟩:=sm2 (by decide) (by decide) (by simp [flB_len])
      repeat' first
        | with_reducible refine And.intro ?_ ?_
        | (with_reducible refine ⟨_,S.rc t 3 rfl,?_⟩)
        | (with_reducible refine ⟨_,S.rc t 2 rfl,?_⟩)
        | (with_reducible refine bdU2 S _ _ fun h0 S=>?_)
        | (with_reducible refine fl1 (t:=t) (f0:=x.f) S rfl fun p l c h2 S=>⟨_,_,_,rfl,?_⟩)
        | exact leafS (a:=60) (b:=10) (n:=(some _,2,2)) (s:=(none,0,0)) (f:=(p,l,c)) (S.fz 1 (p,l,c)) sm eo hK
        | decide
    · refine stepK (c:=16) (fun e=>?_) fun n16=>stepK (c:=17) (fun e=>?_) fun n17=>stepL (c:=18) (fun e=>?_) fun n18=>?_
      · exact oct17A S (by simp; omega) (by omega) hK
      · exact oct17A S (by simp; omega) (by omega) hK
      · exact oct17A S (by simp; omega) (by omega) hK
      · exact oct17A S (by simp; omega) (by omega) hK
theorem oct11A {x:CL}{t:Addr}{v:SV}{o:Bool} (S:St (Bs t x v L) h) (ho:o=true↔(9≤x.kn∧x.kn≤10)) (hk:9≤x.kn) (hK:OctK K L x) :
    qaa.j11 K t (x.cn:Int) x.A x.B x.C (flV t) (x.kn:Int) o h:=by
  unfold qaa.j11
  have cut:∀ {y:PMM},x.kn≤25→octM x=y→octP x=mfr x.cn y:=fun e2 e3=>by unfold octP; rw [if_neg (by omega),if_pos e2,e3]
  have hA:=x.A_len
  cases o with
  | true =>
    obtain ⟨k1,k2⟩:=ho.1 rfl
    have eo:=cut (by omega) (show octM x=(60,70,⟨[0],[x.A],flB x.f 1,[]⟩) by unfold octM; simp only; rw [if_neg (by omega),if_neg (by omega),if_neg (by omega),if_neg (by omega),if_neg (by omega),if_pos (by omega)])
    refine ifT rfl (bdN S [0] rfl fun h0 S0=>bdS S0 [x.A] rfl fun h1 S1=>flS (t:=t) (f0:=x.f) (n:=1) (by decide) S1 rfl fun p l c h2 S2=>⟨_,_,_,rfl,?_⟩)
    exact leafS (a:=60) (b:=70) (n:=(some (top h),1,1)) (s:=(some (top h0),1,1)) (f:=(p,l,c)) (m:=⟨[0],[x.A],flB x.f 1,[]⟩) S2.im ⟨by decide,by decide,rfl,by simp,by simp [hA],by simp [flB_len]⟩ eo hK
  | false =>
    have k11:11≤x.kn:=by
      by_cases e:x.kn≤10
      · have:=ho.2 ⟨hk,e⟩; cases this
      · omega
    refine ifF rfl (stepK (c:=11) (fun e=>?_) fun n11=>stepL (c:=12) (fun e=>?_) fun n12=>?_)
    · exact oct12A S (by simp; omega) (by omega) hK
    · exact oct12A S (by simp; omega) (by omega) hK
    · exact oct12A S (by simp; omega) (by omega) hK
theorem oct10A {x:CL}{t:Addr}{v:SV}{o:Bool} (S:St (Bs t x v L) h) (ho:o=true↔(7≤x.kn∧x.kn≤8)) (hk:7≤x.kn) (hK:OctK K L x) :
    qaa.j10 K t (x.cn:Int) x.A x.B x.C (flV t) (x.kn:Int) o h:=by
  unfold qaa.j10
  have cut:∀ {y:PMM},x.kn≤25→octM x=y→octP x=mfr x.cn y:=fun e2 e3=>by unfold octP; rw [if_neg (by omega),if_pos e2,e3]
  have hA:=x.A_len
  have hB:=x.B_len
  cases o with
  | true =>
    obtain ⟨k1,k2⟩:=ho.1 rfl
    have eo:=cut (by omega) (show octM x=(60,20,⟨[0],[x.A,x.B],[tops x.f==15,bitsI .and .i64 x.f 1==1,tops x.f==14,bitA x.f 1],[]⟩) by unfold octM; simp only; rw [if_neg (by omega),if_neg (by omega),if_neg (by omega),if_neg (by omega),if_pos (by omega)])
    refine ifT rfl (bdN S [0] rfl fun h0 S0=>bdS S0 [x.A,x.B] rfl fun h1 S1=>⟨_,S1.rc t 3 rfl,by decide,_,S1.rc t 3 rfl,_,S1.rc t 3 rfl,by decide,_,S1.rc t 3 rfl,by decide,bdB S1 [tops x.f==15,bitsI .and .i64 x.f 1==1,tops x.f==14,bitA x.f 1] rfl fun h2 S2=>?_⟩)
    exact leafS (a:=60) (b:=20) (n:=(some (top h),1,1)) (s:=(some (top h0),2,2)) (f:=(some (top h1),4,4)) (m:=⟨[0],[x.A,x.B],[tops x.f==15,bitsI .and .i64 x.f 1==1,tops x.f==14,bitA x.f 1],[]⟩) S2 ⟨by decide,by decide,rfl,by simp,by simp [hA,hB],by simp⟩ eo hK
  | false =>
    have k9:9≤x.kn:=by
      by_cases e:x.kn≤8
      · have:=ho.2 ⟨hk,e⟩; cases this
      · omega
    refine ifF rfl (stepK (c:=9) (fun e=>?_) fun n11=>stepL (c:=10) (fun e=>?_) fun n12=>?_)
    · exact oct11A S (by simp; omega) (by omega) hK
    · exact oct11A S (by simp; omega) (by omega) hK
    · exact oct11A S (by simp; omega) (by omega) hK
theorem oct9A {x:CL}{t:Addr}{v:SV}{o:Bool} (S:St (Bs t x v L) h) (ho:o=true↔(5≤x.kn∧x.kn≤6)) (hk:5≤x.kn) (hK:OctK K L x) :
    qaa.j9 K t (x.cn:Int) x.A x.B x.C (flV t) (x.kn:Int) o h:=by
  unfold qaa.j9
  have cut:∀ {y:PMM},x.kn≤25→octM x=y→octP x=mfr x.cn y:=fun e2 e3=>by unfold octP; rw [if_neg (by omega),if_pos e2,e3]
  have hA:=x.A_len
  have hB:=x.B_len
  have hC:=x.C_len
  cases o with
  | true =>
    obtain ⟨k1,k2⟩:=ho.1 rfl
    have eo:=cut (by omega) (show octM x=(50,20,⟨[0],[x.A,x.B,x.C],flB x.f 1,[]⟩) by unfold octM; simp only; rw [if_neg (by omega),if_neg (by omega),if_neg (by omega),if_pos (by omega)])
    refine ifT rfl (bdN S [0] rfl fun h0 S0=>bdS S0 [x.A,x.B,x.C] rfl fun h1 S1=>flS (t:=t) (f0:=x.f) (n:=1) (by decide) S1 rfl fun p l c h2 S2=>⟨_,_,_,rfl,?_⟩)
    exact leafS (a:=50) (b:=20) (n:=(some (top h),1,1)) (s:=(some (top h0),3,3)) (f:=(p,l,c)) (m:=⟨[0],[x.A,x.B,x.C],flB x.f 1,[]⟩) S2.im ⟨by decide,by decide,rfl,by simp,by simp [hA,hB,hC],by simp [flB_len]⟩ eo hK
  | false =>
    have k7:7≤x.kn:=by
      by_cases e:x.kn≤6
      · have:=ho.2 ⟨hk,e⟩; cases this
      · omega
    refine ifF rfl (stepK (c:=7) (fun e=>?_) fun n11=>stepL (c:=8) (fun e=>?_) fun n12=>?_)
    · exact oct10A S (by simp; omega) (by omega) hK
    · exact oct10A S (by simp; omega) (by omega) hK
    · exact oct10A S (by simp; omega) (by omega) hK
theorem oct2A {x:CL}{t:Addr}{v:SV}{o:Bool} (S:St (Bs t x v L) h) (ho:o=true↔x.kn≤2) (hK:OctK K L x) :
    qaa.j2 K t (x.cn:Int) x.A x.B x.C (flV t) (x.kn:Int) o h:=by
  unfold qaa.j2
  cases o with
  | true =>
    have hk:=ho.1 rfl
    refine ifT rfl ⟨_,S.rc t 3 rfl,by decide,?_⟩
    have S1:=S.al (hcells (0,0,[])) T.api_Head
    have eh:al h #[.int .u64 0,.int .i64 0,.string (mkS ([]:List UInt8))] T.api_Head=al h (hcells (0,0,[])).toArray T.api_Head:=rfl
    simp only [bd,eh]
    generalize al h (hcells (0,0,[])).toArray T.api_Head=h1 at *
    generalize top h=m at *
    refine ⟨rfl,S1.putA m (ws:=hcells (0,IntKind.i64.wrap ((1:Int)+bitsI .and .i64 (shrI .i64 x.f 2) 1),[])) rfl (by simp [one]) fun h2 S2=>⟨_,S2.rc t 3 rfl,by decide,?_⟩⟩
    by_cases hbit:bitA x.f 3=true
    · have e:octH x=(0,IntKind.i64.wrap ((1:Int)+bitsI .and .i64 (shrI .i64 x.f 2) 1),x.C):=by unfold octH; rw [if_pos hbit]
      refine ifT hbit (S2.put1 m 2 (by simp) rfl fun h3 S3=>oct3 (m:=m) (v:=v) (t:=t) (L:=L) ?_ hk hK)
      simp only [List.set_cons_succ,List.set_cons_zero] at S3
      rw [e]
      exact S3
    · have e:octH x=(0,IntKind.i64.wrap ((1:Int)+bitsI .and .i64 (shrI .i64 x.f 2) 1),[]):=by unfold octH; rw [if_neg hbit]
      refine ifF (by simpa using hbit) (oct3 (m:=m) (v:=v) (t:=t) (L:=L) ?_ hk hK)
      rw [e]
      exact S2
  | false =>
    have k3:3≤x.kn:=by
      by_cases e:x.kn≤2
      · have:=ho.2 e; cases this
      · omega
    have hK2:∀ p l c h',St (Im 1 (p,l,c) (u8s (octP x))::Im 1 (none,0,0) []::Im 1 v (u8s x.body)::L) h'→K (.slice p l c) h':=fun p l c h' S'=>hK p l c h' S'.d1.d1
    refine ifF rfl (stepK (c:=3) (fun e=>?_) fun n3=>stepK (c:=4) (fun e=>?_) fun n4=>stepK (c:=5) (fun e=>?_) fun n5=>stepL (c:=6) (fun e=>?_) fun n6=>?_)
    · exact oct_r6 S e hK2
    · exact oct_r8 S e hK2
    · exact oct9A S (by simp; omega) (by omega) hK
    · exact oct9A S (by simp; omega) (by omega) hK
    · exact oct9A S (by simp; omega) (by omega) hK
theorem octSA {x:CL}{v:SV} (S:St L h) [mv:In (fun b=>Im 1 v (u8s b)) L x.body] (hK:OctK K L x):CallsH P F.qaa [.agg (List.toArray (callc x v))] K h:=by
  refine qaa.ok ?_
  unfold qaa.p0
  have S1:=S.al (callc x v) T.waybilllaw24_Call
  simp only [bd]
  generalize al h (callc x v).toArray T.waybilllaw24_Call=h1 at *
  generalize top h=t at *
  haveI:In (Im 1 v) (Bx t (callc x v)::L) (u8s x.body):=⟨List.mem_cons_of_mem _ mv.mem⟩
  have S2:St (Bs t x v L) h1:=(show St (Im 1 (none,0,0) []::Im 1 v (u8s x.body)::Bx t (callc x v)::L) h1 from (S1.idup 1 v).imNil 1 0).p2
  have fin:qaa.j1 K t (x.cn:Int) x.A x.B x.C h1:=by
    unfold qaa.j1
    refine ⟨_,S2.rc t 1 rfl,by decide,?_⟩
    rw [tm28]
    refine stepK (c:=0) (fun e=>?_) fun n0=>stepK (c:=1) (fun e=>?_) fun n1=>stepL (c:=2) (fun e=>?_) fun n2=>?_
    · exact oct2A S2 (by unfold CL.kn; simp; omega) hK
    · exact oct2A S2 (by unfold CL.kn; simp; omega) hK
    · exact oct2A S2 (by unfold CL.kn; simp; omega) hK
    · exact oct2A S2 (by unfold CL.kn; simp; omega) hK
  refine ⟨_,S2.rc t 0 rfl,by decide,?_⟩
  rw [tm3]
  have S:=S2
  repeat' first
    | exact fin
    | with_reducible refine And.intro ?_ ?_
    | (with_reducible refine ⟨_,S.rc t 4 rfl,?_⟩)
    | (with_reducible refine ⟨_,S.rc t 5 rfl,?_⟩)
    | (with_reducible refine ⟨_,S.rc t 6 rfl,?_⟩)
    | (with_reducible refine cutS ⟨_,rfl,?_⟩)
end
end Go.Proofs.YtjapglfpjhljpaaGreat.Pr
end
