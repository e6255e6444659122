/- connsSays_holds: all that the theorem needs, in a few texts (bundle.py; made of the texts that NOTES.md names). -/
import Derived.Below
import Derived.Carry
import Derived.ChangeOld
import Derived.ChangeShapes
import Derived.KernelRfl
import Derived.Laws.Append
import Derived.Laws.Bits64
import Derived.Laws.BitsAllLaws
import Derived.Laws.BitsLemmas
import Derived.Laws.IdiomStrings
import Derived.Laws.Sem
import Derived.Laws.Strings
import Derived.Laws.StructEq
import Derived.Lib.ItoaNum
import Derived.Lib.SlBytesConst
import Derived.LoopIn
import Derived.LoopN
import Derived.LoopNIn
import Derived.MapKept
import Derived.Maps.AppendAt
import Derived.OpenShut
import Derived.Orders
import Derived.OwnWalkIn
import Derived.RangeFuncGives
import Derived.RangeFuncSeq
import Derived.RegionIn
import Derived.Shelf.Abstract
import Derived.Shelf.Lay
import Derived.Shelf.SlIter.Collect
import Derived.Shelf.Small.Bits
import Derived.Sort.KeysCollected
import Derived.Sort.MapsRangeIn
import Derived.TacticsInMore
import Derived.Test.YtjapglfpjhljpaaGreatChecked
import Derived.WalkKit
import Derived.WideLaws
import Derived.WideShapes
import Derived.Test.YtjapglfpjhljpaaGreatBConnsSays1
import Derived.Test.YtjapglfpjhljpaaGreatBConnsSays2
import Derived.Test.YtjapglfpjhljpaaGreatBConnsSays3
import Derived.Test.YtjapglfpjhljpaaGreatBConnsSays4
import Derived.Test.YtjapglfpjhljpaaGreatBConnsSays5
import Derived.Test.YtjapglfpjhljpaaGreatBConnsSays6
import Derived.Test.YtjapglfpjhljpaaGreatBConnsSays7
import Derived.Test.YtjapglfpjhljpaaGreatBConnsSays8
import Derived.Test.YtjapglfpjhljpaaGreatBConnsSays9
import Derived.Test.YtjapglfpjhljpaaGreatBConnsSays10
import Derived.Test.YtjapglfpjhljpaaGreatBConnsSays11
import Derived.Test.YtjapglfpjhljpaaGreatBConnsSays12
import Derived.Test.YtjapglfpjhljpaaGreatBConnsSays13
import Derived.Test.YtjapglfpjhljpaaGreatBConnsSays14
import Derived.Test.YtjapglfpjhljpaaGreatBConnsSays15
import Derived.Test.YtjapglfpjhljpaaGreatBConnsSays16
import Derived.Test.YtjapglfpjhljpaaGreatBConnsSays17
import Derived.Test.YtjapglfpjhljpaaGreatBConnsSays18
import Derived.Test.YtjapglfpjhljpaaGreatBConnsSays20
import Derived.Test.YtjapglfpjhljpaaGreatBConnsSays21
section
set_option linter.unusedVariables false
set_option linter.unusedSimpArgs false
namespace Go.Proofs.YtjapglfpjhljpaaGreat.Pr
open Go Go.Lift Go.Proofs
def SmP (m:PMM):Prop:=SmM m.1 m.2.1 m.2.2
theorem SmP.ite {c:Prop} [Decidable c] {a b:PMM} (ha:c→SmP a) (hb:¬ c→SmP b):SmP (if c then a else b):=by
  by_cases h:c
  · rw [if_pos h]; exact ha h
  · rw [if_neg h]; exact hb h
theorem SmP.mk {a b:Int}{x:PM} (m:SmM a b x):SmP (a,b,x):=m
theorem octM_sm (x:CL) (h:x.kn≤25):SmP (octM x):=by
  have hA:=x.A_len
  have hB:=x.B_len
  have hC:=x.C_len
  unfold octM
  dsimp only
  refine SmP.ite (fun _=>SmP.mk ⟨by decide,by decide,rfl,by simp,by simp [hA,hB],by simp⟩) fun n1=>?_
  refine SmP.ite (fun _=>SmP.mk ⟨by decide,by decide,rfl,by simp,by simp [hA],by simp [flB_len,flags3]⟩) fun n2=>?_
  refine SmP.ite (fun _=>SmP.mk ⟨by decide,by decide,rfl,by simp,⟨by simp,fun s hs=>?_⟩,by simp [flB_len,flags3]⟩) fun n3=>?_
  · rcases List.mem_cons.1 hs with rfl | hs
    · exact hA
    · rcases List.mem_cons.1 hs with rfl | hs
      · exact kinds4_len _ hB _
      · cases hs
  refine SmP.ite (fun _=>SmP.mk ⟨by decide,by decide,rfl,by simp,by simp [hA,hB,hC],by simp [flB_len]⟩) fun n4=>?_
  refine SmP.ite (fun _=>SmP.mk ⟨by decide,by decide,rfl,by simp,by simp [hA,hB],by simp⟩) fun n5=>?_
  refine SmP.ite (fun _=>SmP.mk ⟨by decide,by decide,rfl,by simp,by simp [hA],by simp [flB_len]⟩) fun n6=>?_
  refine SmP.ite (fun _=>SmP.mk <| sm1 (by decide) (by decide) (by simp [flB_len])) fun n7=>?_
  refine SmP.ite (fun _=>SmP.mk <| sm1 (by decide) (by decide) (by simp [flB_len])) fun n8=>?_
  refine SmP.ite (fun _=>SmP.mk <| sm1 (by decide) (by decide) (by simp [flB_len])) fun n9=>?_
  refine SmP.ite (fun _=>SmP.mk <| sm2 (by decide) (by decide) (by simp [flB_len])) fun n10=>?_
  have hr:∀ k:Nat,0≤([10,20,20,30]:List Int).getD k 0∧([10,20,20,30]:List Int).getD k 0<65536:=by
    intro k
    match k with
    | 0=>decide
    | 1=>decide
    | 2=>decide
    | 3=>decide
    | k+4=>simp
  refine SmP.ite (fun _=>SmP.mk ⟨by decide,hr _,rfl,by decide,by decide,by decide⟩) fun n11=>?_
  refine SmP.ite (fun _=>SmP.mk ⟨by decide,by decide,rfl,by simp,by simp [hB],by simp [flB_len]⟩) fun n12=>?_
  refine SmP.ite (fun _=>SmP.mk ⟨by decide,by decide,rfl,by simp,by simp [hA],by simp [flB_len]⟩) fun n13=>?_
  refine SmP.ite (fun _=>SmP.mk ⟨by decide,by decide,rfl,by simp,by simp [hA],by simp [flB_len]⟩) fun n14=>?_
  refine SmP.ite (fun _=>SmP.ite (fun _=>SmP.mk ⟨by decide,by decide,rfl,by simp,by simp [hA],by simp [flB_len]⟩) fun _=>SmP.mk ⟨by decide,by decide,rfl,by simp,by simp [hA,hB,hC],by simp⟩) fun n15=>?_
  refine SmP.ite (fun _=>SmP.mk ⟨by decide,by decide,rfl,by simp,by simp,by simp [flB_len]⟩) fun n16=>?_
  refine SmP.ite (fun _=>SmP.ite (fun _=>SmP.mk ⟨by decide,by decide,rfl,by simp,by simp,by simp⟩) fun _=>SmP.mk ⟨by decide,by decide,rfl,by simp,by simp [bye],by simp⟩) fun n17=>?_
  refine SmP.ite (fun _=>SmP.mk ⟨by decide,by decide,rfl,by decide,by decide,by decide⟩) fun n18=>?_
  omega
theorem mfr_ok (x:CL) (h:x.kn≤25):((methW (octM x).1 (octM x).2.1 (octM x).2.2).getD []).length≤4088:=SmM.len (octM_sm x h)
theorem octH_len (x:CL):(octH x).2.2.length≤255:=by unfold octH; simp only; split <;> simp [x.C_len]
theorem octP_len (x:CL) (h:x.kn≤25):(octP x).length≤200000:=by
  have h1:=mfr_ok x h
  have h2:(mfr x.cn (octM x)).length≤4096:=by unfold mfr; rw [frW_length]; omega
  unfold octP
  split
  · have h3:=headW_len ((x.body.take 11000).length,(octH x).2)
    have h4:=octH_len x
    have h5:=bodW_len x.cn ((x.body.take 11000).length+1) (x.body.take 11000)
    have h6:(x.body.take 11000).length≤11000:=by rw [List.length_take]; omega
    unfold contW
    rw [List.length_append,List.length_append,frW_length]
    simp only at *
    omega
  · first | omega | (rw [if_pos h]; omega)
abbrev XCall:Type:=Int × Int × Int × Int × List UInt8 × List UInt8 × List UInt8 × (SV × List UInt8)
def XCall.cl (x:XCall):CL:=⟨x.1,x.2.1,x.2.2.1,x.2.2.2.1,x.2.2.2.2.1,x.2.2.2.2.2.1,x.2.2.2.2.2.2.1,x.2.2.2.2.2.2.2.2⟩
abbrev XCall.sv (x:XCall):SV:=x.2.2.2.2.2.2.2.1
abbrev xcall (x:XCall):List Value:=callc x.cl x.sv
theorem xcall_len (x:XCall):(xcall x).length=8:=rfl
structure XOk (h:Heap) (x:XCall):Prop where
  sl:Sl 1 h x.sv.1 x.sv.2.1 (u8s x.cl.body)
  le:x.sv.2.1≤x.sv.2.2
  mx:x.sv.2.2≤maxLen
section
variable {K:KT}{L R:List Asr}{h:Heap}
end
end Go.Proofs.YtjapglfpjhljpaaGreat.Pr
end
section
set_option linter.unusedVariables false
set_option linter.unusedSimpArgs false
namespace Go.Proofs.YtjapglfpjhljpaaGreat.Pr
open Go Go.Lift Go.Proofs
def k6:List Int:=[3,9,11,15,19,20]
theorem fit_some {a b:Int}{f:Oct}{x:PM} (hf:formP (a,b)=some f) (h:fitsP f x=true):∃ o,methW a b x=some o:=⟨_,by rw [methW_eq x hf,if_pos h]⟩
theorem tok0:tableOkP []=true:=by decide +kernel
def cs (c d:Nat):Cnn:=⟨4,[],[],false,false,[((d:Int),ca0)],[((c:Int),1)],(none,0,0)⟩
section
variable {K:KT}{L R:List Asr}{h:Heap}
end
end Go.Proofs.YtjapglfpjhljpaaGreat.Pr
end
section
set_option linter.unusedVariables false
set_option linter.unusedSimpArgs false
namespace Go.Proofs.YtjapglfpjhljpaaGreat.Pr
open Go Go.Lift Go.Proofs
def SayF (b:Oct):Prop:=∃ (ch:Nat) (a id:Int) (x:PM) (f o:Oct),b=frW 1 ch o∧ch<65536∧o.length≤4088∧(a=10∧ch=0∨a=20∧0<ch)∧formP (a,id)=some f∧(∀ c∈f,c≠102)∧methW a id x=some o∧SmM a id x
theorem sayF {ch:Nat}{a id:Int}{x:PM}{f:Oct} (hc:ch<65536) (hk:a=10∧ch=0∨a=20∧0<ch) (hf:formP (a,id)=some f) (nf:∀ c∈f,c≠102) (ft:fitsP f x=true) (sm:SmM a id x):SayF (frameP (ch:Int) (a,id,x)):=by
  obtain ⟨o,ho⟩:=fit_some hf ft
  have hl:=sm.len
  rw [ho] at hl
  simp only [Option.getD_some] at hl
  refine ⟨ch,a,id,x,f,o,?_,hc,hl,hk,hf,nf,ho,sm⟩
  unfold frameP
  simp only [ho,Option.getD_some,Int.toNat_natCast]
  rw [if_pos]
  unfold frOk
  rw [show fkindP 1=true by decide]
  simp
  omega
theorem s_start:SayF (frameP 0 startM):=sayF (ch:=0) (a:=10) (id:=10) (x:=startM.2.2) (f:=[49,49,116,108,108]) (by decide) (.inl ⟨rfl,rfl⟩) (by decide +kernel) (by decide) (by decide +kernel) ⟨by decide,by decide,rfl,by decide,by decide,by decide⟩
theorem s_tune:SayF (frameP 0 (mmN 10 30 [16,4096,0])):=sayF (ch:=0) (a:=10) (id:=30) (x:=⟨[16,4096,0],[],[],[]⟩) (f:=[50,52,50]) (by decide) (.inl ⟨rfl,rfl⟩) (by decide +kernel) (by decide) (by decide +kernel) ⟨by decide,by decide,rfl,by decide,by decide,by decide⟩
theorem s_open:SayF (frameP 0 (mmS 10 41 [[]])):=sayF (ch:=0) (a:=10) (id:=41) (x:=⟨[],[[]],[],[]⟩) (f:=[115]) (by decide) (.inl ⟨rfl,rfl⟩) (by decide +kernel) (by decide) (by decide +kernel) ⟨by decide,by decide,rfl,by decide,by decide,by decide⟩
theorem s_stop:SayF (frameP 0 (mm0 10 51)):=sayF (ch:=0) (a:=10) (id:=51) (x:=noM) (f:=[]) (by decide) (.inl ⟨rfl,rfl⟩) (by decide +kernel) (by decide) (by decide +kernel) ⟨by decide,by decide,rfl,by decide,by decide,by decide⟩
theorem s_chok {ch:Nat} (h:0<ch∧ch<65536):SayF (frameP (ch:Int) (mmS 20 11 [[]])):=sayF (ch:=ch) (a:=20) (id:=11) (x:=⟨[],[[]],[],[]⟩) (f:=[108]) h.2 (.inr ⟨rfl,h.1⟩) (by decide +kernel) (by decide) (by decide +kernel) ⟨by decide,by decide,rfl,by decide,by decide,by decide⟩
theorem s_chgone {ch:Nat} (h:0<ch∧ch<65536):SayF (frameP (ch:Int) (mm0 20 41)):=sayF (ch:=ch) (a:=20) (id:=41) (x:=noM) (f:=[]) h.2 (.inr ⟨rfl,h.1⟩) (by decide +kernel) (by decide) (by decide +kernel) ⟨by decide,by decide,rfl,by decide,by decide,by decide⟩
theorem lowP_lt (q:Int):lowP q<65536:=by
  have:=Int.emod_lt_of_pos q (show (0:Int)<65536 by decide)
  unfold lowP; omega
theorem s_close (n x z:Int):SayF (frameP 0 (stoppingP 10 50 n x z)):=by
  have ht:=textP_len n
  have h1:=lowP_lt n
  have h2:=lowP_lt x
  have h3:=lowP_lt z
  have d:∀ v:Nat,v<65536→v / 256 ^ ((50:UInt8).toNat - 48)=0:=fun v hv=>Nat.div_eq_of_lt (Nat.lt_of_lt_of_le hv (by decide))
  refine sayF (ch:=0) (a:=10) (id:=50) (x:=(stoppingP 10 50 n x z).2.2) (f:=[50,115,50,50]) (by decide) (.inl ⟨rfl,rfl⟩) (by decide +kernel) (by decide) ?_ ⟨by decide,by decide,rfl,⟨by simp [stoppingP],?_⟩,⟨by simp [stoppingP],by simp [stoppingP]; omega⟩,by simp [stoppingP]⟩
  · have e1:fitsNS [50,115,50,50] [lowP n,lowP x,lowP z] [textP n]=true:=by
      rw [fitsNS_cons,if_neg (by decide),if_neg (by decide)]
      dsimp only
      rw [d _ h1,fitsNS_cons,if_pos (by decide)]
      dsimp only
      rw [fitsNS_cons,if_neg (by decide),if_neg (by decide)]
      dsimp only
      rw [d _ h2,fitsNS_cons,if_neg (by decide),if_neg (by decide)]
      dsimp only
      rw [d _ h3]
      have:(textP n).length≤255:=by omega
      simp [this,fitsNS]
    unfold fitsP
    show (fitsNS [50,115,50,50] [lowP n,lowP x,lowP z] [textP n] && _ && _ && tableOkP [])=true
    rw [e1,tok0]
    simp [stoppingP]
    rfl
  · intro v hv
    simp [stoppingP] at hv
    rcases hv with rfl | rfl | rfl <;> omega
def EvOk (e:EV):Prop:=(e.k=1∧(e.b=greeting∨SayF e.b))∨(e.k≠1∧e.b=[])
def AllE (s:Cnn):Prop:=∀ e∈s.ev,EvOk e
theorem AllE.tell {s:Cnn} (o:AllE s) {e:EV} (h:EvOk e):AllE (s.tell e):=fun x hx=>by
  rcases List.mem_append.1 hx with hx | hx
  · exact o x hx
  · rw [List.mem_singleton.1 hx]; exact h
theorem AllE.send {s:Cnn} (o:AllE s) {ch:Int}{m:PMM} (h:SayF (frameP ch m)):AllE (s.send ch m):=AllE.tell o (.inl ⟨rfl,.inr h⟩)
theorem AllE.gone {s:Cnn} (o:AllE s):AllE s.gone:=AllE.tell (s:={ s with st:=6,b:=[],bv:=(none,0,0) }) o (.inr ⟨by decide,rfl⟩)
theorem AllE.wrong {s:Cnn} (o:AllE s) {n:Int}{m:PMM}:AllE (s.wrong n m):=AllE.tell (s:=s.closing) o (.inr ⟨by show (6:Nat)≠1; decide,rfl⟩)
theorem AllE.greet {s:Cnn} (o:AllE s):AllE (greetP s).2:=by
  unfold greetP
  split
  · exact AllE.gone (AllE.tell o (.inl ⟨rfl,.inl rfl⟩))
  · split
    · exact o
    · exact AllE.send (s:={ s with b:=s.b.drop 8,st:=1 }) o s_start
theorem AllE.last {s:Cnn} (o:AllE s) (k ch:Nat) (b:Oct):AllE (lastP s k ch b):=by
  unfold lastP
  split
  · exact o
  · split
    · exact o
    · split
      · exact AllE.gone (AllE.send o s_stop)
      · split
        · exact AllE.gone o
        · exact o
theorem AllE.begin {s:Cnn} (o:AllE s) (m:PMM):AllE (beginP s m):=by
  unfold beginP
  split
  · exact AllE.send (s:={ s with st:=2 }) o s_tune
  · split
    · exact o
    · split
      · exact AllE.send (s:={ s with st:=4 }) o s_open
      · split <;> exact AllE.wrong o
theorem AllE.zero {s:Cnn} (o:AllE s) (k:Nat) (b:Oct):AllE (zeroP s k b):=by
  unfold zeroP
  split
  · exact o
  · split
    · exact AllE.wrong o
    · split
      · exact AllE.wrong o
      · split
        · exact AllE.gone (AllE.send o s_stop)
        · split
          · exact AllE.begin o _
          · exact AllE.wrong o
theorem AllE.end {s:Cnn} (o:AllE s) {ch:Nat} (hc:0<ch∧ch<65536) (k:Nat) (b:Oct):AllE (endP s k ch b):=by
  unfold endP
  split
  · exact o
  · split
    · exact o
    · split
      · exact AllE.send o (s_chgone hc)
      · split <;> exact o
theorem AllE.ask {s:Cnn} (o:AllE s) {ch:Nat} (hc:0<ch∧ch<65536) (a:CA) (k:Nat) (b:Oct):AllE (askP s ch a k b):=by
  unfold askP
  dsimp only
  generalize frameR k b a=r
  split
  · cases hardP r.2.1
    · exact AllE.tell (s:={ s with asms:=upd s.asms ch r.2.2 }) o (.inr ⟨by show (7:Nat)≠1; decide,rfl⟩)
    · exact AllE.tell (s:=Cnn.closing { s with asms:=upd s.asms ch r.2.2 }) o (.inr ⟨by show (7:Nat)≠1; decide,rfl⟩)
  · split
    · exact o
    · split
      · exact AllE.wrong (s:={ s with asms:=upd s.asms ch r.2.2 }) o
      · split
        · exact AllE.wrong (s:={ s with asms:=upd s.asms ch r.2.2 }) o
        · split
          · exact AllE.tell (s:={ Cnn.send { s with asms:=upd s.asms ch r.2.2 } ch (mm0 20 41) with asms:=_ }) (AllE.send (s:={ s with asms:=upd s.asms ch r.2.2 }) o (s_chgone hc)) (.inr ⟨by show (4:Nat)≠1; decide,rfl⟩)
          · exact AllE.tell (s:={ s with asms:=upd s.asms ch r.2.2 }) o (.inr ⟨by show (2:Nat)≠1; decide,rfl⟩)
theorem AllE.channel {s:Cnn} (o:AllE s) {ch:Nat} (hc:0<ch∧ch<65536) (k:Nat) (b:Oct):AllE (channelP s k ch b):=by
  unfold channelP
  split
  · exact AllE.end o hc k b
  · split
    · exact AllE.ask o hc _ k b
    · split
      · exact AllE.tell (AllE.send (s:={ s with asms:=upd s.asms ch ca0 }) o (s_chok hc)) (.inr ⟨by show (3:Nat)≠1; decide,rfl⟩)
      · exact AllE.wrong o
theorem AllE.take {s:Cnn} (o:AllE s) (k ch:Nat) (b:Oct):AllE (takeF s k ch b):=by
  unfold takeF
  split
  · exact AllE.last o k ch b
  · split
    · exact AllE.zero o k b
    · split
      · exact AllE.wrong o
      · exact AllE.channel o (by omega) k b
theorem AllE.step {s:Cnn} (o:AllE s):AllE (stepP s).2:=by
  unfold stepP
  split
  · exact o
  · split
    · exact AllE.greet o
    · split
      · exact o
      · split
        · exact AllE.gone o
        · exact AllE.wrong (s:={ s with b:=[],deaf:=true }) o
      · rename_i k ch b n _
        exact AllE.take (s:={ s with b:=s.b.drop n }) o k ch b
theorem AllE.nextP:∀ (f:Nat) {s:Cnn},AllE s→AllE (nextP f s).2∧∀ e,(nextP f s).1=some e→EvOk e
  | 0,s,o=>⟨o,fun e h=>by cases h⟩
  | f+1,s,o=>by
    unfold Pr.nextP
    cases he:s.ev with
    | cons e r =>
      dsimp only
      refine ⟨fun x hx=>o x (by rw [he]; exact List.mem_cons_of_mem _ hx),fun e' h=>?_⟩
      cases h
      exact o e (by rw [he]; exact List.mem_cons_self ..)
    | nil =>
      dsimp only
      split
      · exact AllE.nextP f (AllE.step o)
      · exact ⟨AllE.step o,fun e h=>by cases h⟩
theorem AllE.nxt {s:Cnn} (o:AllE s):AllE (nxt s).2∧∀ e,(nxt s).1=some e→EvOk e:=AllE.nextP _ o
theorem EvOk.one {e:EV} (h:EvOk e):e.k=1↔0<e.b.length:=by
  rcases h with ⟨a,b | ⟨ch,_,_,_,_,o,c,_⟩⟩ | ⟨a,b⟩
  · exact ⟨fun _=>by rw [b]; decide,fun _=>a⟩
  · exact ⟨fun _=>by rw [c,frW_length]; omega,fun _=>a⟩
  · exact ⟨fun h=>absurd h a,fun h=>by rw [b] at h; exact absurd h (by decide)⟩
inductive Says:Oct→Prop
  | nil:Says []
  | cons (b o:Oct):SayF b→Says o→Says (b++o)
theorem Says.app {o p:Oct} (a:Says o) (b:Says p):Says (o++p):=by
  induction a with
  | nil=>exact b
  | cons x y h1 h2 ih=>rw [List.append_assoc]; exact .cons x _ h1 ih
theorem Says.one {b:Oct} (h:SayF b):Says b:=by
  have:=Says.cons b [] h .nil
  rwa [List.append_nil] at this
theorem close_twice (s:Cnn) (n a b:Int):(closeP (closeP s n a b).2 n a b).1=[]:=by
  unfold closeP
  by_cases h:(1≤s.st∧s.st≤4)∨(s.st=5∧s.closed=false)
  · rw [if_pos h]
    dsimp only
    rw [if_neg (by simp)]
  · rw [if_neg h]
    dsimp only
    rw [if_neg h]
theorem close_says (s:Cnn) (n:Int):Says (closeP s n 1 2).1∧(closeP s n 1 2).1.length≤5000:=by
  unfold closeP
  split
  · have h:=s_close n 1 2
    refine ⟨.one h,?_⟩
    obtain ⟨ch,_,_,_,_,o,e,_,hl,_⟩:=h
    show (frameP 0 (stoppingP 10 50 n 1 2)).length≤5000
    rw [e,frW_length]; omega
  · exact ⟨.nil,by simp⟩
end Go.Proofs.YtjapglfpjhljpaaGreat.Pr
end
section
set_option linter.unusedVariables false
set_option linter.unusedSimpArgs false
namespace Go.Proofs.YtjapglfpjhljpaaGreat.Pr
open Go Go.Lift Go.Proofs
theorem octP_lenA (x:CL):(octP x).length≤200000:=by
  by_cases h:x.kn≤25
  · exact octP_len x h
  · have h28:x.kn<28:=by unfold CL.kn; omega
    by_cases h26:x.kn=26
    · have eo:octP x=mfr (if 0<x.n % 16 then x.cn else 0) (octM x):=by unfold octP; simp [h26]
      by_cases hn:0<x.n % 16
      · have em:octM x=((madeC x.n).1.1,(madeC x.n).1.2,madeF [1,0,2] [x.A,x.B,x.C] x.f [] true (madeC x.n).2):=by unfold octM; simp [h26,hn]
        rw [eo,em]
        have:=mfr_len (ch:=if 0<x.n % 16 then x.cn else 0) (made_sm x.n x.f [x.A,x.B,x.C])
        omega
      · have em:octM x=(10,50+x.f % 2,⟨([200,0,0]:List Nat).take (3 * (1 - x.f % 2)).toNat,([bye]:List Oct).take (1 - x.f % 2).toNat,[],[]⟩):=by unfold octM; simp [h26,hn]
        have hf:x.f % 2=0∨x.f % 2=1:=by omega
        have sm:SmM 10 (50+x.f % 2) ⟨([200,0,0]:List Nat).take (3 * (1 - x.f % 2)).toNat,([bye]:List Oct).take (1 - x.f % 2).toNat,[],[]⟩:=by
          rcases hf with e | e <;> rw [e] <;> exact ⟨by decide,by decide,rfl,by decide,by decide,by decide⟩
        rw [eo,em]
        have:=mfr_len (ch:=if 0<x.n % 16 then x.cn else 0) sm
        omega
    · unfold octP
      rw [if_neg (by omega),if_neg (by omega),if_neg h26]
      split
      · rw [frW_length,List.length_take]; omega
      · rw [List.length_take]; omega
def allP (xs:List XCall):Oct:=xs.flatMap fun x=>octP x.cl
theorem allP_len:∀ (xs:List XCall),(allP xs).length≤200000 * xs.length
  | []=>by simp [allP]
  | x::r=>by
    have h1:=octP_lenA x.cl
    have h2:=allP_len r
    have e:allP (x::r)=octP x.cl++allP r:=by simp [allP]
    rw [e,List.length_append,List.length_cons]
    omega
section
variable {K:KT}{L R:List Asr}{h:Heap}
theorem allS {h0:Heap}{s:SV}{xs:List XCall} (sl:Sl 8 h0 s.1 s.2.1 (xs.flatMap xcall)) (w:∀ x∈xs,XOk h0 x) (hl:xs.length≤15) (m:Old h0∈L) (S:St L h)
    (hK:∀ p l c h',St (Ow 1 (p,l,c) (u8s (allP xs))::L) h'→K (.slice p l c) h'):CallsH P F.qbk [.slice s.1 s.2.1 s.2.2] K h:=by
  refine qbk.ok ?_
  unfold qbk.p0
  have ll:s.2.1=xs.length:=by have:=sl.1; rw [flat_length xcall_len] at this; omega
  have loop:∀ (k i:Nat) (o:SV) (h1:Heap),i+k=xs.length→St (Ow 1 o (u8s (allP (xs.take i)))::L) h1→qbk.L1 K (k+1) s.1 s.2.1 s.2.2 o.1 o.2.1 o.2.2 (i:Int) h1:=by
    intro k
    induction k with
    | zero =>
      intro i o h1 hi S1
      have:i=xs.length:=by omega
      subst this
      unfold qbk.L1
      refine ⟨fun e=>(by rw [ll] at e; simp at e),fun _=>hK _ _ _ h1 ?_⟩
      rw [List.take_of_length_le (Nat.le_refl _)] at S1
      exact S1
    | succ k ih =>
      intro i o h1 hi S1
      unfold qbk.L1
      have hlt:i<xs.length:=by omega
      obtain ⟨x,hx⟩:∃ x,xs[i]? = some x:=⟨xs[i],List.getElem?_eq_getElem hlt⟩
      have ox:=w x (List.mem_of_getElem? hx)
      have slh:=sl.kept (S1.keptOld (List.mem_cons_of_mem _ m))
      refine ⟨fun _=>?_,fun e=>(by rw [ll] at e; have:=of_decide_eq_false e; omega)⟩
      refine ixS xcall_len (by decide) slh (n:=i) rfl hx ?_
      have S2:St (Im 1 x.sv (u8s x.cl.body)::Ow 1 o (u8s (allP (xs.take i)))::L) h1:=S1.imOld (List.mem_cons_of_mem _ m) ox.sl ox.le
      haveI:In (fun z=>Im 1 x.sv (u8s z)) (Im 1 x.sv (u8s x.cl.body)::Ow 1 o (u8s (allP (xs.take i)))::L) x.cl.body:=In.head
      refine octSA (x:=x.cl) (v:=x.sv) S2 fun p l c h2 S3=>⟨_,_,_,rfl,?_⟩
      have hb:=allP_len (xs.take i)
      rw [List.length_take] at hb
      have ho:=octP_lenA x.cl
      have S4:St (Ow 1 o (u8s (allP (xs.take i)))::Im 1 (p,l,c) (u8s (octP x.cl))::L) h2:=S3.d1.p1
      have sli:=(isl8 S4 (s:=(p,l,c)) (bs:=octP x.cl)).1
      refine appS (s:=o) (bs:=allP (xs.take i)) S4 (Src.slice sli (u8s_one _)) (by omega) fun p' l' c' h3 S5=>⟨_,_,_,rfl,(bdE _ _).2 ?_⟩
      have wi:IntKind.i64.wrap ((i:Int)+1)=((i+1:Nat):Int):=wrapI (by omega) (by omega)
      rw [wi]
      refine ih (i+1) (p',l',c') h3 (by omega) ?_
      have e:allP (xs.take (i+1))=allP (xs.take i)++octP x.cl:=by
        rw [List.take_add_one,hx]
        simp [allP]
      rw [e]
      exact S5.d1
  have:=loop xs.length 0 (none,0,0) h (by omega) (S.owNil 1)
  exact ⟨_,this⟩
theorem evI_im {e:EV}{q:QV} (S:St (EvI e q::L) h):St (Im 1 q.sb (u8s e.b)::L) h:=by
  obtain ⟨B,S⟩:=S.ex
  have S1:St ([Ow 1 q.sb (u8s e.b),Im 1 q.y.n (nums e.ask.m.2.2.N),Im 1 q.y.s (strs e.ask.m.2.2.S),Im 1 q.y.f (bools e.ask.m.2.2.F),Tb B q.y.t e.ask.m.2.2.T,Ow 1 q.bv (u8s e.ask.body)]++L) h:=St.open S
  have S2:St (Ow 1 q.sb (u8s e.b)::Im 1 q.y.n (nums e.ask.m.2.2.N)::Im 1 q.y.s (strs e.ask.m.2.2.S)::Im 1 q.y.f (bools e.ask.m.2.2.F)::Tb B q.y.t e.ask.m.2.2.T::Ow 1 q.bv (u8s e.ask.body)::L) h:=S1
  exact S2.im.d1.d1.d1.d1.d1
theorem saysL5 {h0:Heap} (hK:∀ h',Kept h0 h'→K (.bool true) h') {o:Oct} (so:Says o):∀ (fuel:Nat) (r:SV) (h:Heap),o.length<fuel→o.length<10000000→St [Im 1 r (u8s o),Old h0] h→qab.L5 K fuel r.1 r.2.1 r.2.2 h:=by
  induction so with
  | nil =>
    intro fuel r h hf _ S
    cases fuel with
    | zero=>exact absurd hf (Nat.not_lt_zero _)
    | succ fuel =>
      unfold qab.L5
      have l0:r.2.1=0:=Sl.len (isl8 S (s:=r) (bs:=[])).1
      rw [l0]
      exact ⟨fun e=>(by simp at e),fun _=>hK h (S.keptOld (by simp))⟩
  | cons b o sb so ih =>
    intro fuel r h hf hl S
    obtain ⟨ch,a,id,x,f,w,eb,hch,hw,hk,hform,nf,hm,sm⟩:=sb
    subst eb
    cases fuel with
    | zero=>exact absurd hf (Nat.not_lt_zero _)
    | succ fuel =>
      rw [List.length_append,frW_length] at hf hl
      unfold qab.L5
      have lr:=Sl.len (isl8 S (s:=r) (bs:=frW 1 ch w++o)).1
      have lrc:=(isl8 S (s:=r) (bs:=frW 1 ch w++o)).2
      rw [List.length_append,frW_length] at lr
      have fp:=framP_frW (k:=1) (c:=ch) (b:=w) (t:=o) (by decide) hch hw
      refine ⟨fun _=>?_,fun e=>(by have:=of_decide_eq_false e; omega)⟩
      refine framS (s:=r) (bs:=frW 1 ch w++o) S (by rw [List.length_append,frW_length]; omega) fun p l c h1 S1=>?_
      rw [fp] at S1 ⊢
      refine ⟨_,_,_,rfl,(bdE _ _).2 ?_⟩
      have S2:=S1.al (fcl 0 0 ((none,0,0):SV)) T.api_Frame
      have eh:al h1 #[.int .i64 0,.int .i64 0,.slice none 0 0] T.api_Frame=al h1 (fcl 0 0 ((none,0,0):SV)).toArray T.api_Frame:=rfl
      rw [eh]
      refine ⟨rfl,S2.putA (top h1) (ws:=fcl 1 ch (p,l,c)) rfl (by simp [one]) fun h2 S3=>?_⟩
      generalize top h1=t at *
      have en:(FR.ok 1 ch w (8+w.length)).n=8+w.length:=rfl
      rw [en]
      refine ifF' rfl (ifF' (by simp; omega) (ifF' (by simp; omega) ⟨_,S3.rc t 0 rfl,?_⟩))
      unfold qab.j6
      refine ifF rfl ⟨_,_,_,S3.rc t 2 rfl,?_⟩
      have S4:St (Im 1 (p,l,c) (u8s w)::Bx t (fcl 1 ch (p,l,c))::[Im 1 r (u8s (frW 1 ch w++o)),Old h0]) h2:=S3.p1
      refine rmethOfS (s:=(p,l,c)) (o:=w) (a:=a) (b:=id) (x:=x) (f:=f) S4 hform nf hm sm fun y h3 S5=>⟨_,_,rfl,(bdE _ _).2 ?_⟩
      have S6:=S5.al (mcells 0 0 mnil) T.api_Method
      have em:al h3 #[.int .i64 0,.int .i64 0,.slice none 0 0,.slice none 0 0,.slice none 0 0,.slice none 0 0] T.api_Method=al h3 (mcells 0 0 mnil).toArray T.api_Method:=rfl
      rw [em]
      refine ⟨rfl,S6.putA (top h3) (ws:=mcells a id y) rfl (by simp [one]) fun h4 S7=>?_⟩
      generalize top h3=u at *
      have S8:St [Im 1 r (u8s (frW 1 ch w++o)),Old h0] h4:=S7.to
      have go:qab.j7 K (qab.L5 K fuel) r.1 r.2.1 r.2.2 ((8+w.length:Nat):Int) false h4:=by
        unfold qab.j7
        refine ifF rfl ⟨⟨by omega,by omega⟩,(bdE _ _).2 ((bdE _ _).2 ((bdE _ _).2 ?_))⟩
        rw [Int.toNat_natCast]
        have S9:=St.idrop S8 r (n:=8+w.length) (by omega)
        have e2:(u8s (frW 1 ch w++o)).drop (8+w.length)=u8s o:=by
          simp only [u8s,← List.map_drop]
          congr 1
          rw [List.drop_append_of_le_length (by rw [frW_length]; omega),List.drop_of_length_le (by rw [frW_length]; omega)]; rfl
        rw [e2] at S9
        exact ih fuel (slA r.1 (8+w.length) r.2.2 1,r.2.1 - (8+w.length),r.2.2 - (8+w.length)) h4 (by omega) (by omega) S9.d1
      refine ifF' rfl ⟨_,S7.rc u 0 rfl,?_⟩
      rcases hk with ⟨rfl,rfl⟩ | ⟨rfl,h0'⟩
      · refine ifF rfl (ifF' rfl ⟨_,S7.rc u 0 rfl,_,S7.rc t 1 rfl,?_⟩)
        exact go
      · refine ifT rfl ⟨_,S7.rc u 0 rfl,ifF' rfl ⟨_,S7.rc u 0 rfl,_,S7.rc t 1 rfl,?_⟩⟩
        rw [show (!(((20:Int)==10)==(((ch:Nat):Int)==0)))=false by simp; omega]
        exact go
theorem says_j4 {h0:Heap}{c:Addr}{s:Cnn}{o:Oct}{r:SV}{code:Int} (so:Says o) (hl:o.length≤5000000) (S:St (ConO c s::Ow 1 r (u8s o)::[Old h0]) h) (hK:∀ h',Kept h0 h'→K (.bool true) h'):qab.j4 K code (some c) r.1 r.2.1 r.2.2 h:=by
  unfold qab.j4
  have cs:=close_says s code
  refine closeS (c:=c) (s:=s) (n:=code) (cl:=1) (id:=2) S fun p l cc h1 S1=>⟨_,_,_,rfl,?_⟩
  refine closeS (c:=c) (s:=(closeP s code 1 2).2) (n:=code) (cl:=1) (id:=2) S1 fun p2 l2 c2 h2 S2=>⟨_,_,_,rfl,?_⟩
  rw [close_twice] at S2
  have l0:l2=0:=by have:=(S2.osl 1 (p2,l2,c2)).1; simpa [u8s] using this.symm
  refine ifF (by rw [l0]; rfl) ?_
  generalize hx:(closeP s code 1 2).1=x at *
  have S3:St (Ow 1 r (u8s o)::Im 1 (p,l,cc) (u8s x)::[Old h0]) h2:=(show St (Ow 1 (p,l,cc) (u8s x)::Ow 1 r (u8s o)::[Old h0]) h2 from S2.to).im.p1
  have slx:=(isl8 S3 (s:=(p,l,cc)) (bs:=x)).1
  refine appS (s:=r) (bs:=o) S3 (Src.slice slx (u8s_one _)) (by omega) fun p' l' c' h3 S4=>⟨_,_,_,rfl,(o++x).length+1,?_⟩
  have S5:St [Im 1 (p',l',c') (u8s (o++x)),Old h0] h3:=S4.im.d1
  exact saysL5 hK (so.app cs.1) _ (p',l',c') h3 (Nat.lt_succ_self _) (by rw [List.length_append]; omega) S5
theorem says_len {e:EV} (h:EvOk e):e.b.length≤4096:=by
  rcases h with ⟨a,b | ⟨ch,_,_,_,_,o,c,_,hl,_⟩⟩ | ⟨a,b⟩
  · rw [b]; decide
  · rw [c,frW_length]; omega
  · rw [b]; simp
theorem says_says {e:EV} (h:EvOk e) (hg:e.b≠greeting):Says e.b:=by
  rcases h with ⟨a,b | b⟩ | ⟨a,b⟩
  · exact absurd b hg
  · exact .one b
  · rw [b]; exact .nil
theorem saysL8 {h0:Heap}{c:Addr}{code:Int} (hK:∀ h',Kept h0 h'→K (.bool true) h'):∀ (k i:Nat) (s:Cnn) (o:Oct) (r:SV) (h:Heap),i+k=1000→Inv s→AllE s→Says o→o.length≤4096 * i →
    St (ConO c s::Ow 1 r (u8s o)::[Old h0]) h→qab.L8 K (k+1) code (some c) r.1 r.2.1 r.2.2 (i:Int) h
  | 0,i,s,o,r,h,hi,iv,al',so,hl,S=>by
    unfold qab.L8
    have:i=1000:=by omega
    subst this
    exact ⟨fun e=>(by simp at e),fun _=>says_j4 so (by omega) S hK⟩
  | k+1,i,s,o,r,h,hi,iv,al',so,hl,S=>by
    unfold qab.L8
    refine ⟨fun _=>?_,fun e=>(by have:=of_decide_eq_false e; omega)⟩
    have wi:IntKind.i64.wrap ((i:Int)+1)=((i+1:Nat):Int):=wrapI (by omega) (by omega)
    have nx:=AllE.nxt al'
    have iv2:=iv.nxt
    refine nextS (c:=c) (s:=s) S (by have:=iv.e; omega) iv.b iv.a ?_
    intro h1
    cases hx:(nxt s).1 with
    | none =>
      intro S1
      refine ⟨_,_,rfl,(bdE _ _).2 ?_⟩
      rw [zev_al]
      have S2:=S1.al zev T.api_Event
      refine ⟨rfl,S2.putA (top h1) (ws:=zev) rfl (by simp [one]) fun h2 S3=>ifT rfl ?_⟩
      exact says_j4 (s:=(nxt s).2) so (by omega) S3.tl hK
    | some e =>
      intro q S1
      have oe:=nx.2 e hx
      have le:=says_len oe
      refine ⟨_,_,rfl,(bdE _ _).2 ?_⟩
      rw [zev_al]
      have lq:=evI_len S1.p1
      have S2:St (Im 1 q.sb (u8s e.b)::ConO c (nxt s).2::Ow 1 r (u8s o)::[Old h0]) h1:=evI_im S1.p1
      have S3:=S2.al zev T.api_Event
      refine ⟨rfl,S3.putA (top h1) (ws:=evc e q) rfl (evc2_one (e,q)) fun h2 S4=>ifF rfl ⟨_,S4.rc (top h1) 0 rfl,_,_,_,S4.rc (top h1) 2 rfl,?_⟩⟩
      generalize top h1=t at *
      have eq1:(!((((e.k:Nat):Int)==1)==(decide (((q.sb.2.1:Nat):Int) > 0))))=false:=by
        rw [lq]
        by_cases h1':e.k=1
        · have:=oe.one.1 h1'
          rw [h1',decide_eq_true (show ((e.b.length:Nat):Int) > 0 by omega)]
          rfl
        · have:¬ 0<e.b.length:=fun h=>h1' (oe.one.2 h)
          have e0:e.b=[]:=List.eq_nil_of_length_eq_zero (by omega)
          simp [e0]; omega
      rw [eq1]
      refine ifF rfl ⟨_,_,_,S4.rc t 2 rfl,?_⟩
      refine str_ok u_sl u_u8 u_str (isl8 S4 (s:=q.sb) (bs:=e.b)).1 ⟨_,rfl,?_⟩
      by_cases hg:e.b=greeting
      · refine ifF (by rw [hg]; rfl) ?_
        unfold qab.j9
        refine (bdE _ _).2 ?_
        rw [wi]
        exact saysL8 hK k (i+1) (nxt s).2 o r h2 (by omega) iv2 nx.1 so (by omega) S4.to
      · refine ifT (by rw [show (e.b==[65,77,81,80,0,0,9,1])=false from beq_eq_false_iff_ne.2 hg]; rfl) ⟨_,_,_,S4.rc t 2 rfl,?_⟩
        have S5:St (Ow 1 r (u8s o)::Im 1 q.sb (u8s e.b)::ConO c (nxt s).2::[Old h0]) h2:=S4.to
        have slx:=(isl8 S5 (s:=q.sb) (bs:=e.b)).1
        refine appS (s:=r) (bs:=o) S5 (Src.slice slx (u8s_one _)) (by omega) fun p' l' c' h3 S6=>⟨_,_,_,rfl,?_⟩
        unfold qab.j9
        refine (bdE _ _).2 ?_
        rw [wi]
        have S7:St (ConO c (nxt s).2::Ow 1 (p',l',c') (u8s (o++e.b))::[Old h0]) h3:=S6.to
        exact saysL8 hK k (i+1) (nxt s).2 (o++e.b) (p',l',c') h3 (by omega) iv2 nx.1 (so.app (says_says oe hg)) (by rw [List.length_append]; omega) S7
theorem says_j3 {h0:Heap}{c:Addr}{code:Int}{r:SV}{b:Oct} (hK:∀ h',Kept h0 h'→K (.bool true) h') (S:St [ConO c cn0,Im 1 r (u8s b),Old h0] h) (hb:b.length<1073741824):qab.j3 K code (some c) r.1 r.2.1 r.2.2 h:=by
  unfold qab.j3
  refine feedS (c:=c) (s:=cn0) (t:=r) (bs:=b) S (by decide) hb fun h1 S1=>⟨rfl,1001,?_⟩
  have S2:St (ConO c (cn0.feed b)::Ow 1 (none,0,0) (u8s [])::[Old h0]) h1:=(show St (Ow 1 (none,0,0) (u8s [])::ConO c (cn0.feed b)::[Old h0]) h1 from (show St [ConO c (cn0.feed b),Old h0] h1 from S1.to).owNil 1).p1
  have ae:AllE (cn0.feed b):=by
    have:(cn0.feed b).ev=[]:=rfl
    intro e he
    rw [this] at he
    cases he
  exact saysL8 hK 1000 0 (cn0.feed b) [] (none,0,0) h1 rfl (Inv.zero.feed (by show 0+_<_; omega)) ae .nil (by simp) S2
theorem ConnsSays.law (s:SV) (xs:List XCall) (sl:Sl 8 h s.1 s.2.1 (xs.flatMap xcall)) (le:s.2.1≤s.2.2) (mx:s.2.2≤maxLen)
    (w:∀ x∈xs,(Lit.int .i64 x.1).wf=true∧(Lit.int .i64 x.2.1).wf=true∧(Lit.int .i64 x.2.2.1).wf=true∧(Lit.int .i64 x.2.2.2.1).wf=true∧x.2.2.2.2.1.length≤maxLen∧x.2.2.2.2.2.1.length≤maxLen∧x.2.2.2.2.2.2.1.length≤maxLen∧(Sl 1 h x.2.2.2.2.2.2.2.1.1 x.2.2.2.2.2.2.2.1.2.1 (u8s x.2.2.2.2.2.2.2.2)∧x.2.2.2.2.2.2.2.1.2.1≤x.2.2.2.2.2.2.2.1.2.2∧x.2.2.2.2.2.2.2.1.2.2≤maxLen))
    (sb:SV) (xb:List Int) (slb:Sl 1 h sb.1 sb.2.1 (xb.map fun n=>.int .u8 n)) (leb:sb.2.1≤sb.2.2) (mxb:sb.2.2≤maxLen) (wb:∀ x∈xb,(Lit.int .u8 x).wf=true) (begun:Bool) (code:Int) (hcode:-9223372036854775808≤code∧code<9223372036854775808) :
    CallsH P F.qab [s.v,sb.v,.bool begun,.int .i64 code] (fun v h'=>v=.bool true∧Kept h h') h:=by
  have wx:∀ x∈xs,XOk h x:=fun x hx=>⟨(w x hx).2.2.2.2.2.2.2.1,(w x hx).2.2.2.2.2.2.2.2.1,(w x hx).2.2.2.2.2.2.2.2.2⟩
  have en:(xb.map fun n:Int=>Value.int .u8 n)=u8s (xb.map fun n=>UInt8.ofNat n.toNat):=by
    unfold u8s
    rw [List.map_map]
    refine List.map_congr_left fun x hx=>?_
    have:=wb x hx
    have hn:0≤x∧x<256:=by simp [Lit.wf,IntKind.min,IntKind.max,IntKind.signed,IntKind.bits] at this; omega
    show Value.int .u8 x=.int .u8 ((UInt8.ofNat x.toNat).toNat:Int)
    congr 1
    simp
    omega
  rw [en] at slb
  generalize (xb.map fun n=>UInt8.ofNat n.toNat)=raw at *
  have lraw:sb.2.1=raw.length:=Sl.len slb
  have hKK:∀ h',Kept h h'→(Value.bool true=.bool true∧Kept h h'):=fun h' k=>⟨rfl,k⟩
  refine qab.ok ?_
  unfold qab.p0
  refine newCS (St.old h) fun a h1 S1=>⟨_,rfl,ifF' rfl ?_⟩
  by_cases hbig:sb.2.1 > 300
  · refine ifT' (by simp; omega) ?_
    unfold qab.j1
    refine ifT rfl (ifT rfl (awake25S S1 fun h2 S2=>⟨_,rfl,?_⟩))
    unfold qab.j2
    exact hKK h2 (S2.keptOld (by simp))
  · refine ifF' (by simp; omega) (awake25S S1 fun h2 S2=>⟨_,rfl,?_⟩)
    unfold qab.j1
    refine ifF rfl ?_
    cases begun with
    | false =>
      refine ifF rfl ?_
      have S3:St (Im 1 sb (u8s raw)::ConO a cn0::[Old h]) h2:=S2.imOld (by simp) slb leb
      exact says_j3 (h0:=h) (r:=sb) (b:=raw) hKK S3.p1 (by omega)
    | true =>
      refine ifT rfl ?_
      have ll:s.2.1=xs.length:=by have:=sl.1; rw [flat_length xcall_len] at this; omega
      have e15:(if (15:Int)<((s.2.1:Nat):Int) then 15 else ((s.2.1:Nat):Int))=((min 15 xs.length:Nat):Int):=by rw [ll]; split <;> omega
      have inb:inB (if (15:Int)<((s.2.1:Nat):Int) then 15 else ((s.2.1:Nat):Int)) s.2.2:=by rw [e15]; exact ⟨by omega,by omega⟩
      have slt:Sl 8 h s.1 (min 15 xs.length) ((xs.take (min 15 xs.length)).flatMap xcall):=Sl.takeN xcall_len (by decide) sl (k:=min 15 xs.length) (by omega)
      have main:CallsH P F.qck [] (fun v59 h60=>∃ a61 a61l a61c,v59=.slice a61 a61l a61c∧inB (if (15:Int)<((s.2.1:Nat):Int) then 15 else ((s.2.1:Nat):Int)) s.2.2∧CallsH P F.qbk [.slice (slA s.1 0 s.2.2 8) (Int.toNat (if (15:Int)<((s.2.1:Nat):Int) then 15 else ((s.2.1:Nat):Int))) s.2.2] (fun v62 h63=>∃ a64 a64l a64c,v62=.slice a64 a64l a64c∧SemH P (Builtin.append_ #[T.sl_uint8,T.sl_uint8] T.sl_uint8 #[.slice a61 a61l a61c,.slice a64 a64l a64c]) (fun v65 h66=>∃ a67 a67l a67c,v65=.slice a67 a67l a67c∧SemH P (Builtin.append_ #[T.sl_uint8,T.sl_uint8] T.sl_uint8 #[.slice a67 a67l a67c,.slice sb.1 sb.2.1 sb.2.2]) (fun v68 h69=>∃ a70 a70l a70c,v68=.slice a70 a70l a70c∧qab.j3 (fun v h'=>v=.bool true∧Kept h h') code (some a) a70 a70l a70c h69) h66) h63) h60) h2:=by
        refine helloS S2 fun p l c h3 S3=>⟨_,_,_,rfl,inb,?_⟩
        rw [e15,Int.toNat_natCast,slA_z]
        have hl:=helloLen
        have S3':St (Ow 1 (p,l,c) (u8s helloP)::ConO a cn0::[Old h]) h3:=S3
        refine allS (h0:=h) (s:=(s.1,min 15 xs.length,s.2.2)) (xs:=xs.take (min 15 xs.length)) slt (fun x hx=>wx x (List.mem_of_mem_take hx)) (by rw [List.length_take]; omega) (by simp) S3' fun p2 l2 c2 h4 S4=>⟨_,_,_,rfl,?_⟩
        have ha:=allP_len (xs.take (min 15 xs.length))
        rw [List.length_take] at ha
        generalize hall:allP (xs.take (min 15 xs.length))=al' at *
        have S5:St (Ow 1 (p,l,c) (u8s helloP)::Im 1 (p2,l2,c2) (u8s al')::ConO a cn0::[Old h]) h4:=S4.im.p1
        have sl5:=(isl8 S5 (s:=(p2,l2,c2)) (bs:=al')).1
        refine appS (s:=(p,l,c)) (bs:=helloP) S5 (Src.slice sl5 (u8s_one _)) (by omega) fun p3 l3 c3 h5 S6=>⟨_,_,_,rfl,?_⟩
        have slr:Sl 1 h5 sb.1 sb.2.1 (u8s raw):=slb.kept (S6.keptOld (by simp))
        refine appS (s:=(p3,l3,c3)) (bs:=helloP++al') S6 (Src.slice slr (u8s_one _)) (by rw [List.length_append]; omega) fun p4 l4 c4 h6 S7=>⟨_,_,_,rfl,?_⟩
        have S8:St [ConO a cn0,Im 1 (p4,l4,c4) (u8s (helloP++al'++raw)),Old h] h6:=S7.im.to
        exact says_j3 (h0:=h) (r:=(p4,l4,c4)) (b:=helloP++al'++raw) hKK S8 (by rw [List.length_append,List.length_append]; omega)
      refine ⟨main,inb,?_⟩
      refine helloS S2 fun p l c h3 S3=>⟨_,_,_,rfl,?_⟩
      rw [e15,Int.toNat_natCast,slA_z]
      have hl:=helloLen
      have S3':St (Ow 1 (p,l,c) (u8s helloP)::ConO a cn0::[Old h]) h3:=S3
      refine allS (h0:=h) (s:=(s.1,min 15 xs.length,s.2.2)) (xs:=xs.take (min 15 xs.length)) slt (fun x hx=>wx x (List.mem_of_mem_take hx)) (by rw [List.length_take]; omega) (by simp) S3' fun p2 l2 c2 h4 S4=>⟨_,_,_,rfl,?_⟩
      have ha:=allP_len (xs.take (min 15 xs.length))
      rw [List.length_take] at ha
      generalize hall:allP (xs.take (min 15 xs.length))=al' at *
      have S5:St (Ow 1 (p,l,c) (u8s helloP)::Im 1 (p2,l2,c2) (u8s al')::ConO a cn0::[Old h]) h4:=S4.im.p1
      have sl5:=(isl8 S5 (s:=(p2,l2,c2)) (bs:=al')).1
      refine appS (s:=(p,l,c)) (bs:=helloP) S5 (Src.slice sl5 (u8s_one _)) (by omega) fun p3 l3 c3 h5 S6=>⟨_,_,_,rfl,?_⟩
      have slr:Sl 1 h5 sb.1 sb.2.1 (u8s raw):=slb.kept (S6.keptOld (by simp))
      refine appS (s:=(p3,l3,c3)) (bs:=helloP++al') S6 (Src.slice slr (u8s_one _)) (by rw [List.length_append]; omega) fun p4 l4 c4 h6 S7=>⟨_,_,_,rfl,?_⟩
      have S8:St [ConO a cn0,Im 1 (p4,l4,c4) (u8s (helloP++al'++raw)),Old h] h6:=S7.im.to
      exact says_j3 (h0:=h) (r:=(p4,l4,c4)) (b:=helloP++al'++raw) hKK S8 (by rw [List.length_append,List.length_append]; omega)
end
end Go.Proofs.YtjapglfpjhljpaaGreat.Pr
end
