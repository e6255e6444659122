/- connsSays_holds: all that the theorem needs, in a few texts (bundle.py; made of the texts that NOTES.md names). -/
import Derived.Below
import Derived.KernelRfl
import Derived.Laws.Sem
import Derived.Laws.Strings
import Derived.LoopN
import Derived.Orders
import Derived.Test.YtjapglfpjhljpaaGreatChecked
import Derived.Test.YtjapglfpjhljpaaGreatBConnsSays1
import Derived.Test.YtjapglfpjhljpaaGreatBConnsSays2
section
namespace Go.Proofs.YtjapglfpjhljpaaGreat.Pr
open Go Go.Lift Go.Proofs
noncomputable abbrev P:Program:=Tryz.prog
abbrev F.qab:Nat:=6
abbrev F.qdz:Nat:=8
abbrev F.qak:Nat:=9
abbrev F.qck:Nat:=10
abbrev F.qbk:Nat:=11
abbrev F.qbp:Nat:=12
abbrev F.qbf:Nat:=13
abbrev F.qcv:Nat:=15
abbrev F.qcw:Nat:=17
abbrev F.qaa:Nat:=19
abbrev F.qae:Nat:=22
abbrev F.qcm:Nat:=23
abbrev F.qay:Nat:=24
abbrev F.qdw:Nat:=25
abbrev F.qac:Nat:=26
abbrev F.qcg:Nat:=27
abbrev F.qaz:Nat:=28
abbrev F.qcn:Nat:=30
abbrev F.qbb:Nat:=31
abbrev F.qdq:Nat:=32
abbrev F.qdf:Nat:=33
abbrev F.qcy:Nat:=34
abbrev F.qba:Nat:=35
abbrev F.qbg:Nat:=36
abbrev F.qag:Nat:=37
abbrev F.qbc:Nat:=39
abbrev F.qaw:Nat:=40
abbrev F.qah:Nat:=41
abbrev F.qbq:Nat:=42
abbrev F.qco:Nat:=43
abbrev F.qcu:Nat:=44
abbrev F.qan:Nat:=45
abbrev F.qam:Nat:=46
abbrev F.qbh:Nat:=47
abbrev F.qcf:Nat:=48
abbrev F.qdx:Nat:=49
abbrev F.qee:Nat:=50
abbrev F.qdr:Nat:=51
abbrev F.qcb:Nat:=52
abbrev F.qbo:Nat:=53
abbrev F.qce:Nat:=54
abbrev F.qcr:Nat:=55
abbrev F.qde:Nat:=56
abbrev F.qct:Nat:=57
abbrev F.qbu:Nat:=58
abbrev F.qcl:Nat:=60
abbrev F.qci:Nat:=61
abbrev F.maps_Keys_map_int_chans_Asm_int_chans_Asm_1:Nat:=62
abbrev F.qaq:Nat:=63
abbrev F.qca:Nat:=64
abbrev F.qdy:Nat:=65
abbrev F.qas:Nat:=66
abbrev F.qch:Nat:=67
abbrev F.qau:Nat:=68
abbrev F.qcc:Nat:=69
abbrev F.qbz:Nat:=70
abbrev F.qds:Nat:=71
abbrev F.qai:Nat:=72
abbrev F.qcq:Nat:=73
abbrev F.qdd:Nat:=74
abbrev F.qdc:Nat:=75
abbrev F.qbl:Nat:=76
abbrev F.qbt:Nat:=77
abbrev F.qar:Nat:=78
abbrev F.slices_AppendSeq_int_int:Nat:=80
abbrev F.qaf:Nat:=81
abbrev F.math_bits_Len:Nat:=82
abbrev F.qeb:Nat:=83
abbrev F.qcs:Nat:=84
abbrev F.qbs:Nat:=85
abbrev F.qao:Nat:=86
abbrev F.qby:Nat:=87
abbrev F.qea:Nat:=88
abbrev F.qal:Nat:=89
abbrev F.qaj:Nat:=90
abbrev F.qbr:Nat:=91
abbrev F.qax:Nat:=92
abbrev F.qei:Nat:=93
abbrev F.qdp:Nat:=94
abbrev F.qap:Nat:=95
abbrev F.qbv:Nat:=96
abbrev F.qef:Nat:=97
abbrev F.qat:Nat:=98
abbrev F.qad:Nat:=99
abbrev F.slices_heapSortOrdered_int:Nat:=100
abbrev F.slices_breakPatternsOrdered_int:Nat:=101
abbrev F.slices_choosePivotOrdered_int:Nat:=102
abbrev F.slices_reverseRangeOrdered_int:Nat:=103
abbrev F.slices_partialInsertionSortOrdered_int:Nat:=104
abbrev F.qdk:Nat:=105
abbrev F.slices_partitionEqualOrdered_int:Nat:=106
abbrev F.slices_partitionOrdered_int:Nat:=107
abbrev F.math_bits_Len64:Nat:=109
abbrev F.qeh:Nat:=110
abbrev F.qcd:Nat:=111
abbrev F.qcx:Nat:=112
abbrev F.qcp:Nat:=113
abbrev F.qcj:Nat:=114
abbrev F.qbi:Nat:=115
abbrev F.qdu:Nat:=116
abbrev F.qbj:Nat:=117
abbrev F.qeg:Nat:=118
abbrev F.qdl:Nat:=119
abbrev F.qdn:Nat:=120
abbrev F.qda:Nat:=121
abbrev F.qec:Nat:=122
abbrev F.qdi:Nat:=128
abbrev F.qdt:Nat:=129
abbrev F.qdo:Nat:=130
abbrev F.qdj:Nat:=131
abbrev F.qdm:Nat:=132
abbrev F.qdv:Nat:=133
abbrev F.qbm:Nat:=134
abbrev F.qdg:Nat:=135
abbrev F.qdh:Nat:=136
abbrev F.qbw:Nat:=137
abbrev F.qbd:Nat:=139
abbrev F.qbn:Nat:=140
abbrev F.qbe:Nat:=141
abbrev F.qej:Nat:=142
abbrev F.qdb:Nat:=143
abbrev F.qcz:Nat:=144
abbrev F.qav:Nat:=145
abbrev F.qbx:Nat:=146
abbrev F.qed:Nat:=147
abbrev T.unit:Nat:=0
abbrev T.int:Nat:=3
abbrev T.bool:Nat:=4
abbrev T.uint8:Nat:=5
abbrev T.string:Nat:=9
abbrev T.sl_uint8:Nat:=23
abbrev T.sl_uint64:Nat:=31
abbrev T.sl_string:Nat:=32
abbrev T.sl_bool:Nat:=33
abbrev T.sl_api_Field:Nat:=34
abbrev T.api_Method:Nat:=36
abbrev T.uint64:Nat:=37
abbrev T.api_Head:Nat:=39
abbrev T.api_Ask:Nat:=41
abbrev T.api_Event:Nat:=43
abbrev T.waybilllaw24_Call:Nat:=53
abbrev T.api_Frame:Nat:=57
abbrev T.map_int_p_chans_Asm:Nat:=75
abbrev T.map_int_int:Nat:=76
abbrev T.sl_api_Event:Nat:=77
abbrev T.conns_Conn:Nat:=79
abbrev T.p_chans_Asm:Nat:=86
abbrev T.t2_int:Nat:=121
abbrev T.sl_2_int:Nat:=122
abbrev T.api_Field:Nat:=126
abbrev T.octs_In:Nat:=128
abbrev T.meth_writer:Nat:=141
abbrev T.sl_meth_known:Nat:=164
abbrev T.map_2_int_int:Nat:=166
abbrev T.meth_known:Nat:=169
abbrev T.chans_Asm:Nat:=177
abbrev T.map_string_int:Nat:=199
end Go.Proofs.YtjapglfpjhljpaaGreat.Pr
end
section
set_option linter.unusedVariables false
set_option maxRecDepth 100000
namespace Go.Proofs.YtjapglfpjhljpaaGreat.Pr
open Go Go.Lift Go.Proofs
def qds.p0 (K:KT) (t0:Int) (h:Heap):Prop :=
  bd ((if (8:Int)<(if (1:Int) > t0 then 1 else t0) then 8 else (if (1:Int) > t0 then 1 else t0)):Int) fun n1=>K (.int .i64 n1) h
def qds.plan (K:KT):Plan:=.go
theorem qds.ev_eq:qds.p0=fun K t0 h=>Ev P Tryz.f71 (qds.plan K) K [.int .i64 t0] h:=by kernel_rfl
theorem qds.obl (K:KT):Obl P Tryz.f71 (qds.plan K) K :=
  obl_true (by kernel_rfl)
theorem qds.ok {K:KT}{t0:Int}{h:Heap} (H:qds.p0 K t0 h):CallsH P F.qds [.int .i64 t0] K h :=
  calls_of_Ev (qds.plan K) Tryz.func71 (by kernel_rfl) (qds.obl K) (by rw [qds.ev_eq] at H; exact H)
def qcs.L1 (K:KT):Nat→OA→Nat→Nat→Int→Int→Heap→Prop
  | 0,_,_,_,_,_,_=>False
  | fuel+1,b_0,b_0l,b_0c,v_2,i_7,h=>((decide (i_7 ≥ 0))=true→(0:Int)≤3∧(0:Int)≤(IntKind.u64.wrap (shlI .i64 i_7 3))∧bd (al h #[.int .u8 (IntKind.u8.wrap (shrI .u64 v_2 (IntKind.u64.wrap (shlI .i64 i_7 3))))] T.uint8) fun h8=>SemH P (Builtin.append_ #[T.sl_uint8,T.sl_uint8] T.sl_uint8 #[.slice b_0 b_0l b_0c,.slice (some (top h)) 1 1]) (fun v9 x=>∃ p q r,v9=.slice p q r∧bd ((IntKind.i64.wrap (i_7 - 1)):Int) fun i_12=>(qcs.L1 K fuel) p q r v_2 i_12 x) h8)∧((decide (i_7 ≥ 0))=false→K (.slice b_0 b_0l b_0c) h)
termination_by structural n=>n
def qcs.L1.l:Live:=[(0,.slice),(2,.int .u64),(7,.int .i64)]
def qcs.L1.j (K:KT):Nat→Tup qcs.L1.l→Heap→Prop:=fun n x h=>qcs.L1 K n x.1.1 x.1.2.1 x.1.2.2 x.2.1 x.2.2.1 h
def qcs.p0 (K:KT) (b_0:OA) (b_0l:Nat) (b_0c:Nat) (t1:Int) (v_2:Int) (h:Heap):Prop :=
  CallsH P F.qcb [.slice b_0 b_0l b_0c] (fun v1 h2=>∃ a3 p q,v1=.slice a3 p q∧CallsH P F.qds [.int .i64 t1] (fun v4 h5=>∃ n6,v4=.int .i64 n6∧bd ((IntKind.i64.wrap (n6 - 1)):Int) fun i_7=>∃ fuel13,qcs.L1 K fuel13 a3 p q v_2 i_7 h5) h2) h
def qcs.plan (K:KT):Plan:=(.seq .go (.seq .go (.seq (.seq .go (.block (.loop qcs.L1.l (qcs.L1.j K) (fun n1=>.go)))) .go)))
theorem qcs.ev_eq:qcs.p0=fun K b_0 b_0l b_0c t1 v_2 h=>Ev P Tryz.f84 (qcs.plan K) K [.slice b_0 b_0l b_0c,.int .i64 t1,.int .u64 v_2] h:=by kernel_rfl
theorem qcs.obl (K:KT):Obl P Tryz.f84 (qcs.plan K) K :=
  obl_of (R:=(∀ x h,¬ (qcs.L1.j K) 0 x h)∧ImpN (qcs.L1.j K)∧(∀ (n1:Nat),True)∧True) (by kernel_rfl) ⟨fun _ _ H=>H,impN _,fun _=>trivial,trivial⟩
theorem qcs.ok {K:KT}{b_0:OA}{b_0l:Nat}{b_0c:Nat}{t1:Int}{v_2:Int}{h:Heap} (H:qcs.p0 K b_0 b_0l b_0c t1 v_2 h):CallsH P F.qcs [.slice b_0 b_0l b_0c,.int .i64 t1,.int .u64 v_2] K h :=
  calls_of_Ev (qcs.plan K) Tryz.func84 (by kernel_rfl) (qcs.obl K) (by rw [qcs.ev_eq] at H; exact H)
def qea.p0 (K:KT) (b_0:OA) (b_0l:Nat) (b_0c:Nat) (s_1:OA) (s_1l:Nat) (s_1c:Nat) (h:Heap):Prop :=
  CallsH P F.qcs [.slice b_0 b_0l b_0c,.int .i64 4,.int .u64 (IntKind.u64.wrap ((s_1l:Nat):Int))] (fun v1 h2=>∃ a3 p q,v1=.slice a3 p q∧SemH P (Builtin.append_ #[T.sl_uint8,T.sl_uint8] T.sl_uint8 #[.slice a3 p q,.slice s_1 s_1l s_1c]) (fun v4 h5=>∃ a6 r x,v4=.slice a6 r x∧K (.slice a6 r x) h5) h2) h
def qea.plan (K:KT):Plan:=.go
theorem qea.ev_eq:qea.p0=fun K b_0 b_0l b_0c s_1 s_1l s_1c h=>Ev P Tryz.f88 (qea.plan K) K [.slice b_0 b_0l b_0c,.slice s_1 s_1l s_1c] h:=by kernel_rfl
theorem qea.obl (K:KT):Obl P Tryz.f88 (qea.plan K) K :=
  obl_true (by kernel_rfl)
theorem qea.ok {K:KT}{b_0:OA}{b_0l:Nat}{b_0c:Nat}{s_1:OA}{s_1l:Nat}{s_1c:Nat}{h:Heap} (H:qea.p0 K b_0 b_0l b_0c s_1 s_1l s_1c h):CallsH P F.qea [.slice b_0 b_0l b_0c,.slice s_1 s_1l s_1c] K h :=
  calls_of_Ev (qea.plan K) Tryz.func88 (by kernel_rfl) (qea.obl K) (by rw [qea.ev_eq] at H; exact H)
def qdt.p0 (K:KT) (b_0:OA) (b_0l:Nat) (b_0c:Nat) (s_1:List UInt8) (h:Heap):Prop :=
  ((decide (((List.length s_1:Nat):Int) > 255))=true→CallsH P F.qcb [.slice b_0 b_0l b_0c] (fun v1 h2=>∃ a3 p q,v1=.slice a3 p q∧K (.tuple #[.slice a3 p q,.bool false]) h2) h)∧((decide (((List.length s_1:Nat):Int) > 255))=false→CallsH P F.qcs [.slice b_0 b_0l b_0c,.int .i64 1,.int .u64 (IntKind.u64.wrap ((List.length s_1:Nat):Int))] (fun v4 h5=>∃ a6 r x,v4=.slice a6 r x∧SemH P (Builtin.append_ #[T.sl_uint8,T.string] T.sl_uint8 #[.slice a6 r x,.string (mkS s_1)]) (fun v7 h8=>∃ a9 z aa,v7=.slice a9 z aa∧K (.tuple #[.slice a9 z aa,.bool true]) h8) h5) h)
def qdt.plan (K:KT):Plan:=.go
theorem qdt.ev_eq:qdt.p0=fun K b_0 b_0l b_0c s_1 h=>Ev P Tryz.f129 (qdt.plan K) K [.slice b_0 b_0l b_0c,.string (mkS s_1)] h:=by kernel_rfl
theorem qdt.obl (K:KT):Obl P Tryz.f129 (qdt.plan K) K :=
  obl_true (by kernel_rfl)
theorem qdt.ok {K:KT}{b_0:OA}{b_0l:Nat}{b_0c:Nat}{s_1:List UInt8}{h:Heap} (H:qdt.p0 K b_0 b_0l b_0c s_1 h):CallsH P F.qdt [.slice b_0 b_0l b_0c,.string (mkS s_1)] K h :=
  calls_of_Ev (qdt.plan K) Tryz.func129 (by kernel_rfl) (qdt.obl K) (by rw [qdt.ev_eq] at H; exact H)
def qee.p0 (K:KT) (b_0:OA) (b_0l:Nat) (b_0c:Nat) (h:Heap):Prop :=
  bd (al h #[.slice b_0 b_0l b_0c,.bool false] T.octs_In) fun h1=>K (.pointer (some (top h))) h1
def qee.plan (K:KT):Plan:=.go
theorem qee.ev_eq:qee.p0=fun K b_0 b_0l b_0c h=>Ev P Tryz.f50 (qee.plan K) K [.slice b_0 b_0l b_0c] h:=by kernel_rfl
theorem qee.obl (K:KT):Obl P Tryz.f50 (qee.plan K) K :=
  obl_true (by kernel_rfl)
theorem qee.ok {K:KT}{b_0:OA}{b_0l:Nat}{b_0c:Nat}{h:Heap} (H:qee.p0 K b_0 b_0l b_0c h):CallsH P F.qee [.slice b_0 b_0l b_0c] K h :=
  calls_of_Ev (qee.plan K) Tryz.func50 (by kernel_rfl) (qee.obl K) (by rw [qee.ev_eq] at H; exact H)
def qbz.j1 (K:KT) (r_0:OA) (t1:Int) (x:Bool) (h:Heap):Prop :=
  (x=true→∃ p1,r_0=some p1∧∃ h2,stC h (Addr.add p1 0) 0 [.slice none 0 0]=some h2∧∃ p3,r_0=some p3∧∃ h4,stC h2 (Addr.add p3 1) 0 [.bool true]=some h4∧K (.slice none 0 0) h4)∧(x=false→∃ p5,r_0=some p5∧∃ a6 af p,hcell h (Addr.add p5 0)=some (.slice a6 af p)∧inB t1 p∧CallsH P F.qcb [.slice (slA a6 0 p 1) (Int.toNat t1) p] (fun v7 h8=>∃ a9 z aa,v7=.slice a9 z aa∧∃ ab,r_0=some ab∧∃ ac q r,hcell h8 (Addr.add ab 0)=some (.slice ac q r)∧inB t1 q∧∃ ad,r_0=some ad∧∃ ae,stC h8 (Addr.add ad 0) 0 [.slice (slA ac (Int.toNat t1) r 1) (q - Int.toNat t1) (r - Int.toNat t1)]=some ae∧K (.slice a9 z aa) ae) h)
def qbz.j1.l:Live:=[(0,.ptr),(1,.int .u64),(19,.bool)]
def qbz.j1.j (K:KT):Tup qbz.j1.l→Heap→Prop:=fun x h=>qbz.j1 K x.1 x.2.1 x.2.2.1 h
def qbz.p0 (K:KT) (r_0:OA) (t1:Int) (h:Heap):Prop :=
  ∃ q,r_0=some q∧∃ p,hcell h (Addr.add q 1)=some (.bool p)∧(p=false→∃ r,r_0=some r∧∃ z x aa,hcell h (Addr.add r 0)=some (.slice z x aa)∧qbz.j1 K r_0 t1 (decide (t1 > (IntKind.u64.wrap ((x:Nat):Int)))) h)∧(p=true→qbz.j1 K r_0 t1 true h)
def qbz.plan (K:KT):Plan:=(.seq .go (.seq (.cut qbz.j1.l (qbz.j1.j K) .go .go) .go))
theorem qbz.ev_eq:qbz.p0=fun K r_0 t1 h=>Ev P Tryz.f70 (qbz.plan K) K [.pointer r_0,.int .u64 t1] h:=by kernel_rfl
theorem qbz.obl (K:KT):Obl P Tryz.f70 (qbz.plan K) K :=
  obl_of (R:=Imp (qbz.j1.j K)∧True) (by kernel_rfl) ⟨imp _,trivial⟩
theorem qbz.ok {K:KT}{r_0:OA}{t1:Int}{h:Heap} (H:qbz.p0 K r_0 t1 h):CallsH P F.qbz [.pointer r_0,.int .u64 t1] K h :=
  calls_of_Ev (qbz.plan K) Tryz.func70 (by kernel_rfl) (qbz.obl K) (by rw [qbz.ev_eq] at H; exact H)
def qcc.L1 (K:KT):Nat→Int→OA→Nat→Nat→Int→Int→Heap→Prop
  | 0,_,_,_,_,_,_,_=>False
  | fuel+1,v_3,t6,p,q,t7,t8,h=>((decide (t8<t7))=true→∃ p1,t6=some p1∧(0:Int)≤t8∧t8<((p:Nat):Int)∧∃ n2,hcell h (Addr.add p1 (Int.toNat t8 * 1))=some (.int .u8 n2)∧(0:Int)≤8∧bd ((bitsI .or .u64 (shlI .u64 v_3 8) (IntKind.u64.wrap n2)):Int) fun v_3=>(qcc.L1 K fuel) v_3 t6 p q t7 (IntKind.i64.wrap (t8+1)) h)∧((decide (t8<t7))=false→K (.int .u64 v_3) h)
termination_by structural n=>n
def qcc.L1.l:Live:=[(3,.int .u64),(6,.slice),(7,.int .i64),(8,.int .i64)]
def qcc.L1.j (K:KT):Nat→Tup qcc.L1.l→Heap→Prop:=fun n x h=>qcc.L1 K n x.1 x.2.1.1 x.2.1.2.1 x.2.1.2.2 x.2.2.1 x.2.2.2.1 h
def qcc.p0 (K:KT) (b_0:OA) (b_0l:Nat) (b_0c:Nat) (h:Heap):Prop :=
  ∃ fuel4,qcc.L1 K fuel4 0 b_0 b_0l b_0c ((b_0l:Nat):Int) 0 h
def qcc.plan (K:KT):Plan:=(.seq .go (.seq .go (.seq (.seq .go (.block (.loop qcc.L1.l (qcc.L1.j K) (fun n1=>.go)))) .go)))
theorem qcc.ev_eq:qcc.p0=fun K b_0 b_0l b_0c h=>Ev P Tryz.f69 (qcc.plan K) K [.slice b_0 b_0l b_0c] h:=by kernel_rfl
theorem qcc.obl (K:KT):Obl P Tryz.f69 (qcc.plan K) K :=
  obl_of (R:=(∀ x h,¬ (qcc.L1.j K) 0 x h)∧ImpN (qcc.L1.j K)∧(∀ (n1:Nat),True)∧True) (by kernel_rfl) ⟨fun _ _ H=>H,impN _,fun _=>trivial,trivial⟩
theorem qcc.ok {K:KT}{b_0:OA}{b_0l:Nat}{b_0c:Nat}{h:Heap} (H:qcc.p0 K b_0 b_0l b_0c h):CallsH P F.qcc [.slice b_0 b_0l b_0c] K h :=
  calls_of_Ev (qcc.plan K) Tryz.func69 (by kernel_rfl) (qcc.obl K) (by rw [qcc.ev_eq] at H; exact H)
def qdr.p0 (K:KT) (r_0:OA) (t1:Int) (h:Heap):Prop :=
  CallsH P F.qds [.int .i64 t1] (fun v1 h2=>∃ n3,v1=.int .i64 n3∧CallsH P F.qbz [.pointer r_0,.int .u64 (IntKind.u64.wrap n3)] (fun v4 h5=>∃ a6 p q,v4=.slice a6 p q∧CallsH P F.qcc [.slice a6 p q] (fun v7 h8=>∃ n9,v7=.int .u64 n9∧K (.int .u64 n9) h8) h5) h2) h
def qdr.plan (K:KT):Plan:=.go
theorem qdr.ev_eq:qdr.p0=fun K r_0 t1 h=>Ev P Tryz.f51 (qdr.plan K) K [.pointer r_0,.int .i64 t1] h:=by kernel_rfl
theorem qdr.obl (K:KT):Obl P Tryz.f51 (qdr.plan K) K :=
  obl_true (by kernel_rfl)
theorem qdr.ok {K:KT}{r_0:OA}{t1:Int}{h:Heap} (H:qdr.p0 K r_0 t1 h):CallsH P F.qdr [.pointer r_0,.int .i64 t1] K h :=
  calls_of_Ev (qdr.plan K) Tryz.func51 (by kernel_rfl) (qdr.obl K) (by rw [qdr.ev_eq] at H; exact H)
def qdu.p0 (K:KT) (r_0:OA) (h:Heap):Prop :=
  ∃ p1,r_0=some p1∧∃ b2,hcell h (Addr.add p1 1)=some (.bool b2)∧bd ((!b2):Bool) fun b3=>K (.bool b3) h
def qdu.plan (K:KT):Plan:=.go
theorem qdu.ev_eq:qdu.p0=fun K r_0 h=>Ev P Tryz.f116 (qdu.plan K) K [.pointer r_0] h:=by kernel_rfl
theorem qdu.obl (K:KT):Obl P Tryz.f116 (qdu.plan K) K :=
  obl_true (by kernel_rfl)
theorem qdu.ok {K:KT}{r_0:OA}{h:Heap} (H:qdu.p0 K r_0 h):CallsH P F.qdu [.pointer r_0] K h :=
  calls_of_Ev (qdu.plan K) Tryz.func116 (by kernel_rfl) (qdu.obl K) (by rw [qdu.ev_eq] at H; exact H)
def qbn.j1 (K:KT) (r_0:OA) (t1:Int) (z:Bool) (h:Heap):Prop :=
  (z=true→CallsH P F.qbz [.pointer r_0,.int .u64 (IntKind.u64.wrap t1)] (fun v1 h2=>∃ a3 aa ab,v1=.slice a3 aa ab∧K (.slice a3 aa ab) h2) h)∧(z=false→∃ p4,r_0=some p4∧∃ a5 ao p,hcell h (Addr.add p4 0)=some (.slice a5 ao p)∧inB t1 p∧CallsH P F.qcc [.slice (slA a5 0 p 1) (Int.toNat t1) p] (fun v6 h7=>∃ n8,v6=.int .u64 n8∧∃ p9,r_0=some p9∧∃ aq q ar,hcell h7 (Addr.add p9 0)=some (.slice aq q ar)∧((decide (n8 > (IntKind.u64.wrap (IntKind.i64.wrap (((q:Nat):Int) - t1)))))=true→∃ ac,r_0=some ac∧∃ ad,stC h7 (Addr.add ac 0) 0 [.slice none 0 0]=some ad∧∃ ae,r_0=some ae∧∃ af,stC ad (Addr.add ae 1) 0 [.bool true]=some af∧K (.slice none 0 0) af)∧((decide (n8 > (IntKind.u64.wrap (IntKind.i64.wrap (((q:Nat):Int) - t1)))))=false→∃ ag,r_0=some ag∧∃ ah r x,hcell h7 (Addr.add ag 0)=some (.slice ah r x)∧inB t1 r∧∃ ai,r_0=some ai∧∃ aj,stC h7 (Addr.add ai 0) 0 [.slice (slA ah (Int.toNat t1) x 1) (r - Int.toNat t1) (x - Int.toNat t1)]=some aj∧CallsH P F.qbz [.pointer r_0,.int .u64 n8] (fun au aw=>∃ ak am an,au=.slice ak am an∧K (.slice ak am an) aw) aj)) h)
def qbn.j1.l:Live:=[(0,.ptr),(1,.int .i64),(18,.bool)]
def qbn.j1.j (K:KT):Tup qbn.j1.l→Heap→Prop:=fun x h=>qbn.j1 K x.1 x.2.1 x.2.2.1 h
def qbn.p0 (K:KT) (r_0:OA) (t1:Int) (h:Heap):Prop :=
  ∃ q,r_0=some q∧∃ p,hcell h (Addr.add q 1)=some (.bool p)∧(p=false→∃ r,r_0=some r∧∃ z x aa,hcell h (Addr.add r 0)=some (.slice z x aa)∧qbn.j1 K r_0 t1 (decide (((x:Nat):Int)<t1)) h)∧(p=true→qbn.j1 K r_0 t1 true h)
def qbn.plan (K:KT):Plan:=(.seq .go (.seq (.cut qbn.j1.l (qbn.j1.j K) .go .go) .go))
theorem qbn.ev_eq:qbn.p0=fun K r_0 t1 h=>Ev P Tryz.f140 (qbn.plan K) K [.pointer r_0,.int .i64 t1] h:=by kernel_rfl
theorem qbn.obl (K:KT):Obl P Tryz.f140 (qbn.plan K) K :=
  obl_of (R:=Imp (qbn.j1.j K)∧True) (by kernel_rfl) ⟨imp _,trivial⟩
theorem qbn.ok {K:KT}{r_0:OA}{t1:Int}{h:Heap} (H:qbn.p0 K r_0 t1 h):CallsH P F.qbn [.pointer r_0,.int .i64 t1] K h :=
  calls_of_Ev (qbn.plan K) Tryz.func140 (by kernel_rfl) (qbn.obl K) (by rw [qbn.ev_eq] at H; exact H)
def qdj.p0 (K:KT) (r_0:OA) (h:Heap):Prop :=
  CallsH P F.qbn [.pointer r_0,.int .i64 1] (fun v1 h2=>∃ a3 p q,v1=.slice a3 p q∧SemH P (Go.convert T.sl_uint8 T.string (.slice a3 p q)) (fun v4 h5=>∃ s6,v4=.string (mkS s6)∧K (.string (mkS s6)) h5) h2) h
def qdj.plan (K:KT):Plan:=.go
theorem qdj.ev_eq:qdj.p0=fun K r_0 h=>Ev P Tryz.f131 (qdj.plan K) K [.pointer r_0] h:=by kernel_rfl
theorem qdj.obl (K:KT):Obl P Tryz.f131 (qdj.plan K) K :=
  obl_true (by kernel_rfl)
theorem qdj.ok {K:KT}{r_0:OA}{h:Heap} (H:qdj.p0 K r_0 h):CallsH P F.qdj [.pointer r_0] K h :=
  calls_of_Ev (qdj.plan K) Tryz.func131 (by kernel_rfl) (qdj.obl K) (by rw [qdj.ev_eq] at H; exact H)
def qdm.p0 (K:KT) (r_0:OA) (h:Heap):Prop :=
  CallsH P F.qbn [.pointer r_0,.int .i64 4] (fun v1 h2=>∃ a3 p q,v1=.slice a3 p q∧K (.slice a3 p q) h2) h
def qdm.plan (K:KT):Plan:=.go
theorem qdm.ev_eq:qdm.p0=fun K r_0 h=>Ev P Tryz.f132 (qdm.plan K) K [.pointer r_0] h:=by kernel_rfl
theorem qdm.obl (K:KT):Obl P Tryz.f132 (qdm.plan K) K :=
  obl_true (by kernel_rfl)
theorem qdm.ok {K:KT}{r_0:OA}{h:Heap} (H:qdm.p0 K r_0 h):CallsH P F.qdm [.pointer r_0] K h :=
  calls_of_Ev (qdm.plan K) Tryz.func132 (by kernel_rfl) (qdm.obl K) (by rw [qdm.ev_eq] at H; exact H)
def qdl.p0 (K:KT) (r_0:OA) (h:Heap):Prop :=
  ∃ p1,r_0=some p1∧∃ a2 p q,hcell h (Addr.add p1 0)=some (.slice a2 p q)∧bd (((p:Nat):Int):Int) fun n3=>K (.int .i64 n3) h
def qdl.plan (K:KT):Plan:=.go
theorem qdl.ev_eq:qdl.p0=fun K r_0 h=>Ev P Tryz.f119 (qdl.plan K) K [.pointer r_0] h:=by kernel_rfl
theorem qdl.obl (K:KT):Obl P Tryz.f119 (qdl.plan K) K :=
  obl_true (by kernel_rfl)
theorem qdl.ok {K:KT}{r_0:OA}{h:Heap} (H:qdl.p0 K r_0 h):CallsH P F.qdl [.pointer r_0] K h :=
  calls_of_Ev (qdl.plan K) Tryz.func119 (by kernel_rfl) (qdl.obl K) (by rw [qdl.ev_eq] at H; exact H)
end Go.Proofs.YtjapglfpjhljpaaGreat.Pr
end
section
set_option linter.unusedVariables false
set_option maxRecDepth 100000
namespace Go.Proofs.YtjapglfpjhljpaaGreat.Pr
open Go Go.Lift Go.Proofs
def qcb.p0 (K:KT) (s_0:OA) (s_0l:Nat) (s_0c:Nat) (h:Heap):Prop :=
  ((Option.isNone s_0)=true→K (.slice none 0 0) h)∧((Option.isNone s_0)=false→bd (al h #[] T.uint8) fun h1=>SemH P (Builtin.append_ #[T.sl_uint8,T.sl_uint8] T.sl_uint8 #[.slice (some (top h)) 0 0,.slice s_0 s_0l s_0c]) (fun v2 h3=>∃ a4 p q,v2=.slice a4 p q∧K (.slice a4 p q) h3) h1)
def qcb.plan (K:KT):Plan:=.go
theorem qcb.ev_eq:qcb.p0=fun K s_0 s_0l s_0c h=>Ev P Tryz.f52 (qcb.plan K) K [.slice s_0 s_0l s_0c] h:=by kernel_rfl
theorem qcb.obl (K:KT):Obl P Tryz.f52 (qcb.plan K) K :=
  obl_true (by kernel_rfl)
theorem qcb.ok {K:KT}{s_0:OA}{s_0l:Nat}{s_0c:Nat}{h:Heap} (H:qcb.p0 K s_0 s_0l s_0c h):CallsH P F.qcb [.slice s_0 s_0l s_0c] K h :=
  calls_of_Ev (qcb.plan K) Tryz.func52 (by kernel_rfl) (qcb.obl K) (by rw [qcb.ev_eq] at H; exact H)
end Go.Proofs.YtjapglfpjhljpaaGreat.Pr
end
section
set_option linter.unusedVariables false
set_option maxRecDepth 100000
namespace Go.Proofs.YtjapglfpjhljpaaGreat.Pr
open Go Go.Lift Go.Proofs
def qeh.p0 (K:KT)  (h:Heap):Prop :=
  ∃ p,bldS P T.sl_meth_known T.meth_known 49 [(0,.agg #[.int .i64 10,.int .i64 10,.string (mkS ([49,49,116,108,108]:List UInt8))]),(1,.agg #[.int .i64 10,.int .i64 11,.string (mkS ([116,115,108,115]:List UInt8))]),(2,.agg #[.int .i64 10,.int .i64 30,.string (mkS ([50,52,50]:List UInt8))]),(3,.agg #[.int .i64 10,.int .i64 31,.string (mkS ([50,52,50]:List UInt8))]),(4,.agg #[.int .i64 10,.int .i64 40,.string (mkS ([115,115,102]:List UInt8))]),(5,.agg #[.int .i64 10,.int .i64 41,.string (mkS ([115]:List UInt8))]),(6,.agg #[.int .i64 10,.int .i64 50,.string (mkS ([50,115,50,50]:List UInt8))]),(7,.agg #[.int .i64 10,.int .i64 51,.string (mkS ([]:List UInt8))]),(8,.agg #[.int .i64 20,.int .i64 10,.string (mkS ([115]:List UInt8))]),(9,.agg #[.int .i64 20,.int .i64 11,.string (mkS ([108]:List UInt8))]),(10,.agg #[.int .i64 20,.int .i64 40,.string (mkS ([50,115,50,50]:List UInt8))]),(11,.agg #[.int .i64 20,.int .i64 41,.string (mkS ([]:List UInt8))]),(12,.agg #[.int .i64 40,.int .i64 10,.string (mkS ([50,115,115,102,102,102,102,102,116]:List UInt8))]),(13,.agg #[.int .i64 40,.int .i64 11,.string (mkS ([]:List UInt8))]),(14,.agg #[.int .i64 40,.int .i64 20,.string (mkS ([50,115,102,102]:List UInt8))]),(15,.agg #[.int .i64 40,.int .i64 21,.string (mkS ([]:List UInt8))]),(16,.agg #[.int .i64 50,.int .i64 10,.string (mkS ([50,115,102,102,102,102,102,116]:List UInt8))]),(17,.agg #[.int .i64 50,.int .i64 11,.string (mkS ([115,52,52]:List UInt8))]),(18,.agg #[.int .i64 50,.int .i64 20,.string (mkS ([50,115,115,115,102,116]:List UInt8))]),(19,.agg #[.int .i64 50,.int .i64 21,.string (mkS ([]:List UInt8))]),(20,.agg #[.int .i64 50,.int .i64 30,.string (mkS ([50,115,102]:List UInt8))]),(21,.agg #[.int .i64 50,.int .i64 31,.string (mkS ([52]:List UInt8))]),(22,.agg #[.int .i64 50,.int .i64 40,.string (mkS ([50,115,102,102,102]:List UInt8))]),(23,.agg #[.int .i64 50,.int .i64 41,.string (mkS ([52]:List UInt8))]),(24,.agg #[.int .i64 50,.int .i64 50,.string (mkS ([50,115,115,115,116]:List UInt8))]),(25,.agg #[.int .i64 50,.int .i64 51,.string (mkS ([]:List UInt8))]),(26,.agg #[.int .i64 60,.int .i64 10,.string (mkS ([52,50,102]:List UInt8))]),(27,.agg #[.int .i64 60,.int .i64 11,.string (mkS ([]:List UInt8))]),(28,.agg #[.int .i64 60,.int .i64 20,.string (mkS ([50,115,115,102,102,102,102,116]:List UInt8))]),(29,.agg #[.int .i64 60,.int .i64 21,.string (mkS ([115]:List UInt8))]),(30,.agg #[.int .i64 60,.int .i64 30,.string (mkS ([115,102]:List UInt8))]),(31,.agg #[.int .i64 60,.int .i64 31,.string (mkS ([115]:List UInt8))]),(32,.agg #[.int .i64 60,.int .i64 40,.string (mkS ([50,115,115,102,102]:List UInt8))]),(33,.agg #[.int .i64 60,.int .i64 50,.string (mkS ([50,115,115,115]:List UInt8))]),(34,.agg #[.int .i64 60,.int .i64 60,.string (mkS ([115,56,102,115,115]:List UInt8))]),(35,.agg #[.int .i64 60,.int .i64 70,.string (mkS ([50,115,102]:List UInt8))]),(36,.agg #[.int .i64 60,.int .i64 71,.string (mkS ([56,102,115,115,52]:List UInt8))]),(37,.agg #[.int .i64 60,.int .i64 72,.string (mkS ([115]:List UInt8))]),(38,.agg #[.int .i64 60,.int .i64 80,.string (mkS ([56,102]:List UInt8))]),(39,.agg #[.int .i64 60,.int .i64 90,.string (mkS ([56,102]:List UInt8))]),(40,.agg #[.int .i64 60,.int .i64 110,.string (mkS ([102]:List UInt8))]),(41,.agg #[.int .i64 60,.int .i64 111,.string (mkS ([]:List UInt8))]),(42,.agg #[.int .i64 60,.int .i64 120,.string (mkS ([56,102,102]:List UInt8))]),(43,.agg #[.int .i64 90,.int .i64 10,.string (mkS ([]:List UInt8))]),(44,.agg #[.int .i64 90,.int .i64 11,.string (mkS ([]:List UInt8))]),(45,.agg #[.int .i64 90,.int .i64 20,.string (mkS ([]:List UInt8))]),(46,.agg #[.int .i64 90,.int .i64 21,.string (mkS ([]:List UInt8))]),(47,.agg #[.int .i64 90,.int .i64 30,.string (mkS ([]:List UInt8))]),(48,.agg #[.int .i64 90,.int .i64 31,.string (mkS ([]:List UInt8))])] p∧bd (al h (List.toArray p) T.meth_known) fun h2=>bd ((some (top h)):OA) fun a3=>bd (49:Nat) fun q=>bd (49:Nat) fun r=>K (.slice a3 q r) h2
def qeh.plan (K:KT):Plan:=.go
theorem qeh.ev_eq:qeh.p0=fun K  h=>Ev P Tryz.f110 (qeh.plan K) K [] h:=by kernel_rfl
theorem qeh.obl (K:KT):Obl P Tryz.f110 (qeh.plan K) K :=
  obl_true (by kernel_rfl)
theorem qeh.ok {K:KT}  {h:Heap} (H:qeh.p0 K  h):CallsH P F.qeh [] K h :=
  calls_of_Ev (qeh.plan K) Tryz.func110 (by kernel_rfl) (qeh.obl K) (by rw [qeh.ev_eq] at H; exact H)
def qcd.L1 (K:KT):Nat→Option Nat→OA→Nat→Nat→Int→Int→Heap→Prop
  | 0,_,_,_,_,_,_,_=>False
  | fuel+1,out_3,t7,q,r,t8,t9,h=>((decide (t9<t8))=true→∃ p2,t7=some p2∧(0:Int)≤t9∧t9<((q:Nat):Int)∧∃ p,rdC h (Addr.add p2 (Int.toNat t9 * 3)) 0 3=some p∧bd (al h #[.int .i64 0,.int .i64 0,.string (mkS ([]:List UInt8))] T.meth_known) fun h4=>p.length=3∧∃ h5,stC h4 (top h) 0 p=some h5∧∃ n6,hcell h5 (Addr.add (top h) 0)=some (.int .i64 n6)∧∃ n7,hcell h5 (Addr.add (top h) 1)=some (.int .i64 n7)∧SemH P (unit (Instr.mapUpdate T.map_2_int_int (.map out_3) (.agg #[.int .i64 n6,.int .i64 n7]) (.int .i64 t9))) (fun v8 h9=>(qcd.L1 K fuel) out_3 t7 q r t8 (IntKind.i64.wrap (t9+1)) h9) h5)∧((decide (t9<t8))=false→K (.map out_3) h)
termination_by structural n=>n
def qcd.L1.l:Live:=[(3,.map),(7,.slice),(8,.int .i64),(9,.int .i64)]
def qcd.L1.j (K:KT):Nat→Tup qcd.L1.l→Heap→Prop:=fun n x h=>qcd.L1 K n x.1 x.2.1.1 x.2.1.2.1 x.2.1.2.2 x.2.2.1 x.2.2.2.1 h
def qcd.p0 (K:KT) (l_0:OA) (l_0l:Nat) (l_0c:Nat) (h:Heap):Prop :=
  bd (Array.push h (.map #[] 0)) fun h1=>∃ fuel10,qcd.L1 K fuel10 (some (Array.size h)) l_0 l_0l l_0c ((l_0l:Nat):Int) 0 h1
def qcd.plan (K:KT):Plan:=(.seq .go (.seq .go (.seq (.seq .go (.block (.loop qcd.L1.l (qcd.L1.j K) (fun n1=>.go)))) .go)))
theorem qcd.ev_eq:qcd.p0=fun K l_0 l_0l l_0c h=>Ev P Tryz.f111 (qcd.plan K) K [.slice l_0 l_0l l_0c] h:=by kernel_rfl
theorem qcd.obl (K:KT):Obl P Tryz.f111 (qcd.plan K) K :=
  obl_of (R:=(∀ x h,¬ (qcd.L1.j K) 0 x h)∧ImpN (qcd.L1.j K)∧(∀ (n1:Nat),True)∧True) (by kernel_rfl) ⟨fun _ _ H=>H,impN _,fun _=>trivial,trivial⟩
theorem qcd.ok {K:KT}{l_0:OA}{l_0l:Nat}{l_0c:Nat}{h:Heap} (H:qcd.p0 K l_0 l_0l l_0c h):CallsH P F.qcd [.slice l_0 l_0l l_0c] K h :=
  calls_of_Ev (qcd.plan K) Tryz.func111 (by kernel_rfl) (qcd.obl K) (by rw [qcd.ev_eq] at H; exact H)
def qeb.p0 (K:KT) (t0:Int) (id_1:Int) (h:Heap):Prop :=
  CallsH P F.qeh [] (fun v1 h2=>∃ a3 p r,v1=.slice a3 p r∧CallsH P F.qcd [.slice a3 p r] (fun v4 h5=>∃ m6,v4=.map m6∧SemH P (Instr.lookup T.map_2_int_int (.map m6) (.agg #[.int .i64 t0,.int .i64 id_1]) true) (fun v7 h8=>∃ n9 q,v7=.tuple #[.int .i64 n9,.bool q]∧((!q)=true→K (.tuple #[.string (mkS ([]:List UInt8)),.bool false]) h8)∧((!q)=false→∃ x,a3=some x∧(0:Int)≤n9∧n9<((p:Nat):Int)∧∃ s12,hcell h8 (Addr.add (Addr.add x (Int.toNat n9 * 3)) 2)=some (.string (mkS s12))∧K (.tuple #[.string (mkS s12),.bool true]) h8)) h5) h2) h
def qeb.plan (K:KT):Plan:=.go
theorem qeb.ev_eq:qeb.p0=fun K t0 id_1 h=>Ev P Tryz.f83 (qeb.plan K) K [.int .i64 t0,.int .i64 id_1] h:=by kernel_rfl
theorem qeb.obl (K:KT):Obl P Tryz.f83 (qeb.plan K) K :=
  obl_true (by kernel_rfl)
theorem qeb.ok {K:KT}{t0:Int}{id_1:Int}{h:Heap} (H:qeb.p0 K t0 id_1 h):CallsH P F.qeb [.int .i64 t0,.int .i64 id_1] K h :=
  calls_of_Ev (qeb.plan K) Tryz.func83 (by kernel_rfl) (qeb.obl K) (by rw [qeb.ev_eq] at H; exact H)
def qbs.j2 (K:KT) (R1:List UInt8→Int→Heap→Prop) (form_0:List UInt8) (t3:Int) (p:Bool) (h:Heap):Prop :=
  (p=true→bd ((IntKind.i64.wrap (t3+1)):Int) fun n_1=>R1 form_0 n_1 h)∧(p=false→K (.int .i64 t3) h)
def qbs.j2.l:Live:=[(0,.str),(3,.int .i64),(13,.bool)]
def qbs.j2.j (K:KT) (R1:List UInt8→Int→Heap→Prop):Tup qbs.j2.l→Heap→Prop:=fun x h=>qbs.j2 K R1 x.1 x.2.1 x.2.2.1 h
def qbs.L1 (K:KT):Nat→List UInt8→Int→Heap→Prop
  | 0,_,_,_=>False
  | fuel+1,form_0,t3,h=>((decide (t3<((List.length form_0:Nat):Int)))=true→(0:Int)≤t3∧t3<((List.length form_0:Nat):Int)∧qbs.j2 K (qbs.L1 K fuel) form_0 t3 ((lb form_0 t3)==102) h)∧((decide (t3<((List.length form_0:Nat):Int)))=false→qbs.j2 K (qbs.L1 K fuel) form_0 t3 false h)
termination_by structural n=>n
def qbs.L1.l:Live:=[(0,.str),(3,.int .i64)]
def qbs.L1.j (K:KT):Nat→Tup qbs.L1.l→Heap→Prop:=fun n x h=>qbs.L1 K n x.1 x.2.1 h
def qbs.p0 (K:KT) (form_0:List UInt8) (h:Heap):Prop :=
  ∃ fuel2,qbs.L1 K fuel2 form_0 0 h
def qbs.plan (K:KT):Plan:=(.seq .go (.seq .go (.seq (.block (.loop qbs.L1.l (qbs.L1.j K) (fun n1=>(.seq (.cut qbs.j2.l (qbs.j2.j K (qbs.L1 K n1)) .go .go) .go)))) .go)))
theorem qbs.ev_eq:qbs.p0=fun K form_0 h=>Ev P Tryz.f85 (qbs.plan K) K [.string (mkS form_0)] h:=by kernel_rfl
theorem qbs.obl (K:KT):Obl P Tryz.f85 (qbs.plan K) K :=
  obl_of (R:=(∀ x h,¬ (qbs.L1.j K) 0 x h)∧ImpN (qbs.L1.j K)∧(∀ (n1:Nat),Imp (qbs.j2.j K (qbs.L1 K n1))∧True)∧True) (by kernel_rfl) ⟨fun _ _ H=>H,impN _,fun _=>⟨imp _,trivial⟩,trivial⟩
theorem qbs.ok {K:KT}{form_0:List UInt8}{h:Heap} (H:qbs.p0 K form_0 h):CallsH P F.qbs [.string (mkS form_0)] K h :=
  calls_of_Ev (qbs.plan K) Tryz.func85 (by kernel_rfl) (qbs.obl K) (by rw [qbs.ev_eq] at H; exact H)
def qao.j1 (K:KT) (t0:OA) (t1:Int) (h:Heap):Prop :=
  ∃ p3,t0=some p3∧∃ a4 p q,hcell h (Addr.add (Addr.add p3 1) 4)=some (.slice a4 p q)∧inB t1 p∧∃ p5,t0=some p5∧∃ h6,stC h (Addr.add (Addr.add p5 1) 4) 0 [.slice (slA a4 (Int.toNat t1) q 1) (p - Int.toNat t1) (q - Int.toNat t1)]=some h6∧K (.bool true) h6
def qao.j1.l:Live:=[(0,.ptr),(1,.int .i64)]
def qao.j1.j (K:KT):Tup qao.j1.l→Heap→Prop:=fun x h=>qao.j1 K x.1 x.2.1 h
def qao.j3 (K:KT) (R2:OA→Int→OA→Nat→Nat→Int→Int→Heap→Prop) (t0:OA) (t1:Int) (p:OA) (q:Nat) (r:Nat) (x:Int) (z:Int) (h:Heap):Prop :=
  R2 t0 t1 p q r x (IntKind.i64.wrap (z+1)) h
def qao.j3.l:Live:=[(0,.ptr),(1,.int .i64),(21,.slice),(22,.int .i64),(23,.int .i64)]
def qao.j3.j (K:KT) (R2:OA→Int→OA→Nat→Nat→Int→Int→Heap→Prop):Tup qao.j3.l→Heap→Prop:=fun x h=>qao.j3 K R2 x.1 x.2.1 x.2.2.1.1 x.2.2.1.2.1 x.2.2.1.2.2 x.2.2.2.1 x.2.2.2.2.1 h
def qao.j4 (K:KT) (R2:OA→Int→OA→Nat→Nat→Int→Int→Heap→Prop) (t0:OA) (t1:Int) (t5:Int) (t6:Bool) (x:OA) (z:Nat) (aa:Nat) (ab:Int) (ac:Int) (h:Heap):Prop :=
  (t6=true→∃ ad,t0=some ad∧∃ ae,t0=some ae∧(8:Int)≠0∧(0:Int)≤(IntKind.u64.wrap (Int.tmod t5 8))∧∃ aj p ak,hcell h (Addr.add ae 0)=some (.slice aj p ak)∧∃ q r am,hcell h (Addr.add ad 0)=some (.slice q r am)∧∃ af,q=some af∧(0:Int)≤(IntKind.i64.wrap (((p:Nat):Int) - 1))∧(IntKind.i64.wrap (((p:Nat):Int) - 1))<((r:Nat):Int)∧∃ ag,hcell h (Addr.add af (Int.toNat (IntKind.i64.wrap (((p:Nat):Int) - 1)) * 1))=some (.int .u8 ag)∧∃ ah,q=some ah∧(0:Int)≤(IntKind.i64.wrap (((p:Nat):Int) - 1))∧(IntKind.i64.wrap (((p:Nat):Int) - 1))<((r:Nat):Int)∧∃ ai,stC h (Addr.add ah (Int.toNat (IntKind.i64.wrap (((p:Nat):Int) - 1)) * 1)) 0 [.int .u8 (bitsI .or .u8 ag (shlI .u8 1 (IntKind.u64.wrap (Int.tmod t5 8))))]=some ai∧qao.j3 K R2 t0 t1 x z aa ab ac ai)∧(t6=false→qao.j3 K R2 t0 t1 x z aa ab ac h)
def qao.j4.l:Live:=[(0,.ptr),(1,.int .i64),(5,.int .i64),(6,.bool),(21,.slice),(22,.int .i64),(23,.int .i64)]
def qao.j4.j (K:KT) (R2:OA→Int→OA→Nat→Nat→Int→Int→Heap→Prop):Tup qao.j4.l→Heap→Prop:=fun x h=>qao.j4 K R2 x.1 x.2.1 x.2.2.1 x.2.2.2.1 x.2.2.2.2.1.1 x.2.2.2.2.1.2.1 x.2.2.2.2.1.2.2 x.2.2.2.2.2.1 x.2.2.2.2.2.2.1 h
def qao.L2 (K:KT):Nat→OA→Int→OA→Nat→Nat→Int→Int→Heap→Prop
  | 0,_,_,_,_,_,_,_,_=>False
  | fuel+1,t0,t1,r,x,aa,q,p,h=>((decide (p<q))=true→∃ p9,r=some p9∧(0:Int)≤p∧p<((x:Nat):Int)∧∃ z,hcell h (Addr.add p9 (Int.toNat p * 1))=some (.bool z)∧(8:Int)≠0∧(((Int.tmod p 8)==0)=true→∃ ab,t0=some ab∧∃ ac ad ae,hcell h (Addr.add ab 0)=some (.slice ac ad ae)∧bd (al h #[.int .u8 0] T.uint8) fun ak=>SemH P (Builtin.append_ #[T.sl_uint8,T.sl_uint8] T.sl_uint8 #[.slice ac ad ae,.slice (some (top h)) 1 1]) (fun am an=>∃ af ag ah,am=.slice af ag ah∧∃ ai,t0=some ai∧∃ aj,stC an (Addr.add ai 0) 0 [.slice af ag ah]=some aj∧qao.j4 K (qao.L2 K fuel) t0 t1 p z r x aa q p aj) ak)∧(((Int.tmod p 8)==0)=false→qao.j4 K (qao.L2 K fuel) t0 t1 p z r x aa q p h))∧((decide (p<q))=false→qao.j1 K t0 t1 h)
termination_by structural n=>n
def qao.L2.l:Live:=[(0,.ptr),(1,.int .i64),(21,.slice),(22,.int .i64),(23,.int .i64)]
def qao.L2.j (K:KT):Nat→Tup qao.L2.l→Heap→Prop:=fun n x h=>qao.L2 K n x.1 x.2.1 x.2.2.1.1 x.2.2.1.2.1 x.2.2.1.2.2 x.2.2.2.1 x.2.2.2.2.1 h
def qao.p0 (K:KT) (t0:OA) (t1:Int) (h:Heap):Prop :=
  ∃ p1,t0=some p1∧∃ a2 q r,hcell h (Addr.add (Addr.add p1 1) 4)=some (.slice a2 q r)∧((decide (((q:Nat):Int)<t1))=true→K (.bool false) h)∧((decide (((q:Nat):Int)<t1))=false→∃ p7,t0=some p7∧∃ a8 x p,hcell h (Addr.add (Addr.add p7 1) 4)=some (.slice a8 x p)∧inB t1 p∧∃ fuel27,qao.L2 K fuel27 t0 t1 (slA a8 0 p 1) (Int.toNat t1) p (((Int.toNat t1):Nat):Int) 0 h)
def qao.plan (K:KT):Plan:=(.seq .go (.seq .go (.cut qao.j1.l (qao.j1.j K) (.seq .go (.block (.loop qao.L2.l (qao.L2.j K) (fun n2=>(.seq .go (.seq .go (.cut qao.j3.l (qao.j3.j K (qao.L2 K n2)) (.block (.seq .go (.cut qao.j4.l (qao.j4.j K (qao.L2 K n2)) .go (.seq .go (.cond (.orders (.op 0 (.op 1 (.op 2 (.op 4 (.op 5 (.op 6 (.op 12 (.op 13 (.op 14 (.op 15 (.op 7 (.op 8 (.op 9 (.op 3 (.op 10 (.op 11 (.op 16 (.op 17 (.op 18 .nil)))))))))))))))))))) .go))))) .go))))))) .go)))
theorem qao.ev_eq:qao.p0=fun K t0 t1 h=>Ev P Tryz.f86 (qao.plan K) K [.pointer t0,.int .i64 t1] h:=by kernel_rfl
theorem qao.obl (K:KT):Obl P Tryz.f86 (qao.plan K) K :=
  obl_of (R:=(∀ x h,¬ (qao.L2.j K) 0 x h)∧ImpN (qao.L2.j K)∧(∀ (n2:Nat),Imp (qao.j4.j K (qao.L2 K n2))∧DrawOK P Tryz.f86.ntmps (opsAt 9 (bodyOf Tryz.f86)) (.op 0 (.op 1 (.op 2 (.op 4 (.op 5 (.op 6 (.op 12 (.op 13 (.op 14 (.op 15 (.op 7 (.op 8 (.op 9 (.op 3 (.op 10 (.op 11 (.op 16 (.op 17 (.op 18 .nil)))))))))))))))))))∧Imp (qao.j3.j K (qao.L2 K n2))∧True)∧Imp (qao.j1.j K)∧True) (by kernel_rfl) ⟨fun _ _ H=>H,impN _,fun _=>⟨imp _,⟨draw_ok (by kernel_rfl),⟨imp _,trivial⟩⟩⟩,⟨imp _,trivial⟩⟩
theorem qao.ok {K:KT}{t0:OA}{t1:Int}{h:Heap} (H:qao.p0 K t0 t1 h):CallsH P F.qao [.pointer t0,.int .i64 t1] K h :=
  calls_of_Ev (qao.plan K) Tryz.func86 (by kernel_rfl) (qao.obl K) (by rw [qao.ev_eq] at H; exact H)
def qcx.p0 (K:KT) (w_0:OA) (long_1:Bool) (h:Heap):Prop :=
  ∃ p1,w_0=some p1∧∃ a2 q bb,hcell h (Addr.add (Addr.add p1 1) 3)=some (.slice a2 q bb)∧((((q:Nat):Int)==0)=true→K (.bool false) h)∧((((q:Nat):Int)==0)=false→∃ p3,w_0=some p3∧∃ a4 z bc,hcell h (Addr.add (Addr.add p3 1) 3)=some (.slice a4 z bc)∧∃ p5,a4=some p5∧(0:Int)≤0∧0<((z:Nat):Int)∧∃ s6,hcell h (Addr.add p5 (Int.toNat 0 * 1))=some (.string (mkS s6))∧∃ p7,w_0=some p7∧∃ a8 r x,hcell h (Addr.add (Addr.add p7 1) 3)=some (.slice a8 r x)∧inB 1 r∧∃ p9,w_0=some p9∧∃ p,stC h (Addr.add (Addr.add p9 1) 3) 0 [.slice (slA a8 (Int.toNat 1) x 1) (r - Int.toNat 1) (x - Int.toNat 1)]=some p∧(long_1=true→∃ aa,w_0=some aa∧∃ ab ac ad,hcell p (Addr.add aa 0)=some (.slice ab ac ad)∧SemH P (Go.convert T.string T.sl_uint8 (.string (mkS s6))) (fun be bf=>∃ ae af ag,be=.slice ae af ag∧CallsH P F.qea [.slice ab ac ad,.slice ae af ag] (fun bg bh=>∃ ah ai aj,bg=.slice ah ai aj∧∃ ak,w_0=some ak∧∃ am,stC bh (Addr.add ak 0) 0 [.slice ah ai aj]=some am∧K (.bool true) am) bf) p)∧(long_1=false→∃ an,w_0=some an∧∃ ao aq ar,hcell p (Addr.add an 0)=some (.slice ao aq ar)∧CallsH P F.qdt [.slice ao aq ar,.string (mkS s6)] (fun bi bj=>∃ au aw ax ay,bi=.tuple #[.slice au aw ax,.bool ay]∧∃ az,w_0=some az∧∃ ba,stC bj (Addr.add az 0) 0 [.slice au aw ax]=some ba∧K (.bool ay) ba) p))
def qcx.plan (K:KT):Plan:=.go
theorem qcx.ev_eq:qcx.p0=fun K w_0 long_1 h=>Ev P Tryz.f112 (qcx.plan K) K [.pointer w_0,.bool long_1] h:=by kernel_rfl
theorem qcx.obl (K:KT):Obl P Tryz.f112 (qcx.plan K) K :=
  obl_true (by kernel_rfl)
theorem qcx.ok {K:KT}{w_0:OA}{long_1:Bool}{h:Heap} (H:qcx.p0 K w_0 long_1 h):CallsH P F.qcx [.pointer w_0,.bool long_1] K h :=
  calls_of_Ev (qcx.plan K) Tryz.func112 (by kernel_rfl) (qcx.obl K) (by rw [qcx.ev_eq] at H; exact H)
def qcp.p0 (K:KT) (w_0:OA) (h:Heap):Prop :=
  ∃ p1,w_0=some p1∧∃ a2 p q,hcell h (Addr.add (Addr.add p1 1) 5)=some (.slice a2 p q)∧CallsH P F.qdo [.slice none 0 0,.slice a2 p q] (fun v3 h4=>∃ a5 r x b6,v3=.tuple #[.slice a5 r x,.bool b6]∧∃ p7,w_0=some p7∧∃ a8 z aa,hcell h4 (Addr.add p7 0)=some (.slice a8 z aa)∧CallsH P F.qea [.slice a8 z aa,.slice a5 r x] (fun v9 ai=>∃ ab ac ad,v9=.slice ab ac ad∧∃ ae,w_0=some ae∧∃ af,stC ai (Addr.add ae 0) 0 [.slice ab ac ad]=some af∧∃ ag,w_0=some ag∧∃ ah,stC af (Addr.add (Addr.add ag 1) 5) 0 [.slice none 0 0]=some ah∧K (.bool b6) ah) h4) h
def qcp.plan (K:KT):Plan:=.go
theorem qcp.ev_eq:qcp.p0=fun K w_0 h=>Ev P Tryz.f113 (qcp.plan K) K [.pointer w_0] h:=by kernel_rfl
theorem qcp.obl (K:KT):Obl P Tryz.f113 (qcp.plan K) K :=
  obl_true (by kernel_rfl)
theorem qcp.ok {K:KT}{w_0:OA}{h:Heap} (H:qcp.p0 K w_0 h):CallsH P F.qcp [.pointer w_0] K h :=
  calls_of_Ev (qcp.plan K) Tryz.func113 (by kernel_rfl) (qcp.obl K) (by rw [qcp.ev_eq] at H; exact H)
def qcj.p0 (K:KT) (w_0:OA) (t1:Int) (h:Heap):Prop :=
  ∃ p1,w_0=some p1∧∃ a2 p aj,hcell h (Addr.add (Addr.add p1 1) 2)=some (.slice a2 p aj)∧((((p:Nat):Int)==0)=true→K (.bool false) h)∧((((p:Nat):Int)==0)=false→∃ p3,w_0=some p3∧∃ a4 aa ak,hcell h (Addr.add (Addr.add p3 1) 2)=some (.slice a4 aa ak)∧∃ p5,a4=some p5∧(0:Int)≤0∧0<((aa:Nat):Int)∧∃ n6,hcell h (Addr.add p5 (Int.toNat 0 * 1))=some (.int .u64 n6)∧∃ p7,w_0=some p7∧∃ a8 q r,hcell h (Addr.add (Addr.add p7 1) 2)=some (.slice a8 q r)∧inB 1 q∧∃ p9,w_0=some p9∧∃ x,stC h (Addr.add (Addr.add p9 1) 2) 0 [.slice (slA a8 (Int.toNat 1) r 1) (q - Int.toNat 1) (r - Int.toNat 1)]=some x∧∃ ab,w_0=some ab∧∃ ac ad ae,hcell x (Addr.add ab 0)=some (.slice ac ad ae)∧CallsH P F.qcs [.slice ac ad ae,.int .i64 t1,.int .u64 n6] (fun am an=>∃ af ag ah,am=.slice af ag ah∧∃ ai,w_0=some ai∧∃ z,stC an (Addr.add ai 0) 0 [.slice af ag ah]=some z∧((t1==8)=false→(0:Int)≤3∧(0:Int)≤(IntKind.u64.wrap (shlI .i64 t1 3))∧bd (((shrI .u64 n6 (IntKind.u64.wrap (shlI .i64 t1 3)))==0):Bool) fun ao=>K (.bool ao) z)∧((t1==8)=true→K (.bool true) z)) x)
def qcj.plan (K:KT):Plan:=.go
theorem qcj.ev_eq:qcj.p0=fun K w_0 t1 h=>Ev P Tryz.f114 (qcj.plan K) K [.pointer w_0,.int .i64 t1] h:=by kernel_rfl
theorem qcj.obl (K:KT):Obl P Tryz.f114 (qcj.plan K) K :=
  obl_true (by kernel_rfl)
theorem qcj.ok {K:KT}{w_0:OA}{t1:Int}{h:Heap} (H:qcj.p0 K w_0 t1 h):CallsH P F.qcj [.pointer w_0,.int .i64 t1] K h :=
  calls_of_Ev (qcj.plan K) Tryz.func114 (by kernel_rfl) (qcj.obl K) (by rw [qcj.ev_eq] at H; exact H)
def qby.j1 (K:KT) (w_0:OA) (c_1:Int) (t5:Int) (t6:Bool) (h:Heap):Prop :=
  (t6=true→CallsH P F.qcx [.pointer w_0,.bool (c_1==108)] (fun v1 h2=>∃ b3,v1=.bool b3∧K (.bool b3) h2) h)∧(t6=false→bd ((t5==116):Bool) fun b4=>(b4=true→CallsH P F.qcp [.pointer w_0] (fun v5 h6=>∃ b7,v5=.bool b7∧K (.bool b7) h6) h)∧(b4=false→CallsH P F.qcj [.pointer w_0,.int .i64 (IntKind.i64.wrap (IntKind.u8.wrap (c_1 - 48)))] (fun v8 h9=>∃ p,v8=.bool p∧K (.bool p) h9) h))
def qby.j1.l:Live:=[(0,.ptr),(1,.int .u8),(5,.int .u8),(6,.bool)]
def qby.j1.j (K:KT):Tup qby.j1.l→Heap→Prop:=fun x h=>qby.j1 K x.1 x.2.1 x.2.2.1 x.2.2.2.1 h
def qby.p0 (K:KT) (w_0:OA) (c_1:Int) (h:Heap):Prop :=
  bd ((c_1==115):Bool) fun p=>(p=true→qby.j1 K w_0 c_1 c_1 p h)∧(p=false→bd ((c_1==108):Bool) fun q=>qby.j1 K w_0 c_1 c_1 q h)
def qby.plan (K:KT):Plan:=(.seq .go (.seq (.seq .go (.block (.cut qby.j1.l (qby.j1.j K) .go .go))) .go))
theorem qby.ev_eq:qby.p0=fun K w_0 c_1 h=>Ev P Tryz.f87 (qby.plan K) K [.pointer w_0,.int .u8 c_1] h:=by kernel_rfl
theorem qby.obl (K:KT):Obl P Tryz.f87 (qby.plan K) K :=
  obl_of (R:=Imp (qby.j1.j K)∧True) (by kernel_rfl) ⟨imp _,trivial⟩
theorem qby.ok {K:KT}{w_0:OA}{c_1:Int}{h:Heap} (H:qby.p0 K w_0 c_1 h):CallsH P F.qby [.pointer w_0,.int .u8 c_1] K h :=
  calls_of_Ev (qby.plan K) Tryz.func87 (by kernel_rfl) (qby.obl K) (by rw [qby.ev_eq] at H; exact H)
def qaq.j3 (K:KT) (t0:OA) (p:Nat) (q:Nat) (t8:OA) (x:Bool) (h:Heap):Prop :=
  (x=true→CallsH P F.qcb [.slice t0 p q] (fun ba bb=>∃ z aa ab,ba=.slice z aa ab∧K (.tuple #[.slice z aa ab,.bool false]) bb) h)∧(x=false→∃ r,t8=some r∧(CallsH P F.qcb [.slice t0 p q] (fun bc ac=>∃ ad ae af,bc=.slice ad ae af∧∃ ag ah ai,hcell ac (Addr.add r 0)=some (.slice ag ah ai)∧SemH P (Builtin.append_ #[T.sl_uint8,T.sl_uint8] T.sl_uint8 #[.slice ad ae af,.slice ag ah ai]) (fun be bf=>∃ aj ak am,be=.slice aj ak am∧K (.tuple #[.slice aj ak am,.bool true]) bf) ac) h)∧(∃ an ao aq,hcell h (Addr.add r 0)=some (.slice an ao aq)∧CallsH P F.qcb [.slice t0 p q] (fun bg bh=>∃ ar au aw,bg=.slice ar au aw∧SemH P (Builtin.append_ #[T.sl_uint8,T.sl_uint8] T.sl_uint8 #[.slice ar au aw,.slice an ao aq]) (fun bi bj=>∃ ax ay az,bi=.slice ax ay az∧K (.tuple #[.slice ax ay az,.bool true]) bj) bh) h))
def qaq.j3.l:Live:=[(0,.slice),(8,.ptr),(86,.bool)]
def qaq.j3.j (K:KT):Tup qaq.j3.l→Heap→Prop:=fun x h=>qaq.j3 K x.1.1 x.1.2.1 x.1.2.2 x.2.1 x.2.2.1 h
def qaq.j2 (K:KT) (t0:OA) (p:Nat) (q:Nat) (t7:Bool) (t8:OA) (h:Heap):Prop :=
  ((!t7)=false→∃ r,t8=some r∧∃ x,t8=some x∧∃ z,t8=some z∧∃ aa,t8=some aa∧∃ af ab ag,hcell h (Addr.add (Addr.add r 1) 2)=some (.slice af ab ag)∧∃ ah ac ai,hcell h (Addr.add (Addr.add x 1) 3)=some (.slice ah ac ai)∧∃ aj ad ak,hcell h (Addr.add (Addr.add z 1) 4)=some (.slice aj ad ak)∧∃ am ae an,hcell h (Addr.add (Addr.add aa 1) 5)=some (.slice am ae an)∧qaq.j3 K t0 p q t8 (decide ((IntKind.i64.wrap ((IntKind.i64.wrap ((IntKind.i64.wrap (((ab:Nat):Int)+((ac:Nat):Int)))+((ad:Nat):Int)))+((ae:Nat):Int))) > 0)) h)∧((!t7)=true→qaq.j3 K t0 p q t8 true h)
def qaq.j2.l:Live:=[(0,.slice),(7,.bool),(8,.ptr)]
def qaq.j2.j (K:KT):Tup qaq.j2.l→Heap→Prop:=fun x h=>qaq.j2 K x.1.1 x.1.2.1 x.1.2.2 x.2.1 x.2.2.1 h
def qaq.j6 (K:KT) (R4:OA→Nat→Nat→List UInt8→Bool→OA→Heap→Prop) (t0:OA) (p:Nat) (q:Nat) (t6:List UInt8) (t7:Bool) (t8:OA) (t9:Int) (h:Heap):Prop :=
  inB t9 (List.length t6)∧bd ((List.drop (Int.toNat t9) t6):List UInt8) fun r=>R4 t0 p q r t7 t8 h
def qaq.j6.l:Live:=[(0,.slice),(6,.str),(7,.bool),(8,.ptr),(9,.int .i64)]
def qaq.j6.j (K:KT) (R4:OA→Nat→Nat→List UInt8→Bool→OA→Heap→Prop):Tup qaq.j6.l→Heap→Prop:=fun x h=>qaq.j6 K R4 x.1.1 x.1.2.1 x.1.2.2 x.2.1 x.2.2.1 x.2.2.2.1 x.2.2.2.2.1 h
def qaq.j5 (K:KT) (R4:OA→Nat→Nat→List UInt8→Bool→OA→Heap→Prop) (t0:OA) (q:Nat) (r:Nat) (t6:List UInt8) (t7:Bool) (t8:OA) (x:Bool) (h:Heap):Prop :=
  (x=true→CallsH P F.qbs [.string (mkS t6)] (fun ac z=>∃ p,ac=.int .i64 p∧((decide (p > 0))=true→CallsH P F.qao [.pointer t8,.int .i64 p] (fun ad ae=>∃ aa,ad=.bool aa∧qaq.j6 K R4 t0 q r t6 aa t8 p ae) z)∧((decide (p > 0))=false→(0:Int)≤0∧0<((List.length t6:Nat):Int)∧CallsH P F.qby [.pointer t8,.int .u8 (lb t6 0)] (fun af ag=>∃ ab,af=.bool ab∧qaq.j6 K R4 t0 q r t6 ab t8 1 ag) z)) h)∧(x=false→qaq.j2 K t0 q r t7 t8 h)
def qaq.j5.l:Live:=[(0,.slice),(6,.str),(7,.bool),(8,.ptr),(40,.bool)]
def qaq.j5.j (K:KT) (R4:OA→Nat→Nat→List UInt8→Bool→OA→Heap→Prop):Tup qaq.j5.l→Heap→Prop:=fun x h=>qaq.j5 K R4 x.1.1 x.1.2.1 x.1.2.2 x.2.1 x.2.2.1 x.2.2.2.1 x.2.2.2.2.1 h
def qaq.L4 (K:KT):Nat→OA→Nat→Nat→List UInt8→Bool→OA→Heap→Prop
  | 0,_,_,_,_,_,_,_=>False
  | fuel+1,t0,p,q,t6,t7,t8,h=>((!(t6==([]:List UInt8)))=true→qaq.j5 K (qaq.L4 K fuel) t0 p q t6 t7 t8 t7 h)∧((!(t6==([]:List UInt8)))=false→qaq.j5 K (qaq.L4 K fuel) t0 p q t6 t7 t8 false h)
termination_by structural n=>n
def qaq.L4.l:Live:=[(0,.slice),(6,.str),(7,.bool),(8,.ptr)]
def qaq.L4.j (K:KT):Nat→Tup qaq.L4.l→Heap→Prop:=fun n x h=>qaq.L4 K n x.1.1 x.1.2.1 x.1.2.2 x.2.1 x.2.2.1 x.2.2.2.1 h
def qaq.j1 (K:KT) (t0:OA) (p:Nat) (q:Nat) (t6:List UInt8) (t7:Bool) (t8:OA) (h:Heap):Prop :=
  ∃ fuel50,qaq.L4 K fuel50 t0 p q t6 t7 t8 h
def qaq.j1.l:Live:=[(0,.slice),(6,.str),(7,.bool),(8,.ptr)]
def qaq.j1.j (K:KT):Tup qaq.j1.l→Heap→Prop:=fun x h=>qaq.j1 K x.1.1 x.1.2.1 x.1.2.2 x.2.1 x.2.2.1 x.2.2.2.1 h
def qaq.p0 (K:KT) (t0:OA) (q:Nat) (r:Nat) (t1:List Value) (h:Heap):Prop :=
  bd (al h (List.toArray t1) T.api_Method) fun h1=>∃ n2,hcell h1 (Addr.add (top h) 0)=some (.int .i64 n2)∧∃ n3,hcell h1 (Addr.add (top h) 1)=some (.int .i64 n3)∧CallsH P F.qeb [.int .i64 n2,.int .i64 n3] (fun v4 h5=>∃ s6 b7,v4=.tuple #[.string (mkS s6),.bool b7]∧((!b7)=true→CallsH P F.qcb [.slice t0 q r] (fun v8 h9=>∃ z aa ab,v8=.slice z aa ab∧K (.tuple #[.slice z aa ab,.bool false]) h9) h5)∧((!b7)=false→∃ ac,rdC h5 (top h) 0 6=some ac∧∃ ad,bld P T.meth_writer [(1,.agg (List.toArray ac))] ad∧bd (al h5 (List.toArray ad) T.meth_writer) fun p=>(∃ x,hcell p (Addr.add (top h) 0)=some (.int .i64 x)∧(CallsH P F.qcs [.slice none 0 0,.int .i64 2,.int .u64 (IntKind.u64.wrap x)] (fun bm ae=>∃ af ag ah,bm=.slice af ag ah∧∃ ai,hcell ae (Addr.add (top h) 1)=some (.int .i64 ai)∧CallsH P F.qcs [.slice af ag ah,.int .i64 2,.int .u64 (IntKind.u64.wrap ai)] (fun bn bo=>∃ aj ak am,bn=.slice aj ak am∧∃ an,(some (top h5))=some an∧∃ ao,stC bo (Addr.add an 0) 0 [.slice aj ak am]=some ao∧qaq.j1 K t0 q r s6 b7 (some (top h5)) ao) ae) p)∧(∃ n61,hcell p (Addr.add (top h) 1)=some (.int .i64 n61)∧CallsH P F.qcs [.slice none 0 0,.int .i64 2,.int .u64 (IntKind.u64.wrap x)] (fun bp bq=>∃ aq ar au,bp=.slice aq ar au∧CallsH P F.qcs [.slice aq ar au,.int .i64 2,.int .u64 (IntKind.u64.wrap n61)] (fun br bs=>∃ aw ax ay,br=.slice aw ax ay∧∃ az,(some (top h5))=some az∧∃ ba,stC bs (Addr.add az 0) 0 [.slice aw ax ay]=some ba∧qaq.j1 K t0 q r s6 b7 (some (top h5)) ba) bq) p))∧(∃ bb,hcell p (Addr.add (top h) 1)=some (.int .i64 bb)∧∃ bc,hcell p (Addr.add (top h) 0)=some (.int .i64 bc)∧CallsH P F.qcs [.slice none 0 0,.int .i64 2,.int .u64 (IntKind.u64.wrap bc)] (fun bt bu=>∃ be bf bg,bt=.slice be bf bg∧CallsH P F.qcs [.slice be bf bg,.int .i64 2,.int .u64 (IntKind.u64.wrap bb)] (fun bw bx=>∃ bh bi bj,bw=.slice bh bi bj∧∃ bk,(some (top h5))=some bk∧∃ bl,stC bx (Addr.add bk 0) 0 [.slice bh bi bj]=some bl∧qaq.j1 K t0 q r s6 b7 (some (top h5)) bl) bu) p))) h1
def qaq.plan (K:KT):Plan:=(.seq .go (.seq .go (.seq .go (.seq .go (.cut qaq.j1.l (qaq.j1.j K) (.orders (.op 0 (.op 1 (.op 5 (.both (.op 2 (.op 3 (.both (.op 4 (.op 6 (.op 7 (.op 8 (.op 9 (.op 10 (.op 11 .nil))))))) (.op 6 (.op 7 (.op 4 (.op 8 (.op 9 (.op 10 (.op 11 .nil)))))))))) (.op 6 (.op 7 (.op 2 (.op 3 (.op 4 (.op 8 (.op 9 (.op 10 (.op 11 .nil)))))))))))))) (.cut qaq.j2.l (qaq.j2.j K) (.block (.loop qaq.L4.l (qaq.L4.j K) (fun n4=>(.seq (.cut qaq.j5.l (qaq.j5.j K (qaq.L4 K n4)) .go .go) (.block (.seq .go (.cut qaq.j6.l (qaq.j6.j K (qaq.L4 K n4)) .go .go))))))) (.seq (.cut qaq.j3.l (qaq.j3.j K) (.orders (.op 0 (.op 1 (.op 2 (.op 3 (.op 4 (.op 5 (.op 6 (.op 9 (.op 10 (.op 11 (.op 12 (.op 16 (.op 17 (.op 18 (.op 19 (.op 23 (.op 24 (.op 25 (.op 26 (.op 7 (.op 8 (.op 13 (.op 14 (.op 15 (.op 20 (.op 21 (.op 22 (.op 27 (.op 28 (.op 29 (.op 30 (.op 31 .nil))))))))))))))))))))))))))))))))) .go) (.seq (.orders (.op 0 (.op 2 (.op 3 (.op 4 (.both (.op 1 (.op 5 (.op 6 (.op 7 (.op 8 .nil))))) (.op 5 (.op 1 (.op 6 (.op 7 (.op 8 .nil))))))))))) .go))))))))
theorem qaq.ev_eq:qaq.p0=fun K t0 p q t1 h=>Ev P Tryz.f63 (qaq.plan K) K [.slice t0 p q,.agg (List.toArray t1)] h:=by kernel_rfl
theorem qaq.obl (K:KT):Obl P Tryz.f63 (qaq.plan K) K :=
  obl_of (R:=DrawOK P Tryz.f63.ntmps (opsAt 5 (bodyOf Tryz.f63)) (.op 0 (.op 1 (.op 5 (.both (.op 2 (.op 3 (.both (.op 4 (.op 6 (.op 7 (.op 8 (.op 9 (.op 10 (.op 11 .nil))))))) (.op 6 (.op 7 (.op 4 (.op 8 (.op 9 (.op 10 (.op 11 .nil)))))))))) (.op 6 (.op 7 (.op 2 (.op 3 (.op 4 (.op 8 (.op 9 (.op 10 (.op 11 .nil)))))))))))))∧Imp (qaq.j1.j K)∧(∀ x h,¬ (qaq.L4.j K) 0 x h)∧ImpN (qaq.L4.j K)∧(∀ (n4:Nat),Imp (qaq.j5.j K (qaq.L4 K n4))∧Imp (qaq.j6.j K (qaq.L4 K n4))∧True)∧Imp (qaq.j2.j K)∧DrawOK P Tryz.f63.ntmps (opsAt 13 (bodyOf Tryz.f63)) (.op 0 (.op 1 (.op 2 (.op 3 (.op 4 (.op 5 (.op 6 (.op 9 (.op 10 (.op 11 (.op 12 (.op 16 (.op 17 (.op 18 (.op 19 (.op 23 (.op 24 (.op 25 (.op 26 (.op 7 (.op 8 (.op 13 (.op 14 (.op 15 (.op 20 (.op 21 (.op 22 (.op 27 (.op 28 (.op 29 (.op 30 (.op 31 .nil))))))))))))))))))))))))))))))))∧Imp (qaq.j3.j K)∧DrawOK P Tryz.f63.ntmps (opsAt 15 (bodyOf Tryz.f63)) (.op 0 (.op 2 (.op 3 (.op 4 (.both (.op 1 (.op 5 (.op 6 (.op 7 (.op 8 .nil))))) (.op 5 (.op 1 (.op 6 (.op 7 (.op 8 .nil))))))))))∧True) (by kernel_rfl) ⟨draw_ok (by kernel_rfl),⟨imp _,⟨fun _ _ H=>H,impN _,fun _=>⟨imp _,⟨imp _,trivial⟩⟩,⟨imp _,⟨draw_ok (by kernel_rfl),⟨imp _,⟨draw_ok (by kernel_rfl),trivial⟩⟩⟩⟩⟩⟩⟩
theorem qaq.ok {K:KT}{t0:OA}{p:Nat}{q:Nat}{t1:List Value}{h:Heap} (H:qaq.p0 K t0 p q t1 h):CallsH P F.qaq [.slice t0 p q,.agg (List.toArray t1)] K h :=
  calls_of_Ev (qaq.plan K) Tryz.func63 (by kernel_rfl) (qaq.obl K) (by rw [qaq.ev_eq] at H; exact H)
def qbj.j2 (K:KT) (R1:OA→OA→Nat→Nat→Int→Int→Int→Heap→Prop) (r_0:OA) (out_5:OA) (out_5l:Nat) (out_5c:Nat) (c_6:Int) (i_7:Int) (t8:Int) (t9:Int) (h:Heap):Prop :=
  (8:Int)≠0∧(0:Int)≤(IntKind.u64.wrap (Int.tmod i_7 8))∧bd (al h #[.bool ((bitsI .and .u64 (shrI .u64 c_6 (IntKind.u64.wrap (Int.tmod i_7 8))) 1)==1)] T.bool) fun h1=>SemH P (Builtin.append_ #[T.sl_bool,T.sl_bool] T.sl_bool #[.slice out_5 out_5l out_5c,.slice (some (top h)) 1 1]) (fun v2 h3=>∃ a4 p q,v2=.slice a4 p q∧R1 r_0 a4 p q c_6 t8 (IntKind.i64.wrap (t9+1)) h3) h1
def qbj.j2.l:Live:=[(0,.ptr),(5,.slice),(6,.int .u64),(7,.int .i64),(8,.int .i64),(9,.int .i64)]
def qbj.j2.j (K:KT) (R1:OA→OA→Nat→Nat→Int→Int→Int→Heap→Prop):Tup qbj.j2.l→Heap→Prop:=fun x h=>qbj.j2 K R1 x.1 x.2.1.1 x.2.1.2.1 x.2.1.2.2 x.2.2.1 x.2.2.2.1 x.2.2.2.2.1 x.2.2.2.2.2.1 h
def qbj.L1 (K:KT):Nat→OA→OA→Nat→Nat→Int→Int→Int→Heap→Prop
  | 0,_,_,_,_,_,_,_,_=>False
  | fuel+1,r_0,out_5,out_5l,out_5c,c_6,t8,t9,h=>((decide (t9<t8))=true→(8:Int)≠0∧(((Int.tmod t9 8)==0)=true→CallsH P F.qdr [.pointer r_0,.int .i64 1] (fun v5 h6=>∃ n7,v5=.int .u64 n7∧qbj.j2 K (qbj.L1 K fuel) r_0 out_5 out_5l out_5c n7 t9 t8 t9 h6) h)∧(((Int.tmod t9 8)==0)=false→qbj.j2 K (qbj.L1 K fuel) r_0 out_5 out_5l out_5c c_6 t9 t8 t9 h))∧((decide (t9<t8))=false→K (.slice out_5 out_5l out_5c) h)
termination_by structural n=>n
def qbj.L1.l:Live:=[(0,.ptr),(5,.slice),(6,.int .u64),(8,.int .i64),(9,.int .i64)]
def qbj.L1.j (K:KT):Nat→Tup qbj.L1.l→Heap→Prop:=fun n x h=>qbj.L1 K n x.1 x.2.1.1 x.2.1.2.1 x.2.1.2.2 x.2.2.1 x.2.2.2.1 x.2.2.2.2.1 h
def qbj.p0 (K:KT) (r_0:OA) (t1:Int) (h:Heap):Prop :=
  ∃ fuel8,qbj.L1 K fuel8 r_0 none 0 0 0 t1 0 h
def qbj.plan (K:KT):Plan:=(.seq .go (.seq .go (.seq .go (.seq (.seq .go (.block (.loop qbj.L1.l (qbj.L1.j K) (fun n1=>(.seq .go (.seq .go (.seq (.block (.seq .go (.cut qbj.j2.l (qbj.j2.j K (qbj.L1 K n1)) .go .go))) .go))))))) .go))))
theorem qbj.ev_eq:qbj.p0=fun K r_0 t1 h=>Ev P Tryz.f117 (qbj.plan K) K [.pointer r_0,.int .i64 t1] h:=by kernel_rfl
theorem qbj.obl (K:KT):Obl P Tryz.f117 (qbj.plan K) K :=
  obl_of (R:=(∀ x h,¬ (qbj.L1.j K) 0 x h)∧ImpN (qbj.L1.j K)∧(∀ (n1:Nat),Imp (qbj.j2.j K (qbj.L1 K n1))∧True)∧True) (by kernel_rfl) ⟨fun _ _ H=>H,impN _,fun _=>⟨imp _,trivial⟩,trivial⟩
theorem qbj.ok {K:KT}{r_0:OA}{t1:Int}{h:Heap} (H:qbj.p0 K r_0 t1 h):CallsH P F.qbj [.pointer r_0,.int .i64 t1] K h :=
  calls_of_Ev (qbj.plan K) Tryz.func117 (by kernel_rfl) (qbj.obl K) (by rw [qbj.ev_eq] at H; exact H)
def qeg.p0 (K:KT) (r_0:OA) (m_1:OA) (c_2:Int) (h:Heap):Prop :=
  bd ((c_2==115):Bool) fun b1=>(b1=true→∃ p2,m_1=some p2∧(∃ a3 ah ai,hcell h (Addr.add p2 3)=some (.slice a3 ah ai)∧CallsH P F.qdj [.pointer r_0] (fun v4 h5=>∃ s6,v4=.string (mkS s6)∧bd (al h5 #[.string (mkS s6)] T.string) fun h7=>SemH P (Builtin.append_ #[T.sl_string,T.sl_string] T.sl_string #[.slice a3 ah ai,.slice (some (top h5)) 1 1]) (fun v8 h9=>∃ aj ak am,v8=.slice aj ak am∧∃ an,m_1=some an∧∃ ao,stC h9 (Addr.add an 3) 0 [.slice aj ak am]=some ao∧K (.bool true) ao) h7) h)∧(CallsH P F.qdj [.pointer r_0] (fun ez p=>∃ aa,ez=.string (mkS aa)∧(∃ aq ar au,hcell p (Addr.add p2 3)=some (.slice aq ar au)∧bd (al p #[.string (mkS aa)] T.string) fun fa=>SemH P (Builtin.append_ #[T.sl_string,T.sl_string] T.sl_string #[.slice aq ar au,.slice (some (top p)) 1 1]) (fun fb fc=>∃ aw ax ay,fb=.slice aw ax ay∧∃ az,m_1=some az∧∃ ba,stC fc (Addr.add az 3) 0 [.slice aw ax ay]=some ba∧K (.bool true) ba) fa)∧(bd (al p #[.string (mkS aa)] T.string) fun bb=>∃ bc be bf,hcell bb (Addr.add p2 3)=some (.slice bc be bf)∧SemH P (Builtin.append_ #[T.sl_string,T.sl_string] T.sl_string #[.slice bc be bf,.slice (some (top p)) 1 1]) (fun fd fe=>∃ bg bh bi,fd=.slice bg bh bi∧∃ bj,m_1=some bj∧∃ bk,stC fe (Addr.add bj 3) 0 [.slice bg bh bi]=some bk∧K (.bool true) bk) bb)) h))∧(b1=false→bd ((c_2==108):Bool) fun bl=>(bl=true→∃ q,m_1=some q∧(∃ bm bn bo,hcell h (Addr.add q 3)=some (.slice bm bn bo)∧CallsH P F.qdm [.pointer r_0] (fun ff fg=>∃ bp bq br,ff=.slice bp bq br∧SemH P (Go.convert T.sl_uint8 T.string (.slice bp bq br)) (fun fh bs=>∃ bt,fh=.string (mkS bt)∧bd (al bs #[.string (mkS bt)] T.string) fun fi=>SemH P (Builtin.append_ #[T.sl_string,T.sl_string] T.sl_string #[.slice bm bn bo,.slice (some (top bs)) 1 1]) (fun fj fk=>∃ bu bw bx,fj=.slice bu bw bx∧∃ bz,m_1=some bz∧∃ ca,stC fk (Addr.add bz 3) 0 [.slice bu bw bx]=some ca∧K (.bool true) ca) fi) fg) h)∧(CallsH P F.qdm [.pointer r_0] (fun fl ab=>∃ ac ad ae,fl=.slice ac ad ae∧(∃ cb cd ce,hcell ab (Addr.add q 3)=some (.slice cb cd ce)∧SemH P (Go.convert T.sl_uint8 T.string (.slice ac ad ae)) (fun fm cf=>∃ cg,fm=.string (mkS cg)∧bd (al cf #[.string (mkS cg)] T.string) fun fn=>SemH P (Builtin.append_ #[T.sl_string,T.sl_string] T.sl_string #[.slice cb cd ce,.slice (some (top cf)) 1 1]) (fun fo fp=>∃ ci cj ck,fo=.slice ci cj ck∧∃ cm,m_1=some cm∧∃ co,stC fp (Addr.add cm 3) 0 [.slice ci cj ck]=some co∧K (.bool true) co) fn) ab)∧(SemH P (Go.convert T.sl_uint8 T.string (.slice ac ad ae)) (fun fq r=>∃ af,fq=.string (mkS af)∧(∃ cp cq cr,hcell r (Addr.add q 3)=some (.slice cp cq cr)∧bd (al r #[.string (mkS af)] T.string) fun fr=>SemH P (Builtin.append_ #[T.sl_string,T.sl_string] T.sl_string #[.slice cp cq cr,.slice (some (top r)) 1 1]) (fun fs ft=>∃ cv cw cx,fs=.slice cv cw cx∧∃ cy,m_1=some cy∧∃ cz,stC ft (Addr.add cy 3) 0 [.slice cv cw cx]=some cz∧K (.bool true) cz) fr)∧(bd (al r #[.string (mkS af)] T.string) fun da=>∃ db dc dd,hcell da (Addr.add q 3)=some (.slice db dc dd)∧SemH P (Builtin.append_ #[T.sl_string,T.sl_string] T.sl_string #[.slice db dc dd,.slice (some (top r)) 1 1]) (fun fu fv=>∃ de df dg,fu=.slice de df dg∧∃ dh,m_1=some dh∧∃ di,stC fv (Addr.add dh 3) 0 [.slice de df dg]=some di∧K (.bool true) di) da)) ab)) h))∧(bl=false→bd ((c_2==116):Bool) fun dj=>(dj=true→CallsH P F.qdm [.pointer r_0] (fun fw fx=>∃ dk dl dm,fw=.slice dk dl dm∧CallsH P F.qdv [.slice dk dl dm] (fun fy ga=>∃ dn dp dq dr,fy=.tuple #[.slice dn dp dq,.bool dr]∧∃ ds,m_1=some ds∧∃ dt,stC ga (Addr.add ds 5) 0 [.slice dn dp dq]=some dt∧K (.bool dr) dt) fx) h)∧(dj=false→∃ z,m_1=some z∧(∃ du dv dw,hcell h (Addr.add z 2)=some (.slice du dv dw)∧CallsH P F.qdr [.pointer r_0,.int .i64 (IntKind.i64.wrap (IntKind.u8.wrap (c_2 - 48)))] (fun gb dx=>∃ dy,gb=.int .u64 dy∧bd (al dx #[.int .u64 dy] T.uint64) fun gc=>SemH P (Builtin.append_ #[T.sl_uint64,T.sl_uint64] T.sl_uint64 #[.slice du dv dw,.slice (some (top dx)) 1 1]) (fun gd ge=>∃ dz ea eb,gd=.slice dz ea eb∧∃ ec,m_1=some ec∧∃ ed,stC ge (Addr.add ec 2) 0 [.slice dz ea eb]=some ed∧K (.bool true) ed) gc) h)∧(CallsH P F.qdr [.pointer r_0,.int .i64 (IntKind.i64.wrap (IntKind.u8.wrap (c_2 - 48)))] (fun gf x=>∃ ag,gf=.int .u64 ag∧(∃ ee ef eg,hcell x (Addr.add z 2)=some (.slice ee ef eg)∧bd (al x #[.int .u64 ag] T.uint64) fun gg=>SemH P (Builtin.append_ #[T.sl_uint64,T.sl_uint64] T.sl_uint64 #[.slice ee ef eg,.slice (some (top x)) 1 1]) (fun gh gi=>∃ eh ei ej,gh=.slice eh ei ej∧∃ ek,m_1=some ek∧∃ el,stC gi (Addr.add ek 2) 0 [.slice eh ei ej]=some el∧K (.bool true) el) gg)∧(bd (al x #[.int .u64 ag] T.uint64) fun em=>∃ en eo ep,hcell em (Addr.add z 2)=some (.slice en eo ep)∧SemH P (Builtin.append_ #[T.sl_uint64,T.sl_uint64] T.sl_uint64 #[.slice en eo ep,.slice (some (top x)) 1 1]) (fun gj gk=>∃ es et eu,gj=.slice es et eu∧∃ ew,m_1=some ew∧∃ ey,stC gk (Addr.add ew 2) 0 [.slice es et eu]=some ey∧K (.bool true) ey) em)) h))))
def qeg.plan (K:KT):Plan:=(.seq .go (.seq (.seq .go (.block (.seq .go (.cond (.orders (.op 0 (.op 1 (.op 2 (.op 3 (.op 5 (.both (.op 4 (.op 6 (.op 7 (.op 8 (.op 9 (.op 10 (.op 11 .nil))))))) (.op 6 (.both (.op 4 (.op 7 (.op 8 (.op 9 (.op 10 (.op 11 .nil)))))) (.op 7 (.op 4 (.op 8 (.op 9 (.op 10 (.op 11 .nil))))))))))))))) (.seq .go (.cond (.orders (.op 0 (.op 1 (.op 2 (.op 3 (.op 5 (.both (.op 4 (.op 6 (.op 7 (.op 8 (.op 9 (.op 10 (.op 11 (.op 12 .nil)))))))) (.op 6 (.both (.op 4 (.op 7 (.op 8 (.op 9 (.op 10 (.op 11 (.op 12 .nil))))))) (.op 7 (.both (.op 4 (.op 8 (.op 9 (.op 10 (.op 11 (.op 12 .nil)))))) (.op 8 (.op 4 (.op 9 (.op 10 (.op 11 (.op 12 .nil))))))))))))))))) (.seq .go (.cond .go (.orders (.op 0 (.op 1 (.op 2 (.op 3 (.op 5 (.op 6 (.op 7 (.op 8 (.both (.op 4 (.op 9 (.op 10 (.op 11 (.op 12 (.op 13 (.op 14 .nil))))))) (.op 9 (.both (.op 4 (.op 10 (.op 11 (.op 12 (.op 13 (.op 14 .nil)))))) (.op 10 (.op 4 (.op 11 (.op 12 (.op 13 (.op 14 .nil)))))))))))))))))))))))))) .go))
theorem qeg.ev_eq:qeg.p0=fun K r_0 m_1 c_2 h=>Ev P Tryz.f118 (qeg.plan K) K [.pointer r_0,.pointer m_1,.int .u8 c_2] h:=by kernel_rfl
theorem qeg.obl (K:KT):Obl P Tryz.f118 (qeg.plan K) K :=
  obl_of (R:=DrawOK P Tryz.f118.ntmps (opsAt 4 (bodyOf Tryz.f118)) (.op 0 (.op 1 (.op 2 (.op 3 (.op 5 (.both (.op 4 (.op 6 (.op 7 (.op 8 (.op 9 (.op 10 (.op 11 .nil))))))) (.op 6 (.both (.op 4 (.op 7 (.op 8 (.op 9 (.op 10 (.op 11 .nil)))))) (.op 7 (.op 4 (.op 8 (.op 9 (.op 10 (.op 11 .nil))))))))))))))∧DrawOK P Tryz.f118.ntmps (opsAt 6 (bodyOf Tryz.f118)) (.op 0 (.op 1 (.op 2 (.op 3 (.op 5 (.both (.op 4 (.op 6 (.op 7 (.op 8 (.op 9 (.op 10 (.op 11 (.op 12 .nil)))))))) (.op 6 (.both (.op 4 (.op 7 (.op 8 (.op 9 (.op 10 (.op 11 (.op 12 .nil))))))) (.op 7 (.both (.op 4 (.op 8 (.op 9 (.op 10 (.op 11 (.op 12 .nil)))))) (.op 8 (.op 4 (.op 9 (.op 10 (.op 11 (.op 12 .nil))))))))))))))))∧DrawOK P Tryz.f118.ntmps (opsAt 2 (bodyOf Tryz.f118)) (.op 0 (.op 1 (.op 2 (.op 3 (.op 5 (.op 6 (.op 7 (.op 8 (.both (.op 4 (.op 9 (.op 10 (.op 11 (.op 12 (.op 13 (.op 14 .nil))))))) (.op 9 (.both (.op 4 (.op 10 (.op 11 (.op 12 (.op 13 (.op 14 .nil)))))) (.op 10 (.op 4 (.op 11 (.op 12 (.op 13 (.op 14 .nil)))))))))))))))))∧True) (by kernel_rfl) ⟨draw_ok (by kernel_rfl),⟨draw_ok (by kernel_rfl),⟨draw_ok (by kernel_rfl),trivial⟩⟩⟩
theorem qeg.ok {K:KT}{r_0:OA}{m_1:OA}{c_2:Int}{h:Heap} (H:qeg.p0 K r_0 m_1 c_2 h):CallsH P F.qeg [.pointer r_0,.pointer m_1,.int .u8 c_2] K h :=
  calls_of_Ev (qeg.plan K) Tryz.func118 (by kernel_rfl) (qeg.obl K) (by rw [qeg.ev_eq] at H; exact H)
def qax.j2 (K:KT) (t2:Addr) (t5:Addr) (x:Bool) (h:Heap):Prop :=
  (x=true→([.int .i64 0,.int .i64 0,.slice none 0 0,.slice none 0 0,.slice none 0 0,.slice none 0 0]:List Value).length=6∧∃ p,stC h t2 0 [.int .i64 0,.int .i64 0,.slice none 0 0,.slice none 0 0,.slice none 0 0,.slice none 0 0]=some p∧∃ z,rdC p t2 0 6=some z∧K (.tuple #[.agg (List.toArray z),.int .i64 4]) p)∧(x=false→∃ q,rdC h t5 0 6=some q∧q.length=6∧∃ r,stC h t2 0 q=some r∧∃ aa,rdC r t2 0 6=some aa∧K (.tuple #[.agg (List.toArray aa),.int .i64 0]) r)
def qax.j2.l:Live:=[(2,.addr),(5,.addr),(67,.bool)]
def qax.j2.j (K:KT):Tup qax.j2.l→Heap→Prop:=fun x h=>qax.j2 K x.1 x.2.1 x.2.2.1 h
def qax.j1 (K:KT) (t2:Addr) (t4:OA) (t5:Addr) (t7:Bool) (h:Heap):Prop :=
  ((!t7)=false→CallsH P F.qdu [.pointer t4] (fun x q=>∃ p,x=.bool p∧((!p)=false→CallsH P F.qdl [.pointer t4] (fun z aa=>∃ r,z=.int .i64 r∧qax.j2 K t2 t5 (decide (r > 0)) aa) q)∧((!p)=true→qax.j2 K t2 t5 true q)) h)∧((!t7)=true→qax.j2 K t2 t5 true h)
def qax.j1.l:Live:=[(2,.addr),(4,.ptr),(5,.addr),(7,.bool)]
def qax.j1.j (K:KT):Tup qax.j1.l→Heap→Prop:=fun x h=>qax.j1 K x.1 x.2.1 x.2.2.1 x.2.2.2.1 h
def qax.j4 (K:KT) (R3:Addr→OA→Addr→List UInt8→Bool→Heap→Prop) (t2:Addr) (t4:OA) (t5:Addr) (t6:List UInt8) (t7:Bool) (t8:Int) (h:Heap):Prop :=
  inB t8 (List.length t6)∧bd ((List.drop (Int.toNat t8) t6):List UInt8) fun p=>R3 t2 t4 t5 p t7 h
def qax.j4.l:Live:=[(2,.addr),(4,.ptr),(5,.addr),(6,.str),(7,.bool),(8,.int .i64)]
def qax.j4.j (K:KT) (R3:Addr→OA→Addr→List UInt8→Bool→Heap→Prop):Tup qax.j4.l→Heap→Prop:=fun x h=>qax.j4 K R3 x.1 x.2.1 x.2.2.1 x.2.2.2.1 x.2.2.2.2.1 x.2.2.2.2.2.1 h
def qax.L3 (K:KT):Nat→Addr→OA→Addr→List UInt8→Bool→Heap→Prop
  | 0,_,_,_,_,_,_=>False
  | fuel+1,t2,t4,t5,t6,t7,h=>((!(t6==([]:List UInt8)))=true→CallsH P F.qbs [.string (mkS t6)] (fun az q=>∃ p,az=.int .i64 p∧((decide (p > 0))=true→(∃ x z aa,hcell q (Addr.add t5 4)=some (.slice x z aa)∧CallsH P F.qbj [.pointer t4,.int .i64 p] (fun ba bb=>∃ ab ac ad,ba=.slice ab ac ad∧SemH P (Builtin.append_ #[T.sl_bool,T.sl_bool] T.sl_bool #[.slice x z aa,.slice ab ac ad]) (fun bc be=>∃ ae af ag,bc=.slice ae af ag∧∃ ah,stC be (Addr.add t5 4) 0 [.slice ae af ag]=some ah∧qax.j4 K (qax.L3 K fuel) t2 t4 t5 t6 t7 p ah) bb) q)∧(CallsH P F.qbj [.pointer t4,.int .i64 p] (fun bf ai=>∃ aj ak am,bf=.slice aj ak am∧∃ an ao aq,hcell ai (Addr.add t5 4)=some (.slice an ao aq)∧SemH P (Builtin.append_ #[T.sl_bool,T.sl_bool] T.sl_bool #[.slice an ao aq,.slice aj ak am]) (fun bg bh=>∃ ar au aw,bg=.slice ar au aw∧∃ ax,stC bh (Addr.add t5 4) 0 [.slice ar au aw]=some ax∧qax.j4 K (qax.L3 K fuel) t2 t4 t5 t6 t7 p ax) ai) q))∧((decide (p > 0))=false→(0:Int)≤0∧0<((List.length t6:Nat):Int)∧CallsH P F.qeg [.pointer t4,.pointer (some t5),.int .u8 (lb t6 0)] (fun bi ay=>∃ r,bi=.bool r∧(r=true→qax.j4 K (qax.L3 K fuel) t2 t4 t5 t6 t7 1 ay)∧(r=false→qax.j4 K (qax.L3 K fuel) t2 t4 t5 t6 false 1 ay)) q)) h)∧((!(t6==([]:List UInt8)))=false→qax.j1 K t2 t4 t5 t7 h)
termination_by structural n=>n
def qax.L3.l:Live:=[(2,.addr),(4,.ptr),(5,.addr),(6,.str),(7,.bool)]
def qax.L3.j (K:KT):Nat→Tup qax.L3.l→Heap→Prop:=fun n x h=>qax.L3 K n x.1 x.2.1 x.2.2.1 x.2.2.2.1 x.2.2.2.2.1 h
def qax.p0 (K:KT) (t0:OA) (ah:Nat) (ai:Nat) (h:Heap):Prop :=
  bd (al h #[.int .i64 0,.int .i64 0,.slice none 0 0,.slice none 0 0,.slice none 0 0,.slice none 0 0] T.api_Method) fun h1=>CallsH P F.qee [.slice t0 ah ai] (fun v2 h3=>∃ p4,v2=.pointer p4∧CallsH P F.qdr [.pointer p4,.int .i64 2] (fun v5 h6=>∃ n7,v5=.int .u64 n7∧CallsH P F.qdr [.pointer p4,.int .i64 2] (fun v8 h9=>∃ r,v8=.int .u64 r∧bd (al h9 #[.int .i64 0,.int .i64 0,.slice none 0 0,.slice none 0 0,.slice none 0 0,.slice none 0 0] T.api_Method) fun aj=>([.int .i64 (IntKind.i64.wrap n7),.int .i64 (IntKind.i64.wrap r),.slice none 0 0,.slice none 0 0,.slice none 0 0,.slice none 0 0]:List Value).length=6∧∃ ab,stC aj (top h9) 0 [.int .i64 (IntKind.i64.wrap n7),.int .i64 (IntKind.i64.wrap r),.slice none 0 0,.slice none 0 0,.slice none 0 0,.slice none 0 0]=some ab∧CallsH P F.qdu [.pointer p4] (fun ak p=>∃ x,ak=.bool x∧((!x)=true→([.int .i64 0,.int .i64 0,.slice none 0 0,.slice none 0 0,.slice none 0 0,.slice none 0 0]:List Value).length=6∧∃ z,stC p (top h) 0 [.int .i64 0,.int .i64 0,.slice none 0 0,.slice none 0 0,.slice none 0 0,.slice none 0 0]=some z∧∃ ac,rdC z (top h) 0 6=some ac∧K (.tuple #[.agg (List.toArray ac),.int .i64 4]) z)∧((!x)=false→∃ ad,hcell p (Addr.add (top h9) 0)=some (.int .i64 ad)∧∃ ae,hcell p (Addr.add (top h9) 1)=some (.int .i64 ae)∧CallsH P F.qeb [.int .i64 ad,.int .i64 ae] (fun am af=>∃ s22 q,am=.tuple #[.string (mkS s22),.bool q]∧((!q)=true→([.int .i64 0,.int .i64 0,.slice none 0 0,.slice none 0 0,.slice none 0 0,.slice none 0 0]:List Value).length=6∧∃ aa,stC af (top h) 0 [.int .i64 0,.int .i64 0,.slice none 0 0,.slice none 0 0,.slice none 0 0,.slice none 0 0]=some aa∧∃ ag,rdC aa (top h) 0 6=some ag∧K (.tuple #[.agg (List.toArray ag),.int .i64 5]) aa)∧((!q)=false→∃ fuel60,qax.L3 K fuel60 (top h) p4 (top h9) s22 q af)) p)) ab) h6) h3) h1
def qax.plan (K:KT):Plan:=(.seq .go (.seq .go (.seq .go (.seq .go (.seq .go (.seq .go (.cut qax.j1.l (qax.j1.j K) (.block (.loop qax.L3.l (qax.L3.j K) (fun n3=>(.seq .go (.block (.seq .go (.cut qax.j4.l (qax.j4.j K (qax.L3 K n3)) (.seq .go (.cond (.orders (.op 0 (.op 2 (.op 3 (.both (.op 1 (.op 4 (.op 5 (.op 6 (.op 7 .nil))))) (.op 4 (.op 1 (.op 5 (.op 6 (.op 7 .nil)))))))))) .go)) .go))))))) (.seq (.cut qax.j2.l (qax.j2.j K) .go .go) .go))))))))
theorem qax.ev_eq:qax.p0=fun K t0 p q h=>Ev P Tryz.f92 (qax.plan K) K [.slice t0 p q] h:=by kernel_rfl
theorem qax.obl (K:KT):Obl P Tryz.f92 (qax.plan K) K :=
  obl_of (R:=(∀ x h,¬ (qax.L3.j K) 0 x h)∧ImpN (qax.L3.j K)∧(∀ (n3:Nat),DrawOK P Tryz.f92.ntmps (opsAt 11 (bodyOf Tryz.f92)) (.op 0 (.op 2 (.op 3 (.both (.op 1 (.op 4 (.op 5 (.op 6 (.op 7 .nil))))) (.op 4 (.op 1 (.op 5 (.op 6 (.op 7 .nil)))))))))∧Imp (qax.j4.j K (qax.L3 K n3))∧True)∧Imp (qax.j1.j K)∧Imp (qax.j2.j K)∧True) (by kernel_rfl) ⟨fun _ _ H=>H,impN _,fun _=>⟨draw_ok (by kernel_rfl),⟨imp _,trivial⟩⟩,⟨imp _,⟨imp _,trivial⟩⟩⟩
theorem qax.ok {K:KT}{t0:OA}{p:Nat}{q:Nat}{h:Heap} (H:qax.p0 K t0 p q h):CallsH P F.qax [.slice t0 p q] K h :=
  calls_of_Ev (qax.plan K) Tryz.func92 (by kernel_rfl) (qax.obl K) (by rw [qax.ev_eq] at H; exact H)
end Go.Proofs.YtjapglfpjhljpaaGreat.Pr
end
section
set_option linter.unusedVariables false
set_option maxRecDepth 100000
namespace Go.Proofs.YtjapglfpjhljpaaGreat.Pr
open Go Go.Lift Go.Proofs
def qbx.j2 (K:KT) (t1:Int) (t2:Addr) (t6:Bool) (t7:Bool) (h:Heap):Prop :=
  ∃ n2,hcell h (Addr.add t2 1)=some (.int .u8 n2)∧bd ((n2==116):Bool) fun b3=>(b3=true→(t7=true→(∃ n4,hcell h (Addr.add t2 2)=some (.int .i64 n4)∧(bd (al h #[.int .u8 (IntKind.u8.wrap n4)] T.uint8) fun h5=>∃ n6,hcell h5 (Addr.add t2 2)=some (.int .i64 n6)∧((n6==0)=false→bd ((some (top h)):OA) fun a7=>bd (1:Nat) fun dq=>bd (1:Nat) fun dr=>∃ n8,hcell h5 (Addr.add t2 2)=some (.int .i64 n8)∧bd ((n8==1):Bool) fun b9=>K (.tuple #[.slice a7 dq dr,.bool b9]) h5)∧((n6==0)=true→bd ((some (top h)):OA) fun ds=>bd (1:Nat) fun dt=>bd (1:Nat) fun du=>K (.tuple #[.slice ds dt du,.bool true]) h5))∧(∃ az,hcell h (Addr.add t2 2)=some (.int .i64 az)∧((az==0)=false→(bd (al h #[.int .u8 (IntKind.u8.wrap n4)] T.uint8) fun bw=>bd ((some (top h)):OA) fun dv=>bd (1:Nat) fun dw=>bd (1:Nat) fun dx=>∃ bx,hcell bw (Addr.add t2 2)=some (.int .i64 bx)∧bd ((bx==1):Bool) fun dy=>K (.tuple #[.slice dv dw dx,.bool dy]) bw)∧(∃ bz,hcell h (Addr.add t2 2)=some (.int .i64 bz)∧bd (al h #[.int .u8 (IntKind.u8.wrap n4)] T.uint8) fun dz=>bd ((some (top h)):OA) fun ea=>bd (1:Nat) fun eb=>bd (1:Nat) fun ec=>bd ((bz==1):Bool) fun ed=>K (.tuple #[.slice ea eb ec,.bool ed]) dz))∧((az==0)=true→(bd (al h #[.int .u8 (IntKind.u8.wrap n4)] T.uint8) fun ee=>bd ((some (top h)):OA) fun ef=>bd (1:Nat) fun eg=>bd (1:Nat) fun eh=>K (.tuple #[.slice ef eg eh,.bool true]) ee)∧(bd (al h #[.int .u8 (IntKind.u8.wrap n4)] T.uint8) fun ei=>bd ((some (top h)):OA) fun ej=>bd (1:Nat) fun ek=>bd (1:Nat) fun el=>K (.tuple #[.slice ej ek el,.bool true]) ei))))∧(∃ ba,hcell h (Addr.add t2 2)=some (.int .i64 ba)∧((ba==0)=false→(∃ bb,hcell h (Addr.add t2 2)=some (.int .i64 bb)∧(bd (al h #[.int .u8 (IntKind.u8.wrap bb)] T.uint8) fun ca=>bd ((some (top h)):OA) fun em=>bd (1:Nat) fun en=>bd (1:Nat) fun eo=>∃ cb,hcell ca (Addr.add t2 2)=some (.int .i64 cb)∧bd ((cb==1):Bool) fun ep=>K (.tuple #[.slice em en eo,.bool ep]) ca)∧(∃ cd,hcell h (Addr.add t2 2)=some (.int .i64 cd)∧bd (al h #[.int .u8 (IntKind.u8.wrap bb)] T.uint8) fun es=>bd ((some (top h)):OA) fun et=>bd (1:Nat) fun eu=>bd (1:Nat) fun ew=>bd ((cd==1):Bool) fun ey=>K (.tuple #[.slice et eu ew,.bool ey]) es))∧(∃ ce,hcell h (Addr.add t2 2)=some (.int .i64 ce)∧∃ cf,hcell h (Addr.add t2 2)=some (.int .i64 cf)∧bd (al h #[.int .u8 (IntKind.u8.wrap cf)] T.uint8) fun ez=>bd ((some (top h)):OA) fun fa=>bd (1:Nat) fun fb=>bd (1:Nat) fun fc=>bd ((ce==1):Bool) fun fd=>K (.tuple #[.slice fa fb fc,.bool fd]) ez))∧((ba==0)=true→(∃ bc,hcell h (Addr.add t2 2)=some (.int .i64 bc)∧(bd (al h #[.int .u8 (IntKind.u8.wrap bc)] T.uint8) fun fe=>bd ((some (top h)):OA) fun ff=>bd (1:Nat) fun fg=>bd (1:Nat) fun fh=>K (.tuple #[.slice ff fg fh,.bool true]) fe)∧(bd (al h #[.int .u8 (IntKind.u8.wrap bc)] T.uint8) fun fi=>bd ((some (top h)):OA) fun fj=>bd (1:Nat) fun fk=>bd (1:Nat) fun fl=>K (.tuple #[.slice fj fk fl,.bool true]) fi))∧(∃ cg,hcell h (Addr.add t2 2)=some (.int .i64 cg)∧bd (al h #[.int .u8 (IntKind.u8.wrap cg)] T.uint8) fun fm=>bd ((some (top h)):OA) fun fn=>bd (1:Nat) fun fo=>bd (1:Nat) fun fp=>K (.tuple #[.slice fn fo fp,.bool true]) fm))))∧(t7=false→(∃ ab,hcell h (Addr.add t2 2)=some (.int .i64 ab)∧(bd (al h #[.int .u8 (IntKind.u8.wrap ab)] T.uint8) fun fq=>bd ((some (top h)):OA) fun fr=>bd (1:Nat) fun fs=>bd (1:Nat) fun ft=>K (.tuple #[.slice fr fs ft,.bool false]) fq)∧((bd (al h #[.int .u8 (IntKind.u8.wrap ab)] T.uint8) fun fu=>bd ((some (top h)):OA) fun fv=>bd (1:Nat) fun fw=>bd (1:Nat) fun fx=>K (.tuple #[.slice fv fw fx,.bool false]) fu)∧(bd (al h #[.int .u8 (IntKind.u8.wrap ab)] T.uint8) fun fy=>bd ((some (top h)):OA) fun ga=>bd (1:Nat) fun gb=>bd (1:Nat) fun gc=>K (.tuple #[.slice ga gb gc,.bool false]) fy)))∧((∃ be,hcell h (Addr.add t2 2)=some (.int .i64 be)∧(bd (al h #[.int .u8 (IntKind.u8.wrap be)] T.uint8) fun gd=>bd ((some (top h)):OA) fun ge=>bd (1:Nat) fun gf=>bd (1:Nat) fun gg=>K (.tuple #[.slice ge gf gg,.bool false]) gd)∧(bd (al h #[.int .u8 (IntKind.u8.wrap be)] T.uint8) fun gh=>bd ((some (top h)):OA) fun gi=>bd (1:Nat) fun gj=>bd (1:Nat) fun gk=>K (.tuple #[.slice gi gj gk,.bool false]) gh))∧(∃ n59,hcell h (Addr.add t2 2)=some (.int .i64 n59)∧bd (al h #[.int .u8 (IntKind.u8.wrap n59)] T.uint8) fun gl=>bd ((some (top h)):OA) fun gm=>bd (1:Nat) fun gn=>bd (1:Nat) fun gp=>K (.tuple #[.slice gm gn gp,.bool false]) gl))))∧(b3=false→bd ((n2==73):Bool) fun ci=>(ci=true→∃ cj,hcell h (Addr.add t2 2)=some (.int .i64 cj)∧CallsH P F.qcs [.slice none 0 0,.int .i64 4,.int .u64 (IntKind.u64.wrap cj)] (fun gq q=>∃ ac ad ae,gq=.slice ac ad ae∧(t7=true→∃ bf,hcell q (Addr.add t2 2)=some (.int .i64 bf)∧((decide (bf ≥ (-2147483648)))=true→∃ ck,hcell q (Addr.add t2 2)=some (.int .i64 ck)∧bd ((decide (ck≤2147483647)):Bool) fun gr=>K (.tuple #[.slice ac ad ae,.bool gr]) q)∧((decide (bf ≥ (-2147483648)))=false→K (.tuple #[.slice ac ad ae,.bool false]) q))∧(t7=false→K (.tuple #[.slice ac ad ae,.bool false]) q)) h)∧(ci=false→bd ((n2==108):Bool) fun cm=>(cm=true→∃ co,hcell h (Addr.add t2 2)=some (.int .i64 co)∧CallsH P F.qcs [.slice none 0 0,.int .i64 8,.int .u64 (IntKind.u64.wrap co)] (fun gs gt=>∃ cp cq cr,gs=.slice cp cq cr∧K (.tuple #[.slice cp cq cr,.bool t7]) gt) h)∧(cm=false→bd ((n2==83):Bool) fun cv=>(cv=true→(∃ bg,hcell h (Addr.add t2 3)=some (.string (mkS bg))∧(SemH P (Go.convert T.string T.sl_uint8 (.string (mkS bg))) (fun gu bh=>∃ bi bj bk,gu=.slice bi bj bk∧(CallsH P F.qea [.slice none 0 0,.slice bi bj bk] (fun gv p=>∃ af ag ah,gv=.slice af ag ah∧∃ bl,hcell p (Addr.add t2 2)=some (.int .i64 bl)∧((bl==0)=true→∃ gw bm gx,hcell p (Addr.add t2 4)=some (.slice gw bm gx)∧((((bm:Nat):Int)==0)=true→∃ cw,hcell p (Addr.add t2 3)=some (.string (mkS cw))∧bd ((decide (((List.length cw:Nat):Int)≤2000)):Bool) fun gy=>K (.tuple #[.slice af ag ah,.bool gy]) p)∧((((bm:Nat):Int)==0)=false→K (.tuple #[.slice af ag ah,.bool false]) p))∧((bl==0)=false→K (.tuple #[.slice af ag ah,.bool false]) p)) bh)∧(∃ bn,hcell bh (Addr.add t2 2)=some (.int .i64 bn)∧CallsH P F.qea [.slice none 0 0,.slice bi bj bk] (fun gz r=>∃ ai aj ak,gz=.slice ai aj ak∧((bn==0)=true→∃ hc bo he,hcell r (Addr.add t2 4)=some (.slice hc bo he)∧((((bo:Nat):Int)==0)=true→∃ cx,hcell r (Addr.add t2 3)=some (.string (mkS cx))∧bd ((decide (((List.length cx:Nat):Int)≤2000)):Bool) fun hf=>K (.tuple #[.slice ai aj ak,.bool hf]) r)∧((((bo:Nat):Int)==0)=false→K (.tuple #[.slice ai aj ak,.bool false]) r))∧((bn==0)=false→K (.tuple #[.slice ai aj ak,.bool false]) r)) bh)) h)∧(∃ bp,hcell h (Addr.add t2 2)=some (.int .i64 bp)∧SemH P (Go.convert T.string T.sl_uint8 (.string (mkS bg))) (fun hg hh=>∃ cy cz da,hg=.slice cy cz da∧CallsH P F.qea [.slice none 0 0,.slice cy cz da] (fun hi x=>∃ am an ao,hi=.slice am an ao∧((bp==0)=true→∃ hj bq hk,hcell x (Addr.add t2 4)=some (.slice hj bq hk)∧((((bq:Nat):Int)==0)=true→∃ db,hcell x (Addr.add t2 3)=some (.string (mkS db))∧bd ((decide (((List.length db:Nat):Int)≤2000)):Bool) fun hl=>K (.tuple #[.slice am an ao,.bool hl]) x)∧((((bq:Nat):Int)==0)=false→K (.tuple #[.slice am an ao,.bool false]) x))∧((bp==0)=false→K (.tuple #[.slice am an ao,.bool false]) x)) hh) h))∧(∃ br,hcell h (Addr.add t2 2)=some (.int .i64 br)∧∃ s105,hcell h (Addr.add t2 3)=some (.string (mkS s105))∧SemH P (Go.convert T.string T.sl_uint8 (.string (mkS s105))) (fun hm hn=>∃ dc dd de,hm=.slice dc dd de∧CallsH P F.qea [.slice none 0 0,.slice dc dd de] (fun ho z=>∃ aq ar au,ho=.slice aq ar au∧((br==0)=true→∃ hp bs hq,hcell z (Addr.add t2 4)=some (.slice hp bs hq)∧((((bs:Nat):Int)==0)=true→∃ df,hcell z (Addr.add t2 3)=some (.string (mkS df))∧bd ((decide (((List.length df:Nat):Int)≤2000)):Bool) fun hr=>K (.tuple #[.slice aq ar au,.bool hr]) z)∧((((bs:Nat):Int)==0)=false→K (.tuple #[.slice aq ar au,.bool false]) z))∧((br==0)=false→K (.tuple #[.slice aq ar au,.bool false]) z)) hn) h))∧(cv=false→bd ((n2==70):Bool) fun dg=>(dg=true→∃ dh di dj,hcell h (Addr.add t2 4)=some (.slice dh di dj)∧CallsH P F.qbd [.slice dh di dj,.int .i64 (IntKind.i64.wrap (t1+1))] (fun hs ht=>∃ dk dl dm bt,hs=.tuple #[.slice dk dl dm,.bool bt]∧CallsH P F.qea [.slice none 0 0,.slice dk dl dm] (fun hu aa=>∃ aw ax ay,hu=.slice aw ax ay∧(bt=true→∃ bu,hcell aa (Addr.add t2 2)=some (.int .i64 bu)∧((bu==0)=true→∃ dn,hcell aa (Addr.add t2 3)=some (.string (mkS dn))∧bd ((dn==([]:List UInt8)):Bool) fun hv=>K (.tuple #[.slice aw ax ay,.bool hv]) aa)∧((bu==0)=false→K (.tuple #[.slice aw ax ay,.bool false]) aa))∧(bt=false→K (.tuple #[.slice aw ax ay,.bool false]) aa)) ht) h)∧(dg=false→bd ((n2==86):Bool) fun dp=>(dp=true→K (.tuple #[.slice none 0 0,.bool t6]) h)∧(dp=false→K (.tuple #[.slice none 0 0,.bool false]) h))))))
def qbx.j2.l:Live:=[(1,.int .i64),(2,.addr),(6,.bool),(7,.bool)]
def qbx.j2.j (K:KT):Tup qbx.j2.l→Heap→Prop:=fun x h=>qbx.j2 K x.1 x.2.1 x.2.2.1 x.2.2.2.1 h
def qbx.j1 (K:KT) (t1:Int) (t2:Addr) (t6:Bool) (h:Heap):Prop :=
  ∃ p,hcell h (Addr.add t2 3)=some (.string (mkS p))∧((p==([]:List UInt8))=true→∃ r q x,hcell h (Addr.add t2 4)=some (.slice r q x)∧bd ((((q:Nat):Int)==0):Bool) fun z=>qbx.j2 K t1 t2 t6 z h)∧((p==([]:List UInt8))=false→qbx.j2 K t1 t2 t6 false h)
def qbx.j1.l:Live:=[(1,.int .i64),(2,.addr),(6,.bool)]
def qbx.j1.j (K:KT):Tup qbx.j1.l→Heap→Prop:=fun x h=>qbx.j1 K x.1 x.2.1 x.2.2.1 h
def qbx.p0 (K:KT) (t0:List Value) (t1:Int) (h:Heap):Prop :=
  bd (al h (List.toArray t0) T.api_Field) fun h1=>∃ p,hcell h1 (Addr.add (top h) 2)=some (.int .i64 p)∧((p==0)=true→∃ q,hcell h1 (Addr.add (top h) 3)=some (.string (mkS q))∧((q==([]:List UInt8))=true→∃ x r z,hcell h1 (Addr.add (top h) 4)=some (.slice x r z)∧bd ((((r:Nat):Int)==0):Bool) fun aa=>qbx.j1 K t1 (top h) aa h1)∧((q==([]:List UInt8))=false→qbx.j1 K t1 (top h) false h1))∧((p==0)=false→qbx.j1 K t1 (top h) false h1)
def qbx.plan (K:KT):Plan:=(.seq .go (.cut qbx.j1.l (qbx.j1.j K) .go (.cut qbx.j2.l (qbx.j2.j K) .go (.seq (.seq .go (.block (.seq .go (.cond (.seq (.orders (.op 0 (.op 4 (.op 5 (.op 6 (.both (.op 1 (.op 2 (.both (.op 3 (.op 7 (.op 8 (.op 9 (.op 10 (.op 15 (.op 11 (.op 12 (.op 13 (.op 14 (.op 16 .nil))))))))))) (.op 7 (.op 8 (.op 9 (.op 10 (.both (.op 3 (.op 15 (.op 11 (.op 12 (.op 13 (.op 14 (.op 16 .nil))))))) (.op 11 (.op 12 (.op 13 (.op 14 (.op 3 (.op 15 (.op 16 .nil))))))))))))))) (.op 7 (.op 8 (.op 9 (.op 10 (.both (.op 1 (.op 2 (.both (.op 3 (.op 15 (.op 11 (.op 12 (.op 13 (.op 14 (.op 16 .nil))))))) (.op 11 (.op 12 (.op 13 (.op 14 (.op 3 (.op 15 (.op 16 .nil)))))))))) (.op 11 (.op 12 (.op 13 (.op 14 (.op 1 (.op 2 (.op 3 (.op 15 (.op 16 .nil)))))))))))))))))))) .go) (.seq .go (.cond (.seq (.orders (.op 0 (.op 4 (.op 1 (.op 2 (.op 3 (.op 5 (.op 6 (.op 7 (.op 8 (.op 9 (.op 10 (.op 11 (.op 15 (.op 12 (.op 13 (.op 14 (.op 16 .nil)))))))))))))))))) .go) (.seq .go (.cond .go (.seq .go (.cond (.seq (.orders (.op 0 (.op 4 (.both (.op 1 (.both (.op 2 (.both (.op 3 (.op 5 (.op 6 (.op 7 (.op 8 (.op 9 (.op 10 (.op 11 (.op 12 (.op 13 (.op 14 (.op 19 (.op 15 (.op 16 (.op 17 (.op 18 (.op 20 .nil))))))))))))))))) (.op 5 (.op 6 (.op 3 (.op 7 (.op 8 (.op 9 (.op 10 (.op 11 (.op 12 (.op 13 (.op 14 (.op 19 (.op 15 (.op 16 (.op 17 (.op 18 (.op 20 .nil))))))))))))))))))) (.op 5 (.op 6 (.op 2 (.op 3 (.op 7 (.op 8 (.op 9 (.op 10 (.op 11 (.op 12 (.op 13 (.op 14 (.op 19 (.op 15 (.op 16 (.op 17 (.op 18 (.op 20 .nil)))))))))))))))))))) (.op 5 (.op 6 (.op 1 (.op 2 (.op 3 (.op 7 (.op 8 (.op 9 (.op 10 (.op 11 (.op 12 (.op 13 (.op 14 (.op 19 (.op 15 (.op 16 (.op 17 (.op 18 (.op 20 .nil))))))))))))))))))))))) .go) (.seq .go (.cond (.seq .go (.seq (.orders (.op 0 (.op 2 (.op 1 (.op 3 (.op 4 (.op 5 (.op 6 (.op 7 (.op 8 (.op 9 (.op 13 (.op 10 (.op 11 (.op 12 (.op 14 .nil)))))))))))))))) .go)) .go)))))))))))) .go))))
theorem qbx.ev_eq:qbx.p0=fun K t0 t1 h=>Ev P Tryz.f146 (qbx.plan K) K [.agg (List.toArray t0),.int .i64 t1] h:=by kernel_rfl
theorem qbx.obl (K:KT):Obl P Tryz.f146 (qbx.plan K) K :=
  obl_of (R:=Imp (qbx.j1.j K)∧Imp (qbx.j2.j K)∧DrawOK P Tryz.f146.ntmps (opsAt 5 (bodyOf Tryz.f146)) (.op 0 (.op 4 (.op 5 (.op 6 (.both (.op 1 (.op 2 (.both (.op 3 (.op 7 (.op 8 (.op 9 (.op 10 (.op 15 (.op 11 (.op 12 (.op 13 (.op 14 (.op 16 .nil))))))))))) (.op 7 (.op 8 (.op 9 (.op 10 (.both (.op 3 (.op 15 (.op 11 (.op 12 (.op 13 (.op 14 (.op 16 .nil))))))) (.op 11 (.op 12 (.op 13 (.op 14 (.op 3 (.op 15 (.op 16 .nil))))))))))))))) (.op 7 (.op 8 (.op 9 (.op 10 (.both (.op 1 (.op 2 (.both (.op 3 (.op 15 (.op 11 (.op 12 (.op 13 (.op 14 (.op 16 .nil))))))) (.op 11 (.op 12 (.op 13 (.op 14 (.op 3 (.op 15 (.op 16 .nil)))))))))) (.op 11 (.op 12 (.op 13 (.op 14 (.op 1 (.op 2 (.op 3 (.op 15 (.op 16 .nil)))))))))))))))))))∧DrawOK P Tryz.f146.ntmps (opsAt 7 (bodyOf Tryz.f146)) (.op 0 (.op 4 (.op 1 (.op 2 (.op 3 (.op 5 (.op 6 (.op 7 (.op 8 (.op 9 (.op 10 (.op 11 (.op 15 (.op 12 (.op 13 (.op 14 (.op 16 .nil)))))))))))))))))∧DrawOK P Tryz.f146.ntmps (opsAt 11 (bodyOf Tryz.f146)) (.op 0 (.op 4 (.both (.op 1 (.both (.op 2 (.both (.op 3 (.op 5 (.op 6 (.op 7 (.op 8 (.op 9 (.op 10 (.op 11 (.op 12 (.op 13 (.op 14 (.op 19 (.op 15 (.op 16 (.op 17 (.op 18 (.op 20 .nil))))))))))))))))) (.op 5 (.op 6 (.op 3 (.op 7 (.op 8 (.op 9 (.op 10 (.op 11 (.op 12 (.op 13 (.op 14 (.op 19 (.op 15 (.op 16 (.op 17 (.op 18 (.op 20 .nil))))))))))))))))))) (.op 5 (.op 6 (.op 2 (.op 3 (.op 7 (.op 8 (.op 9 (.op 10 (.op 11 (.op 12 (.op 13 (.op 14 (.op 19 (.op 15 (.op 16 (.op 17 (.op 18 (.op 20 .nil)))))))))))))))))))) (.op 5 (.op 6 (.op 1 (.op 2 (.op 3 (.op 7 (.op 8 (.op 9 (.op 10 (.op 11 (.op 12 (.op 13 (.op 14 (.op 19 (.op 15 (.op 16 (.op 17 (.op 18 (.op 20 .nil))))))))))))))))))))))∧DrawOK P Tryz.f146.ntmps (opsAt 14 (bodyOf Tryz.f146)) (.op 0 (.op 2 (.op 1 (.op 3 (.op 4 (.op 5 (.op 6 (.op 7 (.op 8 (.op 9 (.op 13 (.op 10 (.op 11 (.op 12 (.op 14 .nil)))))))))))))))∧True) (by kernel_rfl) ⟨imp _,⟨imp _,⟨draw_ok (by kernel_rfl),⟨draw_ok (by kernel_rfl),⟨draw_ok (by kernel_rfl),⟨draw_ok (by kernel_rfl),trivial⟩⟩⟩⟩⟩⟩
theorem qbx.ok {K:KT}{t0:List Value}{t1:Int}{h:Heap} (H:qbx.p0 K t0 t1 h):CallsH P F.qbx [.agg (List.toArray t0),.int .i64 t1] K h :=
  calls_of_Ev (qbx.plan K) Tryz.func146 (by kernel_rfl) (qbx.obl K) (by rw [qbx.ev_eq] at H; exact H)
def qbd.j3 (K:KT) (R2:Int→OA→Nat→Nat→Option Nat→OA→Nat→Nat→Int→Int→Heap→Prop) (t1:Int) (t6:OA) (ao:Nat) (aq:Nat) (t7:Option Nat) (t9:Addr) (ar:OA) (au:Nat) (aw:Nat) (ax:OA) (ay:Nat) (az:Nat) (ba:Int) (bb:Int) (r:Bool) (h:Heap):Prop :=
  (r=true→K (.tuple #[.slice none 0 0,.bool false]) h)∧(r=false→∃ x,hcell h (Addr.add t9 0)=some (.string (mkS x))∧bd (al h #[.int .u8 (IntKind.u8.wrap ((List.length x:Nat):Int))] T.uint8) fun bc=>SemH P (Builtin.append_ #[T.sl_uint8,T.sl_uint8] T.sl_uint8 #[.slice t6 ao aq,.slice (some (top h)) 1 1]) (fun be z=>∃ aa ab ac,be=.slice aa ab ac∧∃ s22,hcell z (Addr.add t9 0)=some (.string (mkS s22))∧SemH P (Builtin.append_ #[T.sl_uint8,T.string] T.sl_uint8 #[.slice aa ab ac,.string (mkS s22)]) (fun bf q=>∃ ad ae af,bf=.slice ad ae af∧∃ ag,hcell q (Addr.add t9 1)=some (.int .u8 ag)∧bd (al q #[.int .u8 ag] T.uint8) fun bg=>SemH P (Builtin.append_ #[T.sl_uint8,T.sl_uint8] T.sl_uint8 #[.slice ad ae af,.slice (some (top q)) 1 1]) (fun bh bi=>∃ ah ai aj,bh=.slice ah ai aj∧SemH P (Builtin.append_ #[T.sl_uint8,T.sl_uint8] T.sl_uint8 #[.slice ah ai aj,.slice ar au aw]) (fun bj ak=>∃ am p an,bj=.slice am p an∧((decide (((p:Nat):Int) > 2000))=true→K (.tuple #[.slice none 0 0,.bool false]) ak)∧((decide (((p:Nat):Int) > 2000))=false→R2 t1 am p an t7 ax ay az ba (IntKind.i64.wrap (bb+1)) ak)) bi) bg) z) bc)
def qbd.j3.l:Live:=[(1,.int .i64),(6,.slice),(7,.map),(9,.addr),(10,.slice),(20,.slice),(21,.int .i64),(22,.int .i64),(56,.bool)]
def qbd.j3.j (K:KT) (R2:Int→OA→Nat→Nat→Option Nat→OA→Nat→Nat→Int→Int→Heap→Prop):Tup qbd.j3.l→Heap→Prop:=fun x h=>qbd.j3 K R2 x.1 x.2.1.1 x.2.1.2.1 x.2.1.2.2 x.2.2.1 x.2.2.2.1 x.2.2.2.2.1.1 x.2.2.2.2.1.2.1 x.2.2.2.2.1.2.2 x.2.2.2.2.2.1.1 x.2.2.2.2.2.1.2.1 x.2.2.2.2.2.1.2.2 x.2.2.2.2.2.2.1 x.2.2.2.2.2.2.2.1 x.2.2.2.2.2.2.2.2.1 h
def qbd.L2 (K:KT):Nat→Int→OA→Nat→Nat→Option Nat→OA→Nat→Nat→Int→Int→Heap→Prop
  | 0,_,_,_,_,_,_,_,_,_,_,_=>False
  | fuel+1,t1,t6,r,x,t7,z,aa,af,q,p,h=>((decide (p<q))=true→∃ p2,z=some p2∧(0:Int)≤p∧p<((aa:Nat):Int)∧∃ ag,rdC h (Addr.add p2 (Int.toNat p * 5)) 0 5=some ag∧bd (al h #[.string (mkS ([]:List UInt8)),.int .u8 0,.int .i64 0,.string (mkS ([]:List UInt8)),.slice none 0 0] T.api_Field) fun h4=>ag.length=5∧∃ h5,stC h4 (top h) 0 ag=some h5∧∃ s6,hcell h5 (Addr.add (top h) 0)=some (.string (mkS s6))∧SemH P (Instr.lookup T.map_string_int (.map t7) (.string (mkS s6)) false) (fun v7 h8=>∃ n9,v7=.int .i64 n9∧SemH P (unit (Instr.mapUpdate T.map_string_int (.map t7) (.string (mkS s6)) (.int .i64 (IntKind.i64.wrap (n9+1))))) (fun aw am=>∃ an,rdC am (top h) 0 5=some an∧CallsH P F.qbx [.agg (List.toArray an),.int .i64 t1] (fun ar ah=>∃ ab ac ad ai,ar=.tuple #[.slice ab ac ad,.bool ai]∧((!ai)=false→∃ ao,hcell ah (Addr.add (top h) 0)=some (.string (mkS ao))∧SemH P (Instr.lookup T.map_string_int (.map t7) (.string (mkS ao)) false) (fun au ae=>∃ aj,au=.int .i64 aj∧((decide (aj > 1))=false→∃ ak,hcell ae (Addr.add (top h) 0)=some (.string (mkS ak))∧((ak==([]:List UInt8))=false→∃ aq,hcell ae (Addr.add (top h) 0)=some (.string (mkS aq))∧qbd.j3 K (qbd.L2 K fuel) t1 t6 r x t7 (top h) ab ac ad z aa af q p (decide (((List.length aq:Nat):Int) > 128)) ae)∧((ak==([]:List UInt8))=true→qbd.j3 K (qbd.L2 K fuel) t1 t6 r x t7 (top h) ab ac ad z aa af q p true ae))∧((decide (aj > 1))=true→qbd.j3 K (qbd.L2 K fuel) t1 t6 r x t7 (top h) ab ac ad z aa af q p true ae)) ah)∧((!ai)=true→qbd.j3 K (qbd.L2 K fuel) t1 t6 r x t7 (top h) ab ac ad z aa af q p true ah)) am) h8) h5)∧((decide (p<q))=false→K (.tuple #[.slice t6 r x,.bool true]) h)
termination_by structural n=>n
def qbd.L2.l:Live:=[(1,.int .i64),(6,.slice),(7,.map),(20,.slice),(21,.int .i64),(22,.int .i64)]
def qbd.L2.j (K:KT):Nat→Tup qbd.L2.l→Heap→Prop:=fun n x h=>qbd.L2 K n x.1 x.2.1.1 x.2.1.2.1 x.2.1.2.2 x.2.2.1 x.2.2.2.1.1 x.2.2.2.1.2.1 x.2.2.2.1.2.2 x.2.2.2.2.1 x.2.2.2.2.2.1 h
def qbd.j1 (K:KT) (t0:OA) (p:Nat) (r:Nat) (t1:Int) (q:Bool) (h:Heap):Prop :=
  (q=true→K (.tuple #[.slice none 0 0,.bool false]) h)∧(q=false→bd (Array.push h (.map #[] 0)) fun h1=>∃ fuel40,qbd.L2 K fuel40 t1 none 0 0 (some (Array.size h)) t0 p r ((p:Nat):Int) 0 h1)
def qbd.j1.l:Live:=[(0,.slice),(1,.int .i64),(18,.bool)]
def qbd.j1.j (K:KT):Tup qbd.j1.l→Heap→Prop:=fun x h=>qbd.j1 K x.1.1 x.1.2.1 x.1.2.2 x.2.1 x.2.2.1 h
def qbd.p0 (K:KT) (t0:OA) (p:Nat) (q:Nat) (t1:Int) (h:Heap):Prop :=
  ((decide (t1 > 8))=false→qbd.j1 K t0 p q t1 (decide (((p:Nat):Int) > 2000)) h)∧((decide (t1 > 8))=true→qbd.j1 K t0 p q t1 true h)
def qbd.plan (K:KT):Plan:=(.seq .go (.seq (.cut qbd.j1.l (qbd.j1.j K) .go .go) (.seq .go (.seq .go (.seq (.seq .go (.block (.loop qbd.L2.l (qbd.L2.j K) (fun n2=>(.seq .go (.seq .go (.seq (.block (.seq .go (.seq .go (.seq .go (.seq (.cut qbd.j3.l (qbd.j3.j K (qbd.L2 K n2)) .go .go) .go))))) .go))))))) .go)))))
theorem qbd.ev_eq:qbd.p0=fun K t0 p q t1 h=>Ev P Tryz.f139 (qbd.plan K) K [.slice t0 p q,.int .i64 t1] h:=by kernel_rfl
theorem qbd.obl (K:KT):Obl P Tryz.f139 (qbd.plan K) K :=
  obl_of (R:=Imp (qbd.j1.j K)∧(∀ x h,¬ (qbd.L2.j K) 0 x h)∧ImpN (qbd.L2.j K)∧(∀ (n2:Nat),Imp (qbd.j3.j K (qbd.L2 K n2))∧True)∧True) (by kernel_rfl) ⟨imp _,⟨fun _ _ H=>H,impN _,fun _=>⟨imp _,trivial⟩,trivial⟩⟩
theorem qbd.ok {K:KT}{t0:OA}{p:Nat}{q:Nat}{t1:Int}{h:Heap} (H:qbd.p0 K t0 p q t1 h):CallsH P F.qbd [.slice t0 p q,.int .i64 t1] K h :=
  calls_of_Ev (qbd.plan K) Tryz.func139 (by kernel_rfl) (qbd.obl K) (by rw [qbd.ev_eq] at H; exact H)
def qdo.p0 (K:KT) (b_0:OA) (b_0l:Nat) (b_0c:Nat) (l_1:OA) (l_1l:Nat) (l_1c:Nat) (h:Heap):Prop :=
  CallsH P F.qbd [.slice l_1 l_1l l_1c,.int .i64 1] (fun v1 h2=>∃ a3 p q b4,v1=.tuple #[.slice a3 p q,.bool b4]∧CallsH P F.qcb [.slice b_0 b_0l b_0c] (fun v5 h6=>∃ a7 r x,v5=.slice a7 r x∧SemH P (Builtin.append_ #[T.sl_uint8,T.sl_uint8] T.sl_uint8 #[.slice a7 r x,.slice a3 p q]) (fun v8 h9=>∃ z aa ab,v8=.slice z aa ab∧K (.tuple #[.slice z aa ab,.bool b4]) h9) h6) h2) h
def qdo.plan (K:KT):Plan:=.go
theorem qdo.ev_eq:qdo.p0=fun K b_0 b_0l b_0c l_1 l_1l l_1c h=>Ev P Tryz.f130 (qdo.plan K) K [.slice b_0 b_0l b_0c,.slice l_1 l_1l l_1c] h:=by kernel_rfl
theorem qdo.obl (K:KT):Obl P Tryz.f130 (qdo.plan K) K :=
  obl_true (by kernel_rfl)
theorem qdo.ok {K:KT}{b_0:OA}{b_0l:Nat}{b_0c:Nat}{l_1:OA}{l_1l:Nat}{l_1c:Nat}{h:Heap} (H:qdo.p0 K b_0 b_0l b_0c l_1 l_1l l_1c h):CallsH P F.qdo [.slice b_0 b_0l b_0c,.slice l_1 l_1l l_1c] K h :=
  calls_of_Ev (qdo.plan K) Tryz.func130 (by kernel_rfl) (qdo.obl K) (by rw [qdo.ev_eq] at H; exact H)
def qed.p0 (K:KT) (r_0:OA) (f_1:OA) (deep_2:Int) (h:Heap):Prop :=
  ∃ p1,f_1=some p1∧∃ n2,hcell h (Addr.add p1 1)=some (.int .u8 n2)∧bd ((n2==116):Bool) fun b3=>(b3=true→CallsH P F.qdr [.pointer r_0,.int .i64 1] (fun v4 h5=>∃ n6,v4=.int .u64 n6∧∃ p7,f_1=some p7∧∃ h8,stC h5 (Addr.add p7 2) 0 [.int .i64 (IntKind.i64.wrap n6)]=some h8∧K (.bool true) h8) h)∧(b3=false→bd ((n2==73):Bool) fun b9=>(b9=true→CallsH P F.qdr [.pointer r_0,.int .i64 4] (fun ay az=>∃ p,ay=.int .u64 p∧∃ q,f_1=some q∧∃ r,stC az (Addr.add q 2) 0 [.int .i64 (IntKind.i64.wrap (IntKind.i32.wrap p))]=some r∧K (.bool true) r) h)∧(b9=false→bd ((n2==108):Bool) fun x=>(x=true→CallsH P F.qdr [.pointer r_0,.int .i64 8] (fun ba bb=>∃ z,ba=.int .u64 z∧∃ aa,f_1=some aa∧∃ ab,stC bb (Addr.add aa 2) 0 [.int .i64 (IntKind.i64.wrap z)]=some ab∧K (.bool true) ab) h)∧(x=false→bd ((n2==83):Bool) fun ac=>(ac=true→CallsH P F.qdm [.pointer r_0] (fun bc be=>∃ ad ae af,bc=.slice ad ae af∧SemH P (Go.convert T.sl_uint8 T.string (.slice ad ae af)) (fun bf bg=>∃ ag,bf=.string (mkS ag)∧∃ ah,f_1=some ah∧∃ ai,stC bg (Addr.add ah 3) 0 [.string (mkS ag)]=some ai∧K (.bool true) ai) be) h)∧(ac=false→bd ((n2==70):Bool) fun aj=>(aj=true→CallsH P F.qdm [.pointer r_0] (fun bh bi=>∃ ak am an,bh=.slice ak am an∧CallsH P F.qbe [.slice ak am an,.int .i64 (IntKind.i64.wrap (deep_2+1))] (fun bj bk=>∃ ao aq ar au,bj=.tuple #[.slice ao aq ar,.bool au]∧∃ aw,f_1=some aw∧∃ ax,stC bk (Addr.add aw 4) 0 [.slice ao aq ar]=some ax∧K (.bool au) ax) bi) h)∧(aj=false→K (.bool true) h)))))
def qed.plan (K:KT):Plan:=.go
theorem qed.ev_eq:qed.p0=fun K r_0 f_1 deep_2 h=>Ev P Tryz.f147 (qed.plan K) K [.pointer r_0,.pointer f_1,.int .i64 deep_2] h:=by kernel_rfl
theorem qed.obl (K:KT):Obl P Tryz.f147 (qed.plan K) K :=
  obl_true (by kernel_rfl)
theorem qed.ok {K:KT}{r_0:OA}{f_1:OA}{deep_2:Int}{h:Heap} (H:qed.p0 K r_0 f_1 deep_2 h):CallsH P F.qed [.pointer r_0,.pointer f_1,.int .i64 deep_2] K h :=
  calls_of_Ev (qed.plan K) Tryz.func147 (by kernel_rfl) (qed.obl K) (by rw [qed.ev_eq] at H; exact H)
def qbe.j3 (K:KT) (R2:Int→OA→Nat→Nat→OA→Heap→Prop) (deep_1:Int) (out_6:OA) (out_6l:Nat) (out_6c:Nat) (r_7:OA) (f_8:Addr) (p:Bool) (h:Heap):Prop :=
  (p=true→K (.tuple #[.slice none 0 0,.bool false]) h)∧(p=false→∃ q,rdC h f_8 0 5=some q∧∃ r,bldS P T.sl_api_Field T.api_Field 1 [(0,.agg (List.toArray q))] r∧bd (al h (List.toArray r) T.api_Field) fun ab=>SemH P (Builtin.append_ #[T.sl_api_Field,T.sl_api_Field] T.sl_api_Field #[.slice out_6 out_6l out_6c,.slice (some (top h)) 1 1]) (fun ac ad=>∃ x z aa,ac=.slice x z aa∧R2 deep_1 x z aa r_7 ad) ab)
def qbe.j3.l:Live:=[(1,.int .i64),(6,.slice),(7,.ptr),(8,.addr),(36,.bool)]
def qbe.j3.j (K:KT) (R2:Int→OA→Nat→Nat→OA→Heap→Prop):Tup qbe.j3.l→Heap→Prop:=fun x h=>qbe.j3 K R2 x.1 x.2.1.1 x.2.1.2.1 x.2.1.2.2 x.2.2.1 x.2.2.2.1 x.2.2.2.2.1 h
def qbe.L2 (K:KT):Nat→Int→OA→Nat→Nat→OA→Heap→Prop
  | 0,_,_,_,_,_,_=>False
  | fuel+1,deep_1,out_6,out_6l,out_6c,r_7,h=>CallsH P F.qdl [.pointer r_7] (fun v4 h5=>∃ n6,v4=.int .i64 n6∧((decide (n6 > 0))=true→CallsH P F.qdj [.pointer r_7] (fun v7 h8=>∃ s9,v7=.string (mkS s9)∧bd (al h8 #[.string (mkS ([]:List UInt8)),.int .u8 0,.int .i64 0,.string (mkS ([]:List UInt8)),.slice none 0 0] T.api_Field) fun ab=>([.string (mkS s9),.int .u8 0,.int .i64 0,.string (mkS ([]:List UInt8)),.slice none 0 0]:List Value).length=5∧∃ q,stC ab (top h8) 0 [.string (mkS s9),.int .u8 0,.int .i64 0,.string (mkS ([]:List UInt8)),.slice none 0 0]=some q∧CallsH P F.qdr [.pointer r_7,.int .i64 1] (fun ac ad=>∃ r,ac=.int .u64 r∧∃ x,stC ad (Addr.add (top h8) 1) 0 [.int .u8 (IntKind.u8.wrap r)]=some x∧CallsH P F.qed [.pointer r_7,.pointer (some (top h8)),.int .i64 deep_1] (fun ae z=>∃ p,ae=.bool p∧((!p)=false→CallsH P F.qdu [.pointer r_7] (fun af ag=>∃ aa,af=.bool aa∧qbe.j3 K (qbe.L2 K fuel) deep_1 out_6 out_6l out_6c r_7 (top h8) (!aa) ag) z)∧((!p)=true→qbe.j3 K (qbe.L2 K fuel) deep_1 out_6 out_6l out_6c r_7 (top h8) true z)) x) q) h5)∧((decide (n6 > 0))=false→K (.tuple #[.slice out_6 out_6l out_6c,.bool true]) h5)) h
termination_by structural n=>n
def qbe.L2.l:Live:=[(1,.int .i64),(6,.slice),(7,.ptr)]
def qbe.L2.j (K:KT):Nat→Tup qbe.L2.l→Heap→Prop:=fun n x h=>qbe.L2 K n x.1 x.2.1.1 x.2.1.2.1 x.2.1.2.2 x.2.2.1 h
def qbe.j1 (K:KT) (b_0:OA) (b_0l:Nat) (b_0c:Nat) (deep_1:Int) (p:Bool) (h:Heap):Prop :=
  (p=true→K (.tuple #[.slice none 0 0,.bool false]) h)∧(p=false→CallsH P F.qee [.slice b_0 b_0l b_0c] (fun v1 h2=>∃ p3,v1=.pointer p3∧∃ fuel28,qbe.L2 K fuel28 deep_1 none 0 0 p3 h2) h)
def qbe.j1.l:Live:=[(0,.slice),(1,.int .i64),(15,.bool)]
def qbe.j1.j (K:KT):Tup qbe.j1.l→Heap→Prop:=fun x h=>qbe.j1 K x.1.1 x.1.2.1 x.1.2.2 x.2.1 x.2.2.1 h
def qbe.p0 (K:KT) (b_0:OA) (b_0l:Nat) (b_0c:Nat) (deep_1:Int) (h:Heap):Prop :=
  ((decide (deep_1 > 8))=false→qbe.j1 K b_0 b_0l b_0c deep_1 (decide (((b_0l:Nat):Int) > 2000)) h)∧((decide (deep_1 > 8))=true→qbe.j1 K b_0 b_0l b_0c deep_1 true h)
def qbe.plan (K:KT):Plan:=(.seq .go (.seq (.cut qbe.j1.l (qbe.j1.j K) .go .go) (.seq .go (.seq (.seq .go (.block (.loop qbe.L2.l (qbe.L2.j K) (fun n2=>(.seq .go (.block (.seq .go (.seq .go (.seq (.cut qbe.j3.l (qbe.j3.j K (qbe.L2 K n2)) .go .go) .go))))))))) .go))))
theorem qbe.ev_eq:qbe.p0=fun K b_0 b_0l b_0c deep_1 h=>Ev P Tryz.f141 (qbe.plan K) K [.slice b_0 b_0l b_0c,.int .i64 deep_1] h:=by kernel_rfl
theorem qbe.obl (K:KT):Obl P Tryz.f141 (qbe.plan K) K :=
  obl_of (R:=Imp (qbe.j1.j K)∧(∀ x h,¬ (qbe.L2.j K) 0 x h)∧ImpN (qbe.L2.j K)∧(∀ (n2:Nat),Imp (qbe.j3.j K (qbe.L2 K n2))∧True)∧True) (by kernel_rfl) ⟨imp _,⟨fun _ _ H=>H,impN _,fun _=>⟨imp _,trivial⟩,trivial⟩⟩
theorem qbe.ok {K:KT}{b_0:OA}{b_0l:Nat}{b_0c:Nat}{deep_1:Int}{h:Heap} (H:qbe.p0 K b_0 b_0l b_0c deep_1 h):CallsH P F.qbe [.slice b_0 b_0l b_0c,.int .i64 deep_1] K h :=
  calls_of_Ev (qbe.plan K) Tryz.func141 (by kernel_rfl) (qbe.obl K) (by rw [qbe.ev_eq] at H; exact H)
def qej.p0 (K:KT) (l_0:OA) (l_0l:Nat) (l_0c:Nat) (h:Heap):Prop :=
  CallsH P F.qbd [.slice l_0 l_0l l_0c,.int .i64 1] (fun v1 h2=>∃ a3 p q b4,v1=.tuple #[.slice a3 p q,.bool b4]∧K (.bool b4) h2) h
def qej.plan (K:KT):Plan:=.go
theorem qej.ev_eq:qej.p0=fun K l_0 l_0l l_0c h=>Ev P Tryz.f142 (qej.plan K) K [.slice l_0 l_0l l_0c] h:=by kernel_rfl
theorem qej.obl (K:KT):Obl P Tryz.f142 (qej.plan K) K :=
  obl_true (by kernel_rfl)
theorem qej.ok {K:KT}{l_0:OA}{l_0l:Nat}{l_0c:Nat}{h:Heap} (H:qej.p0 K l_0 l_0l l_0c h):CallsH P F.qej [.slice l_0 l_0l l_0c] K h :=
  calls_of_Ev (qej.plan K) Tryz.func142 (by kernel_rfl) (qej.obl K) (by rw [qej.ev_eq] at H; exact H)
def qdv.p0 (K:KT) (b_0:OA) (b_0l:Nat) (b_0c:Nat) (h:Heap):Prop :=
  CallsH P F.qbe [.slice b_0 b_0l b_0c,.int .i64 1] (fun v1 h2=>∃ a3 p q b4,v1=.tuple #[.slice a3 p q,.bool b4]∧((!b4)=false→CallsH P F.qej [.slice a3 p q] (fun v5 h6=>∃ b7,v5=.bool b7∧((!b7)=true→K (.tuple #[.slice none 0 0,.bool false]) h6)∧((!b7)=false→K (.tuple #[.slice a3 p q,.bool true]) h6)) h2)∧((!b4)=true→(true=true→K (.tuple #[.slice none 0 0,.bool false]) h2)∧(true=false→K (.tuple #[.slice a3 p q,.bool true]) h2))) h
def qdv.plan (K:KT):Plan:=.go
theorem qdv.ev_eq:qdv.p0=fun K b_0 b_0l b_0c h=>Ev P Tryz.f133 (qdv.plan K) K [.slice b_0 b_0l b_0c] h:=by kernel_rfl
theorem qdv.obl (K:KT):Obl P Tryz.f133 (qdv.plan K) K :=
  obl_true (by kernel_rfl)
theorem qdv.ok {K:KT}{b_0:OA}{b_0l:Nat}{b_0c:Nat}{h:Heap} (H:qdv.p0 K b_0 b_0l b_0c h):CallsH P F.qdv [.slice b_0 b_0l b_0c] K h :=
  calls_of_Ev (qdv.plan K) Tryz.func133 (by kernel_rfl) (qdv.obl K) (by rw [qdv.ev_eq] at H; exact H)
end Go.Proofs.YtjapglfpjhljpaaGreat.Pr
end
section
set_option linter.unusedVariables false
set_option maxRecDepth 100000
namespace Go.Proofs.YtjapglfpjhljpaaGreat.Pr
open Go Go.Lift Go.Proofs
def qau.j3 (K:KT) (t4:Int) (p:Bool) (h:Heap):Prop :=
  (p=true→K (.tuple #[.string (mkS ([56,102]:List UInt8)),.bool true]) h)∧(p=false→bd ((t4==110):Bool) fun b9=>(b9=true→K (.tuple #[.string (mkS ([102]:List UInt8)),.bool true]) h)∧(b9=false→bd ((t4==120):Bool) fun q=>(q=true→K (.tuple #[.string (mkS ([56,102,102]:List UInt8)),.bool true]) h)∧(q=false→K (.tuple #[.string (mkS ([]:List UInt8)),.bool false]) h)))
def qau.j3.l:Live:=[(4,.int .i64),(28,.bool)]
def qau.j3.j (K:KT):Tup qau.j3.l→Heap→Prop:=fun x h=>qau.j3 K x.1 x.2.1 h
def qau.j2 (K:KT) (t4:Int) (q:Bool) (h:Heap):Prop :=
  (q=true→K (.tuple #[.string (mkS ([115]:List UInt8)),.bool true]) h)∧(q=false→bd ((t4==30):Bool) fun b3=>(b3=true→K (.tuple #[.string (mkS ([115,102]:List UInt8)),.bool true]) h)∧(b3=false→bd ((t4==40):Bool) fun b4=>(b4=true→K (.tuple #[.string (mkS ([50,115,115,102,102]:List UInt8)),.bool true]) h)∧(b4=false→bd ((t4==50):Bool) fun b5=>(b5=true→K (.tuple #[.string (mkS ([50,115,115,115]:List UInt8)),.bool true]) h)∧(b5=false→bd ((t4==60):Bool) fun b6=>(b6=true→K (.tuple #[.string (mkS ([115,56,102,115,115]:List UInt8)),.bool true]) h)∧(b6=false→bd ((t4==70):Bool) fun b7=>(b7=true→K (.tuple #[.string (mkS ([50,115,102]:List UInt8)),.bool true]) h)∧(b7=false→bd ((t4==71):Bool) fun b8=>(b8=true→K (.tuple #[.string (mkS ([56,102,115,115,52]:List UInt8)),.bool true]) h)∧(b8=false→bd ((t4==80):Bool) fun p=>(p=true→qau.j3 K t4 p h)∧(p=false→bd ((t4==90):Bool) fun r=>qau.j3 K t4 r h))))))))
def qau.j2.l:Live:=[(4,.int .i64),(12,.bool)]
def qau.j2.j (K:KT):Tup qau.j2.l→Heap→Prop:=fun x h=>qau.j2 K x.1 x.2.1 h
def qau.j1 (K:KT) (t4:Int) (t7:Bool) (h:Heap):Prop :=
  (t7=true→K (.tuple #[.string (mkS ([]:List UInt8)),.bool true]) h)∧(t7=false→bd ((t4==20):Bool) fun b2=>(b2=true→K (.tuple #[.string (mkS ([50,115,115,102,102,102,102,116]:List UInt8)),.bool true]) h)∧(b2=false→bd ((t4==21):Bool) fun p=>(p=true→qau.j2 K t4 p h)∧(p=false→bd ((t4==31):Bool) fun q=>(q=true→qau.j2 K t4 q h)∧(q=false→bd ((t4==72):Bool) fun r=>qau.j2 K t4 r h))))
def qau.j1.l:Live:=[(4,.int .i64),(7,.bool)]
def qau.j1.j (K:KT):Tup qau.j1.l→Heap→Prop:=fun x h=>qau.j1 K x.1 x.2.1 h
def qau.p0 (K:KT) (id_0:Int) (h:Heap):Prop :=
  bd ((id_0==10):Bool) fun b1=>(b1=true→K (.tuple #[.string (mkS ([52,50,102]:List UInt8)),.bool true]) h)∧(b1=false→bd ((id_0==11):Bool) fun p=>(p=true→qau.j1 K id_0 p h)∧(p=false→bd ((id_0==111):Bool) fun q=>qau.j1 K id_0 q h))
def qau.plan (K:KT):Plan:=(.seq .go (.seq (.seq .go (.block (.seq .go (.cond .go (.cut qau.j1.l (qau.j1.j K) .go (.cond .go (.seq .go (.cond .go (.cut qau.j2.l (qau.j2.j K) .go (.cond .go (.seq .go (.cond .go (.seq .go (.cond .go (.seq .go (.cond .go (.seq .go (.cond .go (.seq .go (.cond .go (.seq .go (.cond .go (.cut qau.j3.l (qau.j3.j K) .go .go))))))))))))))))))))))) .go))
theorem qau.ev_eq:qau.p0=fun K id_0 h=>Ev P Tryz.f68 (qau.plan K) K [.int .i64 id_0] h:=by kernel_rfl
theorem qau.obl (K:KT):Obl P Tryz.f68 (qau.plan K) K :=
  obl_of (R:=Imp (qau.j1.j K)∧Imp (qau.j2.j K)∧Imp (qau.j3.j K)∧True) (by kernel_rfl) ⟨imp _,⟨imp _,⟨imp _,trivial⟩⟩⟩
theorem qau.ok {K:KT}{id_0:Int}{h:Heap} (H:qau.p0 K id_0 h):CallsH P F.qau [.int .i64 id_0] K h :=
  calls_of_Ev (qau.plan K) Tryz.func68 (by kernel_rfl) (qau.obl K) (by rw [qau.ev_eq] at H; exact H)
def qaw.j1 (K:KT) (t9:Int) (p:Bool) (h:Heap):Prop :=
  (p=true→K (.tuple #[.string (mkS ([50,52,50]:List UInt8)),.bool true]) h)∧(p=false→bd ((t9==40):Bool) fun b4=>(b4=true→K (.tuple #[.string (mkS ([115,115,102]:List UInt8)),.bool true]) h)∧(b4=false→bd ((t9==41):Bool) fun b5=>(b5=true→K (.tuple #[.string (mkS ([115]:List UInt8)),.bool true]) h)∧(b5=false→bd ((t9==50):Bool) fun b6=>(b6=true→K (.tuple #[.string (mkS ([50,115,50,50]:List UInt8)),.bool true]) h)∧(b6=false→bd ((t9==51):Bool) fun b7=>(b7=true→K (.tuple #[.string (mkS ([]:List UInt8)),.bool true]) h)∧(b7=false→K (.tuple #[.string (mkS ([]:List UInt8)),.bool false]) h)))))
def qaw.j1.l:Live:=[(9,.int .i64),(14,.bool)]
def qaw.j1.j (K:KT):Tup qaw.j1.l→Heap→Prop:=fun x h=>qaw.j1 K x.1 x.2.1 h
def qaw.j3 (K:KT) (p:Int) (q:Bool) (h:Heap):Prop :=
  (q=true→K (.tuple #[.string (mkS ([52]:List UInt8)),.bool true]) h)∧(q=false→bd ((p==40):Bool) fun r=>(r=true→K (.tuple #[.string (mkS ([50,115,102,102,102]:List UInt8)),.bool true]) h)∧(r=false→bd ((p==50):Bool) fun x=>(x=true→K (.tuple #[.string (mkS ([50,115,115,115,116]:List UInt8)),.bool true]) h)∧(x=false→K (.tuple #[.string (mkS ([]:List UInt8)),.bool false]) h)))
def qaw.j3.l:Live:=[(48,.int .i64),(60,.bool)]
def qaw.j3.j (K:KT):Tup qaw.j3.l→Heap→Prop:=fun x h=>qaw.j3 K x.1 x.2.1 h
def qaw.j2 (K:KT) (p:Int) (r:Bool) (h:Heap):Prop :=
  (r=true→K (.tuple #[.string (mkS ([]:List UInt8)),.bool true]) h)∧(r=false→bd ((p==30):Bool) fun x=>(x=true→K (.tuple #[.string (mkS ([50,115,102]:List UInt8)),.bool true]) h)∧(x=false→bd ((p==31):Bool) fun q=>(q=true→qaw.j3 K p q h)∧(q=false→bd ((p==41):Bool) fun z=>qaw.j3 K p z h)))
def qaw.j2.l:Live:=[(48,.int .i64),(55,.bool)]
def qaw.j2.j (K:KT):Tup qaw.j2.l→Heap→Prop:=fun x h=>qaw.j2 K x.1 x.2.1 h
def qaw.p0 (K:KT) (t0:Int) (t1:Int) (h:Heap):Prop :=
  bd ((t0==10):Bool) fun b1=>(b1=true→bd ((t1==10):Bool) fun b2=>(b2=true→K (.tuple #[.string (mkS ([49,49,116,108,108]:List UInt8)),.bool true]) h)∧(b2=false→bd ((t1==11):Bool) fun b3=>(b3=true→K (.tuple #[.string (mkS ([116,115,108,115]:List UInt8)),.bool true]) h)∧(b3=false→bd ((t1==30):Bool) fun b8=>(b8=true→qaw.j1 K t1 b8 h)∧(b8=false→bd ((t1==31):Bool) fun b9=>qaw.j1 K t1 b9 h))))∧(b1=false→bd ((t0==20):Bool) fun ac=>(ac=true→bd ((t1==10):Bool) fun ad=>(ad=true→K (.tuple #[.string (mkS ([115]:List UInt8)),.bool true]) h)∧(ad=false→bd ((t1==11):Bool) fun ae=>(ae=true→K (.tuple #[.string (mkS ([108]:List UInt8)),.bool true]) h)∧(ae=false→bd ((t1==40):Bool) fun af=>(af=true→K (.tuple #[.string (mkS ([50,115,50,50]:List UInt8)),.bool true]) h)∧(af=false→bd ((t1==41):Bool) fun ag=>(ag=true→K (.tuple #[.string (mkS ([]:List UInt8)),.bool true]) h)∧(ag=false→K (.tuple #[.string (mkS ([]:List UInt8)),.bool false]) h)))))∧(ac=false→bd ((t0==40):Bool) fun ah=>(ah=true→bd ((t1==10):Bool) fun ai=>(ai=true→K (.tuple #[.string (mkS ([50,115,115,102,102,102,102,102,116]:List UInt8)),.bool true]) h)∧(ai=false→bd ((t1==20):Bool) fun aj=>(aj=true→K (.tuple #[.string (mkS ([50,115,102,102]:List UInt8)),.bool true]) h)∧(aj=false→bd ((t1==11):Bool) fun p=>(p=true→(p=true→K (.tuple #[.string (mkS ([]:List UInt8)),.bool true]) h)∧(p=false→K (.tuple #[.string (mkS ([]:List UInt8)),.bool false]) h))∧(p=false→bd ((t1==21):Bool) fun ak=>(ak=true→K (.tuple #[.string (mkS ([]:List UInt8)),.bool true]) h)∧(ak=false→K (.tuple #[.string (mkS ([]:List UInt8)),.bool false]) h)))))∧(ah=false→bd ((t0==50):Bool) fun am=>(am=true→bd ((t1==10):Bool) fun an=>(an=true→K (.tuple #[.string (mkS ([50,115,102,102,102,102,102,116]:List UInt8)),.bool true]) h)∧(an=false→bd ((t1==11):Bool) fun ao=>(ao=true→K (.tuple #[.string (mkS ([115,52,52]:List UInt8)),.bool true]) h)∧(ao=false→bd ((t1==20):Bool) fun aq=>(aq=true→K (.tuple #[.string (mkS ([50,115,115,115,102,116]:List UInt8)),.bool true]) h)∧(aq=false→bd ((t1==21):Bool) fun ab=>(ab=true→qaw.j2 K t1 ab h)∧(ab=false→bd ((t1==51):Bool) fun az=>qaw.j2 K t1 az h)))))∧(am=false→bd ((t0==60):Bool) fun ar=>(ar=true→CallsH P F.qau [.int .i64 t1] (fun ba bb=>∃ au aw,ba=.tuple #[.string (mkS au),.bool aw]∧K (.tuple #[.string (mkS au),.bool aw]) bb) h)∧(ar=false→bd ((t0==90):Bool) fun ax=>(ax=true→bd ((t1==10):Bool) fun q=>(q=true→(q=true→K (.tuple #[.string (mkS ([]:List UInt8)),.bool true]) h)∧(q=false→K (.tuple #[.string (mkS ([]:List UInt8)),.bool false]) h))∧(q=false→bd ((t1==11):Bool) fun r=>(r=true→(r=true→K (.tuple #[.string (mkS ([]:List UInt8)),.bool true]) h)∧(r=false→K (.tuple #[.string (mkS ([]:List UInt8)),.bool false]) h))∧(r=false→bd ((t1==20):Bool) fun x=>(x=true→(x=true→K (.tuple #[.string (mkS ([]:List UInt8)),.bool true]) h)∧(x=false→K (.tuple #[.string (mkS ([]:List UInt8)),.bool false]) h))∧(x=false→bd ((t1==21):Bool) fun z=>(z=true→(z=true→K (.tuple #[.string (mkS ([]:List UInt8)),.bool true]) h)∧(z=false→K (.tuple #[.string (mkS ([]:List UInt8)),.bool false]) h))∧(z=false→bd ((t1==30):Bool) fun aa=>(aa=true→(aa=true→K (.tuple #[.string (mkS ([]:List UInt8)),.bool true]) h)∧(aa=false→K (.tuple #[.string (mkS ([]:List UInt8)),.bool false]) h))∧(aa=false→bd ((t1==31):Bool) fun ay=>(ay=true→K (.tuple #[.string (mkS ([]:List UInt8)),.bool true]) h)∧(ay=false→K (.tuple #[.string (mkS ([]:List UInt8)),.bool false]) h)))))))∧(ax=false→K (.tuple #[.string (mkS ([]:List UInt8)),.bool false]) h))))))
def qaw.plan (K:KT):Plan:=(.seq .go (.seq (.seq .go (.block (.seq .go (.cond (.seq .go (.block (.seq .go (.cond .go (.seq .go (.cond .go (.cut qaw.j1.l (qaw.j1.j K) .go .go))))))) (.seq .go (.cond .go (.seq .go (.cond .go (.seq .go (.cond (.seq .go (.block (.seq .go (.cond .go (.seq .go (.cond .go (.seq .go (.cond .go (.cut qaw.j2.l (qaw.j2.j K) .go (.cond .go (.seq .go (.cond .go (.cut qaw.j3.l (qaw.j3.j K) .go .go))))))))))))) .go)))))))))) .go))
theorem qaw.ev_eq:qaw.p0=fun K t0 t1 h=>Ev P Tryz.f40 (qaw.plan K) K [.int .i64 t0,.int .i64 t1] h:=by kernel_rfl
theorem qaw.obl (K:KT):Obl P Tryz.f40 (qaw.plan K) K :=
  obl_of (R:=Imp (qaw.j1.j K)∧Imp (qaw.j2.j K)∧Imp (qaw.j3.j K)∧True) (by kernel_rfl) ⟨imp _,⟨imp _,⟨imp _,trivial⟩⟩⟩
theorem qaw.ok {K:KT}{t0:Int}{t1:Int}{h:Heap} (H:qaw.p0 K t0 t1 h):CallsH P F.qaw [.int .i64 t0,.int .i64 t1] K h :=
  calls_of_Ev (qaw.plan K) Tryz.func40 (by kernel_rfl) (qaw.obl K) (by rw [qaw.ev_eq] at H; exact H)
def qbh.j1 (K:KT) (c_0:Int) (p:Bool) (h:Heap):Prop :=
  (p=true→bd ((IntKind.i64.wrap (IntKind.u8.wrap (c_0 - 48))):Int) fun n1=>K (.int .i64 n1) h)∧(p=false→K (.int .i64 0) h)
def qbh.j1.l:Live:=[(0,.int .u8),(16,.bool)]
def qbh.j1.j (K:KT):Tup qbh.j1.l→Heap→Prop:=fun x h=>qbh.j1 K x.1 x.2.1 h
def qbh.p0 (K:KT) (c_0:Int) (h:Heap):Prop :=
  ((c_0==49)=false→((c_0==50)=false→((c_0==52)=false→qbh.j1 K c_0 (c_0==56) h)∧((c_0==52)=true→qbh.j1 K c_0 true h))∧((c_0==50)=true→qbh.j1 K c_0 true h))∧((c_0==49)=true→qbh.j1 K c_0 true h)
def qbh.plan (K:KT):Plan:=(.seq .go (.seq (.cut qbh.j1.l (qbh.j1.j K) .go .go) .go))
theorem qbh.ev_eq:qbh.p0=fun K c_0 h=>Ev P Tryz.f47 (qbh.plan K) K [.int .u8 c_0] h:=by kernel_rfl
theorem qbh.obl (K:KT):Obl P Tryz.f47 (qbh.plan K) K :=
  obl_of (R:=Imp (qbh.j1.j K)∧True) (by kernel_rfl) ⟨imp _,trivial⟩
theorem qbh.ok {K:KT}{c_0:Int}{h:Heap} (H:qbh.p0 K c_0 h):CallsH P F.qbh [.int .u8 c_0] K h :=
  calls_of_Ev (qbh.plan K) Tryz.func47 (by kernel_rfl) (qbh.obl K) (by rw [qbh.ev_eq] at H; exact H)
def qbi.j1 (K:KT) (t1:Addr) (ad:Bool) (h:Heap):Prop :=
  (ad=true→K (.bool false) h)∧(ad=false→∃ n2,hcell h (Addr.add t1 1)=some (.int .u8 n2)∧bd ((n2==116):Bool) fun b3=>(b3=true→∃ n4,hcell h (Addr.add t1 2)=some (.int .i64 n4)∧((n4==0)=false→∃ n5,hcell h (Addr.add t1 2)=some (.int .i64 n5)∧((n5==1)=true→∃ s6,hcell h (Addr.add t1 3)=some (.string (mkS s6))∧((s6==([]:List UInt8))=true→∃ a7 ae ar,hcell h (Addr.add t1 4)=some (.slice a7 ae ar)∧bd ((((ae:Nat):Int)==0):Bool) fun b8=>K (.bool b8) h)∧((s6==([]:List UInt8))=false→K (.bool false) h))∧((n5==1)=false→K (.bool false) h))∧((n4==0)=true→∃ s9,hcell h (Addr.add t1 3)=some (.string (mkS s9))∧((s9==([]:List UInt8))=true→∃ au af aw,hcell h (Addr.add t1 4)=some (.slice au af aw)∧bd ((((af:Nat):Int)==0):Bool) fun ax=>K (.bool ax) h)∧((s9==([]:List UInt8))=false→K (.bool false) h)))∧(b3=false→bd ((n2==73):Bool) fun ag=>(ag=true→∃ p,hcell h (Addr.add t1 2)=some (.int .i64 p)∧((decide (p ≥ (-2147483648)))=true→∃ q,hcell h (Addr.add t1 2)=some (.int .i64 q)∧((decide (q<2147483648))=true→∃ r,hcell h (Addr.add t1 3)=some (.string (mkS r))∧((r==([]:List UInt8))=true→∃ ay ah az,hcell h (Addr.add t1 4)=some (.slice ay ah az)∧bd ((((ah:Nat):Int)==0):Bool) fun ba=>K (.bool ba) h)∧((r==([]:List UInt8))=false→K (.bool false) h))∧((decide (q<2147483648))=false→K (.bool false) h))∧((decide (p ≥ (-2147483648)))=false→K (.bool false) h))∧(ag=false→bd ((n2==108):Bool) fun ai=>(ai=true→∃ x,hcell h (Addr.add t1 3)=some (.string (mkS x))∧((x==([]:List UInt8))=true→∃ bb aj bc,hcell h (Addr.add t1 4)=some (.slice bb aj bc)∧bd ((((aj:Nat):Int)==0):Bool) fun be=>K (.bool be) h)∧((x==([]:List UInt8))=false→K (.bool false) h))∧(ai=false→bd ((n2==83):Bool) fun ak=>(ak=true→∃ z,hcell h (Addr.add t1 2)=some (.int .i64 z)∧((z==0)=true→∃ bf am bg,hcell h (Addr.add t1 4)=some (.slice bf am bg)∧bd ((((am:Nat):Int)==0):Bool) fun bh=>K (.bool bh) h)∧((z==0)=false→K (.bool false) h))∧(ak=false→bd ((n2==70):Bool) fun an=>(an=true→∃ aa,hcell h (Addr.add t1 2)=some (.int .i64 aa)∧((aa==0)=true→∃ s28,hcell h (Addr.add t1 3)=some (.string (mkS s28))∧bd ((s28==([]:List UInt8)):Bool) fun bi=>K (.bool bi) h)∧((aa==0)=false→K (.bool false) h))∧(an=false→bd ((n2==86):Bool) fun ao=>(ao=true→∃ ab,hcell h (Addr.add t1 2)=some (.int .i64 ab)∧((ab==0)=true→∃ ac,hcell h (Addr.add t1 3)=some (.string (mkS ac))∧((ac==([]:List UInt8))=true→∃ bj aq bk,hcell h (Addr.add t1 4)=some (.slice bj aq bk)∧bd ((((aq:Nat):Int)==0):Bool) fun bl=>K (.bool bl) h)∧((ac==([]:List UInt8))=false→K (.bool false) h))∧((ab==0)=false→K (.bool false) h))∧(ao=false→K (.bool false) h)))))))
def qbi.j1.l:Live:=[(1,.addr),(12,.bool)]
def qbi.j1.j (K:KT):Tup qbi.j1.l→Heap→Prop:=fun x h=>qbi.j1 K x.1 x.2.1 h
def qbi.p0 (K:KT) (t0:List Value) (h:Heap):Prop :=
  bd (al h (List.toArray t0) T.api_Field) fun h1=>∃ p,hcell h1 (Addr.add (top h) 0)=some (.string (mkS p))∧((decide (((List.length p:Nat):Int)<1))=false→∃ q,hcell h1 (Addr.add (top h) 0)=some (.string (mkS q))∧qbi.j1 K (top h) (decide (((List.length q:Nat):Int) > 128)) h1)∧((decide (((List.length p:Nat):Int)<1))=true→qbi.j1 K (top h) true h1)
def qbi.plan (K:KT):Plan:=(.seq .go (.seq (.cut qbi.j1.l (qbi.j1.j K) .go .go) .go))
theorem qbi.ev_eq:qbi.p0=fun K t0 h=>Ev P Tryz.f115 (qbi.plan K) K [.agg (List.toArray t0)] h:=by kernel_rfl
theorem qbi.obl (K:KT):Obl P Tryz.f115 (qbi.plan K) K :=
  obl_of (R:=Imp (qbi.j1.j K)∧True) (by kernel_rfl) ⟨imp _,trivial⟩
theorem qbi.ok {K:KT}{t0:List Value}{h:Heap} (H:qbi.p0 K t0 h):CallsH P F.qbi [.agg (List.toArray t0)] K h :=
  calls_of_Ev (qbi.plan K) Tryz.func115 (by kernel_rfl) (qbi.obl K) (by rw [qbi.ev_eq] at H; exact H)
def qal.j2 (K:KT) (R1:OA→Nat→Nat→Int→Int→Heap→Prop) (l_0:OA) (l_0l:Nat) (l_0c:Nat) (deep_1:Int) (i_5:Int) (h:Heap):Prop :=
  bd ((IntKind.i64.wrap (i_5+1)):Int) fun i_1=>R1 l_0 l_0l l_0c deep_1 i_1 h
def qal.j2.l:Live:=[(0,.slice),(1,.int .i64),(5,.int .i64)]
def qal.j2.j (K:KT) (R1:OA→Nat→Nat→Int→Int→Heap→Prop):Tup qal.j2.l→Heap→Prop:=fun x h=>qal.j2 K R1 x.1.1 x.1.2.1 x.1.2.2 x.2.1 x.2.2.1 h
def qal.L4 (K:KT) (R1:OA→Nat→Nat→Int→Int→Heap→Prop):Nat→OA→Nat→Nat→Int→Int→Int→Heap→Prop
  | 0,_,_,_,_,_,_,_=>False
  | fuel+1,l_0,l_0l,l_0c,deep_1,i_5,k_6,h=>((decide (k_6<i_5))=true→∃ p2,l_0=some p2∧(0:Int)≤k_6∧k_6<((l_0l:Nat):Int)∧∃ p3,l_0=some p3∧(0:Int)≤i_5∧i_5<((l_0l:Nat):Int)∧∃ s4,hcell h (Addr.add (Addr.add p2 (Int.toNat k_6 * 5)) 0)=some (.string (mkS s4))∧∃ s5,hcell h (Addr.add (Addr.add p3 (Int.toNat i_5 * 5)) 0)=some (.string (mkS s5))∧((s4==s5)=true→K (.bool false) h)∧((s4==s5)=false→bd ((IntKind.i64.wrap (k_6+1)):Int) fun k_6=>(qal.L4 K R1 fuel) l_0 l_0l l_0c deep_1 i_5 k_6 h))∧((decide (k_6<i_5))=false→qal.j2 K R1 l_0 l_0l l_0c deep_1 i_5 h)
termination_by structural n=>n
def qal.L4.l:Live:=[(0,.slice),(1,.int .i64),(5,.int .i64),(6,.int .i64)]
def qal.L4.j (K:KT) (R1:OA→Nat→Nat→Int→Int→Heap→Prop):Nat→Tup qal.L4.l→Heap→Prop:=fun n x h=>qal.L4 K R1 n x.1.1 x.1.2.1 x.1.2.2 x.2.1 x.2.2.1 x.2.2.2.1 h
def qal.j3 (K:KT) (R1:OA→Nat→Nat→Int→Int→Heap→Prop) (l_0:OA) (l_0l:Nat) (l_0c:Nat) (deep_1:Int) (i_5:Int) (p:Bool) (h:Heap):Prop :=
  (p=true→K (.bool false) h)∧(p=false→∃ fuel7,qal.L4 K R1 fuel7 l_0 l_0l l_0c deep_1 i_5 0 h)
def qal.j3.l:Live:=[(0,.slice),(1,.int .i64),(5,.int .i64),(39,.bool)]
def qal.j3.j (K:KT) (R1:OA→Nat→Nat→Int→Int→Heap→Prop):Tup qal.j3.l→Heap→Prop:=fun x h=>qal.j3 K R1 x.1.1 x.1.2.1 x.1.2.2 x.2.1 x.2.2.1 x.2.2.2.1 h
def qal.L1 (K:KT):Nat→OA→Nat→Nat→Int→Int→Heap→Prop
  | 0,_,_,_,_,_,_=>False
  | fuel+1,l_0,l_0l,l_0c,deep_1,i_5,h=>((decide (i_5<((l_0l:Nat):Int)))=true→∃ p8,l_0=some p8∧(0:Int)≤i_5∧i_5<((l_0l:Nat):Int)∧∃ x,rdC h (Addr.add p8 (Int.toNat i_5 * 5)) 0 5=some x∧CallsH P F.qbi [.agg (List.toArray x)] (fun af p=>∃ q,af=.bool q∧((!q)=false→∃ z,l_0=some z∧(0:Int)≤i_5∧i_5<((l_0l:Nat):Int)∧∃ r,hcell p (Addr.add (Addr.add z (Int.toNat i_5 * 5)) 1)=some (.int .u8 r)∧((r==70)=true→∃ aa,l_0=some aa∧(0:Int)≤i_5∧i_5<((l_0l:Nat):Int)∧∃ ab ac ad,hcell p (Addr.add (Addr.add aa (Int.toNat i_5 * 5)) 4)=some (.slice ab ac ad)∧CallsH P F.qal [.slice ab ac ad,.int .i64 (IntKind.i64.wrap (deep_1+1))] (fun ag ah=>∃ ae,ag=.bool ae∧qal.j3 K (qal.L1 K fuel) l_0 l_0l l_0c deep_1 i_5 (!ae) ah) p)∧((r==70)=false→qal.j3 K (qal.L1 K fuel) l_0 l_0l l_0c deep_1 i_5 false p))∧((!q)=true→qal.j3 K (qal.L1 K fuel) l_0 l_0l l_0c deep_1 i_5 true p)) h)∧((decide (i_5<((l_0l:Nat):Int)))=false→K (.bool true) h)
termination_by structural n=>n
def qal.L1.l:Live:=[(0,.slice),(1,.int .i64),(5,.int .i64)]
def qal.L1.j (K:KT):Nat→Tup qal.L1.l→Heap→Prop:=fun n x h=>qal.L1 K n x.1.1 x.1.2.1 x.1.2.2 x.2.1 x.2.2.1 h
def qal.p0 (K:KT) (l_0:OA) (l_0l:Nat) (l_0c:Nat) (deep_1:Int) (h:Heap):Prop :=
  ((decide (deep_1 > 8))=true→K (.bool false) h)∧((decide (deep_1 > 8))=false→∃ fuel20,qal.L1 K fuel20 l_0 l_0l l_0c deep_1 0 h)
def qal.plan (K:KT):Plan:=(.seq .go (.seq .go (.seq (.seq .go (.block (.loop qal.L1.l (qal.L1.j K) (fun n1=>(.seq .go (.cut qal.j2.l (qal.j2.j K (qal.L1 K n1)) (.block (.seq (.cut qal.j3.l (qal.j3.j K (qal.L1 K n1)) .go .go) (.seq .go (.block (.loop qal.L4.l (qal.L4.j K (qal.L1 K n1)) (fun n4=>(.seq .go (.seq (.block (.seq (.orders (.op 0 (.op 1 (.op 2 (.op 3 (.op 5 (.op 6 (.op 7 (.op 8 (.op 4 (.op 9 (.op 10 .nil)))))))))))) .go)) .go)))))))) .go)))))) .go)))
theorem qal.ev_eq:qal.p0=fun K l_0 l_0l l_0c deep_1 h=>Ev P Tryz.f89 (qal.plan K) K [.slice l_0 l_0l l_0c,.int .i64 deep_1] h:=by kernel_rfl
theorem qal.obl (K:KT):Obl P Tryz.f89 (qal.plan K) K :=
  obl_of (R:=(∀ x h,¬ (qal.L1.j K) 0 x h)∧ImpN (qal.L1.j K)∧(∀ (n1:Nat),Imp (qal.j3.j K (qal.L1 K n1))∧(∀ x h,¬ (qal.L4.j K (qal.L1 K n1)) 0 x h)∧ImpN (qal.L4.j K (qal.L1 K n1))∧(∀ (n4:Nat),DrawOK P Tryz.f89.ntmps (opsAt 11 (bodyOf Tryz.f89)) (.op 0 (.op 1 (.op 2 (.op 3 (.op 5 (.op 6 (.op 7 (.op 8 (.op 4 (.op 9 (.op 10 .nil)))))))))))∧True)∧Imp (qal.j2.j K (qal.L1 K n1))∧True)∧True) (by kernel_rfl) ⟨fun _ _ H=>H,impN _,fun _=>⟨imp _,⟨fun _ _ H=>H,impN _,fun _=>⟨draw_ok (by kernel_rfl),trivial⟩,⟨imp _,trivial⟩⟩⟩,trivial⟩
theorem qal.ok {K:KT}{l_0:OA}{l_0l:Nat}{l_0c:Nat}{deep_1:Int}{h:Heap} (H:qal.p0 K l_0 l_0l l_0c deep_1 h):CallsH P F.qal [.slice l_0 l_0l l_0c,.int .i64 deep_1] K h :=
  calls_of_Ev (qal.plan K) Tryz.func89 (by kernel_rfl) (qal.obl K) (by rw [qal.ev_eq] at H; exact H)
def qaj.j3 (K:KT) (R1:OA→Nat→Nat→Int→Int→Int→Heap→Prop) (l_0:OA) (l_0l:Nat) (l_0c:Nat) (deep_1:Int) (t5:Int) (i_6:Int) (h:Heap):Prop :=
  bd ((IntKind.i64.wrap (i_6+1)):Int) fun i_1=>R1 l_0 l_0l l_0c deep_1 t5 i_1 h
def qaj.j3.l:Live:=[(0,.slice),(1,.int .i64),(5,.int .i64),(6,.int .i64)]
def qaj.j3.j (K:KT) (R1:OA→Nat→Nat→Int→Int→Int→Heap→Prop):Tup qaj.j3.l→Heap→Prop:=fun x h=>qaj.j3 K R1 x.1.1 x.1.2.1 x.1.2.2 x.2.1 x.2.2.1 x.2.2.2.1 h
def qaj.j2 (K:KT) (R1:OA→Nat→Nat→Int→Int→Int→Heap→Prop) (l_0:OA) (l_0l:Nat) (l_0c:Nat) (deep_1:Int) (t5:Int) (i_6:Int) (bk:Bool) (h:Heap):Prop :=
  (bk=true→∃ p2,l_0=some p2∧(0:Int)≤i_6∧i_6<((l_0l:Nat):Int)∧∃ p3,l_0=some p3∧(0:Int)≤i_6∧i_6<((l_0l:Nat):Int)∧∃ p4,l_0=some p4∧(0:Int)≤i_6∧i_6<((l_0l:Nat):Int)∧(∃ s5,hcell h (Addr.add (Addr.add p2 (Int.toNat i_6 * 5)) 0)=some (.string (mkS s5))∧(∃ s6,hcell h (Addr.add (Addr.add p3 (Int.toNat i_6 * 5)) 3)=some (.string (mkS s6))∧(∃ a7 bl bm,hcell h (Addr.add (Addr.add p4 (Int.toNat i_6 * 5)) 4)=some (.slice a7 bl bm)∧CallsH P F.qaj [.slice a7 bl bm,.int .i64 (IntKind.i64.wrap (deep_1+1))] (fun v8 h9=>∃ bn,v8=.int .i64 bn∧bd ((IntKind.i64.wrap ((IntKind.i64.wrap ((IntKind.i64.wrap ((IntKind.i64.wrap (t5+13))+((List.length s5:Nat):Int)))+(if (4000:Int)<((List.length s6:Nat):Int) then 4000 else ((List.length s6:Nat):Int))))+bn)):Int) fun n_11=>qaj.j3 K R1 l_0 l_0l l_0c deep_1 n_11 i_6 h9) h)∧(∃ aq ar au,hcell h (Addr.add (Addr.add p4 (Int.toNat i_6 * 5)) 4)=some (.slice aq ar au)∧(CallsH P F.qaj [.slice aq ar au,.int .i64 (IntKind.i64.wrap (deep_1+1))] (fun ds dt=>∃ bo,ds=.int .i64 bo∧bd ((IntKind.i64.wrap ((IntKind.i64.wrap ((IntKind.i64.wrap ((IntKind.i64.wrap (t5+13))+((List.length s5:Nat):Int)))+(if (4000:Int)<((List.length s6:Nat):Int) then 4000 else ((List.length s6:Nat):Int))))+bo)):Int) fun n_16=>qaj.j3 K R1 l_0 l_0l l_0c deep_1 n_16 i_6 dt) h)∧(CallsH P F.qaj [.slice aq ar au,.int .i64 (IntKind.i64.wrap (deep_1+1))] (fun du dv=>∃ bp,du=.int .i64 bp∧bd ((IntKind.i64.wrap ((IntKind.i64.wrap ((IntKind.i64.wrap ((IntKind.i64.wrap (t5+13))+((List.length s5:Nat):Int)))+(if (4000:Int)<((List.length s6:Nat):Int) then 4000 else ((List.length s6:Nat):Int))))+bp)):Int) fun n_20=>qaj.j3 K R1 l_0 l_0l l_0c deep_1 n_20 i_6 dv) h)))∧(∃ ag ah ai,hcell h (Addr.add (Addr.add p4 (Int.toNat i_6 * 5)) 4)=some (.slice ag ah ai)∧(∃ s22,hcell h (Addr.add (Addr.add p3 (Int.toNat i_6 * 5)) 3)=some (.string (mkS s22))∧(CallsH P F.qaj [.slice ag ah ai,.int .i64 (IntKind.i64.wrap (deep_1+1))] (fun dw dx=>∃ bq,dw=.int .i64 bq∧bd ((IntKind.i64.wrap ((IntKind.i64.wrap ((IntKind.i64.wrap ((IntKind.i64.wrap (t5+13))+((List.length s5:Nat):Int)))+(if (4000:Int)<((List.length s22:Nat):Int) then 4000 else ((List.length s22:Nat):Int))))+bq)):Int) fun n_26=>qaj.j3 K R1 l_0 l_0l l_0c deep_1 n_26 i_6 dx) h)∧(CallsH P F.qaj [.slice ag ah ai,.int .i64 (IntKind.i64.wrap (deep_1+1))] (fun dy dz=>∃ br,dy=.int .i64 br∧bd ((IntKind.i64.wrap ((IntKind.i64.wrap ((IntKind.i64.wrap ((IntKind.i64.wrap (t5+13))+((List.length s5:Nat):Int)))+(if (4000:Int)<((List.length s22:Nat):Int) then 4000 else ((List.length s22:Nat):Int))))+br)):Int) fun n_30=>qaj.j3 K R1 l_0 l_0l l_0c deep_1 n_30 i_6 dz) h))∧(CallsH P F.qaj [.slice ag ah ai,.int .i64 (IntKind.i64.wrap (deep_1+1))] (fun ea bs=>∃ bt,ea=.int .i64 bt∧∃ aw,hcell bs (Addr.add (Addr.add p3 (Int.toNat i_6 * 5)) 3)=some (.string (mkS aw))∧bd ((IntKind.i64.wrap ((IntKind.i64.wrap ((IntKind.i64.wrap ((IntKind.i64.wrap (t5+13))+((List.length s5:Nat):Int)))+(if (4000:Int)<((List.length aw:Nat):Int) then 4000 else ((List.length aw:Nat):Int))))+bt)):Int) fun n_35=>qaj.j3 K R1 l_0 l_0l l_0c deep_1 n_35 i_6 bs) h)))∧((∃ p,hcell h (Addr.add (Addr.add p3 (Int.toNat i_6 * 5)) 3)=some (.string (mkS p))∧(∃ aj,hcell h (Addr.add (Addr.add p2 (Int.toNat i_6 * 5)) 0)=some (.string (mkS aj))∧(∃ bu bw bx,hcell h (Addr.add (Addr.add p4 (Int.toNat i_6 * 5)) 4)=some (.slice bu bw bx)∧CallsH P F.qaj [.slice bu bw bx,.int .i64 (IntKind.i64.wrap (deep_1+1))] (fun eb ec=>∃ bz,eb=.int .i64 bz∧bd ((IntKind.i64.wrap ((IntKind.i64.wrap ((IntKind.i64.wrap ((IntKind.i64.wrap (t5+13))+((List.length aj:Nat):Int)))+(if (4000:Int)<((List.length p:Nat):Int) then 4000 else ((List.length p:Nat):Int))))+bz)):Int) fun n_42=>qaj.j3 K R1 l_0 l_0l l_0c deep_1 n_42 i_6 ec) h)∧(∃ ax ay az,hcell h (Addr.add (Addr.add p4 (Int.toNat i_6 * 5)) 4)=some (.slice ax ay az)∧(CallsH P F.qaj [.slice ax ay az,.int .i64 (IntKind.i64.wrap (deep_1+1))] (fun ed ee=>∃ ca,ed=.int .i64 ca∧bd ((IntKind.i64.wrap ((IntKind.i64.wrap ((IntKind.i64.wrap ((IntKind.i64.wrap (t5+13))+((List.length aj:Nat):Int)))+(if (4000:Int)<((List.length p:Nat):Int) then 4000 else ((List.length p:Nat):Int))))+ca)):Int) fun n_47=>qaj.j3 K R1 l_0 l_0l l_0c deep_1 n_47 i_6 ee) h)∧(CallsH P F.qaj [.slice ax ay az,.int .i64 (IntKind.i64.wrap (deep_1+1))] (fun ef eg=>∃ cb,ef=.int .i64 cb∧bd ((IntKind.i64.wrap ((IntKind.i64.wrap ((IntKind.i64.wrap ((IntKind.i64.wrap (t5+13))+((List.length aj:Nat):Int)))+(if (4000:Int)<((List.length p:Nat):Int) then 4000 else ((List.length p:Nat):Int))))+cb)):Int) fun n_51=>qaj.j3 K R1 l_0 l_0l l_0c deep_1 n_51 i_6 eg) h)))∧(((∃ cd,hcell h (Addr.add (Addr.add p2 (Int.toNat i_6 * 5)) 0)=some (.string (mkS cd))∧∃ ce cf cg,hcell h (Addr.add (Addr.add p4 (Int.toNat i_6 * 5)) 4)=some (.slice ce cf cg)∧CallsH P F.qaj [.slice ce cf cg,.int .i64 (IntKind.i64.wrap (deep_1+1))] (fun eh ei=>∃ ci,eh=.int .i64 ci∧bd ((IntKind.i64.wrap ((IntKind.i64.wrap ((IntKind.i64.wrap ((IntKind.i64.wrap (t5+13))+((List.length cd:Nat):Int)))+(if (4000:Int)<((List.length p:Nat):Int) then 4000 else ((List.length p:Nat):Int))))+ci)):Int) fun n_57=>qaj.j3 K R1 l_0 l_0l l_0c deep_1 n_57 i_6 ei) h)∧(∃ ba bb bc,hcell h (Addr.add (Addr.add p4 (Int.toNat i_6 * 5)) 4)=some (.slice ba bb bc)∧(∃ cj,hcell h (Addr.add (Addr.add p2 (Int.toNat i_6 * 5)) 0)=some (.string (mkS cj))∧CallsH P F.qaj [.slice ba bb bc,.int .i64 (IntKind.i64.wrap (deep_1+1))] (fun ej ek=>∃ ck,ej=.int .i64 ck∧bd ((IntKind.i64.wrap ((IntKind.i64.wrap ((IntKind.i64.wrap ((IntKind.i64.wrap (t5+13))+((List.length cj:Nat):Int)))+(if (4000:Int)<((List.length p:Nat):Int) then 4000 else ((List.length p:Nat):Int))))+ck)):Int) fun n_63=>qaj.j3 K R1 l_0 l_0l l_0c deep_1 n_63 i_6 ek) h)∧(CallsH P F.qaj [.slice ba bb bc,.int .i64 (IntKind.i64.wrap (deep_1+1))] (fun el cm=>∃ co,el=.int .i64 co∧∃ cp,hcell cm (Addr.add (Addr.add p2 (Int.toNat i_6 * 5)) 0)=some (.string (mkS cp))∧bd ((IntKind.i64.wrap ((IntKind.i64.wrap ((IntKind.i64.wrap ((IntKind.i64.wrap (t5+13))+((List.length cp:Nat):Int)))+(if (4000:Int)<((List.length p:Nat):Int) then 4000 else ((List.length p:Nat):Int))))+co)):Int) fun n_68=>qaj.j3 K R1 l_0 l_0l l_0c deep_1 n_68 i_6 cm) h)))∧(∃ ab ac ad,hcell h (Addr.add (Addr.add p4 (Int.toNat i_6 * 5)) 4)=some (.slice ab ac ad)∧(∃ be,hcell h (Addr.add (Addr.add p2 (Int.toNat i_6 * 5)) 0)=some (.string (mkS be))∧(CallsH P F.qaj [.slice ab ac ad,.int .i64 (IntKind.i64.wrap (deep_1+1))] (fun em en=>∃ cq,em=.int .i64 cq∧bd ((IntKind.i64.wrap ((IntKind.i64.wrap ((IntKind.i64.wrap ((IntKind.i64.wrap (t5+13))+((List.length be:Nat):Int)))+(if (4000:Int)<((List.length p:Nat):Int) then 4000 else ((List.length p:Nat):Int))))+cq)):Int) fun n_74=>qaj.j3 K R1 l_0 l_0l l_0c deep_1 n_74 i_6 en) h)∧(CallsH P F.qaj [.slice ab ac ad,.int .i64 (IntKind.i64.wrap (deep_1+1))] (fun eo ep=>∃ cr,eo=.int .i64 cr∧bd ((IntKind.i64.wrap ((IntKind.i64.wrap ((IntKind.i64.wrap ((IntKind.i64.wrap (t5+13))+((List.length be:Nat):Int)))+(if (4000:Int)<((List.length p:Nat):Int) then 4000 else ((List.length p:Nat):Int))))+cr)):Int) fun n_78=>qaj.j3 K R1 l_0 l_0l l_0c deep_1 n_78 i_6 ep) h))∧(((∃ cv,hcell h (Addr.add (Addr.add p2 (Int.toNat i_6 * 5)) 0)=some (.string (mkS cv))∧CallsH P F.qaj [.slice ab ac ad,.int .i64 (IntKind.i64.wrap (deep_1+1))] (fun es et=>∃ cw,es=.int .i64 cw∧bd ((IntKind.i64.wrap ((IntKind.i64.wrap ((IntKind.i64.wrap ((IntKind.i64.wrap (t5+13))+((List.length cv:Nat):Int)))+(if (4000:Int)<((List.length p:Nat):Int) then 4000 else ((List.length p:Nat):Int))))+cw)):Int) fun n_83=>qaj.j3 K R1 l_0 l_0l l_0c deep_1 n_83 i_6 et) h)∧(CallsH P F.qaj [.slice ab ac ad,.int .i64 (IntKind.i64.wrap (deep_1+1))] (fun eu cx=>∃ cy,eu=.int .i64 cy∧∃ cz,hcell cx (Addr.add (Addr.add p2 (Int.toNat i_6 * 5)) 0)=some (.string (mkS cz))∧bd ((IntKind.i64.wrap ((IntKind.i64.wrap ((IntKind.i64.wrap ((IntKind.i64.wrap (t5+13))+((List.length cz:Nat):Int)))+(if (4000:Int)<((List.length p:Nat):Int) then 4000 else ((List.length p:Nat):Int))))+cy)):Int) fun n_88=>qaj.j3 K R1 l_0 l_0l l_0c deep_1 n_88 i_6 cx) h))∧(CallsH P F.qaj [.slice ab ac ad,.int .i64 (IntKind.i64.wrap (deep_1+1))] (fun ew ak=>∃ bf,ew=.int .i64 bf∧(∃ da,hcell ak (Addr.add (Addr.add p2 (Int.toNat i_6 * 5)) 0)=some (.string (mkS da))∧bd ((IntKind.i64.wrap ((IntKind.i64.wrap ((IntKind.i64.wrap ((IntKind.i64.wrap (t5+13))+((List.length da:Nat):Int)))+(if (4000:Int)<((List.length p:Nat):Int) then 4000 else ((List.length p:Nat):Int))))+bf)):Int) fun n_93=>qaj.j3 K R1 l_0 l_0l l_0c deep_1 n_93 i_6 ak)∧(∃ db,hcell ak (Addr.add (Addr.add p2 (Int.toNat i_6 * 5)) 0)=some (.string (mkS db))∧bd ((IntKind.i64.wrap ((IntKind.i64.wrap ((IntKind.i64.wrap ((IntKind.i64.wrap (t5+13))+((List.length db:Nat):Int)))+(if (4000:Int)<((List.length p:Nat):Int) then 4000 else ((List.length p:Nat):Int))))+bf)):Int) fun n_95=>qaj.j3 K R1 l_0 l_0l l_0c deep_1 n_95 i_6 ak)) h)))))∧(∃ r x z,hcell h (Addr.add (Addr.add p4 (Int.toNat i_6 * 5)) 4)=some (.slice r x z)∧(∃ am,hcell h (Addr.add (Addr.add p2 (Int.toNat i_6 * 5)) 0)=some (.string (mkS am))∧(∃ ae,hcell h (Addr.add (Addr.add p3 (Int.toNat i_6 * 5)) 3)=some (.string (mkS ae))∧(CallsH P F.qaj [.slice r x z,.int .i64 (IntKind.i64.wrap (deep_1+1))] (fun ey ez=>∃ dc,ey=.int .i64 dc∧bd ((IntKind.i64.wrap ((IntKind.i64.wrap ((IntKind.i64.wrap ((IntKind.i64.wrap (t5+13))+((List.length am:Nat):Int)))+(if (4000:Int)<((List.length ae:Nat):Int) then 4000 else ((List.length ae:Nat):Int))))+dc)):Int) fun n_102=>qaj.j3 K R1 l_0 l_0l l_0c deep_1 n_102 i_6 ez) h)∧(CallsH P F.qaj [.slice r x z,.int .i64 (IntKind.i64.wrap (deep_1+1))] (fun fa fb=>∃ dd,fa=.int .i64 dd∧bd ((IntKind.i64.wrap ((IntKind.i64.wrap ((IntKind.i64.wrap ((IntKind.i64.wrap (t5+13))+((List.length am:Nat):Int)))+(if (4000:Int)<((List.length ae:Nat):Int) then 4000 else ((List.length ae:Nat):Int))))+dd)):Int) fun n_106=>qaj.j3 K R1 l_0 l_0l l_0c deep_1 n_106 i_6 fb) h))∧(CallsH P F.qaj [.slice r x z,.int .i64 (IntKind.i64.wrap (deep_1+1))] (fun fc de=>∃ df,fc=.int .i64 df∧∃ bg,hcell de (Addr.add (Addr.add p3 (Int.toNat i_6 * 5)) 3)=some (.string (mkS bg))∧bd ((IntKind.i64.wrap ((IntKind.i64.wrap ((IntKind.i64.wrap ((IntKind.i64.wrap (t5+13))+((List.length am:Nat):Int)))+(if (4000:Int)<((List.length bg:Nat):Int) then 4000 else ((List.length bg:Nat):Int))))+df)):Int) fun n_111=>qaj.j3 K R1 l_0 l_0l l_0c deep_1 n_111 i_6 de) h))∧((∃ q,hcell h (Addr.add (Addr.add p3 (Int.toNat i_6 * 5)) 3)=some (.string (mkS q))∧(∃ bh,hcell h (Addr.add (Addr.add p2 (Int.toNat i_6 * 5)) 0)=some (.string (mkS bh))∧(CallsH P F.qaj [.slice r x z,.int .i64 (IntKind.i64.wrap (deep_1+1))] (fun fd fe=>∃ dg,fd=.int .i64 dg∧bd ((IntKind.i64.wrap ((IntKind.i64.wrap ((IntKind.i64.wrap ((IntKind.i64.wrap (t5+13))+((List.length bh:Nat):Int)))+(if (4000:Int)<((List.length q:Nat):Int) then 4000 else ((List.length q:Nat):Int))))+dg)):Int) fun n_117=>qaj.j3 K R1 l_0 l_0l l_0c deep_1 n_117 i_6 fe) h)∧(CallsH P F.qaj [.slice r x z,.int .i64 (IntKind.i64.wrap (deep_1+1))] (fun ff fg=>∃ n120,ff=.int .i64 n120∧bd ((IntKind.i64.wrap ((IntKind.i64.wrap ((IntKind.i64.wrap ((IntKind.i64.wrap (t5+13))+((List.length bh:Nat):Int)))+(if (4000:Int)<((List.length q:Nat):Int) then 4000 else ((List.length q:Nat):Int))))+n120)):Int) fun n_121=>qaj.j3 K R1 l_0 l_0l l_0c deep_1 n_121 i_6 fg) h))∧(((∃ dh,hcell h (Addr.add (Addr.add p2 (Int.toNat i_6 * 5)) 0)=some (.string (mkS dh))∧CallsH P F.qaj [.slice r x z,.int .i64 (IntKind.i64.wrap (deep_1+1))] (fun fh fi=>∃ di,fh=.int .i64 di∧bd ((IntKind.i64.wrap ((IntKind.i64.wrap ((IntKind.i64.wrap ((IntKind.i64.wrap (t5+13))+((List.length dh:Nat):Int)))+(if (4000:Int)<((List.length q:Nat):Int) then 4000 else ((List.length q:Nat):Int))))+di)):Int) fun n_126=>qaj.j3 K R1 l_0 l_0l l_0c deep_1 n_126 i_6 fi) h)∧(CallsH P F.qaj [.slice r x z,.int .i64 (IntKind.i64.wrap (deep_1+1))] (fun fj dj=>∃ dk,fj=.int .i64 dk∧∃ dl,hcell dj (Addr.add (Addr.add p2 (Int.toNat i_6 * 5)) 0)=some (.string (mkS dl))∧bd ((IntKind.i64.wrap ((IntKind.i64.wrap ((IntKind.i64.wrap ((IntKind.i64.wrap (t5+13))+((List.length dl:Nat):Int)))+(if (4000:Int)<((List.length q:Nat):Int) then 4000 else ((List.length q:Nat):Int))))+dk)):Int) fun n_131=>qaj.j3 K R1 l_0 l_0l l_0c deep_1 n_131 i_6 dj) h))∧(CallsH P F.qaj [.slice r x z,.int .i64 (IntKind.i64.wrap (deep_1+1))] (fun fk an=>∃ bi,fk=.int .i64 bi∧(∃ dm,hcell an (Addr.add (Addr.add p2 (Int.toNat i_6 * 5)) 0)=some (.string (mkS dm))∧bd ((IntKind.i64.wrap ((IntKind.i64.wrap ((IntKind.i64.wrap ((IntKind.i64.wrap (t5+13))+((List.length dm:Nat):Int)))+(if (4000:Int)<((List.length q:Nat):Int) then 4000 else ((List.length q:Nat):Int))))+bi)):Int) fun n_136=>qaj.j3 K R1 l_0 l_0l l_0c deep_1 n_136 i_6 an)∧(∃ dn,hcell an (Addr.add (Addr.add p2 (Int.toNat i_6 * 5)) 0)=some (.string (mkS dn))∧bd ((IntKind.i64.wrap ((IntKind.i64.wrap ((IntKind.i64.wrap ((IntKind.i64.wrap (t5+13))+((List.length dn:Nat):Int)))+(if (4000:Int)<((List.length q:Nat):Int) then 4000 else ((List.length q:Nat):Int))))+bi)):Int) fun n_138=>qaj.j3 K R1 l_0 l_0l l_0c deep_1 n_138 i_6 an)) h)))∧(CallsH P F.qaj [.slice r x z,.int .i64 (IntKind.i64.wrap (deep_1+1))] (fun fl aa=>∃ ao,fl=.int .i64 ao∧(∃ dp,hcell aa (Addr.add (Addr.add p2 (Int.toNat i_6 * 5)) 0)=some (.string (mkS dp))∧∃ bj,hcell aa (Addr.add (Addr.add p3 (Int.toNat i_6 * 5)) 3)=some (.string (mkS bj))∧bd ((IntKind.i64.wrap ((IntKind.i64.wrap ((IntKind.i64.wrap ((IntKind.i64.wrap (t5+13))+((List.length dp:Nat):Int)))+(if (4000:Int)<((List.length bj:Nat):Int) then 4000 else ((List.length bj:Nat):Int))))+ao)):Int) fun n_144=>qaj.j3 K R1 l_0 l_0l l_0c deep_1 n_144 i_6 aa)∧(∃ af,hcell aa (Addr.add (Addr.add p3 (Int.toNat i_6 * 5)) 3)=some (.string (mkS af))∧(∃ dq,hcell aa (Addr.add (Addr.add p2 (Int.toNat i_6 * 5)) 0)=some (.string (mkS dq))∧bd ((IntKind.i64.wrap ((IntKind.i64.wrap ((IntKind.i64.wrap ((IntKind.i64.wrap (t5+13))+((List.length dq:Nat):Int)))+(if (4000:Int)<((List.length af:Nat):Int) then 4000 else ((List.length af:Nat):Int))))+ao)):Int) fun n_147=>qaj.j3 K R1 l_0 l_0l l_0c deep_1 n_147 i_6 aa)∧(∃ dr,hcell aa (Addr.add (Addr.add p2 (Int.toNat i_6 * 5)) 0)=some (.string (mkS dr))∧bd ((IntKind.i64.wrap ((IntKind.i64.wrap ((IntKind.i64.wrap ((IntKind.i64.wrap (t5+13))+((List.length dr:Nat):Int)))+(if (4000:Int)<((List.length af:Nat):Int) then 4000 else ((List.length af:Nat):Int))))+ao)):Int) fun n_149=>qaj.j3 K R1 l_0 l_0l l_0c deep_1 n_149 i_6 aa))) h)))))∧(bk=false→K (.int .i64 t5) h)
def qaj.j2.l:Live:=[(0,.slice),(1,.int .i64),(5,.int .i64),(6,.int .i64),(18,.bool)]
def qaj.j2.j (K:KT) (R1:OA→Nat→Nat→Int→Int→Int→Heap→Prop):Tup qaj.j2.l→Heap→Prop:=fun x h=>qaj.j2 K R1 x.1.1 x.1.2.1 x.1.2.2 x.2.1 x.2.2.1 x.2.2.2.1 x.2.2.2.2.1 h
def qaj.L1 (K:KT):Nat→OA→Nat→Nat→Int→Int→Int→Heap→Prop
  | 0,_,_,_,_,_,_,_=>False
  | fuel+1,l_0,l_0l,l_0c,deep_1,t5,i_6,h=>((decide (i_6<((l_0l:Nat):Int)))=true→((decide (t5≤2000))=true→qaj.j2 K (qaj.L1 K fuel) l_0 l_0l l_0c deep_1 t5 i_6 (decide (deep_1≤8)) h)∧((decide (t5≤2000))=false→qaj.j2 K (qaj.L1 K fuel) l_0 l_0l l_0c deep_1 t5 i_6 false h))∧((decide (i_6<((l_0l:Nat):Int)))=false→qaj.j2 K (qaj.L1 K fuel) l_0 l_0l l_0c deep_1 t5 i_6 false h)
termination_by structural n=>n
def qaj.L1.l:Live:=[(0,.slice),(1,.int .i64),(5,.int .i64),(6,.int .i64)]
def qaj.L1.j (K:KT):Nat→Tup qaj.L1.l→Heap→Prop:=fun n x h=>qaj.L1 K n x.1.1 x.1.2.1 x.1.2.2 x.2.1 x.2.2.1 x.2.2.2.1 h
def qaj.p0 (K:KT) (l_0:OA) (l_0l:Nat) (l_0c:Nat) (deep_1:Int) (h:Heap):Prop :=
  ∃ fuel150,qaj.L1 K fuel150 l_0 l_0l l_0c deep_1 0 0 h
def qaj.plan (K:KT):Plan:=(.seq .go (.seq .go (.seq (.seq .go (.block (.loop qaj.L1.l (qaj.L1.j K) (fun n1=>(.seq (.cut qaj.j2.l (qaj.j2.j K (qaj.L1 K n1)) .go .go) (.cut qaj.j3.l (qaj.j3.j K (qaj.L1 K n1)) (.block (.orders (.op 0 (.op 1 (.op 2 (.op 3 (.op 4 (.op 5 (.op 9 (.op 10 (.op 11 (.op 12 (.op 17 (.op 18 (.op 19 (.op 20 (.op 22 (.op 23 (.both (.op 6 (.op 7 (.op 8 (.both (.op 13 (.op 14 (.both (.op 15 (.op 16 (.op 21 (.op 24 (.op 25 (.op 26 .nil)))))) (.op 21 (.both (.op 15 (.op 16 (.op 24 (.op 25 (.op 26 .nil))))) (.op 24 (.op 15 (.op 16 (.op 25 (.op 26 .nil)))))))))) (.op 21 (.both (.op 13 (.op 14 (.both (.op 15 (.op 16 (.op 24 (.op 25 (.op 26 .nil))))) (.op 24 (.op 15 (.op 16 (.op 25 (.op 26 .nil)))))))) (.op 24 (.op 13 (.op 14 (.op 15 (.op 16 (.op 25 (.op 26 .nil))))))))))))) (.both (.op 13 (.op 14 (.both (.op 6 (.op 7 (.op 8 (.both (.op 15 (.op 16 (.op 21 (.op 24 (.op 25 (.op 26 .nil)))))) (.op 21 (.both (.op 15 (.op 16 (.op 24 (.op 25 (.op 26 .nil))))) (.op 24 (.op 15 (.op 16 (.op 25 (.op 26 .nil))))))))))) (.both (.op 15 (.both (.op 6 (.op 7 (.op 8 (.op 16 (.op 21 (.op 24 (.op 25 (.op 26 .nil)))))))) (.op 21 (.both (.op 6 (.op 7 (.op 8 (.op 16 (.op 24 (.op 25 (.op 26 .nil))))))) (.op 24 (.op 6 (.op 7 (.op 8 (.op 16 (.op 25 (.op 26 .nil))))))))))) (.op 21 (.both (.op 6 (.op 7 (.op 8 (.both (.op 15 (.op 16 (.op 24 (.op 25 (.op 26 .nil))))) (.op 24 (.op 15 (.op 16 (.op 25 (.op 26 .nil))))))))) (.both (.op 15 (.both (.op 6 (.op 7 (.op 8 (.op 16 (.op 24 (.op 25 (.op 26 .nil))))))) (.op 24 (.op 6 (.op 7 (.op 8 (.op 16 (.op 25 (.op 26 .nil))))))))) (.op 24 (.both (.op 6 (.op 7 (.op 8 (.op 15 (.op 16 (.op 25 (.op 26 .nil))))))) (.op 15 (.op 6 (.op 7 (.op 8 (.op 16 (.op 25 (.op 26 .nil)))))))))))))))) (.op 21 (.both (.op 6 (.op 7 (.op 8 (.both (.op 13 (.op 14 (.both (.op 15 (.op 16 (.op 24 (.op 25 (.op 26 .nil))))) (.op 24 (.op 15 (.op 16 (.op 25 (.op 26 .nil)))))))) (.op 24 (.op 13 (.op 14 (.op 15 (.op 16 (.op 25 (.op 26 .nil))))))))))) (.both (.op 13 (.op 14 (.both (.op 6 (.op 7 (.op 8 (.both (.op 15 (.op 16 (.op 24 (.op 25 (.op 26 .nil))))) (.op 24 (.op 15 (.op 16 (.op 25 (.op 26 .nil))))))))) (.both (.op 15 (.both (.op 6 (.op 7 (.op 8 (.op 16 (.op 24 (.op 25 (.op 26 .nil))))))) (.op 24 (.op 6 (.op 7 (.op 8 (.op 16 (.op 25 (.op 26 .nil))))))))) (.op 24 (.both (.op 6 (.op 7 (.op 8 (.op 15 (.op 16 (.op 25 (.op 26 .nil))))))) (.op 15 (.op 6 (.op 7 (.op 8 (.op 16 (.op 25 (.op 26 .nil))))))))))))) (.op 24 (.both (.op 6 (.op 7 (.op 8 (.op 13 (.op 14 (.op 15 (.op 16 (.op 25 (.op 26 .nil))))))))) (.op 13 (.op 14 (.both (.op 6 (.op 7 (.op 8 (.op 15 (.op 16 (.op 25 (.op 26 .nil))))))) (.op 15 (.op 6 (.op 7 (.op 8 (.op 16 (.op 25 (.op 26 .nil))))))))))))))))))))))))))))))))))) .go)))))) .go)))
theorem qaj.ev_eq:qaj.p0=fun K l_0 l_0l l_0c deep_1 h=>Ev P Tryz.f90 (qaj.plan K) K [.slice l_0 l_0l l_0c,.int .i64 deep_1] h:=by kernel_rfl
theorem qaj.obl (K:KT):Obl P Tryz.f90 (qaj.plan K) K :=
  obl_of (R:=(∀ x h,¬ (qaj.L1.j K) 0 x h)∧ImpN (qaj.L1.j K)∧(∀ (n1:Nat),Imp (qaj.j2.j K (qaj.L1 K n1))∧DrawOK P Tryz.f90.ntmps (opsAt 5 (bodyOf Tryz.f90)) (.op 0 (.op 1 (.op 2 (.op 3 (.op 4 (.op 5 (.op 9 (.op 10 (.op 11 (.op 12 (.op 17 (.op 18 (.op 19 (.op 20 (.op 22 (.op 23 (.both (.op 6 (.op 7 (.op 8 (.both (.op 13 (.op 14 (.both (.op 15 (.op 16 (.op 21 (.op 24 (.op 25 (.op 26 .nil)))))) (.op 21 (.both (.op 15 (.op 16 (.op 24 (.op 25 (.op 26 .nil))))) (.op 24 (.op 15 (.op 16 (.op 25 (.op 26 .nil)))))))))) (.op 21 (.both (.op 13 (.op 14 (.both (.op 15 (.op 16 (.op 24 (.op 25 (.op 26 .nil))))) (.op 24 (.op 15 (.op 16 (.op 25 (.op 26 .nil)))))))) (.op 24 (.op 13 (.op 14 (.op 15 (.op 16 (.op 25 (.op 26 .nil))))))))))))) (.both (.op 13 (.op 14 (.both (.op 6 (.op 7 (.op 8 (.both (.op 15 (.op 16 (.op 21 (.op 24 (.op 25 (.op 26 .nil)))))) (.op 21 (.both (.op 15 (.op 16 (.op 24 (.op 25 (.op 26 .nil))))) (.op 24 (.op 15 (.op 16 (.op 25 (.op 26 .nil))))))))))) (.both (.op 15 (.both (.op 6 (.op 7 (.op 8 (.op 16 (.op 21 (.op 24 (.op 25 (.op 26 .nil)))))))) (.op 21 (.both (.op 6 (.op 7 (.op 8 (.op 16 (.op 24 (.op 25 (.op 26 .nil))))))) (.op 24 (.op 6 (.op 7 (.op 8 (.op 16 (.op 25 (.op 26 .nil))))))))))) (.op 21 (.both (.op 6 (.op 7 (.op 8 (.both (.op 15 (.op 16 (.op 24 (.op 25 (.op 26 .nil))))) (.op 24 (.op 15 (.op 16 (.op 25 (.op 26 .nil))))))))) (.both (.op 15 (.both (.op 6 (.op 7 (.op 8 (.op 16 (.op 24 (.op 25 (.op 26 .nil))))))) (.op 24 (.op 6 (.op 7 (.op 8 (.op 16 (.op 25 (.op 26 .nil))))))))) (.op 24 (.both (.op 6 (.op 7 (.op 8 (.op 15 (.op 16 (.op 25 (.op 26 .nil))))))) (.op 15 (.op 6 (.op 7 (.op 8 (.op 16 (.op 25 (.op 26 .nil)))))))))))))))) (.op 21 (.both (.op 6 (.op 7 (.op 8 (.both (.op 13 (.op 14 (.both (.op 15 (.op 16 (.op 24 (.op 25 (.op 26 .nil))))) (.op 24 (.op 15 (.op 16 (.op 25 (.op 26 .nil)))))))) (.op 24 (.op 13 (.op 14 (.op 15 (.op 16 (.op 25 (.op 26 .nil))))))))))) (.both (.op 13 (.op 14 (.both (.op 6 (.op 7 (.op 8 (.both (.op 15 (.op 16 (.op 24 (.op 25 (.op 26 .nil))))) (.op 24 (.op 15 (.op 16 (.op 25 (.op 26 .nil))))))))) (.both (.op 15 (.both (.op 6 (.op 7 (.op 8 (.op 16 (.op 24 (.op 25 (.op 26 .nil))))))) (.op 24 (.op 6 (.op 7 (.op 8 (.op 16 (.op 25 (.op 26 .nil))))))))) (.op 24 (.both (.op 6 (.op 7 (.op 8 (.op 15 (.op 16 (.op 25 (.op 26 .nil))))))) (.op 15 (.op 6 (.op 7 (.op 8 (.op 16 (.op 25 (.op 26 .nil))))))))))))) (.op 24 (.both (.op 6 (.op 7 (.op 8 (.op 13 (.op 14 (.op 15 (.op 16 (.op 25 (.op 26 .nil))))))))) (.op 13 (.op 14 (.both (.op 6 (.op 7 (.op 8 (.op 15 (.op 16 (.op 25 (.op 26 .nil))))))) (.op 15 (.op 6 (.op 7 (.op 8 (.op 16 (.op 25 (.op 26 .nil)))))))))))))))))))))))))))))))))∧Imp (qaj.j3.j K (qaj.L1 K n1))∧True)∧True) (by kernel_rfl) ⟨fun _ _ H=>H,impN _,fun _=>⟨imp _,⟨draw_ok (by kernel_rfl),⟨imp _,trivial⟩⟩⟩,trivial⟩
theorem qaj.ok {K:KT}{l_0:OA}{l_0l:Nat}{l_0c:Nat}{deep_1:Int}{h:Heap} (H:qaj.p0 K l_0 l_0l l_0c deep_1 h):CallsH P F.qaj [.slice l_0 l_0l l_0c,.int .i64 deep_1] K h :=
  calls_of_Ev (qaj.plan K) Tryz.func90 (by kernel_rfl) (qaj.obl K) (by rw [qaj.ev_eq] at H; exact H)
def qbq.L1 (K:KT):Nat→Int→OA→Nat→Nat→Int→Heap→Prop
  | 0,_,_,_,_,_,_=>False
  | fuel+1,v_2,out_7,out_7l,out_7c,i_8,h=>((decide (i_8 ≥ 0))=true→(0:Int)≤(IntKind.u64.wrap (IntKind.i64.wrap ((8:Int) * i_8)))∧bd (al h #[.int .u8 (IntKind.u8.wrap (shrI .u64 v_2 (IntKind.u64.wrap (IntKind.i64.wrap ((8:Int) * i_8)))))] T.uint8) fun h6=>SemH P (Builtin.append_ #[T.sl_uint8,T.sl_uint8] T.sl_uint8 #[.slice out_7 out_7l out_7c,.slice (some (top h)) 1 1]) (fun v7 h8=>∃ a9 p q,v7=.slice a9 p q∧bd ((IntKind.i64.wrap (i_8 - 1)):Int) fun i_10=>(qbq.L1 K fuel) v_2 a9 p q i_10 h8) h6)∧((decide (i_8 ≥ 0))=false→K (.slice out_7 out_7l out_7c) h)
termination_by structural n=>n
def qbq.L1.l:Live:=[(2,.int .u64),(7,.slice),(8,.int .i64)]
def qbq.L1.j (K:KT):Nat→Tup qbq.L1.l→Heap→Prop:=fun n x h=>qbq.L1 K n x.1 x.2.1.1 x.2.1.2.1 x.2.1.2.2 x.2.2.1 h
def qbq.p0 (K:KT) (b_0:OA) (b_0l:Nat) (b_0c:Nat) (t1:Int) (v_2:Int) (h:Heap):Prop :=
  bd (al h #[] T.uint8) fun h1=>SemH P (Builtin.append_ #[T.sl_uint8,T.sl_uint8] T.sl_uint8 #[.slice (some (top h)) 0 0,.slice b_0 b_0l b_0c]) (fun v2 h3=>∃ a4 p q,v2=.slice a4 p q∧bd ((IntKind.i64.wrap (t1 - 1)):Int) fun i_5=>∃ fuel11,qbq.L1 K fuel11 v_2 a4 p q i_5 h3) h1
def qbq.plan (K:KT):Plan:=(.seq .go (.seq .go (.seq (.seq .go (.block (.loop qbq.L1.l (qbq.L1.j K) (fun n1=>.go)))) .go)))
theorem qbq.ev_eq:qbq.p0=fun K b_0 b_0l b_0c t1 v_2 h=>Ev P Tryz.f42 (qbq.plan K) K [.slice b_0 b_0l b_0c,.int .i64 t1,.int .u64 v_2] h:=by kernel_rfl
theorem qbq.obl (K:KT):Obl P Tryz.f42 (qbq.plan K) K :=
  obl_of (R:=(∀ x h,¬ (qbq.L1.j K) 0 x h)∧ImpN (qbq.L1.j K)∧(∀ (n1:Nat),True)∧True) (by kernel_rfl) ⟨fun _ _ H=>H,impN _,fun _=>trivial,trivial⟩
theorem qbq.ok {K:KT}{b_0:OA}{b_0l:Nat}{b_0c:Nat}{t1:Int}{v_2:Int}{h:Heap} (H:qbq.p0 K b_0 b_0l b_0c t1 v_2 h):CallsH P F.qbq [.slice b_0 b_0l b_0c,.int .i64 t1,.int .u64 v_2] K h :=
  calls_of_Ev (qbq.plan K) Tryz.func42 (by kernel_rfl) (qbq.obl K) (by rw [qbq.ev_eq] at H; exact H)
def qco.p0 (K:KT) (b_0:OA) (b_0l:Nat) (b_0c:Nat) (s_1:List UInt8) (h:Heap):Prop :=
  CallsH P F.qbq [.slice b_0 b_0l b_0c,.int .i64 1,.int .u64 (IntKind.u64.wrap ((List.length s_1:Nat):Int))] (fun v1 h2=>∃ a3 p q,v1=.slice a3 p q∧SemH P (Builtin.append_ #[T.sl_uint8,T.string] T.sl_uint8 #[.slice a3 p q,.string (mkS s_1)]) (fun v4 h5=>∃ a6 r x,v4=.slice a6 r x∧K (.slice a6 r x) h5) h2) h
def qco.plan (K:KT):Plan:=.go
theorem qco.ev_eq:qco.p0=fun K b_0 b_0l b_0c s_1 h=>Ev P Tryz.f43 (qco.plan K) K [.slice b_0 b_0l b_0c,.string (mkS s_1)] h:=by kernel_rfl
theorem qco.obl (K:KT):Obl P Tryz.f43 (qco.plan K) K :=
  obl_true (by kernel_rfl)
theorem qco.ok {K:KT}{b_0:OA}{b_0l:Nat}{b_0c:Nat}{s_1:List UInt8}{h:Heap} (H:qco.p0 K b_0 b_0l b_0c s_1 h):CallsH P F.qco [.slice b_0 b_0l b_0c,.string (mkS s_1)] K h :=
  calls_of_Ev (qco.plan K) Tryz.func43 (by kernel_rfl) (qco.obl K) (by rw [qco.ev_eq] at H; exact H)
def qcu.p0 (K:KT) (b_0:OA) (b_0l:Nat) (b_0c:Nat) (s_1:OA) (s_1l:Nat) (s_1c:Nat) (h:Heap):Prop :=
  CallsH P F.qbq [.slice b_0 b_0l b_0c,.int .i64 4,.int .u64 (IntKind.u64.wrap ((s_1l:Nat):Int))] (fun v1 h2=>∃ a3 p q,v1=.slice a3 p q∧SemH P (Builtin.append_ #[T.sl_uint8,T.sl_uint8] T.sl_uint8 #[.slice a3 p q,.slice s_1 s_1l s_1c]) (fun v4 h5=>∃ a6 r x,v4=.slice a6 r x∧K (.slice a6 r x) h5) h2) h
def qcu.plan (K:KT):Plan:=.go
theorem qcu.ev_eq:qcu.p0=fun K b_0 b_0l b_0c s_1 s_1l s_1c h=>Ev P Tryz.f44 (qcu.plan K) K [.slice b_0 b_0l b_0c,.slice s_1 s_1l s_1c] h:=by kernel_rfl
theorem qcu.obl (K:KT):Obl P Tryz.f44 (qcu.plan K) K :=
  obl_true (by kernel_rfl)
theorem qcu.ok {K:KT}{b_0:OA}{b_0l:Nat}{b_0c:Nat}{s_1:OA}{s_1l:Nat}{s_1c:Nat}{h:Heap} (H:qcu.p0 K b_0 b_0l b_0c s_1 s_1l s_1c h):CallsH P F.qcu [.slice b_0 b_0l b_0c,.slice s_1 s_1l s_1c] K h :=
  calls_of_Ev (qcu.plan K) Tryz.func44 (by kernel_rfl) (qcu.obl K) (by rw [qcu.ev_eq] at H; exact H)
def qan.j2 (K:KT) (R1:OA→Nat→Nat→OA→Nat→Nat→Int→Heap→Prop) (t0:OA) (p:Nat) (q:Nat) (t3:OA) (r:Nat) (x:Nat) (t4:Int) (h:Heap):Prop :=
  bd ((IntKind.i64.wrap (t4+1)):Int) fun n1=>R1 t0 p q t3 r x n1 h
def qan.j2.l:Live:=[(0,.slice),(3,.slice),(4,.int .i64)]
def qan.j2.j (K:KT) (R1:OA→Nat→Nat→OA→Nat→Nat→Int→Heap→Prop):Tup qan.j2.l→Heap→Prop:=fun x h=>qan.j2 K R1 x.1.1 x.1.2.1 x.1.2.2 x.2.1.1 x.2.1.2.1 x.2.1.2.2 x.2.2.1 h
def qan.j3 (K:KT) (R1:OA→Nat→Nat→OA→Nat→Nat→Int→Heap→Prop) (t0:OA) (p:Nat) (q:Nat) (t3:OA) (r:Nat) (x:Nat) (t4:Int) (h:Heap):Prop :=
  ∃ p2,t0=some p2∧(0:Int)≤t4∧t4<((p:Nat):Int)∧∃ n3,hcell h (Addr.add (Addr.add p2 (Int.toNat t4 * 5)) 1)=some (.int .u8 n3)∧bd ((n3==116):Bool) fun b4=>(b4=true→∃ p5,t0=some p5∧(0:Int)≤t4∧t4<((p:Nat):Int)∧∃ n6,hcell h (Addr.add (Addr.add p5 (Int.toNat t4 * 5)) 2)=some (.int .i64 n6)∧CallsH P F.qbq [.slice t3 r x,.int .i64 1,.int .u64 (IntKind.u64.wrap n6)] (fun v7 h8=>∃ a9 z aa,v7=.slice a9 z aa∧qan.j2 K R1 t0 p q a9 z aa t4 h8) h)∧(b4=false→bd ((n3==73):Bool) fun ab=>(ab=true→∃ ac,t0=some ac∧(0:Int)≤t4∧t4<((p:Nat):Int)∧∃ ad,hcell h (Addr.add (Addr.add ac (Int.toNat t4 * 5)) 2)=some (.int .i64 ad)∧CallsH P F.qbq [.slice t3 r x,.int .i64 4,.int .u64 (IntKind.u64.wrap ad)] (fun bm bn=>∃ ae af ag,bm=.slice ae af ag∧qan.j2 K R1 t0 p q ae af ag t4 bn) h)∧(ab=false→bd ((n3==108):Bool) fun ah=>(ah=true→∃ ai,t0=some ai∧(0:Int)≤t4∧t4<((p:Nat):Int)∧∃ aj,hcell h (Addr.add (Addr.add ai (Int.toNat t4 * 5)) 2)=some (.int .i64 aj)∧CallsH P F.qbq [.slice t3 r x,.int .i64 8,.int .u64 (IntKind.u64.wrap aj)] (fun bo bp=>∃ ak am an,bo=.slice ak am an∧qan.j2 K R1 t0 p q ak am an t4 bp) h)∧(ah=false→bd ((n3==83):Bool) fun ao=>(ao=true→∃ aq,t0=some aq∧(0:Int)≤t4∧t4<((p:Nat):Int)∧∃ s24,hcell h (Addr.add (Addr.add aq (Int.toNat t4 * 5)) 3)=some (.string (mkS s24))∧SemH P (Go.convert T.string T.sl_uint8 (.string (mkS s24))) (fun bq br=>∃ ar au aw,bq=.slice ar au aw∧CallsH P F.qcu [.slice t3 r x,.slice ar au aw] (fun bs bt=>∃ ax ay az,bs=.slice ax ay az∧qan.j2 K R1 t0 p q ax ay az t4 bt) br) h)∧(ao=false→bd ((n3==70):Bool) fun ba=>(ba=true→∃ bb,t0=some bb∧(0:Int)≤t4∧t4<((p:Nat):Int)∧∃ bc be bf,hcell h (Addr.add (Addr.add bb (Int.toNat t4 * 5)) 4)=some (.slice bc be bf)∧CallsH P F.qan [.slice bc be bf] (fun bu bw=>∃ bg bh bi,bu=.slice bg bh bi∧CallsH P F.qcu [.slice t3 r x,.slice bg bh bi] (fun bx bz=>∃ bj bk bl,bx=.slice bj bk bl∧qan.j2 K R1 t0 p q bj bk bl t4 bz) bw) h)∧(ba=false→qan.j2 K R1 t0 p q t3 r x t4 h)))))
def qan.j3.l:Live:=[(0,.slice),(3,.slice),(4,.int .i64)]
def qan.j3.j (K:KT) (R1:OA→Nat→Nat→OA→Nat→Nat→Int→Heap→Prop):Tup qan.j3.l→Heap→Prop:=fun x h=>qan.j3 K R1 x.1.1 x.1.2.1 x.1.2.2 x.2.1.1 x.2.1.2.1 x.2.1.2.2 x.2.2.1 h
def qan.L1 (K:KT):Nat→OA→Nat→Nat→OA→Nat→Nat→Int→Heap→Prop
  | 0,_,_,_,_,_,_,_,_=>False
  | fuel+1,t0,p,x,t3,q,r,t4,h=>((decide (t4<((p:Nat):Int)))=true→∃ z,t0=some z∧(0:Int)≤t4∧t4<((p:Nat):Int)∧∃ aa,t0=some aa∧(0:Int)≤t4∧t4<((p:Nat):Int)∧(∃ ab,hcell h (Addr.add (Addr.add z (Int.toNat t4 * 5)) 0)=some (.string (mkS ab))∧(CallsH P F.qco [.slice t3 q r,.string (mkS ab)] (fun ce ad=>∃ ag ah ai,ce=.slice ag ah ai∧∃ aj,hcell ad (Addr.add (Addr.add aa (Int.toNat t4 * 5)) 1)=some (.int .u8 aj)∧bd (al ad #[.int .u8 aj] T.uint8) fun cf=>SemH P (Builtin.append_ #[T.sl_uint8,T.sl_uint8] T.sl_uint8 #[.slice ag ah ai,.slice (some (top ad)) 1 1]) (fun cg ci=>∃ ak am an,cg=.slice ak am an∧qan.j3 K (qan.L1 K fuel) t0 p x ak am an t4 ci) cf) h)∧(∃ ae,hcell h (Addr.add (Addr.add aa (Int.toNat t4 * 5)) 1)=some (.int .u8 ae)∧(CallsH P F.qco [.slice t3 q r,.string (mkS ab)] (fun cj ao=>∃ aq ar au,cj=.slice aq ar au∧bd (al ao #[.int .u8 ae] T.uint8) fun ck=>SemH P (Builtin.append_ #[T.sl_uint8,T.sl_uint8] T.sl_uint8 #[.slice aq ar au,.slice (some (top ao)) 1 1]) (fun cm co=>∃ aw ax ay,cm=.slice aw ax ay∧qan.j3 K (qan.L1 K fuel) t0 p x aw ax ay t4 co) ck) h)∧(bd (al h #[.int .u8 ae] T.uint8) fun cp=>CallsH P F.qco [.slice t3 q r,.string (mkS ab)] (fun cq cr=>∃ az ba bb,cq=.slice az ba bb∧SemH P (Builtin.append_ #[T.sl_uint8,T.sl_uint8] T.sl_uint8 #[.slice az ba bb,.slice (some (top h)) 1 1]) (fun cv cw=>∃ bc be bf,cv=.slice bc be bf∧qan.j3 K (qan.L1 K fuel) t0 p x bc be bf t4 cw) cr) cp)))∧(∃ ac,hcell h (Addr.add (Addr.add aa (Int.toNat t4 * 5)) 1)=some (.int .u8 ac)∧(∃ af,hcell h (Addr.add (Addr.add z (Int.toNat t4 * 5)) 0)=some (.string (mkS af))∧(CallsH P F.qco [.slice t3 q r,.string (mkS af)] (fun cx bg=>∃ bh bi bj,cx=.slice bh bi bj∧bd (al bg #[.int .u8 ac] T.uint8) fun cy=>SemH P (Builtin.append_ #[T.sl_uint8,T.sl_uint8] T.sl_uint8 #[.slice bh bi bj,.slice (some (top bg)) 1 1]) (fun cz da=>∃ bk bl bm,cz=.slice bk bl bm∧qan.j3 K (qan.L1 K fuel) t0 p x bk bl bm t4 da) cy) h)∧(bd (al h #[.int .u8 ac] T.uint8) fun db=>CallsH P F.qco [.slice t3 q r,.string (mkS af)] (fun dc dd=>∃ bn bo bp,dc=.slice bn bo bp∧SemH P (Builtin.append_ #[T.sl_uint8,T.sl_uint8] T.sl_uint8 #[.slice bn bo bp,.slice (some (top h)) 1 1]) (fun de df=>∃ bq br bs,de=.slice bq br bs∧qan.j3 K (qan.L1 K fuel) t0 p x bq br bs t4 df) dd) db))∧(bd (al h #[.int .u8 ac] T.uint8) fun bt=>∃ bu,hcell bt (Addr.add (Addr.add z (Int.toNat t4 * 5)) 0)=some (.string (mkS bu))∧CallsH P F.qco [.slice t3 q r,.string (mkS bu)] (fun dg dh=>∃ bw bx bz,dg=.slice bw bx bz∧SemH P (Builtin.append_ #[T.sl_uint8,T.sl_uint8] T.sl_uint8 #[.slice bw bx bz,.slice (some (top h)) 1 1]) (fun di dj=>∃ ca cb cd,di=.slice ca cb cd∧qan.j3 K (qan.L1 K fuel) t0 p x ca cb cd t4 dj) dh) bt)))∧((decide (t4<((p:Nat):Int)))=false→K (.slice t3 q r) h)
termination_by structural n=>n
def qan.L1.l:Live:=[(0,.slice),(3,.slice),(4,.int .i64)]
def qan.L1.j (K:KT):Nat→Tup qan.L1.l→Heap→Prop:=fun n x h=>qan.L1 K n x.1.1 x.1.2.1 x.1.2.2 x.2.1.1 x.2.1.2.1 x.2.1.2.2 x.2.2.1 h
def qan.p0 (K:KT) (t0:OA) (p:Nat) (q:Nat) (h:Heap):Prop :=
  ∃ fuel90,qan.L1 K fuel90 t0 p q none 0 0 0 h
def qan.plan (K:KT):Plan:=(.seq .go (.seq .go (.seq (.seq .go (.block (.loop qan.L1.l (qan.L1.j K) (fun n1=>(.seq .go (.cut qan.j2.l (qan.j2.j K (qan.L1 K n1)) (.block (.cut qan.j3.l (qan.j3.j K (qan.L1 K n1)) (.orders (.op 0 (.op 1 (.op 2 (.op 3 (.op 4 (.op 7 (.op 8 (.op 9 (.op 10 (.both (.op 5 (.both (.op 6 (.op 11 (.op 12 (.op 13 (.op 14 .nil))))) (.op 11 (.both (.op 6 (.op 12 (.op 13 (.op 14 .nil)))) (.op 12 (.op 6 (.op 13 (.op 14 .nil)))))))) (.op 11 (.both (.op 5 (.both (.op 6 (.op 12 (.op 13 (.op 14 .nil)))) (.op 12 (.op 6 (.op 13 (.op 14 .nil)))))) (.op 12 (.op 5 (.op 6 (.op 13 (.op 14 .nil)))))))))))))))))) .go)) .go)))))) .go)))
theorem qan.ev_eq:qan.p0=fun K t0 p q h=>Ev P Tryz.f45 (qan.plan K) K [.slice t0 p q] h:=by kernel_rfl
theorem qan.obl (K:KT):Obl P Tryz.f45 (qan.plan K) K :=
  obl_of (R:=(∀ x h,¬ (qan.L1.j K) 0 x h)∧ImpN (qan.L1.j K)∧(∀ (n1:Nat),DrawOK P Tryz.f45.ntmps (opsAt 5 (bodyOf Tryz.f45)) (.op 0 (.op 1 (.op 2 (.op 3 (.op 4 (.op 7 (.op 8 (.op 9 (.op 10 (.both (.op 5 (.both (.op 6 (.op 11 (.op 12 (.op 13 (.op 14 .nil))))) (.op 11 (.both (.op 6 (.op 12 (.op 13 (.op 14 .nil)))) (.op 12 (.op 6 (.op 13 (.op 14 .nil)))))))) (.op 11 (.both (.op 5 (.both (.op 6 (.op 12 (.op 13 (.op 14 .nil)))) (.op 12 (.op 6 (.op 13 (.op 14 .nil)))))) (.op 12 (.op 5 (.op 6 (.op 13 (.op 14 .nil)))))))))))))))))∧Imp (qan.j3.j K (qan.L1 K n1))∧Imp (qan.j2.j K (qan.L1 K n1))∧True)∧True) (by kernel_rfl) ⟨fun _ _ H=>H,impN _,fun _=>⟨draw_ok (by kernel_rfl),⟨imp _,⟨imp _,trivial⟩⟩⟩,trivial⟩
theorem qan.ok {K:KT}{t0:OA}{p:Nat}{q:Nat}{h:Heap} (H:qan.p0 K t0 p q h):CallsH P F.qan [.slice t0 p q] K h :=
  calls_of_Ev (qan.plan K) Tryz.func45 (by kernel_rfl) (qan.obl K) (by rw [qan.ev_eq] at H; exact H)
def qch.p0 (K:KT) (l_0:OA) (l_0l:Nat) (l_0c:Nat) (h:Heap):Prop :=
  CallsH P F.qal [.slice l_0 l_0l l_0c,.int .i64 1] (fun v1 h2=>∃ b3,v1=.bool b3∧(b3=true→CallsH P F.qaj [.slice l_0 l_0l l_0c,.int .i64 1] (fun v4 h5=>∃ n6,v4=.int .i64 n6∧((decide (n6≤1900))=false→CallsH P F.qan [.slice l_0 l_0l l_0c] (fun v7 h8=>∃ a9 p q,v7=.slice a9 p q∧bd ((decide (((p:Nat):Int)≤2000)):Bool) fun r=>K (.bool r) h8) h5)∧((decide (n6≤1900))=true→K (.bool true) h5)) h2)∧(b3=false→K (.bool false) h2)) h
def qch.plan (K:KT):Plan:=.go
theorem qch.ev_eq:qch.p0=fun K l_0 l_0l l_0c h=>Ev P Tryz.f67 (qch.plan K) K [.slice l_0 l_0l l_0c] h:=by kernel_rfl
theorem qch.obl (K:KT):Obl P Tryz.f67 (qch.plan K) K :=
  obl_true (by kernel_rfl)
theorem qch.ok {K:KT}{l_0:OA}{l_0l:Nat}{l_0c:Nat}{h:Heap} (H:qch.p0 K l_0 l_0l l_0c h):CallsH P F.qch [.slice l_0 l_0l l_0c] K h :=
  calls_of_Ev (qch.plan K) Tryz.func67 (by kernel_rfl) (qch.obl K) (by rw [qch.ev_eq] at H; exact H)
def qah.j1 (K:KT) (t2:Addr) (t5:Int) (t6:Int) (t7:Int) (t8:Int) (h:Heap):Prop :=
  ∃ a2 p af,hcell h (Addr.add t2 2)=some (.slice a2 p af)∧((t5==((p:Nat):Int))=true→∃ a3 q ag,hcell h (Addr.add t2 3)=some (.slice a3 q ag)∧((t6==((q:Nat):Int))=true→∃ a4 r ah,hcell h (Addr.add t2 4)=some (.slice a4 r ah)∧((t7==((r:Nat):Int))=true→((t8==1)=false→∃ a5 x ai,hcell h (Addr.add t2 5)=some (.slice a5 x ai)∧((((x:Nat):Int)==0)=true→∃ a6 z aa,hcell h (Addr.add t2 5)=some (.slice a6 z aa)∧CallsH P F.qch [.slice a6 z aa] (fun v7 h8=>∃ b9,v7=.bool b9∧K (.bool b9) h8) h)∧((((x:Nat):Int)==0)=false→K (.bool false) h))∧((t8==1)=true→(true=true→∃ ab ac ad,hcell h (Addr.add t2 5)=some (.slice ab ac ad)∧CallsH P F.qch [.slice ab ac ad] (fun aj ak=>∃ ae,aj=.bool ae∧K (.bool ae) ak) h)∧(true=false→K (.bool false) h)))∧((t7==((r:Nat):Int))=false→K (.bool false) h))∧((t6==((q:Nat):Int))=false→K (.bool false) h))∧((t5==((p:Nat):Int))=false→K (.bool false) h)
def qah.j1.l:Live:=[(2,.addr),(5,.int .i64),(6,.int .i64),(7,.int .i64),(8,.int .i64)]
def qah.j1.j (K:KT):Tup qah.j1.l→Heap→Prop:=fun x h=>qah.j1 K x.1 x.2.1 x.2.2.1 x.2.2.2.1 x.2.2.2.2.1 h
def qah.j3 (K:KT) (R2:List UInt8→Addr→Int→Int→Int→Int→Int→Heap→Prop) (t1:List UInt8) (t2:Addr) (t5:Int) (t6:Int) (t7:Int) (t8:Int) (t9:Int) (h:Heap):Prop :=
  bd ((IntKind.i64.wrap (t9+1)):Int) fun p=>R2 t1 t2 t5 t6 t7 t8 p h
def qah.j3.l:Live:=[(1,.str),(2,.addr),(5,.int .i64),(6,.int .i64),(7,.int .i64),(8,.int .i64),(9,.int .i64)]
def qah.j3.j (K:KT) (R2:List UInt8→Addr→Int→Int→Int→Int→Int→Heap→Prop):Tup qah.j3.l→Heap→Prop:=fun x h=>qah.j3 K R2 x.1 x.2.1 x.2.2.1 x.2.2.2.1 x.2.2.2.2.1 x.2.2.2.2.2.1 x.2.2.2.2.2.2.1 h
def qah.j5 (K:KT) (R2:List UInt8→Addr→Int→Int→Int→Int→Int→Heap→Prop) (t1:List UInt8) (t2:Addr) (t5:Int) (t6:Int) (t7:Int) (t8:Int) (t9:Int) (p:Bool) (h:Heap):Prop :=
  (p=true→K (.bool false) h)∧(p=false→bd ((IntKind.i64.wrap (t6+1)):Int) fun q=>qah.j3 K R2 t1 t2 t5 q t7 t8 t9 h)
def qah.j5.l:Live:=[(1,.str),(2,.addr),(5,.int .i64),(6,.int .i64),(7,.int .i64),(8,.int .i64),(9,.int .i64),(66,.bool)]
def qah.j5.j (K:KT) (R2:List UInt8→Addr→Int→Int→Int→Int→Int→Heap→Prop):Tup qah.j5.l→Heap→Prop:=fun x h=>qah.j5 K R2 x.1 x.2.1 x.2.2.1 x.2.2.2.1 x.2.2.2.2.1 x.2.2.2.2.2.1 x.2.2.2.2.2.2.1 x.2.2.2.2.2.2.2.1 h
def qah.j6 (K:KT) (R2:List UInt8→Addr→Int→Int→Int→Int→Int→Heap→Prop) (t1:List UInt8) (t2:Addr) (t5:Int) (t6:Int) (t7:Int) (t8:Int) (t9:Int) (p:Bool) (h:Heap):Prop :=
  (p=true→K (.bool false) h)∧(p=false→bd ((IntKind.i64.wrap (t5+1)):Int) fun q=>qah.j3 K R2 t1 t2 q t6 t7 t8 t9 h)
def qah.j6.l:Live:=[(1,.str),(2,.addr),(5,.int .i64),(6,.int .i64),(7,.int .i64),(8,.int .i64),(9,.int .i64),(43,.bool)]
def qah.j6.j (K:KT) (R2:List UInt8→Addr→Int→Int→Int→Int→Int→Heap→Prop):Tup qah.j6.l→Heap→Prop:=fun x h=>qah.j6 K R2 x.1 x.2.1 x.2.2.1 x.2.2.2.1 x.2.2.2.2.1 x.2.2.2.2.2.1 x.2.2.2.2.2.2.1 x.2.2.2.2.2.2.2.1 h
def qah.j4 (K:KT) (R2:List UInt8→Addr→Int→Int→Int→Int→Int→Heap→Prop) (t1:List UInt8) (t2:Addr) (t5:Int) (t6:Int) (t7:Int) (t8:Int) (t9:Int) (q:Int) (af:Int) (ag:Bool) (h:Heap):Prop :=
  (ag=true→∃ bb r bc,hcell h (Addr.add t2 3)=some (.slice bb r bc)∧((decide (t6 ≥ ((r:Nat):Int)))=false→((q==115)=true→∃ ah ai be,hcell h (Addr.add t2 3)=some (.slice ah ai be)∧∃ aj,ah=some aj∧(0:Int)≤t6∧t6<((ai:Nat):Int)∧∃ ak,hcell h (Addr.add aj (Int.toNat t6 * 1))=some (.string (mkS ak))∧qah.j5 K R2 t1 t2 t5 t6 t7 t8 t9 (decide (((List.length ak:Nat):Int) > 255)) h)∧((q==115)=false→qah.j5 K R2 t1 t2 t5 t6 t7 t8 t9 false h))∧((decide (t6 ≥ ((r:Nat):Int)))=true→qah.j5 K R2 t1 t2 t5 t6 t7 t8 t9 true h))∧(ag=false→bd ((af==116):Bool) fun am=>(am=true→bd ((IntKind.i64.wrap (t8+1)):Int) fun bf=>qah.j3 K R2 t1 t2 t5 t6 t7 bf t9 h)∧(am=false→bd ((af==102):Bool) fun an=>(an=true→bd ((IntKind.i64.wrap (t7+1)):Int) fun bg=>qah.j3 K R2 t1 t2 t5 t6 bg t8 t9 h)∧(an=false→∃ bh x bi,hcell h (Addr.add t2 2)=some (.slice bh x bi)∧((decide (t5 ≥ ((x:Nat):Int)))=false→CallsH P F.qbh [.int .u8 q] (fun bj p=>∃ z,bj=.int .i64 z∧((decide (z<8))=true→(∃ ao aq bk,hcell p (Addr.add t2 2)=some (.slice ao aq bk)∧∃ aa,ao=some aa∧(0:Int)≤t5∧t5<((aq:Nat):Int)∧(∃ ar,hcell p (Addr.add aa (Int.toNat t5 * 1))=some (.int .u64 ar)∧CallsH P F.qbh [.int .u8 q] (fun bl bm=>∃ ab,bl=.int .i64 ab∧(0:Int)≤(IntKind.u64.wrap (IntKind.i64.wrap ((8:Int) * ab)))∧qah.j6 K R2 t1 t2 t5 t6 t7 t8 t9 ((shrI .u64 ar (IntKind.u64.wrap (IntKind.i64.wrap ((8:Int) * ab)))) != 0) bm) p)∧(CallsH P F.qbh [.int .u8 q] (fun bn au=>∃ ac,bn=.int .i64 ac∧∃ aw,hcell au (Addr.add aa (Int.toNat t5 * 1))=some (.int .u64 aw)∧(0:Int)≤(IntKind.u64.wrap (IntKind.i64.wrap ((8:Int) * ac)))∧qah.j6 K R2 t1 t2 t5 t6 t7 t8 t9 ((shrI .u64 aw (IntKind.u64.wrap (IntKind.i64.wrap ((8:Int) * ac)))) != 0) au) p))∧(CallsH P F.qbh [.int .u8 q] (fun bo ad=>∃ ae,bo=.int .i64 ae∧∃ ax ay bp,hcell ad (Addr.add t2 2)=some (.slice ax ay bp)∧∃ az,ax=some az∧(0:Int)≤t5∧t5<((ay:Nat):Int)∧∃ ba,hcell ad (Addr.add az (Int.toNat t5 * 1))=some (.int .u64 ba)∧(0:Int)≤(IntKind.u64.wrap (IntKind.i64.wrap ((8:Int) * ae)))∧qah.j6 K R2 t1 t2 t5 t6 t7 t8 t9 ((shrI .u64 ba (IntKind.u64.wrap (IntKind.i64.wrap ((8:Int) * ae)))) != 0) ad) p))∧((decide (z<8))=false→((qah.j6 K R2 t1 t2 t5 t6 t7 t8 t9 false p)∧(qah.j6 K R2 t1 t2 t5 t6 t7 t8 t9 false p))∧(qah.j6 K R2 t1 t2 t5 t6 t7 t8 t9 false p))) h)∧((decide (t5 ≥ ((x:Nat):Int)))=true→((qah.j6 K R2 t1 t2 t5 t6 t7 t8 t9 true h)∧(qah.j6 K R2 t1 t2 t5 t6 t7 t8 t9 true h))∧(qah.j6 K R2 t1 t2 t5 t6 t7 t8 t9 true h)))))
def qah.j4.l:Live:=[(1,.str),(2,.addr),(5,.int .i64),(6,.int .i64),(7,.int .i64),(8,.int .i64),(9,.int .i64),(10,.int .u8),(20,.int .u8),(46,.bool)]
def qah.j4.j (K:KT) (R2:List UInt8→Addr→Int→Int→Int→Int→Int→Heap→Prop):Tup qah.j4.l→Heap→Prop:=fun x h=>qah.j4 K R2 x.1 x.2.1 x.2.2.1 x.2.2.2.1 x.2.2.2.2.1 x.2.2.2.2.2.1 x.2.2.2.2.2.2.1 x.2.2.2.2.2.2.2.1 x.2.2.2.2.2.2.2.2.1 x.2.2.2.2.2.2.2.2.2.1 h
def qah.L2 (K:KT):Nat→List UInt8→Addr→Int→Int→Int→Int→Int→Heap→Prop
  | 0,_,_,_,_,_,_,_,_=>False
  | fuel+1,t1,t2,t5,t6,t7,t8,t9,h=>((decide (t9<((List.length t1:Nat):Int)))=true→(0:Int)≤t9∧t9<((List.length t1:Nat):Int)∧bd ((lb t1 t9):Int) fun p=>bd ((p==115):Bool) fun q=>(q=true→qah.j4 K (qah.L2 K fuel) t1 t2 t5 t6 t7 t8 t9 p p q h)∧(q=false→bd ((p==108):Bool) fun r=>qah.j4 K (qah.L2 K fuel) t1 t2 t5 t6 t7 t8 t9 p p r h))∧((decide (t9<((List.length t1:Nat):Int)))=false→qah.j1 K t2 t5 t6 t7 t8 h)
termination_by structural n=>n
def qah.L2.l:Live:=[(1,.str),(2,.addr),(5,.int .i64),(6,.int .i64),(7,.int .i64),(8,.int .i64),(9,.int .i64)]
def qah.L2.j (K:KT):Nat→Tup qah.L2.l→Heap→Prop:=fun n x h=>qah.L2 K n x.1 x.2.1 x.2.2.1 x.2.2.2.1 x.2.2.2.2.1 x.2.2.2.2.2.1 x.2.2.2.2.2.2.1 h
def qah.p0 (K:KT) (t0:List Value) (t1:List UInt8) (h:Heap):Prop :=
  bd (al h (List.toArray t0) T.api_Method) fun h1=>∃ fuel48,qah.L2 K fuel48 t1 (top h) 0 0 0 0 0 h1
def qah.plan (K:KT):Plan:=(.seq .go (.seq .go (.cut qah.j1.l (qah.j1.j K) (.seq .go (.block (.loop qah.L2.l (qah.L2.j K) (fun n2=>(.seq .go (.cut qah.j3.l (qah.j3.j K (qah.L2 K n2)) (.block (.seq .go (.seq .go (.block (.cut qah.j4.l (qah.j4.j K (qah.L2 K n2)) .go (.cond (.seq (.cut qah.j5.l (qah.j5.j K (qah.L2 K n2)) .go .go) .go) (.seq .go (.cond .go (.seq .go (.cond .go (.seq (.cut qah.j6.l (qah.j6.j K (qah.L2 K n2)) (.orders (.op 0 (.op 1 (.op 2 (.op 3 (.op 4 (.op 5 (.op 6 (.op 7 (.op 8 (.op 9 (.op 10 (.op 12 (.op 15 (.both (.op 11 (.op 13 (.both (.op 14 (.op 16 (.op 17 (.op 18 (.op 19 (.op 20 (.op 21 (.op 22 .nil)))))))) (.op 16 (.op 17 (.op 18 (.op 14 (.op 19 (.op 20 (.op 21 (.op 22 .nil))))))))))) (.op 16 (.op 17 (.op 18 (.op 11 (.op 13 (.op 14 (.op 19 (.op 20 (.op 21 (.op 22 .nil))))))))))))))))))))))))) .go) .go))))))))))) .go)))))) .go)))
theorem qah.ev_eq:qah.p0=fun K t0 t1 h=>Ev P Tryz.f41 (qah.plan K) K [.agg (List.toArray t0),.string (mkS t1)] h:=by kernel_rfl
theorem qah.obl (K:KT):Obl P Tryz.f41 (qah.plan K) K :=
  obl_of (R:=(∀ x h,¬ (qah.L2.j K) 0 x h)∧ImpN (qah.L2.j K)∧(∀ (n2:Nat),Imp (qah.j4.j K (qah.L2 K n2))∧Imp (qah.j5.j K (qah.L2 K n2))∧DrawOK P Tryz.f41.ntmps (opsAt 7 (bodyOf Tryz.f41)) (.op 0 (.op 1 (.op 2 (.op 3 (.op 4 (.op 5 (.op 6 (.op 7 (.op 8 (.op 9 (.op 10 (.op 12 (.op 15 (.both (.op 11 (.op 13 (.both (.op 14 (.op 16 (.op 17 (.op 18 (.op 19 (.op 20 (.op 21 (.op 22 .nil)))))))) (.op 16 (.op 17 (.op 18 (.op 14 (.op 19 (.op 20 (.op 21 (.op 22 .nil))))))))))) (.op 16 (.op 17 (.op 18 (.op 11 (.op 13 (.op 14 (.op 19 (.op 20 (.op 21 (.op 22 .nil))))))))))))))))))))))))∧Imp (qah.j6.j K (qah.L2 K n2))∧Imp (qah.j3.j K (qah.L2 K n2))∧True)∧Imp (qah.j1.j K)∧True) (by kernel_rfl) ⟨fun _ _ H=>H,impN _,fun _=>⟨imp _,⟨imp _,⟨draw_ok (by kernel_rfl),⟨imp _,⟨imp _,trivial⟩⟩⟩⟩⟩,⟨imp _,trivial⟩⟩
theorem qah.ok {K:KT}{t0:List Value}{t1:List UInt8}{h:Heap} (H:qah.p0 K t0 t1 h):CallsH P F.qah [.agg (List.toArray t0),.string (mkS t1)] K h :=
  calls_of_Ev (qah.plan K) Tryz.func41 (by kernel_rfl) (qah.obl K) (by rw [qah.ev_eq] at H; exact H)
def qam.j3 (K:KT) (R1:OA→Nat→Nat→Int→List UInt8→Int→OA→Nat→Nat→Int→Heap→Prop) (l_0:OA) (l_0l:Nat) (l_0c:Nat) (t1:Int) (form_2:List UInt8) (t3:Int) (out_9:OA) (out_9l:Nat) (out_9c:Nat) (k_10:Int) (h:Heap):Prop :=
  bd ((IntKind.i64.wrap (k_10+1)):Int) fun k_1=>R1 l_0 l_0l l_0c t1 form_2 t3 out_9 out_9l out_9c k_1 h
def qam.j3.l:Live:=[(0,.slice),(1,.int .i64),(2,.str),(3,.int .i64),(9,.slice),(10,.int .i64)]
def qam.j3.j (K:KT) (R1:OA→Nat→Nat→Int→List UInt8→Int→OA→Nat→Nat→Int→Heap→Prop):Tup qam.j3.l→Heap→Prop:=fun x h=>qam.j3 K R1 x.1.1 x.1.2.1 x.1.2.2 x.2.1 x.2.2.1 x.2.2.2.1 x.2.2.2.2.1.1 x.2.2.2.2.1.2.1 x.2.2.2.2.1.2.2 x.2.2.2.2.2.1 h
def qam.j4 (K:KT) (R1:OA→Nat→Nat→Int→List UInt8→Int→OA→Nat→Nat→Int→Heap→Prop) (l_0:OA) (l_0l:Nat) (l_0c:Nat) (t1:Int) (form_2:List UInt8) (t3:Int) (out_9:OA) (out_9l:Nat) (out_9c:Nat) (k_10:Int) (h:Heap):Prop :=
  ∃ p2,l_0=some p2∧(0:Int)≤(IntKind.i64.wrap (t1+k_10))∧(IntKind.i64.wrap (t1+k_10))<((l_0l:Nat):Int)∧∃ b3,hcell h (Addr.add p2 (Int.toNat (IntKind.i64.wrap (t1+k_10)) * 1))=some (.bool b3)∧(b3=true→bd (al h #[] T.uint8) fun h4=>inB (IntKind.i64.wrap (((out_9l:Nat):Int) - 1)) out_9c∧SemH P (Builtin.append_ #[T.sl_uint8,T.sl_uint8] T.sl_uint8 #[.slice (some (top h)) 0 0,.slice (slA out_9 0 out_9c 1) (Int.toNat (IntKind.i64.wrap (((out_9l:Nat):Int) - 1))) out_9c]) (fun v5 h6=>∃ a7 p q,v5=.slice a7 p q∧∃ p8,out_9=some p8∧(0:Int)≤(IntKind.i64.wrap (((out_9l:Nat):Int) - 1))∧(IntKind.i64.wrap (((out_9l:Nat):Int) - 1))<((out_9l:Nat):Int)∧∃ n9,hcell h6 (Addr.add p8 (Int.toNat (IntKind.i64.wrap (((out_9l:Nat):Int) - 1)) * 1))=some (.int .u8 n9)∧(0:Int)≤(IntKind.u64.wrap (bitsI .and .i64 k_10 7))∧bd (al h6 #[.int .u8 (bitsI .or .u8 n9 (shlI .u8 1 (IntKind.u64.wrap (bitsI .and .i64 k_10 7))))] T.uint8) fun aa=>SemH P (Builtin.append_ #[T.sl_uint8,T.sl_uint8] T.sl_uint8 #[.slice a7 p q,.slice (some (top h6)) 1 1]) (fun ab ac=>∃ r x z,ab=.slice r x z∧qam.j3 K R1 l_0 l_0l l_0c t1 form_2 t3 r x z k_10 ac) aa) h4)∧(b3=false→qam.j3 K R1 l_0 l_0l l_0c t1 form_2 t3 out_9 out_9l out_9c k_10 h)
def qam.j4.l:Live:=[(0,.slice),(1,.int .i64),(2,.str),(3,.int .i64),(9,.slice),(10,.int .i64)]
def qam.j4.j (K:KT) (R1:OA→Nat→Nat→Int→List UInt8→Int→OA→Nat→Nat→Int→Heap→Prop):Tup qam.j4.l→Heap→Prop:=fun x h=>qam.j4 K R1 x.1.1 x.1.2.1 x.1.2.2 x.2.1 x.2.2.1 x.2.2.2.1 x.2.2.2.2.1.1 x.2.2.2.2.1.2.1 x.2.2.2.2.1.2.2 x.2.2.2.2.2.1 h
def qam.j2 (K:KT) (R1:OA→Nat→Nat→Int→List UInt8→Int→OA→Nat→Nat→Int→Heap→Prop) (l_0:OA) (l_0l:Nat) (l_0c:Nat) (t1:Int) (form_2:List UInt8) (t3:Int) (out_9:OA) (out_9l:Nat) (out_9c:Nat) (k_10:Int) (p:Bool) (h:Heap):Prop :=
  (p=true→(((bitsI .and .i64 k_10 7)==0)=true→bd (al h #[.int .u8 0] T.uint8) fun z=>SemH P (Builtin.append_ #[T.sl_uint8,T.sl_uint8] T.sl_uint8 #[.slice out_9 out_9l out_9c,.slice (some (top h)) 1 1]) (fun aa ab=>∃ q r x,aa=.slice q r x∧qam.j4 K R1 l_0 l_0l l_0c t1 form_2 t3 q r x k_10 ab) z)∧(((bitsI .and .i64 k_10 7)==0)=false→qam.j4 K R1 l_0 l_0l l_0c t1 form_2 t3 out_9 out_9l out_9c k_10 h))∧(p=false→K (.slice out_9 out_9l out_9c) h)
def qam.j2.l:Live:=[(0,.slice),(1,.int .i64),(2,.str),(3,.int .i64),(9,.slice),(10,.int .i64),(25,.bool)]
def qam.j2.j (K:KT) (R1:OA→Nat→Nat→Int→List UInt8→Int→OA→Nat→Nat→Int→Heap→Prop):Tup qam.j2.l→Heap→Prop:=fun x h=>qam.j2 K R1 x.1.1 x.1.2.1 x.1.2.2 x.2.1 x.2.2.1 x.2.2.2.1 x.2.2.2.2.1.1 x.2.2.2.2.1.2.1 x.2.2.2.2.1.2.2 x.2.2.2.2.2.1 x.2.2.2.2.2.2.1 h
def qam.L1 (K:KT):Nat→OA→Nat→Nat→Int→List UInt8→Int→OA→Nat→Nat→Int→Heap→Prop
  | 0,_,_,_,_,_,_,_,_,_,_,_=>False
  | fuel+1,l_0,l_0l,l_0c,t1,form_2,t3,out_9,out_9l,out_9c,k_10,h=>((decide ((IntKind.i64.wrap (t3+k_10))<((List.length form_2:Nat):Int)))=true→(0:Int)≤(IntKind.i64.wrap (t3+k_10))∧(IntKind.i64.wrap (t3+k_10))<((List.length form_2:Nat):Int)∧qam.j2 K (qam.L1 K fuel) l_0 l_0l l_0c t1 form_2 t3 out_9 out_9l out_9c k_10 ((lb form_2 (IntKind.i64.wrap (t3+k_10)))==102) h)∧((decide ((IntKind.i64.wrap (t3+k_10))<((List.length form_2:Nat):Int)))=false→qam.j2 K (qam.L1 K fuel) l_0 l_0l l_0c t1 form_2 t3 out_9 out_9l out_9c k_10 false h)
termination_by structural n=>n
def qam.L1.l:Live:=[(0,.slice),(1,.int .i64),(2,.str),(3,.int .i64),(9,.slice),(10,.int .i64)]
def qam.L1.j (K:KT):Nat→Tup qam.L1.l→Heap→Prop:=fun n x h=>qam.L1 K n x.1.1 x.1.2.1 x.1.2.2 x.2.1 x.2.2.1 x.2.2.2.1 x.2.2.2.2.1.1 x.2.2.2.2.1.2.1 x.2.2.2.2.1.2.2 x.2.2.2.2.2.1 h
def qam.p0 (K:KT) (l_0:OA) (l_0l:Nat) (l_0c:Nat) (t1:Int) (form_2:List UInt8) (t3:Int) (h:Heap):Prop :=
  ∃ fuel18,qam.L1 K fuel18 l_0 l_0l l_0c t1 form_2 t3 none 0 0 0 h
def qam.plan (K:KT):Plan:=(.seq .go (.seq .go (.seq (.seq .go (.block (.loop qam.L1.l (qam.L1.j K) (fun n1=>(.seq (.cut qam.j2.l (qam.j2.j K (qam.L1 K n1)) .go .go) (.cut qam.j3.l (qam.j3.j K (qam.L1 K n1)) (.block (.cut qam.j4.l (qam.j4.j K (qam.L1 K n1)) .go .go)) .go)))))) .go)))
theorem qam.ev_eq:qam.p0=fun K l_0 l_0l l_0c t1 form_2 t3 h=>Ev P Tryz.f46 (qam.plan K) K [.slice l_0 l_0l l_0c,.int .i64 t1,.string (mkS form_2),.int .i64 t3] h:=by kernel_rfl
theorem qam.obl (K:KT):Obl P Tryz.f46 (qam.plan K) K :=
  obl_of (R:=(∀ x h,¬ (qam.L1.j K) 0 x h)∧ImpN (qam.L1.j K)∧(∀ (n1:Nat),Imp (qam.j2.j K (qam.L1 K n1))∧Imp (qam.j4.j K (qam.L1 K n1))∧Imp (qam.j3.j K (qam.L1 K n1))∧True)∧True) (by kernel_rfl) ⟨fun _ _ H=>H,impN _,fun _=>⟨imp _,⟨imp _,⟨imp _,trivial⟩⟩⟩,trivial⟩
theorem qam.ok {K:KT}{l_0:OA}{l_0l:Nat}{l_0c:Nat}{t1:Int}{form_2:List UInt8}{t3:Int}{h:Heap} (H:qam.p0 K l_0 l_0l l_0c t1 form_2 t3 h):CallsH P F.qam [.slice l_0 l_0l l_0c,.int .i64 t1,.string (mkS form_2),.int .i64 t3] K h :=
  calls_of_Ev (qam.plan K) Tryz.func46 (by kernel_rfl) (qam.obl K) (by rw [qam.ev_eq] at H; exact H)
def qae.j4 (K:KT) (R3:OA→Nat→Nat→Addr→List UInt8→Int→Int→Int→Int→Heap→Prop) (t0:OA) (p:Nat) (q:Nat) (t3:Addr) (t6:List UInt8) (t8:Int) (t9:Int) (r:Int) (x:Int) (h:Heap):Prop :=
  bd ((IntKind.i64.wrap (x+1)):Int) fun n8=>R3 t0 p q t3 t6 t8 t9 r n8 h
def qae.j4.l:Live:=[(0,.slice),(3,.addr),(6,.str),(8,.int .i64),(9,.int .i64),(10,.int .i64),(11,.int .i64)]
def qae.j4.j (K:KT) (R3:OA→Nat→Nat→Addr→List UInt8→Int→Int→Int→Int→Heap→Prop):Tup qae.j4.l→Heap→Prop:=fun x h=>qae.j4 K R3 x.1.1 x.1.2.1 x.1.2.2 x.2.1 x.2.2.1 x.2.2.2.1 x.2.2.2.2.1 x.2.2.2.2.2.1 x.2.2.2.2.2.2.1 h
def qae.j5 (K:KT) (R3:OA→Nat→Nat→Addr→List UInt8→Int→Int→Int→Int→Heap→Prop) (t0:OA) (p:Nat) (q:Nat) (t3:Addr) (t6:List UInt8) (t8:Int) (t9:Int) (r:Int) (x:Int) (h:Heap):Prop :=
  bd ((IntKind.i64.wrap (r+1)):Int) fun z=>qae.j4 K R3 t0 p q t3 t6 t8 t9 z x h
def qae.j5.l:Live:=[(0,.slice),(3,.addr),(6,.str),(8,.int .i64),(9,.int .i64),(10,.int .i64),(11,.int .i64)]
def qae.j5.j (K:KT) (R3:OA→Nat→Nat→Addr→List UInt8→Int→Int→Int→Int→Heap→Prop):Tup qae.j5.l→Heap→Prop:=fun x h=>qae.j5 K R3 x.1.1 x.1.2.1 x.1.2.2 x.2.1 x.2.2.1 x.2.2.2.1 x.2.2.2.2.1 x.2.2.2.2.2.1 x.2.2.2.2.2.2.1 h
def qae.j6 (K:KT) (R3:OA→Nat→Nat→Addr→List UInt8→Int→Int→Int→Int→Heap→Prop) (t0:OA) (r:Nat) (x:Nat) (t3:Addr) (t6:List UInt8) (t8:Int) (t9:Int) (p:Int) (q:Int) (z:Bool) (h:Heap):Prop :=
  (z=true→∃ aa ab ac,hcell h (Addr.add t3 4)=some (.slice aa ab ac)∧CallsH P F.qam [.slice aa ab ac,.int .i64 p,.string (mkS t6),.int .i64 q] (fun aj ak=>∃ ad ae af,aj=.slice ad ae af∧SemH P (Builtin.append_ #[T.sl_uint8,T.sl_uint8] T.sl_uint8 #[.slice t0 r x,.slice ad ae af]) (fun am an=>∃ ag ah ai,am=.slice ag ah ai∧qae.j5 K R3 ag ah ai t3 t6 t8 t9 p q an) ak) h)∧(z=false→qae.j5 K R3 t0 r x t3 t6 t8 t9 p q h)
def qae.j6.l:Live:=[(0,.slice),(3,.addr),(6,.str),(8,.int .i64),(9,.int .i64),(10,.int .i64),(11,.int .i64),(100,.bool)]
def qae.j6.j (K:KT) (R3:OA→Nat→Nat→Addr→List UInt8→Int→Int→Int→Int→Heap→Prop):Tup qae.j6.l→Heap→Prop:=fun x h=>qae.j6 K R3 x.1.1 x.1.2.1 x.1.2.2 x.2.1 x.2.2.1 x.2.2.2.1 x.2.2.2.2.1 x.2.2.2.2.2.1 x.2.2.2.2.2.2.1 x.2.2.2.2.2.2.2.1 h
def qae.j7 (K:KT) (R3:OA→Nat→Nat→Addr→List UInt8→Int→Int→Int→Int→Heap→Prop) (t0:OA) (p:Nat) (q:Nat) (t3:Addr) (t6:List UInt8) (t8:Int) (t9:Int) (r:Int) (x:Int) (h:Heap):Prop :=
  bd ((IntKind.i64.wrap (t8+1)):Int) fun z=>qae.j4 K R3 t0 p q t3 t6 z t9 r x h
def qae.j7.l:Live:=[(0,.slice),(3,.addr),(6,.str),(8,.int .i64),(9,.int .i64),(10,.int .i64),(11,.int .i64)]
def qae.j7.j (K:KT) (R3:OA→Nat→Nat→Addr→List UInt8→Int→Int→Int→Int→Heap→Prop):Tup qae.j7.l→Heap→Prop:=fun x h=>qae.j7 K R3 x.1.1 x.1.2.1 x.1.2.2 x.2.1 x.2.2.1 x.2.2.2.1 x.2.2.2.2.1 x.2.2.2.2.2.1 x.2.2.2.2.2.2.1 h
def qae.L3 (K:KT):Nat→OA→Nat→Nat→Addr→List UInt8→Int→Int→Int→Int→Heap→Prop
  | 0,_,_,_,_,_,_,_,_,_,_=>False
  | fuel+1,t0,q,r,t3,t6,t8,t9,x,p,h=>((decide (p<((List.length t6:Nat):Int)))=true→(0:Int)≤p∧p<((List.length t6:Nat):Int)∧bd ((lb t6 p):Int) fun n9=>bd ((n9==115):Bool) fun ab=>(ab=true→∃ ac ad cg,hcell h (Addr.add t3 3)=some (.slice ac ad cg)∧∃ ae,ac=some ae∧(0:Int)≤t9∧t9<((ad:Nat):Int)∧∃ af,hcell h (Addr.add ae (Int.toNat t9 * 1))=some (.string (mkS af))∧CallsH P F.qco [.slice t0 q r,.string (mkS af)] (fun ci cj=>∃ ag ah ai,ci=.slice ag ah ai∧bd ((IntKind.i64.wrap (t9+1)):Int) fun ck=>qae.j4 K (qae.L3 K fuel) ag ah ai t3 t6 t8 ck x p cj) h)∧(ab=false→bd ((n9==108):Bool) fun aj=>(aj=true→∃ ak am cm,hcell h (Addr.add t3 3)=some (.slice ak am cm)∧∃ an,ak=some an∧(0:Int)≤t9∧t9<((am:Nat):Int)∧∃ s21,hcell h (Addr.add an (Int.toNat t9 * 1))=some (.string (mkS s21))∧SemH P (Go.convert T.string T.sl_uint8 (.string (mkS s21))) (fun co cp=>∃ ao aq ar,co=.slice ao aq ar∧CallsH P F.qcu [.slice t0 q r,.slice ao aq ar] (fun cq cr=>∃ au aw ax,cq=.slice au aw ax∧bd ((IntKind.i64.wrap (t9+1)):Int) fun cv=>qae.j4 K (qae.L3 K fuel) au aw ax t3 t6 t8 cv x p cr) cp) h)∧(aj=false→bd ((n9==116):Bool) fun ay=>(ay=true→∃ az ba bb,hcell h (Addr.add t3 5)=some (.slice az ba bb)∧CallsH P F.qan [.slice az ba bb] (fun cw cx=>∃ bc be bf,cw=.slice bc be bf∧CallsH P F.qcu [.slice t0 q r,.slice bc be bf] (fun cy cz=>∃ bg bh bi,cy=.slice bg bh bi∧qae.j4 K (qae.L3 K fuel) bg bh bi t3 t6 t8 t9 x p cz) cx) h)∧(ay=false→bd ((n9==102):Bool) fun bj=>(bj=true→((p==0)=false→(0:Int)≤(IntKind.i64.wrap (p - 1))∧(IntKind.i64.wrap (p - 1))<((List.length t6:Nat):Int)∧qae.j6 K (qae.L3 K fuel) t0 q r t3 t6 t8 t9 x p ((lb t6 (IntKind.i64.wrap (p - 1))) != 102) h)∧((p==0)=true→qae.j6 K (qae.L3 K fuel) t0 q r t3 t6 t8 t9 x p true h))∧(bj=false→(CallsH P F.qbh [.int .u8 n9] (fun da z=>∃ bk,da=.int .i64 bk∧∃ bl bm db,hcell z (Addr.add t3 2)=some (.slice bl bm db)∧∃ bn,bl=some bn∧(0:Int)≤t8∧t8<((bm:Nat):Int)∧∃ bo,hcell z (Addr.add bn (Int.toNat t8 * 1))=some (.int .u64 bo)∧CallsH P F.qbq [.slice t0 q r,.int .i64 bk,.int .u64 bo] (fun dc dd=>∃ bp bq br,dc=.slice bp bq br∧qae.j7 K (qae.L3 K fuel) bp bq br t3 t6 t8 t9 x p dd) z) h)∧(∃ bs bt de,hcell h (Addr.add t3 2)=some (.slice bs bt de)∧∃ aa,bs=some aa∧(0:Int)≤t8∧t8<((bt:Nat):Int)∧(CallsH P F.qbh [.int .u8 n9] (fun df bu=>∃ n60,df=.int .i64 n60∧∃ n61,hcell bu (Addr.add aa (Int.toNat t8 * 1))=some (.int .u64 n61)∧CallsH P F.qbq [.slice t0 q r,.int .i64 n60,.int .u64 n61] (fun dg dh=>∃ bw bx bz,dg=.slice bw bx bz∧qae.j7 K (qae.L3 K fuel) bw bx bz t3 t6 t8 t9 x p dh) bu) h)∧(∃ ca,hcell h (Addr.add aa (Int.toNat t8 * 1))=some (.int .u64 ca)∧CallsH P F.qbh [.int .u8 n9] (fun di dj=>∃ cb,di=.int .i64 cb∧CallsH P F.qbq [.slice t0 q r,.int .i64 cb,.int .u64 ca] (fun dk dl=>∃ cd ce cf,dk=.slice cd ce cf∧qae.j7 K (qae.L3 K fuel) cd ce cf t3 t6 t8 t9 x p dl) dj) h)))))))∧((decide (p<((List.length t6:Nat):Int)))=false→K (.tuple #[.slice t0 q r,.bool true]) h)
termination_by structural n=>n
def qae.L3.l:Live:=[(0,.slice),(3,.addr),(6,.str),(8,.int .i64),(9,.int .i64),(10,.int .i64),(11,.int .i64)]
def qae.L3.j (K:KT):Nat→Tup qae.L3.l→Heap→Prop:=fun n x h=>qae.L3 K n x.1.1 x.1.2.1 x.1.2.2 x.2.1 x.2.2.1 x.2.2.2.1 x.2.2.2.2.1 x.2.2.2.2.2.1 x.2.2.2.2.2.2.1 h
def qae.j2 (K:KT) (t0:OA) (p:Nat) (q:Nat) (t3:Addr) (t6:List UInt8) (h:Heap):Prop :=
  ∃ fuel72,qae.L3 K fuel72 t0 p q t3 t6 0 0 0 0 h
def qae.j2.l:Live:=[(0,.slice),(3,.addr),(6,.str)]
def qae.j2.j (K:KT):Tup qae.j2.l→Heap→Prop:=fun x h=>qae.j2 K x.1.1 x.1.2.1 x.1.2.2 x.2.1 x.2.2.1 h
def qae.j1 (K:KT) (t0:OA) (p:Nat) (q:Nat) (t3:Addr) (t6:List UInt8) (x:Bool) (h:Heap):Prop :=
  (x=true→K (.tuple #[.slice t0 p q,.bool false]) h)∧(x=false→(∃ r,hcell h (Addr.add t3 0)=some (.int .i64 r)∧(CallsH P F.qbq [.slice t0 p q,.int .i64 2,.int .u64 (IntKind.u64.wrap r)] (fun bb z=>∃ aa ab ac,bb=.slice aa ab ac∧∃ ad,hcell z (Addr.add t3 1)=some (.int .i64 ad)∧CallsH P F.qbq [.slice aa ab ac,.int .i64 2,.int .u64 (IntKind.u64.wrap ad)] (fun bc be=>∃ ae af ag,bc=.slice ae af ag∧qae.j2 K ae af ag t3 t6 be) z) h)∧(∃ ah,hcell h (Addr.add t3 1)=some (.int .i64 ah)∧CallsH P F.qbq [.slice t0 p q,.int .i64 2,.int .u64 (IntKind.u64.wrap r)] (fun bf bg=>∃ ai aj ak,bf=.slice ai aj ak∧CallsH P F.qbq [.slice ai aj ak,.int .i64 2,.int .u64 (IntKind.u64.wrap ah)] (fun bh bi=>∃ am an ao,bh=.slice am an ao∧qae.j2 K am an ao t3 t6 bi) bg) h))∧(∃ aq,hcell h (Addr.add t3 1)=some (.int .i64 aq)∧∃ ar,hcell h (Addr.add t3 0)=some (.int .i64 ar)∧CallsH P F.qbq [.slice t0 p q,.int .i64 2,.int .u64 (IntKind.u64.wrap ar)] (fun bj bk=>∃ au aw ax,bj=.slice au aw ax∧CallsH P F.qbq [.slice au aw ax,.int .i64 2,.int .u64 (IntKind.u64.wrap aq)] (fun bl bm=>∃ ay az ba,bl=.slice ay az ba∧qae.j2 K ay az ba t3 t6 bm) bk) h))
def qae.j1.l:Live:=[(0,.slice),(3,.addr),(6,.str),(28,.bool)]
def qae.j1.j (K:KT):Tup qae.j1.l→Heap→Prop:=fun x h=>qae.j1 K x.1.1 x.1.2.1 x.1.2.2 x.2.1 x.2.2.1 x.2.2.2.1 h
def qae.p0 (K:KT) (t0:OA) (p:Nat) (q:Nat) (t1:List Value) (h:Heap):Prop :=
  bd (al h (List.toArray t1) T.api_Method) fun h1=>∃ n2,hcell h1 (Addr.add (top h) 0)=some (.int .i64 n2)∧∃ n3,hcell h1 (Addr.add (top h) 1)=some (.int .i64 n3)∧CallsH P F.qaw [.int .i64 n2,.int .i64 n3] (fun v4 h5=>∃ s6 b7,v4=.tuple #[.string (mkS s6),.bool b7]∧((!b7)=false→∃ r,rdC h5 (top h) 0 6=some r∧CallsH P F.qah [.agg (List.toArray r),.string (mkS s6)] (fun z aa=>∃ x,z=.bool x∧qae.j1 K t0 p q (top h) s6 (!x) aa) h5)∧((!b7)=true→qae.j1 K t0 p q (top h) s6 true h5)) h1
def qae.plan (K:KT):Plan:=(.seq .go (.seq .go (.seq (.cut qae.j1.l (qae.j1.j K) .go .go) (.cut qae.j2.l (qae.j2.j K) (.orders (.op 0 (.op 1 (.op 5 (.both (.op 2 (.op 3 (.both (.op 4 (.op 6 (.op 7 (.op 8 (.op 9 .nil))))) (.op 6 (.op 7 (.op 4 (.op 8 (.op 9 .nil)))))))) (.op 6 (.op 7 (.op 2 (.op 3 (.op 4 (.op 8 (.op 9 .nil)))))))))))) (.seq .go (.seq (.seq .go (.block (.loop qae.L3.l (qae.L3.j K) (fun n3=>(.seq .go (.cut qae.j4.l (qae.j4.j K (qae.L3 K n3)) (.block (.seq .go (.seq .go (.block (.seq .go (.cond .go (.seq .go (.cond .go (.seq .go (.cond .go (.seq .go (.cond (.cut qae.j5.l (qae.j5.j K (qae.L3 K n3)) (.cut qae.j6.l (qae.j6.j K (qae.L3 K n3)) .go .go) .go) (.cut qae.j7.l (qae.j7.j K (qae.L3 K n3)) (.orders (.op 0 (.op 1 (.op 3 (.op 5 (.both (.op 2 (.op 4 (.op 6 (.op 7 (.op 8 (.op 9 .nil)))))) (.op 4 (.op 6 (.both (.op 2 (.op 7 (.op 8 (.op 9 .nil)))) (.op 7 (.op 2 (.op 8 (.op 9 .nil))))))))))))) .go))))))))))))) .go)))))) .go))))))
theorem qae.ev_eq:qae.p0=fun K t0 p q t1 h=>Ev P Tryz.f22 (qae.plan K) K [.slice t0 p q,.agg (List.toArray t1)] h:=by kernel_rfl
theorem qae.obl (K:KT):Obl P Tryz.f22 (qae.plan K) K :=
  obl_of (R:=Imp (qae.j1.j K)∧DrawOK P Tryz.f22.ntmps (opsAt 4 (bodyOf Tryz.f22)) (.op 0 (.op 1 (.op 5 (.both (.op 2 (.op 3 (.both (.op 4 (.op 6 (.op 7 (.op 8 (.op 9 .nil))))) (.op 6 (.op 7 (.op 4 (.op 8 (.op 9 .nil)))))))) (.op 6 (.op 7 (.op 2 (.op 3 (.op 4 (.op 8 (.op 9 .nil)))))))))))∧Imp (qae.j2.j K)∧(∀ x h,¬ (qae.L3.j K) 0 x h)∧ImpN (qae.L3.j K)∧(∀ (n3:Nat),Imp (qae.j6.j K (qae.L3 K n3))∧Imp (qae.j5.j K (qae.L3 K n3))∧DrawOK P Tryz.f22.ntmps (opsAt 11 (bodyOf Tryz.f22)) (.op 0 (.op 1 (.op 3 (.op 5 (.both (.op 2 (.op 4 (.op 6 (.op 7 (.op 8 (.op 9 .nil)))))) (.op 4 (.op 6 (.both (.op 2 (.op 7 (.op 8 (.op 9 .nil)))) (.op 7 (.op 2 (.op 8 (.op 9 .nil))))))))))))∧Imp (qae.j7.j K (qae.L3 K n3))∧Imp (qae.j4.j K (qae.L3 K n3))∧True)∧True) (by kernel_rfl) ⟨imp _,⟨draw_ok (by kernel_rfl),⟨imp _,⟨fun _ _ H=>H,impN _,fun _=>⟨imp _,⟨imp _,⟨draw_ok (by kernel_rfl),⟨imp _,⟨imp _,trivial⟩⟩⟩⟩⟩,trivial⟩⟩⟩⟩
theorem qae.ok {K:KT}{t0:OA}{p:Nat}{q:Nat}{t1:List Value}{h:Heap} (H:qae.p0 K t0 p q t1 h):CallsH P F.qae [.slice t0 p q,.agg (List.toArray t1)] K h :=
  calls_of_Ev (qae.plan K) Tryz.func22 (by kernel_rfl) (qae.obl K) (by rw [qae.ev_eq] at H; exact H)
def qcm.p0 (K:KT) (b_0:OA) (b_0l:Nat) (b_0c:Nat) (f_1:List Value) (h:Heap):Prop :=
  bd (al h (List.toArray f_1) T.api_Frame) fun h1=>∃ n2,hcell h1 (Addr.add (top h) 0)=some (.int .i64 n2)∧CallsH P F.qbq [.slice b_0 b_0l b_0c,.int .i64 1,.int .u64 (IntKind.u64.wrap n2)] (fun v3 h4=>∃ a5 p q,v3=.slice a5 p q∧∃ n6,hcell h4 (Addr.add (top h) 1)=some (.int .i64 n6)∧CallsH P F.qbq [.slice a5 p q,.int .i64 2,.int .u64 (IntKind.u64.wrap n6)] (fun v7 h8=>∃ a9 r x,v7=.slice a9 r x∧∃ z aa ab,hcell h8 (Addr.add (top h) 2)=some (.slice z aa ab)∧CallsH P F.qcu [.slice a9 r x,.slice z aa ab] (fun aj ac=>∃ ad ae af,aj=.slice ad ae af∧bd (al ac #[.int .u8 206] T.uint8) fun ak=>SemH P (Builtin.append_ #[T.sl_uint8,T.sl_uint8] T.sl_uint8 #[.slice ad ae af,.slice (some (top ac)) 1 1]) (fun am an=>∃ ag ah ai,am=.slice ag ah ai∧K (.slice ag ah ai) an) ak) h8) h4) h1
def qcm.plan (K:KT):Plan:=.go
theorem qcm.ev_eq:qcm.p0=fun K b_0 b_0l b_0c f_1 h=>Ev P Tryz.f23 (qcm.plan K) K [.slice b_0 b_0l b_0c,.agg (List.toArray f_1)] h:=by kernel_rfl
theorem qcm.obl (K:KT):Obl P Tryz.f23 (qcm.plan K) K :=
  obl_true (by kernel_rfl)
theorem qcm.ok {K:KT}{b_0:OA}{b_0l:Nat}{b_0c:Nat}{f_1:List Value}{h:Heap} (H:qcm.p0 K b_0 b_0l b_0c f_1 h):CallsH P F.qcm [.slice b_0 b_0l b_0c,.agg (List.toArray f_1)] K h :=
  calls_of_Ev (qcm.plan K) Tryz.func23 (by kernel_rfl) (qcm.obl K) (by rw [qcm.ev_eq] at H; exact H)
def qas.j4 (K:KT) (b_0:OA) (b_0l:Nat) (b_0c:Nat) (t3:Addr) (h:Heap):Prop :=
  ∃ n5,hcell h (Addr.add t3 1)=some (.int .i64 n5)∧((n5 != 0)=true→∃ n6,hcell h (Addr.add t3 1)=some (.int .i64 n6)∧CallsH P F.qbq [.slice b_0 b_0l b_0c,.int .i64 1,.int .u64 (IntKind.u64.wrap n6)] (fun v7 h8=>∃ a9 p q,v7=.slice a9 p q∧K (.slice a9 p q) h8) h)∧((n5 != 0)=false→K (.slice b_0 b_0l b_0c) h)
def qas.j4.l:Live:=[(0,.slice),(3,.addr)]
def qas.j4.j (K:KT):Tup qas.j4.l→Heap→Prop:=fun x h=>qas.j4 K x.1.1 x.1.2.1 x.1.2.2 x.2.1 h
def qas.j3 (K:KT) (b_0:OA) (b_0l:Nat) (b_0c:Nat) (t3:Addr) (f_5:Int) (h:Heap):Prop :=
  CallsH P F.qbq [.slice b_0 b_0l b_0c,.int .i64 2,.int .u64 f_5] (fun v2 h3=>∃ a4 p q,v2=.slice a4 p q∧∃ s10,hcell h3 (Addr.add t3 2)=some (.string (mkS s10))∧((!(s10==([]:List UInt8)))=true→∃ s11,hcell h3 (Addr.add t3 2)=some (.string (mkS s11))∧CallsH P F.qco [.slice a4 p q,.string (mkS s11)] (fun aa ab=>∃ r x z,aa=.slice r x z∧qas.j4 K r x z t3 ab) h3)∧((!(s10==([]:List UInt8)))=false→qas.j4 K a4 p q t3 h3)) h
def qas.j3.l:Live:=[(0,.slice),(3,.addr),(5,.int .u64)]
def qas.j3.j (K:KT):Tup qas.j3.l→Heap→Prop:=fun x h=>qas.j3 K x.1.1 x.1.2.1 x.1.2.2 x.2.1 x.2.2.1 h
def qas.j2 (K:KT) (b_0:OA) (b_0l:Nat) (b_0c:Nat) (t3:Addr) (f_5:Int) (h:Heap):Prop :=
  ∃ p,hcell h (Addr.add t3 1)=some (.int .i64 p)∧((p != 0)=true→bd ((bitsI .or .u64 f_5 4096):Int) fun f_16=>qas.j3 K b_0 b_0l b_0c t3 f_16 h)∧((p != 0)=false→qas.j3 K b_0 b_0l b_0c t3 f_5 h)
def qas.j2.l:Live:=[(0,.slice),(3,.addr),(5,.int .u64)]
def qas.j2.j (K:KT):Tup qas.j2.l→Heap→Prop:=fun x h=>qas.j2 K x.1.1 x.1.2.1 x.1.2.2 x.2.1 x.2.2.1 h
def qas.j1 (K:KT) (b_0:OA) (b_0l:Nat) (b_0c:Nat) (t3:Addr) (h:Heap):Prop :=
  ∃ p,hcell h (Addr.add t3 2)=some (.string (mkS p))∧((!(p==([]:List UInt8)))=true→bd ((bitsI .or .u64 0 32768):Int) fun f_18=>qas.j2 K b_0 b_0l b_0c t3 f_18 h)∧((!(p==([]:List UInt8)))=false→qas.j2 K b_0 b_0l b_0c t3 0 h)
def qas.j1.l:Live:=[(0,.slice),(3,.addr)]
def qas.j1.j (K:KT):Tup qas.j1.l→Heap→Prop:=fun x h=>qas.j1 K x.1.1 x.1.2.1 x.1.2.2 x.2.1 h
def qas.p0 (K:KT) (b_0:OA) (b_0l:Nat) (b_0c:Nat) (t1:List Value) (h:Heap):Prop :=
  bd (al h (List.toArray t1) T.api_Head) fun h1=>(CallsH P F.qbq [.slice b_0 b_0l b_0c,.int .i64 2,.int .u64 60] (fun be p=>∃ q r x,be=.slice q r x∧(CallsH P F.qbq [.slice q r x,.int .i64 2,.int .u64 0] (fun bf z=>∃ aa ab ac,bf=.slice aa ab ac∧∃ ad,hcell z (Addr.add (top h) 0)=some (.int .u64 ad)∧CallsH P F.qbq [.slice aa ab ac,.int .i64 8,.int .u64 ad] (fun bg bh=>∃ ae af ag,bg=.slice ae af ag∧qas.j1 K ae af ag (top h) bh) z) p)∧(∃ ah,hcell p (Addr.add (top h) 0)=some (.int .u64 ah)∧CallsH P F.qbq [.slice q r x,.int .i64 2,.int .u64 0] (fun bi bj=>∃ ai aj ak,bi=.slice ai aj ak∧CallsH P F.qbq [.slice ai aj ak,.int .i64 8,.int .u64 ah] (fun bk bl=>∃ am an ao,bk=.slice am an ao∧qas.j1 K am an ao (top h) bl) bj) p)) h1)∧(∃ aq,hcell h1 (Addr.add (top h) 0)=some (.int .u64 aq)∧CallsH P F.qbq [.slice b_0 b_0l b_0c,.int .i64 2,.int .u64 60] (fun bm bn=>∃ ar au aw,bm=.slice ar au aw∧CallsH P F.qbq [.slice ar au aw,.int .i64 2,.int .u64 0] (fun bo bp=>∃ ax ay az,bo=.slice ax ay az∧CallsH P F.qbq [.slice ax ay az,.int .i64 8,.int .u64 aq] (fun bq br=>∃ ba bb bc,bq=.slice ba bb bc∧qas.j1 K ba bb bc (top h) br) bp) bn) h1)
def qas.plan (K:KT):Plan:=(.seq .go (.cut qas.j1.l (qas.j1.j K) (.orders (.op 0 (.op 3 (.both (.op 1 (.both (.op 2 (.op 4 (.op 5 (.op 6 .nil)))) (.op 4 (.op 2 (.op 5 (.op 6 .nil)))))) (.op 4 (.op 1 (.op 2 (.op 5 (.op 6 .nil))))))))) (.seq .go (.cut qas.j2.l (qas.j2.j K) .go (.cut qas.j3.l (qas.j3.j K) .go (.seq .go (.cut qas.j4.l (qas.j4.j K) .go .go)))))))
theorem qas.ev_eq:qas.p0=fun K b_0 b_0l b_0c t1 h=>Ev P Tryz.f66 (qas.plan K) K [.slice b_0 b_0l b_0c,.agg (List.toArray t1)] h:=by kernel_rfl
theorem qas.obl (K:KT):Obl P Tryz.f66 (qas.plan K) K :=
  obl_of (R:=DrawOK P Tryz.f66.ntmps (opsAt 1 (bodyOf Tryz.f66)) (.op 0 (.op 3 (.both (.op 1 (.both (.op 2 (.op 4 (.op 5 (.op 6 .nil)))) (.op 4 (.op 2 (.op 5 (.op 6 .nil)))))) (.op 4 (.op 1 (.op 2 (.op 5 (.op 6 .nil))))))))∧Imp (qas.j1.j K)∧Imp (qas.j2.j K)∧Imp (qas.j3.j K)∧Imp (qas.j4.j K)∧True) (by kernel_rfl) ⟨draw_ok (by kernel_rfl),⟨imp _,⟨imp _,⟨imp _,⟨imp _,trivial⟩⟩⟩⟩⟩
theorem qas.ok {K:KT}{b_0:OA}{b_0l:Nat}{b_0c:Nat}{t1:List Value}{h:Heap} (H:qas.p0 K b_0 b_0l b_0c t1 h):CallsH P F.qas [.slice b_0 b_0l b_0c,.agg (List.toArray t1)] K h :=
  calls_of_Ev (qas.plan K) Tryz.func66 (by kernel_rfl) (qas.obl K) (by rw [qas.ev_eq] at H; exact H)
def qbg.L1 (K:KT):Nat→OA→Nat→Nat→Int→OA→Nat→Nat→Heap→Prop
  | 0,_,_,_,_,_,_,_,_=>False
  | fuel+1,b_0,b_0l,b_0c,ch_1,body_3,body_3l,body_3c,h=>((decide (((body_3l:Nat):Int) > 0))=true→bd ((if (4088:Int)<((body_3l:Nat):Int) then 4088 else ((body_3l:Nat):Int)):Int) fun n_10=>inB n_10 body_3c∧CallsH P F.qcm [.slice b_0 b_0l b_0c,.agg #[.int .i64 3,.int .i64 ch_1,.slice (slA body_3 0 body_3c 1) (Int.toNat n_10) body_3c]] (fun x z=>∃ p q r,x=.slice p q r∧inB n_10 body_3l∧bd ((slA body_3 (Int.toNat n_10) body_3c 1):OA) fun body_14=>bd ((body_3l - Int.toNat n_10):Nat) fun body_14l=>bd ((body_3c - Int.toNat n_10):Nat) fun body_14c=>(qbg.L1 K fuel) p q r ch_1 body_14 body_14l body_14c z) h)∧((decide (((body_3l:Nat):Int) > 0))=false→K (.slice b_0 b_0l b_0c) h)
termination_by structural n=>n
def qbg.L1.l:Live:=[(0,.slice),(1,.int .i64),(3,.slice)]
def qbg.L1.j (K:KT):Nat→Tup qbg.L1.l→Heap→Prop:=fun n x h=>qbg.L1 K n x.1.1 x.1.2.1 x.1.2.2 x.2.1 x.2.2.1.1 x.2.2.1.2.1 x.2.2.1.2.2 h
def qbg.p0 (K:KT) (b_0:OA) (b_0l:Nat) (b_0c:Nat) (ch_1:Int) (t2:List Value) (body_3:OA) (body_3l:Nat) (body_3c:Nat) (h:Heap):Prop :=
  bd (al h (List.toArray t2) T.api_Head) fun h1=>∃ h2,stC h1 (Addr.add (top h) 0) 0 [.int .u64 (IntKind.u64.wrap ((body_3l:Nat):Int))]=some h2∧∃ p,rdC h2 (top h) 0 3=some p∧CallsH P F.qas [.slice none 0 0,.agg (List.toArray p)] (fun v4 h5=>∃ a6 q r,v4=.slice a6 q r∧CallsH P F.qcm [.slice b_0 b_0l b_0c,.agg #[.int .i64 2,.int .i64 ch_1,.slice a6 q r]] (fun v7 h8=>∃ a9 x z,v7=.slice a9 x z∧∃ fuel15,qbg.L1 K fuel15 a9 x z ch_1 body_3 body_3l body_3c h8) h5) h2
def qbg.plan (K:KT):Plan:=(.seq .go (.seq .go (.seq .go (.seq (.block (.loop qbg.L1.l (qbg.L1.j K) (fun n1=>.go))) .go))))
theorem qbg.ev_eq:qbg.p0=fun K b_0 b_0l b_0c ch_1 t2 body_3 body_3l body_3c h=>Ev P Tryz.f36 (qbg.plan K) K [.slice b_0 b_0l b_0c,.int .i64 ch_1,.agg (List.toArray t2),.slice body_3 body_3l body_3c] h:=by kernel_rfl
theorem qbg.obl (K:KT):Obl P Tryz.f36 (qbg.plan K) K :=
  obl_of (R:=(∀ x h,¬ (qbg.L1.j K) 0 x h)∧ImpN (qbg.L1.j K)∧(∀ (n1:Nat),True)∧True) (by kernel_rfl) ⟨fun _ _ H=>H,impN _,fun _=>trivial,trivial⟩
theorem qbg.ok {K:KT}{b_0:OA}{b_0l:Nat}{b_0c:Nat}{ch_1:Int}{t2:List Value}{body_3:OA}{body_3l:Nat}{body_3c:Nat}{h:Heap} (H:qbg.p0 K b_0 b_0l b_0c ch_1 t2 body_3 body_3l body_3c h):CallsH P F.qbg [.slice b_0 b_0l b_0c,.int .i64 ch_1,.agg (List.toArray t2),.slice body_3 body_3l body_3c] K h :=
  calls_of_Ev (qbg.plan K) Tryz.func36 (by kernel_rfl) (qbg.obl K) (by rw [qbg.ev_eq] at H; exact H)
end Go.Proofs.YtjapglfpjhljpaaGreat.Pr
end
section
set_option linter.unusedVariables false
set_option maxRecDepth 100000
namespace Go.Proofs.YtjapglfpjhljpaaGreat.Pr
open Go Go.Lift Go.Proofs
def qbc.L2 (K:KT):Nat→OA→Nat→Nat→Int→Int→Int→Int→Heap→Prop
  | 0,_,_,_,_,_,_,_,_=>False
  | fuel+1,b_0,b_0l,b_0c,t1,t2,v_8,i_9,h=>((decide (i_9<t2))=true→(0:Int)≤8∧∃ p1,b_0=some p1∧(0:Int)≤(IntKind.i64.wrap (t1+i_9))∧(IntKind.i64.wrap (t1+i_9))<((b_0l:Nat):Int)∧∃ n2,hcell h (Addr.add p1 (Int.toNat (IntKind.i64.wrap (t1+i_9)) * 1))=some (.int .u8 n2)∧bd ((bitsI .or .u64 (shlI .u64 v_8 8) (IntKind.u64.wrap n2)):Int) fun v_3=>bd ((IntKind.i64.wrap (i_9+1)):Int) fun i_4=>(qbc.L2 K fuel) b_0 b_0l b_0c t1 t2 v_3 i_4 h)∧((decide (i_9<t2))=false→K (.tuple #[.int .u64 v_8,.bool true]) h)
termination_by structural n=>n
def qbc.L2.l:Live:=[(0,.slice),(1,.int .i64),(2,.int .i64),(8,.int .u64),(9,.int .i64)]
def qbc.L2.j (K:KT):Nat→Tup qbc.L2.l→Heap→Prop:=fun n x h=>qbc.L2 K n x.1.1 x.1.2.1 x.1.2.2 x.2.1 x.2.2.1 x.2.2.2.1 x.2.2.2.2.1 h
def qbc.j1 (K:KT) (b_0:OA) (b_0l:Nat) (b_0c:Nat) (t1:Int) (t2:Int) (p:Bool) (h:Heap):Prop :=
  (p=true→K (.tuple #[.int .u64 0,.bool false]) h)∧(p=false→∃ fuel5,qbc.L2 K fuel5 b_0 b_0l b_0c t1 t2 0 0 h)
def qbc.j1.l:Live:=[(0,.slice),(1,.int .i64),(2,.int .i64),(19,.bool)]
def qbc.j1.j (K:KT):Tup qbc.j1.l→Heap→Prop:=fun x h=>qbc.j1 K x.1.1 x.1.2.1 x.1.2.2 x.2.1 x.2.2.1 x.2.2.2.1 h
def qbc.p0 (K:KT) (b_0:OA) (b_0l:Nat) (b_0c:Nat) (t1:Int) (t2:Int) (h:Heap):Prop :=
  ((decide (t1<0))=false→qbc.j1 K b_0 b_0l b_0c t1 t2 (decide (t2 > (IntKind.i64.wrap (((b_0l:Nat):Int) - t1)))) h)∧((decide (t1<0))=true→qbc.j1 K b_0 b_0l b_0c t1 t2 true h)
def qbc.plan (K:KT):Plan:=(.seq .go (.seq (.cut qbc.j1.l (qbc.j1.j K) .go .go) (.seq .go (.seq (.seq .go (.block (.loop qbc.L2.l (qbc.L2.j K) (fun n2=>.go)))) .go))))
theorem qbc.ev_eq:qbc.p0=fun K b_0 b_0l b_0c t1 t2 h=>Ev P Tryz.f39 (qbc.plan K) K [.slice b_0 b_0l b_0c,.int .i64 t1,.int .i64 t2] h:=by kernel_rfl
theorem qbc.obl (K:KT):Obl P Tryz.f39 (qbc.plan K) K :=
  obl_of (R:=Imp (qbc.j1.j K)∧(∀ x h,¬ (qbc.L2.j K) 0 x h)∧ImpN (qbc.L2.j K)∧(∀ (n2:Nat),True)∧True) (by kernel_rfl) ⟨imp _,⟨fun _ _ H=>H,impN _,fun _=>trivial,trivial⟩⟩
theorem qbc.ok {K:KT}{b_0:OA}{b_0l:Nat}{b_0c:Nat}{t1:Int}{t2:Int}{h:Heap} (H:qbc.p0 K b_0 b_0l b_0c t1 t2 h):CallsH P F.qbc [.slice b_0 b_0l b_0c,.int .i64 t1,.int .i64 t2] K h :=
  calls_of_Ev (qbc.plan K) Tryz.func39 (by kernel_rfl) (qbc.obl K) (by rw [qbc.ev_eq] at H; exact H)
def qbo.j1 (K:KT) (b_0:OA) (b_0l:Nat) (b_0c:Nat) (t1:Int) (t2:Int) (v_9:Int) (p:Bool) (h:Heap):Prop :=
  (p=true→K (.tuple #[.slice none 0 0,.int .i64 0,.bool false]) h)∧(p=false→bd ((IntKind.i64.wrap v_9):Int) fun k_5=>inB (IntKind.i64.wrap ((IntKind.i64.wrap (t1+t2))+k_5)) b_0c∧inB (IntKind.i64.wrap (t1+t2)) (Int.toNat (IntKind.i64.wrap ((IntKind.i64.wrap (t1+t2))+k_5)))∧bd ((slA b_0 (Int.toNat (IntKind.i64.wrap (t1+t2))) b_0c 1):OA) fun a6=>bd ((Int.toNat (IntKind.i64.wrap ((IntKind.i64.wrap (t1+t2))+k_5)) - Int.toNat (IntKind.i64.wrap (t1+t2))):Nat) fun q=>bd ((b_0c - Int.toNat (IntKind.i64.wrap (t1+t2))):Nat) fun r=>bd ((IntKind.i64.wrap ((IntKind.i64.wrap (t1+t2))+k_5)):Int) fun n7=>K (.tuple #[.slice a6 q r,.int .i64 n7,.bool true]) h)
def qbo.j1.l:Live:=[(0,.slice),(1,.int .i64),(2,.int .i64),(9,.int .u64),(31,.bool)]
def qbo.j1.j (K:KT):Tup qbo.j1.l→Heap→Prop:=fun x h=>qbo.j1 K x.1.1 x.1.2.1 x.1.2.2 x.2.1 x.2.2.1 x.2.2.2.1 x.2.2.2.2.1 h
def qbo.p0 (K:KT) (b_0:OA) (b_0l:Nat) (b_0c:Nat) (t1:Int) (t2:Int) (h:Heap):Prop :=
  CallsH P F.qbc [.slice b_0 b_0l b_0c,.int .i64 t1,.int .i64 t2] (fun v1 h2=>∃ n3 b4,v1=.tuple #[.int .u64 n3,.bool b4]∧((!b4)=false→qbo.j1 K b_0 b_0l b_0c t1 t2 n3 (decide (n3 > (IntKind.u64.wrap (IntKind.i64.wrap ((IntKind.i64.wrap (((b_0l:Nat):Int) - t1)) - t2))))) h2)∧((!b4)=true→qbo.j1 K b_0 b_0l b_0c t1 t2 n3 true h2)) h
def qbo.plan (K:KT):Plan:=(.seq .go (.seq .go (.seq (.cut qbo.j1.l (qbo.j1.j K) .go .go) .go)))
theorem qbo.ev_eq:qbo.p0=fun K b_0 b_0l b_0c t1 t2 h=>Ev P Tryz.f53 (qbo.plan K) K [.slice b_0 b_0l b_0c,.int .i64 t1,.int .i64 t2] h:=by kernel_rfl
theorem qbo.obl (K:KT):Obl P Tryz.f53 (qbo.plan K) K :=
  obl_of (R:=Imp (qbo.j1.j K)∧True) (by kernel_rfl) ⟨imp _,trivial⟩
theorem qbo.ok {K:KT}{b_0:OA}{b_0l:Nat}{b_0c:Nat}{t1:Int}{t2:Int}{h:Heap} (H:qbo.p0 K b_0 b_0l b_0c t1 t2 h):CallsH P F.qbo [.slice b_0 b_0l b_0c,.int .i64 t1,.int .i64 t2] K h :=
  calls_of_Ev (qbo.plan K) Tryz.func53 (by kernel_rfl) (qbo.obl K) (by rw [qbo.ev_eq] at H; exact H)
def qai.j5 (K:KT) (R1:OA→Nat→Nat→Int→OA→Nat→Nat→Int→Heap→Prop) (t0:OA) (aa:Nat) (ab:Nat) (t1:Int) (t6:OA) (ac:Nat) (ad:Nat) (t9:Int) (ae:Addr) (h:Heap):Prop :=
  ∃ p,rdC h ae 0 5=some p∧∃ q,bldS P T.sl_api_Field T.api_Field 1 [(0,.agg (List.toArray p))] q∧bd (al h (List.toArray q) T.api_Field) fun h9=>SemH P (Builtin.append_ #[T.sl_api_Field,T.sl_api_Field] T.sl_api_Field #[.slice t6 ac ad,.slice (some (top h)) 1 1]) (fun af ag=>∃ r x z,af=.slice r x z∧R1 t0 aa ab t1 r x z t9 ag) h9
def qai.j5.l:Live:=[(0,.slice),(1,.int .i64),(6,.slice),(9,.int .i64),(11,.addr)]
def qai.j5.j (K:KT) (R1:OA→Nat→Nat→Int→OA→Nat→Nat→Int→Heap→Prop):Tup qai.j5.l→Heap→Prop:=fun x h=>qai.j5 K R1 x.1.1 x.1.2.1 x.1.2.2 x.2.1 x.2.2.1.1 x.2.2.1.2.1 x.2.2.1.2.2 x.2.2.2.1 x.2.2.2.2.1 h
def qai.j6 (K:KT) (R1:OA→Nat→Nat→Int→OA→Nat→Nat→Int→Heap→Prop) (t0:OA) (p:Nat) (q:Nat) (t1:Int) (t6:OA) (r:Nat) (x:Nat) (t9:Int) (z:Addr) (aa:Int) (h:Heap):Prop :=
  bd ((IntKind.i64.wrap (t9+aa)):Int) fun ab=>qai.j5 K R1 t0 p q t1 t6 r x ab z h
def qai.j6.l:Live:=[(0,.slice),(1,.int .i64),(6,.slice),(9,.int .i64),(11,.addr),(12,.int .i64)]
def qai.j6.j (K:KT) (R1:OA→Nat→Nat→Int→OA→Nat→Nat→Int→Heap→Prop):Tup qai.j6.l→Heap→Prop:=fun x h=>qai.j6 K R1 x.1.1 x.1.2.1 x.1.2.2 x.2.1 x.2.2.1.1 x.2.2.1.2.1 x.2.2.1.2.2 x.2.2.2.1 x.2.2.2.2.1 x.2.2.2.2.2.1 h
def qai.j4 (K:KT) (R1:OA→Nat→Nat→Int→OA→Nat→Nat→Int→Heap→Prop) (t0:OA) (r:Nat) (x:Nat) (t1:Int) (t6:OA) (z:Nat) (aa:Nat) (t9:Int) (q:Addr) (p:Int) (h:Heap):Prop :=
  ((decide (p > 0))=true→CallsH P F.qbc [.slice t0 r x,.int .i64 t9,.int .i64 p] (fun ag ae=>∃ ab ac,ag=.tuple #[.int .u64 ab,.bool ac]∧((!ac)=true→K (.tuple #[.slice none 0 0,.bool false]) ae)∧((!ac)=false→∃ ad,stC ae (Addr.add q 2) 0 [.int .i64 (IntKind.i64.wrap ab)]=some ad∧((p==4)=true→∃ af,stC ad (Addr.add q 2) 0 [.int .i64 (IntKind.i64.wrap (IntKind.i32.wrap (IntKind.u32.wrap ab)))]=some af∧qai.j6 K R1 t0 r x t1 t6 z aa t9 q p af)∧((p==4)=false→qai.j6 K R1 t0 r x t1 t6 z aa t9 q p ad))) h)∧((decide (p > 0))=false→qai.j5 K R1 t0 r x t1 t6 z aa t9 q h)
def qai.j4.l:Live:=[(0,.slice),(1,.int .i64),(6,.slice),(9,.int .i64),(11,.addr),(12,.int .i64)]
def qai.j4.j (K:KT) (R1:OA→Nat→Nat→Int→OA→Nat→Nat→Int→Heap→Prop):Tup qai.j4.l→Heap→Prop:=fun x h=>qai.j4 K R1 x.1.1 x.1.2.1 x.1.2.2 x.2.1 x.2.2.1.1 x.2.2.1.2.1 x.2.2.1.2.2 x.2.2.2.1 x.2.2.2.2.1 x.2.2.2.2.2.1 h
def qai.j7 (K:KT) (R1:OA→Nat→Nat→Int→OA→Nat→Nat→Int→Heap→Prop) (t0:OA) (q:Nat) (r:Nat) (t1:Int) (t6:OA) (z:Nat) (aa:Nat) (t9:Int) (p:Addr) (ab:Int) (aw:Int) (ak:Bool) (h:Heap):Prop :=
  (ak=true→CallsH P F.qbo [.slice t0 q r,.int .i64 t9,.int .i64 4] (fun ax x=>∃ ac ad ae af ag,ax=.tuple #[.slice ac ad ae,.int .i64 af,.bool ag]∧((!ag)=true→K (.tuple #[.slice none 0 0,.bool false]) x)∧((!ag)=false→∃ ah,hcell x (Addr.add p 1)=some (.int .u8 ah)∧((ah==83)=true→SemH P (Go.convert T.sl_uint8 T.string (.slice ac ad ae)) (fun ay az=>∃ am,ay=.string (mkS am)∧∃ an,stC az (Addr.add p 3) 0 [.string (mkS am)]=some an∧qai.j4 K R1 t0 q r t1 t6 z aa af p ab an) x)∧((ah==83)=false→CallsH P F.qai [.slice ac ad ae,.int .i64 (IntKind.i64.wrap (t1+1))] (fun ba bb=>∃ ao aq ar ai,ba=.tuple #[.slice ao aq ar,.bool ai]∧∃ aj,stC bb (Addr.add p 4) 0 [.slice ao aq ar]=some aj∧((!ai)=true→K (.tuple #[.slice none 0 0,.bool false]) aj)∧((!ai)=false→qai.j4 K R1 t0 q r t1 t6 z aa af p ab aj)) x))) h)∧(ak=false→bd ((aw==86):Bool) fun au=>(au=true→qai.j4 K R1 t0 q r t1 t6 z aa t9 p ab h)∧(au=false→K (.tuple #[.slice none 0 0,.bool false]) h))
def qai.j7.l:Live:=[(0,.slice),(1,.int .i64),(6,.slice),(9,.int .i64),(11,.addr),(12,.int .i64),(51,.int .u8),(58,.bool)]
def qai.j7.j (K:KT) (R1:OA→Nat→Nat→Int→OA→Nat→Nat→Int→Heap→Prop):Tup qai.j7.l→Heap→Prop:=fun x h=>qai.j7 K R1 x.1.1 x.1.2.1 x.1.2.2 x.2.1 x.2.2.1.1 x.2.2.1.2.1 x.2.2.1.2.2 x.2.2.2.1 x.2.2.2.2.1 x.2.2.2.2.2.1 x.2.2.2.2.2.2.1 x.2.2.2.2.2.2.2.1 h
def qai.j3 (K:KT) (R1:OA→Nat→Nat→Int→OA→Nat→Nat→Int→Heap→Prop) (t0:OA) (r:Nat) (x:Nat) (t1:Int) (t6:OA) (z:Nat) (aa:Nat) (t9:Int) (q:Addr) (h:Heap):Prop :=
  bd ((IntKind.i64.wrap (t9+1)):Int) fun n6=>∃ p,hcell h (Addr.add q 1)=some (.int .u8 p)∧bd ((p==116):Bool) fun ac=>(ac=true→qai.j4 K R1 t0 r x t1 t6 z aa n6 q 1 h)∧(ac=false→bd ((p==73):Bool) fun ad=>(ad=true→qai.j4 K R1 t0 r x t1 t6 z aa n6 q 4 h)∧(ad=false→bd ((p==108):Bool) fun ae=>(ae=true→qai.j4 K R1 t0 r x t1 t6 z aa n6 q 8 h)∧(ae=false→bd ((p==83):Bool) fun ab=>(ab=true→qai.j7 K R1 t0 r x t1 t6 z aa n6 q 0 p ab h)∧(ab=false→bd ((p==70):Bool) fun af=>qai.j7 K R1 t0 r x t1 t6 z aa n6 q 0 p af h))))
def qai.j3.l:Live:=[(0,.slice),(1,.int .i64),(6,.slice),(9,.int .i64),(11,.addr)]
def qai.j3.j (K:KT) (R1:OA→Nat→Nat→Int→OA→Nat→Nat→Int→Heap→Prop):Tup qai.j3.l→Heap→Prop:=fun x h=>qai.j3 K R1 x.1.1 x.1.2.1 x.1.2.2 x.2.1 x.2.2.1.1 x.2.2.1.2.1 x.2.2.1.2.2 x.2.2.2.1 x.2.2.2.2.1 h
def qai.j2 (K:KT) (R1:OA→Nat→Nat→Int→OA→Nat→Nat→Int→Heap→Prop) (t0:OA) (p:Nat) (r:Nat) (t1:Int) (t6:OA) (x:Nat) (z:Nat) (t8:OA) (ab:Nat) (ac:Nat) (t9:Int) (ar:Bool) (h:Heap):Prop :=
  (ar=true→K (.tuple #[.slice none 0 0,.bool false]) h)∧(ar=false→∃ aa,t0=some aa∧(0:Int)≤t9∧t9<((p:Nat):Int)∧(SemH P (Go.convert T.sl_uint8 T.string (.slice t8 ab ac)) (fun be q=>∃ ad,be=.string (mkS ad)∧(∃ af,hcell q (Addr.add aa (Int.toNat t9 * 1))=some (.int .u8 af)∧bd (al q #[.string (mkS ([]:List UInt8)),.int .u8 0,.int .i64 0,.string (mkS ([]:List UInt8)),.slice none 0 0] T.api_Field) fun bf=>([.string (mkS ad),.int .u8 af,.int .i64 0,.string (mkS ([]:List UInt8)),.slice none 0 0]:List Value).length=5∧∃ au,stC bf (top q) 0 [.string (mkS ad),.int .u8 af,.int .i64 0,.string (mkS ([]:List UInt8)),.slice none 0 0]=some au∧qai.j3 K R1 t0 p r t1 t6 x z t9 (top q) au)∧(bd (al q #[.string (mkS ([]:List UInt8)),.int .u8 0,.int .i64 0,.string (mkS ([]:List UInt8)),.slice none 0 0] T.api_Field) fun aw=>∃ ag,hcell aw (Addr.add aa (Int.toNat t9 * 1))=some (.int .u8 ag)∧([.string (mkS ad),.int .u8 ag,.int .i64 0,.string (mkS ([]:List UInt8)),.slice none 0 0]:List Value).length=5∧∃ ax,stC aw (top q) 0 [.string (mkS ad),.int .u8 ag,.int .i64 0,.string (mkS ([]:List UInt8)),.slice none 0 0]=some ax∧qai.j3 K R1 t0 p r t1 t6 x z t9 (top q) ax)) h)∧((∃ ae,hcell h (Addr.add aa (Int.toNat t9 * 1))=some (.int .u8 ae)∧(SemH P (Go.convert T.sl_uint8 T.string (.slice t8 ab ac)) (fun bg ah=>∃ ai,bg=.string (mkS ai)∧bd (al ah #[.string (mkS ([]:List UInt8)),.int .u8 0,.int .i64 0,.string (mkS ([]:List UInt8)),.slice none 0 0] T.api_Field) fun bh=>([.string (mkS ai),.int .u8 ae,.int .i64 0,.string (mkS ([]:List UInt8)),.slice none 0 0]:List Value).length=5∧∃ ay,stC bh (top ah) 0 [.string (mkS ai),.int .u8 ae,.int .i64 0,.string (mkS ([]:List UInt8)),.slice none 0 0]=some ay∧qai.j3 K R1 t0 p r t1 t6 x z t9 (top ah) ay) h)∧(bd (al h #[.string (mkS ([]:List UInt8)),.int .u8 0,.int .i64 0,.string (mkS ([]:List UInt8)),.slice none 0 0] T.api_Field) fun bi=>SemH P (Go.convert T.sl_uint8 T.string (.slice t8 ab ac)) (fun bj bk=>∃ aj,bj=.string (mkS aj)∧([.string (mkS aj),.int .u8 ae,.int .i64 0,.string (mkS ([]:List UInt8)),.slice none 0 0]:List Value).length=5∧∃ az,stC bk (top h) 0 [.string (mkS aj),.int .u8 ae,.int .i64 0,.string (mkS ([]:List UInt8)),.slice none 0 0]=some az∧qai.j3 K R1 t0 p r t1 t6 x z t9 (top h) az) bi))∧(bd (al h #[.string (mkS ([]:List UInt8)),.int .u8 0,.int .i64 0,.string (mkS ([]:List UInt8)),.slice none 0 0] T.api_Field) fun ak=>(SemH P (Go.convert T.sl_uint8 T.string (.slice t8 ab ac)) (fun bl ba=>∃ am,bl=.string (mkS am)∧∃ an,hcell ba (Addr.add aa (Int.toNat t9 * 1))=some (.int .u8 an)∧([.string (mkS am),.int .u8 an,.int .i64 0,.string (mkS ([]:List UInt8)),.slice none 0 0]:List Value).length=5∧∃ bb,stC ba (top h) 0 [.string (mkS am),.int .u8 an,.int .i64 0,.string (mkS ([]:List UInt8)),.slice none 0 0]=some bb∧qai.j3 K R1 t0 p r t1 t6 x z t9 (top h) bb) ak)∧(∃ ao,hcell ak (Addr.add aa (Int.toNat t9 * 1))=some (.int .u8 ao)∧SemH P (Go.convert T.sl_uint8 T.string (.slice t8 ab ac)) (fun bm bn=>∃ aq,bm=.string (mkS aq)∧([.string (mkS aq),.int .u8 ao,.int .i64 0,.string (mkS ([]:List UInt8)),.slice none 0 0]:List Value).length=5∧∃ bc,stC bn (top h) 0 [.string (mkS aq),.int .u8 ao,.int .i64 0,.string (mkS ([]:List UInt8)),.slice none 0 0]=some bc∧qai.j3 K R1 t0 p r t1 t6 x z t9 (top h) bc) ak))))
def qai.j2.l:Live:=[(0,.slice),(1,.int .i64),(6,.slice),(8,.slice),(9,.int .i64),(40,.bool)]
def qai.j2.j (K:KT) (R1:OA→Nat→Nat→Int→OA→Nat→Nat→Int→Heap→Prop):Tup qai.j2.l→Heap→Prop:=fun x h=>qai.j2 K R1 x.1.1 x.1.2.1 x.1.2.2 x.2.1 x.2.2.1.1 x.2.2.1.2.1 x.2.2.1.2.2 x.2.2.2.1.1 x.2.2.2.1.2.1 x.2.2.2.1.2.2 x.2.2.2.2.1 x.2.2.2.2.2.1 h
def qai.L1 (K:KT):Nat→OA→Nat→Nat→Int→OA→Nat→Nat→Int→Heap→Prop
  | 0,_,_,_,_,_,_,_,_,_=>False
  | fuel+1,t0,p,q,t1,t6,r,x,t7,h=>((decide (t7<((p:Nat):Int)))=true→CallsH P F.qbo [.slice t0 p q,.int .i64 t7,.int .i64 1] (fun v1 h2=>∃ a3 z aa n4 b5,v1=.tuple #[.slice a3 z aa,.int .i64 n4,.bool b5]∧((!b5)=false→((decide (n4 ≥ ((p:Nat):Int)))=false→qai.j2 K (qai.L1 K fuel) t0 p q t1 t6 r x a3 z aa n4 (decide (t1 > 8)) h2)∧((decide (n4 ≥ ((p:Nat):Int)))=true→qai.j2 K (qai.L1 K fuel) t0 p q t1 t6 r x a3 z aa n4 true h2))∧((!b5)=true→qai.j2 K (qai.L1 K fuel) t0 p q t1 t6 r x a3 z aa n4 true h2)) h)∧((decide (t7<((p:Nat):Int)))=false→K (.tuple #[.slice t6 r x,.bool true]) h)
termination_by structural n=>n
def qai.L1.l:Live:=[(0,.slice),(1,.int .i64),(6,.slice),(7,.int .i64)]
def qai.L1.j (K:KT):Nat→Tup qai.L1.l→Heap→Prop:=fun n x h=>qai.L1 K n x.1.1 x.1.2.1 x.1.2.2 x.2.1 x.2.2.1.1 x.2.2.1.2.1 x.2.2.1.2.2 x.2.2.2.1 h
def qai.p0 (K:KT) (t0:OA) (p:Nat) (q:Nat) (t1:Int) (h:Heap):Prop :=
  ∃ fuel74,qai.L1 K fuel74 t0 p q t1 none 0 0 0 h
def qai.plan (K:KT):Plan:=(.seq .go (.seq .go (.seq .go (.seq (.block (.loop qai.L1.l (qai.L1.j K) (fun n1=>(.seq .go (.block (.seq .go (.seq (.cut qai.j2.l (qai.j2.j K (qai.L1 K n1)) .go .go) (.cut qai.j3.l (qai.j3.j K (qai.L1 K n1)) (.orders (.op 0 (.op 2 (.op 3 (.op 4 (.both (.op 1 (.both (.op 5 (.op 6 (.op 7 (.op 8 .nil)))) (.op 7 (.op 5 (.op 6 (.op 8 .nil)))))) (.both (.op 5 (.both (.op 1 (.op 6 (.op 7 (.op 8 .nil)))) (.op 7 (.op 1 (.op 6 (.op 8 .nil)))))) (.op 7 (.both (.op 1 (.op 5 (.op 6 (.op 8 .nil)))) (.op 5 (.op 1 (.op 6 (.op 8 .nil))))))))))))) (.seq .go (.seq .go (.cut qai.j4.l (qai.j4.j K (qai.L1 K n1)) (.seq .go (.block (.seq .go (.cond .go (.seq .go (.cond .go (.seq .go (.cond .go (.cut qai.j7.l (qai.j7.j K (qai.L1 K n1)) .go .go))))))))) (.cut qai.j5.l (qai.j5.j K (qai.L1 K n1)) (.seq .go (.cond (.seq .go (.seq .go (.seq .go (.cut qai.j6.l (qai.j6.j K (qai.L1 K n1)) .go .go)))) .go)) .go)))))))))))) .go))))
theorem qai.ev_eq:qai.p0=fun K t0 p q t1 h=>Ev P Tryz.f72 (qai.plan K) K [.slice t0 p q,.int .i64 t1] h:=by kernel_rfl
theorem qai.obl (K:KT):Obl P Tryz.f72 (qai.plan K) K :=
  obl_of (R:=(∀ x h,¬ (qai.L1.j K) 0 x h)∧ImpN (qai.L1.j K)∧(∀ (n1:Nat),Imp (qai.j2.j K (qai.L1 K n1))∧DrawOK P Tryz.f72.ntmps (opsAt 7 (bodyOf Tryz.f72)) (.op 0 (.op 2 (.op 3 (.op 4 (.both (.op 1 (.both (.op 5 (.op 6 (.op 7 (.op 8 .nil)))) (.op 7 (.op 5 (.op 6 (.op 8 .nil)))))) (.both (.op 5 (.both (.op 1 (.op 6 (.op 7 (.op 8 .nil)))) (.op 7 (.op 1 (.op 6 (.op 8 .nil)))))) (.op 7 (.both (.op 1 (.op 5 (.op 6 (.op 8 .nil)))) (.op 5 (.op 1 (.op 6 (.op 8 .nil))))))))))))∧Imp (qai.j3.j K (qai.L1 K n1))∧Imp (qai.j7.j K (qai.L1 K n1))∧Imp (qai.j4.j K (qai.L1 K n1))∧Imp (qai.j6.j K (qai.L1 K n1))∧Imp (qai.j5.j K (qai.L1 K n1))∧True)∧True) (by kernel_rfl) ⟨fun _ _ H=>H,impN _,fun _=>⟨imp _,⟨draw_ok (by kernel_rfl),⟨imp _,⟨imp _,⟨imp _,⟨imp _,⟨imp _,trivial⟩⟩⟩⟩⟩⟩⟩,trivial⟩
theorem qai.ok {K:KT}{t0:OA}{p:Nat}{q:Nat}{t1:Int}{h:Heap} (H:qai.p0 K t0 p q t1 h):CallsH P F.qai [.slice t0 p q,.int .i64 t1] K h :=
  calls_of_Ev (qai.plan K) Tryz.func72 (by kernel_rfl) (qai.obl K) (by rw [qai.ev_eq] at H; exact H)
def qce.p0 (K:KT) (b_0:OA) (b_0l:Nat) (b_0c:Nat) (h:Heap):Prop :=
  ((decide (((b_0l:Nat):Int) > 2000))=true→K (.tuple #[.slice none 0 0,.bool false]) h)∧((decide (((b_0l:Nat):Int) > 2000))=false→CallsH P F.qai [.slice b_0 b_0l b_0c,.int .i64 1] (fun v1 h2=>∃ a3 p q b4,v1=.tuple #[.slice a3 p q,.bool b4]∧((!b4)=false→CallsH P F.qch [.slice a3 p q] (fun v5 h6=>∃ b7,v5=.bool b7∧((!b7)=true→K (.tuple #[.slice none 0 0,.bool false]) h6)∧((!b7)=false→K (.tuple #[.slice a3 p q,.bool true]) h6)) h2)∧((!b4)=true→(true=true→K (.tuple #[.slice none 0 0,.bool false]) h2)∧(true=false→K (.tuple #[.slice a3 p q,.bool true]) h2))) h)
def qce.plan (K:KT):Plan:=.go
theorem qce.ev_eq:qce.p0=fun K b_0 b_0l b_0c h=>Ev P Tryz.f54 (qce.plan K) K [.slice b_0 b_0l b_0c] h:=by kernel_rfl
theorem qce.obl (K:KT):Obl P Tryz.f54 (qce.plan K) K :=
  obl_true (by kernel_rfl)
theorem qce.ok {K:KT}{b_0:OA}{b_0l:Nat}{b_0c:Nat}{h:Heap} (H:qce.p0 K b_0 b_0l b_0c h):CallsH P F.qce [.slice b_0 b_0l b_0c] K h :=
  calls_of_Ev (qce.plan K) Tryz.func54 (by kernel_rfl) (qce.obl K) (by rw [qce.ev_eq] at H; exact H)
def qac.j2 (K:KT) (t0:OA) (x:Nat) (ac:Nat) (t2:Addr) (t8:Addr) (z:Int) (h:Heap):Prop :=
  ((z != ((x:Nat):Int))=true→([.int .i64 0,.int .i64 0,.slice none 0 0,.slice none 0 0,.slice none 0 0,.slice none 0 0]:List Value).length=6∧∃ p,stC h t2 0 [.int .i64 0,.int .i64 0,.slice none 0 0,.slice none 0 0,.slice none 0 0,.slice none 0 0]=some p∧∃ aa,rdC p t2 0 6=some aa∧K (.tuple #[.agg (List.toArray aa),.int .i64 4]) p)∧((z != ((x:Nat):Int))=false→∃ q,rdC h t8 0 6=some q∧q.length=6∧∃ r,stC h t2 0 q=some r∧∃ ab,rdC r t2 0 6=some ab∧K (.tuple #[.agg (List.toArray ab),.int .i64 0]) r)
def qac.j2.l:Live:=[(0,.slice),(2,.addr),(8,.addr),(11,.int .i64)]
def qac.j2.j (K:KT):Tup qac.j2.l→Heap→Prop:=fun x h=>qac.j2 K x.1.1 x.1.2.1 x.1.2.2 x.2.1 x.2.2.1 x.2.2.2.1 h
def qac.j4 (K:KT) (R3:OA→Nat→Nat→Addr→Addr→List UInt8→Int→Int→Int→Heap→Prop) (t0:OA) (p:Nat) (q:Nat) (t2:Addr) (t8:Addr) (t9:List UInt8) (r:Int) (x:Int) (z:Int) (h:Heap):Prop :=
  bd ((IntKind.i64.wrap (z+1)):Int) fun aa=>R3 t0 p q t2 t8 t9 r x aa h
def qac.j4.l:Live:=[(0,.slice),(2,.addr),(8,.addr),(9,.str),(11,.int .i64),(12,.int .i64),(13,.int .i64)]
def qac.j4.j (K:KT) (R3:OA→Nat→Nat→Addr→Addr→List UInt8→Int→Int→Int→Heap→Prop):Tup qac.j4.l→Heap→Prop:=fun x h=>qac.j4 K R3 x.1.1 x.1.2.1 x.1.2.2 x.2.1 x.2.2.1 x.2.2.2.1 x.2.2.2.2.1 x.2.2.2.2.2.1 x.2.2.2.2.2.2.1 h
def qac.j7 (K:KT) (R3:OA→Nat→Nat→Addr→Addr→List UInt8→Int→Int→Int→Heap→Prop) (t0:OA) (q:Nat) (r:Nat) (t2:Addr) (t8:Addr) (t9:List UInt8) (bf:Int) (ag:Int) (ah:Int) (ai:Int) (bg:Int) (h:Heap):Prop :=
  CallsH P F.qbo [.slice t0 q r,.int .i64 bf,.int .i64 bg] (fun bh p=>∃ x z aa ab ac,bh=.tuple #[.slice x z aa,.int .i64 ab,.bool ac]∧((!ac)=true→([.int .i64 0,.int .i64 0,.slice none 0 0,.slice none 0 0,.slice none 0 0,.slice none 0 0]:List Value).length=6∧∃ ad,stC p t2 0 [.int .i64 0,.int .i64 0,.slice none 0 0,.slice none 0 0,.slice none 0 0,.slice none 0 0]=some ad∧∃ aj,rdC ad t2 0 6=some aj∧K (.tuple #[.agg (List.toArray aj),.int .i64 4]) ad)∧((!ac)=false→((ai != 116)=true→∃ ak am an,hcell p (Addr.add t8 3)=some (.slice ak am an)∧SemH P (Go.convert T.sl_uint8 T.string (.slice x z aa)) (fun bi ao=>∃ aq,bi=.string (mkS aq)∧bd (al ao #[.string (mkS aq)] T.string) fun bj=>SemH P (Builtin.append_ #[T.sl_string,T.sl_string] T.sl_string #[.slice ak am an,.slice (some (top ao)) 1 1]) (fun bk bl=>∃ ar au aw,bk=.slice ar au aw∧∃ ax,stC bl (Addr.add t8 3) 0 [.slice ar au aw]=some ax∧qac.j4 K R3 t0 q r t2 t8 t9 ab ag ah ax) bj) p)∧((ai != 116)=false→CallsH P F.qce [.slice x z aa] (fun bm ay=>∃ az ba bb ae,bm=.tuple #[.slice az ba bb,.bool ae]∧((!ae)=true→([.int .i64 0,.int .i64 0,.slice none 0 0,.slice none 0 0,.slice none 0 0,.slice none 0 0]:List Value).length=6∧∃ af,stC ay t2 0 [.int .i64 0,.int .i64 0,.slice none 0 0,.slice none 0 0,.slice none 0 0,.slice none 0 0]=some af∧∃ bc,rdC af t2 0 6=some bc∧K (.tuple #[.agg (List.toArray bc),.int .i64 4]) af)∧((!ae)=false→∃ be,stC ay (Addr.add t8 5) 0 [.slice az ba bb]=some be∧qac.j4 K R3 t0 q r t2 t8 t9 ab ag ah be)) p))) h
def qac.j7.l:Live:=[(0,.slice),(2,.addr),(8,.addr),(9,.str),(11,.int .i64),(12,.int .i64),(13,.int .i64),(14,.int .u8),(15,.int .i64)]
def qac.j7.j (K:KT) (R3:OA→Nat→Nat→Addr→Addr→List UInt8→Int→Int→Int→Heap→Prop):Tup qac.j7.l→Heap→Prop:=fun x h=>qac.j7 K R3 x.1.1 x.1.2.1 x.1.2.2 x.2.1 x.2.2.1 x.2.2.2.1 x.2.2.2.2.1 x.2.2.2.2.2.1 x.2.2.2.2.2.2.1 x.2.2.2.2.2.2.2.1 x.2.2.2.2.2.2.2.2.1 h
def qac.j9 (K:KT) (R3:OA→Nat→Nat→Addr→Addr→List UInt8→Int→Int→Int→Heap→Prop) (t0:OA) (p:Nat) (q:Nat) (t2:Addr) (t8:Addr) (t9:List UInt8) (r:Int) (x:Int) (z:Int) (h:Heap):Prop :=
  bd ((IntKind.i64.wrap (x+1)):Int) fun aa=>qac.j4 K R3 t0 p q t2 t8 t9 r aa z h
def qac.j9.l:Live:=[(0,.slice),(2,.addr),(8,.addr),(9,.str),(11,.int .i64),(12,.int .i64),(13,.int .i64)]
def qac.j9.j (K:KT) (R3:OA→Nat→Nat→Addr→Addr→List UInt8→Int→Int→Int→Heap→Prop):Tup qac.j9.l→Heap→Prop:=fun x h=>qac.j9 K R3 x.1.1 x.1.2.1 x.1.2.2 x.2.1 x.2.2.1 x.2.2.2.1 x.2.2.2.2.1 x.2.2.2.2.2.1 x.2.2.2.2.2.2.1 h
def qac.j8 (K:KT) (R3:OA→Nat→Nat→Addr→Addr→List UInt8→Int→Int→Int→Heap→Prop) (t0:OA) (q:Nat) (aa:Nat) (t2:Addr) (t8:Addr) (t9:List UInt8) (p:Int) (r:Int) (ab:Int) (h:Heap):Prop :=
  ((decide (p > ((q:Nat):Int)))=true→([.int .i64 0,.int .i64 0,.slice none 0 0,.slice none 0 0,.slice none 0 0,.slice none 0 0]:List Value).length=6∧∃ x,stC h t2 0 [.int .i64 0,.int .i64 0,.slice none 0 0,.slice none 0 0,.slice none 0 0,.slice none 0 0]=some x∧∃ ac,rdC x t2 0 6=some ac∧K (.tuple #[.agg (List.toArray ac),.int .i64 4]) x)∧((decide (p > ((q:Nat):Int)))=false→∃ ad,t0=some ad∧(0:Int)≤(IntKind.i64.wrap (p - 1))∧(IntKind.i64.wrap (p - 1))<((q:Nat):Int)∧∃ z,hcell h (Addr.add ad (Int.toNat (IntKind.i64.wrap (p - 1)) * 1))=some (.int .u8 z)∧(0:Int)≤(IntKind.u64.wrap (bitsI .and .i64 r 7))∧(∃ ae af ag,hcell h (Addr.add t8 4)=some (.slice ae af ag)∧bd (al h #[.bool ((bitsI .and .u8 (shrI .u8 z (IntKind.u64.wrap (bitsI .and .i64 r 7))) 1)==1)] T.bool) fun ay=>SemH P (Builtin.append_ #[T.sl_bool,T.sl_bool] T.sl_bool #[.slice ae af ag,.slice (some (top h)) 1 1]) (fun az ba=>∃ ah ai aj,az=.slice ah ai aj∧∃ ak,stC ba (Addr.add t8 4) 0 [.slice ah ai aj]=some ak∧qac.j9 K R3 t0 q aa t2 t8 t9 p r ab ak) ay)∧(bd (al h #[.bool ((bitsI .and .u8 (shrI .u8 z (IntKind.u64.wrap (bitsI .and .i64 r 7))) 1)==1)] T.bool) fun am=>∃ an ao aq,hcell am (Addr.add t8 4)=some (.slice an ao aq)∧SemH P (Builtin.append_ #[T.sl_bool,T.sl_bool] T.sl_bool #[.slice an ao aq,.slice (some (top h)) 1 1]) (fun bb bc=>∃ ar au aw,bb=.slice ar au aw∧∃ ax,stC bc (Addr.add t8 4) 0 [.slice ar au aw]=some ax∧qac.j9 K R3 t0 q aa t2 t8 t9 p r ab ax) am))
def qac.j8.l:Live:=[(0,.slice),(2,.addr),(8,.addr),(9,.str),(11,.int .i64),(12,.int .i64),(13,.int .i64)]
def qac.j8.j (K:KT) (R3:OA→Nat→Nat→Addr→Addr→List UInt8→Int→Int→Int→Heap→Prop):Tup qac.j8.l→Heap→Prop:=fun x h=>qac.j8 K R3 x.1.1 x.1.2.1 x.1.2.2 x.2.1 x.2.2.1 x.2.2.2.1 x.2.2.2.2.1 x.2.2.2.2.2.1 x.2.2.2.2.2.2.1 h
def qac.j6 (K:KT) (R3:OA→Nat→Nat→Addr→Addr→List UInt8→Int→Int→Int→Heap→Prop) (t0:OA) (q:Nat) (r:Nat) (t2:Addr) (t8:Addr) (t9:List UInt8) (x:Int) (p:Int) (aa:Int) (z:Int) (aw:Int) (ae:Bool) (h:Heap):Prop :=
  (ae=true→((z==115)=true→qac.j7 K R3 t0 q r t2 t8 t9 x p aa z 1 h)∧((z==115)=false→qac.j7 K R3 t0 q r t2 t8 t9 x p aa z 4 h))∧(ae=false→bd ((aw==102):Bool) fun af=>(af=true→(((bitsI .and .i64 p 7)==0)=true→bd ((IntKind.i64.wrap (x+1)):Int) fun ax=>qac.j8 K R3 t0 q r t2 t8 t9 ax p aa h)∧(((bitsI .and .i64 p 7)==0)=false→qac.j8 K R3 t0 q r t2 t8 t9 x p aa h))∧(af=false→CallsH P F.qbh [.int .u8 z] (fun ay az=>∃ ag,ay=.int .i64 ag∧CallsH P F.qbc [.slice t0 q r,.int .i64 x,.int .i64 ag] (fun ba ab=>∃ ah ac,ba=.tuple #[.int .u64 ah,.bool ac]∧((!ac)=true→([.int .i64 0,.int .i64 0,.slice none 0 0,.slice none 0 0,.slice none 0 0,.slice none 0 0]:List Value).length=6∧∃ ad,stC ab t2 0 [.int .i64 0,.int .i64 0,.slice none 0 0,.slice none 0 0,.slice none 0 0,.slice none 0 0]=some ad∧∃ ai,rdC ad t2 0 6=some ai∧K (.tuple #[.agg (List.toArray ai),.int .i64 4]) ad)∧((!ac)=false→∃ aj ak am,hcell ab (Addr.add t8 2)=some (.slice aj ak am)∧bd (al ab #[.int .u64 ah] T.uint64) fun bb=>SemH P (Builtin.append_ #[T.sl_uint64,T.sl_uint64] T.sl_uint64 #[.slice aj ak am,.slice (some (top ab)) 1 1]) (fun bc be=>∃ an ao aq,bc=.slice an ao aq∧∃ ar,stC be (Addr.add t8 2) 0 [.slice an ao aq]=some ar∧CallsH P F.qbh [.int .u8 z] (fun bf bg=>∃ au,bf=.int .i64 au∧bd ((IntKind.i64.wrap (x+au)):Int) fun bh=>qac.j4 K R3 t0 q r t2 t8 t9 bh p aa bg) ar) bb)) az) h))
def qac.j6.l:Live:=[(0,.slice),(2,.addr),(8,.addr),(9,.str),(11,.int .i64),(12,.int .i64),(13,.int .i64),(14,.int .u8),(67,.int .u8),(89,.bool)]
def qac.j6.j (K:KT) (R3:OA→Nat→Nat→Addr→Addr→List UInt8→Int→Int→Int→Heap→Prop):Tup qac.j6.l→Heap→Prop:=fun x h=>qac.j6 K R3 x.1.1 x.1.2.1 x.1.2.2 x.2.1 x.2.2.1 x.2.2.2.1 x.2.2.2.2.1 x.2.2.2.2.2.1 x.2.2.2.2.2.2.1 x.2.2.2.2.2.2.2.1 x.2.2.2.2.2.2.2.2.1 x.2.2.2.2.2.2.2.2.2.1 h
def qac.j5 (K:KT) (R3:OA→Nat→Nat→Addr→Addr→List UInt8→Int→Int→Int→Heap→Prop) (t0:OA) (q:Nat) (r:Nat) (t2:Addr) (t8:Addr) (t9:List UInt8) (x:Int) (z:Int) (aa:Int) (p:Int) (h:Heap):Prop :=
  bd ((p==115):Bool) fun ab=>(ab=true→qac.j6 K R3 t0 q r t2 t8 t9 x z aa p p ab h)∧(ab=false→bd ((p==108):Bool) fun ac=>(ac=true→qac.j6 K R3 t0 q r t2 t8 t9 x z aa p p ac h)∧(ac=false→bd ((p==116):Bool) fun ad=>qac.j6 K R3 t0 q r t2 t8 t9 x z aa p p ad h))
def qac.j5.l:Live:=[(0,.slice),(2,.addr),(8,.addr),(9,.str),(11,.int .i64),(12,.int .i64),(13,.int .i64),(14,.int .u8)]
def qac.j5.j (K:KT) (R3:OA→Nat→Nat→Addr→Addr→List UInt8→Int→Int→Int→Heap→Prop):Tup qac.j5.l→Heap→Prop:=fun x h=>qac.j5 K R3 x.1.1 x.1.2.1 x.1.2.2 x.2.1 x.2.2.1 x.2.2.2.1 x.2.2.2.2.1 x.2.2.2.2.2.1 x.2.2.2.2.2.2.1 x.2.2.2.2.2.2.2.1 h
def qac.L3 (K:KT):Nat→OA→Nat→Nat→Addr→Addr→List UInt8→Int→Int→Int→Heap→Prop
  | 0,_,_,_,_,_,_,_,_,_,_=>False
  | fuel+1,t0,r,x,t2,t8,t9,z,aa,p,h=>((decide (p<((List.length t9:Nat):Int)))=true→(0:Int)≤p∧p<((List.length t9:Nat):Int)∧bd ((lb t9 p):Int) fun q=>((q != 102)=true→qac.j5 K (qac.L3 K fuel) t0 r x t2 t8 t9 z 0 p q h)∧((q != 102)=false→qac.j5 K (qac.L3 K fuel) t0 r x t2 t8 t9 z aa p q h))∧((decide (p<((List.length t9:Nat):Int)))=false→qac.j2 K t0 r x t2 t8 z h)
termination_by structural n=>n
def qac.L3.l:Live:=[(0,.slice),(2,.addr),(8,.addr),(9,.str),(11,.int .i64),(12,.int .i64),(13,.int .i64)]
def qac.L3.j (K:KT):Nat→Tup qac.L3.l→Heap→Prop:=fun n x h=>qac.L3 K n x.1.1 x.1.2.1 x.1.2.2 x.2.1 x.2.2.1 x.2.2.2.1 x.2.2.2.2.1 x.2.2.2.2.2.1 x.2.2.2.2.2.2.1 h
def qac.j1 (K:KT) (t0:OA) (af:Nat) (ag:Nat) (t2:Addr) (t4:Int) (t6:Int) (z:Bool) (h:Heap):Prop :=
  (z=true→([.int .i64 0,.int .i64 0,.slice none 0 0,.slice none 0 0,.slice none 0 0,.slice none 0 0]:List Value).length=6∧∃ q,stC h t2 0 [.int .i64 0,.int .i64 0,.slice none 0 0,.slice none 0 0,.slice none 0 0,.slice none 0 0]=some q∧∃ aa,rdC q t2 0 6=some aa∧K (.tuple #[.agg (List.toArray aa),.int .i64 4]) q)∧(z=false→bd (al h #[.int .i64 0,.int .i64 0,.slice none 0 0,.slice none 0 0,.slice none 0 0,.slice none 0 0] T.api_Method) fun ah=>([.int .i64 (IntKind.i64.wrap t4),.int .i64 (IntKind.i64.wrap t6),.slice none 0 0,.slice none 0 0,.slice none 0 0,.slice none 0 0]:List Value).length=6∧∃ p,stC ah (top h) 0 [.int .i64 (IntKind.i64.wrap t4),.int .i64 (IntKind.i64.wrap t6),.slice none 0 0,.slice none 0 0,.slice none 0 0,.slice none 0 0]=some p∧∃ ab,hcell p (Addr.add (top h) 0)=some (.int .i64 ab)∧∃ ac,hcell p (Addr.add (top h) 1)=some (.int .i64 ac)∧CallsH P F.qaw [.int .i64 ab,.int .i64 ac] (fun ai ad=>∃ s18 r,ai=.tuple #[.string (mkS s18),.bool r]∧((!r)=true→([.int .i64 0,.int .i64 0,.slice none 0 0,.slice none 0 0,.slice none 0 0,.slice none 0 0]:List Value).length=6∧∃ x,stC ad t2 0 [.int .i64 0,.int .i64 0,.slice none 0 0,.slice none 0 0,.slice none 0 0,.slice none 0 0]=some x∧∃ ae,rdC x t2 0 6=some ae∧K (.tuple #[.agg (List.toArray ae),.int .i64 5]) x)∧((!r)=false→∃ fuel93,qac.L3 K fuel93 t0 af ag t2 (top h) s18 4 0 0 ad)) p)
def qac.j1.l:Live:=[(0,.slice),(2,.addr),(4,.int .u64),(6,.int .u64),(38,.bool)]
def qac.j1.j (K:KT):Tup qac.j1.l→Heap→Prop:=fun x h=>qac.j1 K x.1.1 x.1.2.1 x.1.2.2 x.2.1 x.2.2.1 x.2.2.2.1 x.2.2.2.2.1 h
def qac.p0 (K:KT) (t0:OA) (p:Nat) (q:Nat) (h:Heap):Prop :=
  bd (al h #[.int .i64 0,.int .i64 0,.slice none 0 0,.slice none 0 0,.slice none 0 0,.slice none 0 0] T.api_Method) fun h1=>CallsH P F.qbc [.slice t0 p q,.int .i64 0,.int .i64 2] (fun v2 h3=>∃ n4 b5,v2=.tuple #[.int .u64 n4,.bool b5]∧CallsH P F.qbc [.slice t0 p q,.int .i64 2,.int .i64 2] (fun v6 h7=>∃ n8 b9,v6=.tuple #[.int .u64 n8,.bool b9]∧((!b5)=false→qac.j1 K t0 p q (top h) n4 n8 (!b9) h7)∧((!b5)=true→qac.j1 K t0 p q (top h) n4 n8 true h7)) h3) h1
def qac.plan (K:KT):Plan:=(.seq .go (.seq .go (.seq .go (.seq (.cut qac.j1.l (qac.j1.j K) .go .go) (.seq .go (.seq .go (.seq .go (.seq .go (.cut qac.j2.l (qac.j2.j K) (.seq .go (.block (.loop qac.L3.l (qac.L3.j K) (fun n3=>(.seq .go (.cut qac.j4.l (qac.j4.j K (qac.L3 K n3)) (.block (.seq .go (.cut qac.j5.l (qac.j5.j K (qac.L3 K n3)) .go (.seq .go (.block (.cut qac.j6.l (qac.j6.j K (qac.L3 K n3)) .go (.cond (.seq .go (.cut qac.j7.l (qac.j7.j K (qac.L3 K n3)) .go .go)) (.seq .go (.cond (.cut qac.j8.l (qac.j8.j K (qac.L3 K n3)) .go (.seq .go (.cut qac.j9.l (qac.j9.j K (qac.L3 K n3)) (.orders (.op 0 (.op 2 (.op 3 (.op 4 (.op 5 (.op 7 (.op 8 (.op 9 (.op 6 (.op 10 (.op 11 (.op 12 (.both (.op 1 (.op 13 (.op 14 (.op 15 (.op 16 .nil))))) (.op 13 (.op 1 (.op 14 (.op 15 (.op 16 .nil))))))))))))))))))) .go))) .go))))))))) .go)))))) .go)))))))))
theorem qac.ev_eq:qac.p0=fun K t0 p q h=>Ev P Tryz.f26 (qac.plan K) K [.slice t0 p q] h:=by kernel_rfl
theorem qac.obl (K:KT):Obl P Tryz.f26 (qac.plan K) K :=
  obl_of (R:=Imp (qac.j1.j K)∧(∀ x h,¬ (qac.L3.j K) 0 x h)∧ImpN (qac.L3.j K)∧(∀ (n3:Nat),Imp (qac.j5.j K (qac.L3 K n3))∧Imp (qac.j6.j K (qac.L3 K n3))∧Imp (qac.j7.j K (qac.L3 K n3))∧Imp (qac.j8.j K (qac.L3 K n3))∧DrawOK P Tryz.f26.ntmps (opsAt 43 (bodyOf Tryz.f26)) (.op 0 (.op 2 (.op 3 (.op 4 (.op 5 (.op 7 (.op 8 (.op 9 (.op 6 (.op 10 (.op 11 (.op 12 (.both (.op 1 (.op 13 (.op 14 (.op 15 (.op 16 .nil))))) (.op 13 (.op 1 (.op 14 (.op 15 (.op 16 .nil))))))))))))))))))∧Imp (qac.j9.j K (qac.L3 K n3))∧Imp (qac.j4.j K (qac.L3 K n3))∧True)∧Imp (qac.j2.j K)∧True) (by kernel_rfl) ⟨imp _,⟨fun _ _ H=>H,impN _,fun _=>⟨imp _,⟨imp _,⟨imp _,⟨imp _,⟨draw_ok (by kernel_rfl),⟨imp _,⟨imp _,trivial⟩⟩⟩⟩⟩⟩⟩,⟨imp _,trivial⟩⟩⟩
theorem qac.ok {K:KT}{t0:OA}{p:Nat}{q:Nat}{h:Heap} (H:qac.p0 K t0 p q h):CallsH P F.qac [.slice t0 p q] K h :=
  calls_of_Ev (qac.plan K) Tryz.func26 (by kernel_rfl) (qac.obl K) (by rw [qac.ev_eq] at H; exact H)
end Go.Proofs.YtjapglfpjhljpaaGreat.Pr
end
section
set_option linter.unusedVariables false
set_option maxRecDepth 100000
namespace Go.Proofs.YtjapglfpjhljpaaGreat.Pr
open Go Go.Lift Go.Proofs
def qag.j1 (K:KT) (r:Addr) (z:Addr) (h:Heap):Prop :=
  ∃ p,rdC h z 0 6=some p∧p.length=6∧∃ q,stC h r 0 p=some q∧∃ x,rdC q r 0 6=some x∧K (.agg (List.toArray x)) q
def qag.j1.l:Live:=[(10,.addr),(13,.addr)]
def qag.j1.j (K:KT):Tup qag.j1.l→Heap→Prop:=fun x h=>qag.j1 K x.1 x.2.1 h
def qag.j3 (K:KT) (R2:OA→Nat→Nat→OA→Nat→Nat→Int→OA→Nat→Nat→Addr→Addr→List UInt8→Int→Heap→Prop) (t1:OA) (p:Nat) (q:Nat) (t2:OA) (r:Nat) (x:Nat) (t3:Int) (t4:OA) (z:Nat) (aa:Nat) (ab:Addr) (ac:Addr) (ad:List UInt8) (ae:Int) (h:Heap):Prop :=
  bd ((IntKind.i64.wrap (ae+1)):Int) fun af=>R2 t1 p q t2 r x t3 t4 z aa ab ac ad af h
def qag.j3.l:Live:=[(1,.slice),(2,.slice),(3,.int .i64),(4,.slice),(10,.addr),(13,.addr),(14,.str),(16,.int .i64)]
def qag.j3.j (K:KT) (R2:OA→Nat→Nat→OA→Nat→Nat→Int→OA→Nat→Nat→Addr→Addr→List UInt8→Int→Heap→Prop):Tup qag.j3.l→Heap→Prop:=fun x h=>qag.j3 K R2 x.1.1 x.1.2.1 x.1.2.2 x.2.1.1 x.2.1.2.1 x.2.1.2.2 x.2.2.1 x.2.2.2.1.1 x.2.2.2.1.2.1 x.2.2.2.1.2.2 x.2.2.2.2.1 x.2.2.2.2.2.1 x.2.2.2.2.2.2.1 x.2.2.2.2.2.2.2.1 h
def qag.j5 (K:KT) (R2:OA→Nat→Nat→OA→Nat→Nat→Int→OA→Nat→Nat→Addr→Addr→List UInt8→Int→Heap→Prop) (t1:OA) (r:Nat) (x:Nat) (t2:OA) (z:Nat) (aa:Nat) (t3:Int) (t4:OA) (ab:Nat) (ac:Nat) (ad:Addr) (q:Addr) (ae:List UInt8) (af:Int) (p:List UInt8) (h:Heap):Prop :=
  (∃ ag ah ai,hcell h (Addr.add q 3)=some (.slice ag ah ai)∧inB (if (255:Int)<((List.length p:Nat):Int) then 255 else ((List.length p:Nat):Int)) (List.length p)∧bd (al h #[.string (mkS (List.take (Int.toNat (if (255:Int)<((List.length p:Nat):Int) then 255 else ((List.length p:Nat):Int))) p))] T.string) fun bi=>SemH P (Builtin.append_ #[T.sl_string,T.sl_string] T.sl_string #[.slice ag ah ai,.slice (some (top h)) 1 1]) (fun bj bk=>∃ aj ak am,bj=.slice aj ak am∧∃ an,stC bk (Addr.add q 3) 0 [.slice aj ak am]=some an∧qag.j3 K R2 t1 r x t2 z aa t3 t4 ab ac ad q ae af an) bi)∧(inB (if (255:Int)<((List.length p:Nat):Int) then 255 else ((List.length p:Nat):Int)) (List.length p)∧(∃ ao aq ar,hcell h (Addr.add q 3)=some (.slice ao aq ar)∧bd (al h #[.string (mkS (List.take (Int.toNat (if (255:Int)<((List.length p:Nat):Int) then 255 else ((List.length p:Nat):Int))) p))] T.string) fun bl=>SemH P (Builtin.append_ #[T.sl_string,T.sl_string] T.sl_string #[.slice ao aq ar,.slice (some (top h)) 1 1]) (fun bm bn=>∃ au aw ax,bm=.slice au aw ax∧∃ ay,stC bn (Addr.add q 3) 0 [.slice au aw ax]=some ay∧qag.j3 K R2 t1 r x t2 z aa t3 t4 ab ac ad q ae af ay) bl)∧(bd (al h #[.string (mkS (List.take (Int.toNat (if (255:Int)<((List.length p:Nat):Int) then 255 else ((List.length p:Nat):Int))) p))] T.string) fun az=>∃ ba bb bc,hcell az (Addr.add q 3)=some (.slice ba bb bc)∧SemH P (Builtin.append_ #[T.sl_string,T.sl_string] T.sl_string #[.slice ba bb bc,.slice (some (top h)) 1 1]) (fun bo bp=>∃ be bf bg,bo=.slice be bf bg∧∃ bh,stC bp (Addr.add q 3) 0 [.slice be bf bg]=some bh∧qag.j3 K R2 t1 r x t2 z aa t3 t4 ab ac ad q ae af bh) az))
def qag.j5.l:Live:=[(1,.slice),(2,.slice),(3,.int .i64),(4,.slice),(10,.addr),(13,.addr),(14,.str),(16,.int .i64),(17,.str)]
def qag.j5.j (K:KT) (R2:OA→Nat→Nat→OA→Nat→Nat→Int→OA→Nat→Nat→Addr→Addr→List UInt8→Int→Heap→Prop):Tup qag.j5.l→Heap→Prop:=fun x h=>qag.j5 K R2 x.1.1 x.1.2.1 x.1.2.2 x.2.1.1 x.2.1.2.1 x.2.1.2.2 x.2.2.1 x.2.2.2.1.1 x.2.2.2.1.2.1 x.2.2.2.1.2.2 x.2.2.2.2.1 x.2.2.2.2.2.1 x.2.2.2.2.2.2.1 x.2.2.2.2.2.2.2.1 x.2.2.2.2.2.2.2.2.1 h
def qag.j7 (K:KT) (R2:OA→Nat→Nat→OA→Nat→Nat→Int→OA→Nat→Nat→Addr→Addr→List UInt8→Int→Heap→Prop) (t1:OA) (ad:Nat) (ae:Nat) (t2:OA) (af:Nat) (ag:Nat) (t3:Int) (t4:OA) (ah:Nat) (ai:Nat) (aj:Addr) (p:Addr) (ak:List UInt8) (am:Int) (an:Int) (h:Heap):Prop :=
  ∃ q r x,hcell h (Addr.add p 2)=some (.slice q r x)∧bd (al h #[.int .u64 an] T.uint64) fun ao=>SemH P (Builtin.append_ #[T.sl_uint64,T.sl_uint64] T.sl_uint64 #[.slice q r x,.slice (some (top h)) 1 1]) (fun aq ar=>∃ z aa ab,aq=.slice z aa ab∧∃ ac,stC ar (Addr.add p 2) 0 [.slice z aa ab]=some ac∧qag.j3 K R2 t1 ad ae t2 af ag t3 t4 ah ai aj p ak am ac) ao
def qag.j7.l:Live:=[(1,.slice),(2,.slice),(3,.int .i64),(4,.slice),(10,.addr),(13,.addr),(14,.str),(16,.int .i64),(19,.int .u64)]
def qag.j7.j (K:KT) (R2:OA→Nat→Nat→OA→Nat→Nat→Int→OA→Nat→Nat→Addr→Addr→List UInt8→Int→Heap→Prop):Tup qag.j7.l→Heap→Prop:=fun x h=>qag.j7 K R2 x.1.1 x.1.2.1 x.1.2.2 x.2.1.1 x.2.1.2.1 x.2.1.2.2 x.2.2.1 x.2.2.2.1.1 x.2.2.2.1.2.1 x.2.2.2.1.2.2 x.2.2.2.2.1 x.2.2.2.2.2.1 x.2.2.2.2.2.2.1 x.2.2.2.2.2.2.2.1 x.2.2.2.2.2.2.2.2.1 h
def qag.j6 (K:KT) (R2:OA→Nat→Nat→OA→Nat→Nat→Int→OA→Nat→Nat→Addr→Addr→List UInt8→Int→Heap→Prop) (t1:OA) (r:Nat) (x:Nat) (t2:OA) (z:Nat) (aa:Nat) (t3:Int) (t4:OA) (ab:Nat) (ac:Nat) (ad:Addr) (ae:Addr) (q:List UInt8) (p:Int) (af:Int) (h:Heap):Prop :=
  (0:Int)≤p∧p<((List.length q:Nat):Int)∧(((lb q p) != 56)=true→(0:Int)≤p∧p<((List.length q:Nat):Int)∧(0:Int)≤(IntKind.u64.wrap (IntKind.u8.wrap ((8:Int) * (IntKind.u8.wrap ((lb q p) - 48)))))∧bd ((bitsI .and .u64 af (IntKind.u64.wrap ((shlI .u64 1 (IntKind.u64.wrap (IntKind.u8.wrap ((8:Int) * (IntKind.u8.wrap ((lb q p) - 48)))))) - 1))):Int) fun n64=>qag.j7 K R2 t1 r x t2 z aa t3 t4 ab ac ad ae q p n64 h)∧(((lb q p) != 56)=false→qag.j7 K R2 t1 r x t2 z aa t3 t4 ab ac ad ae q p af h)
def qag.j6.l:Live:=[(1,.slice),(2,.slice),(3,.int .i64),(4,.slice),(10,.addr),(13,.addr),(14,.str),(16,.int .i64),(19,.int .u64)]
def qag.j6.j (K:KT) (R2:OA→Nat→Nat→OA→Nat→Nat→Int→OA→Nat→Nat→Addr→Addr→List UInt8→Int→Heap→Prop):Tup qag.j6.l→Heap→Prop:=fun x h=>qag.j6 K R2 x.1.1 x.1.2.1 x.1.2.2 x.2.1.1 x.2.1.2.1 x.2.1.2.2 x.2.2.1 x.2.2.2.1.1 x.2.2.2.1.2.1 x.2.2.2.1.2.2 x.2.2.2.2.1 x.2.2.2.2.2.1 x.2.2.2.2.2.2.1 x.2.2.2.2.2.2.2.1 x.2.2.2.2.2.2.2.2.1 h
def qag.j4 (K:KT) (R2:OA→Nat→Nat→OA→Nat→Nat→Int→OA→Nat→Nat→Addr→Addr→List UInt8→Int→Heap→Prop) (t1:OA) (q:Nat) (aa:Nat) (t2:OA) (r:Nat) (ab:Nat) (t3:Int) (t4:OA) (x:Nat) (z:Nat) (ac:Addr) (p:Addr) (ad:List UInt8) (ae:Int) (aj:Int) (ak:Bool) (h:Heap):Prop :=
  (ak=true→∃ bi am bj,hcell h (Addr.add p 3)=some (.slice bi am bj)∧bd (((am:Nat):Int):Int) fun af=>((decide (af<((r:Nat):Int)))=true→∃ an,t2=some an∧(0:Int)≤af∧af<((r:Nat):Int)∧∃ ao,hcell h (Addr.add an (Int.toNat af * 1))=some (.string (mkS ao))∧qag.j5 K R2 t1 q aa t2 r ab t3 t4 x z ac p ad ae ao h)∧((decide (af<((r:Nat):Int)))=false→qag.j5 K R2 t1 q aa t2 r ab t3 t4 x z ac p ad ae ([]:List UInt8) h))∧(ak=false→bd ((aj==116):Bool) fun aq=>(aq=true→CallsH P F.qch [.slice t4 x z] (fun bk ar=>∃ ah,bk=.bool ah∧(ah=true→∃ au,stC ar (Addr.add p 5) 0 [.slice t4 x z]=some au∧qag.j3 K R2 t1 q aa t2 r ab t3 t4 x z ac p ad ae au)∧(ah=false→qag.j3 K R2 t1 q aa t2 r ab t3 t4 x z ac p ad ae ar)) h)∧(aq=false→bd ((aj==102):Bool) fun aw=>(aw=true→∃ ax ay az,hcell h (Addr.add p 4)=some (.slice ax ay az)∧∃ bl ai bm,hcell h (Addr.add p 4)=some (.slice bl ai bm)∧(0:Int)≤(IntKind.u64.wrap ((ai:Nat):Int))∧bd (al h #[.bool ((bitsI .and .i64 (shrI .i64 t3 (IntKind.u64.wrap ((ai:Nat):Int))) 1)==1)] T.bool) fun bn=>SemH P (Builtin.append_ #[T.sl_bool,T.sl_bool] T.sl_bool #[.slice ax ay az,.slice (some (top h)) 1 1]) (fun bo bp=>∃ ba bb bc,bo=.slice ba bb bc∧∃ be,stC bp (Addr.add p 4) 0 [.slice ba bb bc]=some be∧qag.j3 K R2 t1 q aa t2 r ab t3 t4 x z ac p ad ae be) bn)∧(aw=false→∃ bq bf br,hcell h (Addr.add p 2)=some (.slice bq bf br)∧bd (((bf:Nat):Int):Int) fun ag=>((decide (ag<((q:Nat):Int)))=true→∃ bg,t1=some bg∧(0:Int)≤ag∧ag<((q:Nat):Int)∧∃ bh,hcell h (Addr.add bg (Int.toNat ag * 1))=some (.int .u64 bh)∧qag.j6 K R2 t1 q aa t2 r ab t3 t4 x z ac p ad ae bh h)∧((decide (ag<((q:Nat):Int)))=false→qag.j6 K R2 t1 q aa t2 r ab t3 t4 x z ac p ad ae 0 h))))
def qag.j4.l:Live:=[(1,.slice),(2,.slice),(3,.int .i64),(4,.slice),(10,.addr),(13,.addr),(14,.str),(16,.int .i64),(100,.int .u8),(132,.bool)]
def qag.j4.j (K:KT) (R2:OA→Nat→Nat→OA→Nat→Nat→Int→OA→Nat→Nat→Addr→Addr→List UInt8→Int→Heap→Prop):Tup qag.j4.l→Heap→Prop:=fun x h=>qag.j4 K R2 x.1.1 x.1.2.1 x.1.2.2 x.2.1.1 x.2.1.2.1 x.2.1.2.2 x.2.2.1 x.2.2.2.1.1 x.2.2.2.1.2.1 x.2.2.2.1.2.2 x.2.2.2.2.1 x.2.2.2.2.2.1 x.2.2.2.2.2.2.1 x.2.2.2.2.2.2.2.1 x.2.2.2.2.2.2.2.2.1 x.2.2.2.2.2.2.2.2.2.1 h
def qag.L2 (K:KT):Nat→OA→Nat→Nat→OA→Nat→Nat→Int→OA→Nat→Nat→Addr→Addr→List UInt8→Int→Heap→Prop
  | 0,_,_,_,_,_,_,_,_,_,_,_,_,_,_,_=>False
  | fuel+1,t1,aa,ab,t2,ac,ad,t3,t4,ae,af,r,x,q,p,h=>((decide (p<((List.length q:Nat):Int)))=true→(0:Int)≤p∧p<((List.length q:Nat):Int)∧bd (((lb q p)==115):Bool) fun z=>(z=true→qag.j4 K (qag.L2 K fuel) t1 aa ab t2 ac ad t3 t4 ae af r x q p (lb q p) z h)∧(z=false→bd (((lb q p)==108):Bool) fun ag=>qag.j4 K (qag.L2 K fuel) t1 aa ab t2 ac ad t3 t4 ae af r x q p (lb q p) ag h))∧((decide (p<((List.length q:Nat):Int)))=false→qag.j1 K r x h)
termination_by structural n=>n
def qag.L2.l:Live:=[(1,.slice),(2,.slice),(3,.int .i64),(4,.slice),(10,.addr),(13,.addr),(14,.str),(16,.int .i64)]
def qag.L2.j (K:KT):Nat→Tup qag.L2.l→Heap→Prop:=fun n x h=>qag.L2 K n x.1.1 x.1.2.1 x.1.2.2 x.2.1.1 x.2.1.2.1 x.2.1.2.2 x.2.2.1 x.2.2.2.1.1 x.2.2.2.1.2.1 x.2.2.2.1.2.2 x.2.2.2.2.1 x.2.2.2.2.2.1 x.2.2.2.2.2.2.1 x.2.2.2.2.2.2.2.1 h
def qag.p0 (K:KT) (t0:Int) (t1:OA) (ad:Nat) (ae:Nat) (t2:OA) (af:Nat) (ag:Nat) (t3:Int) (t4:OA) (ah:Nat) (ai:Nat) (h:Heap):Prop :=
  bd (al h #[.int .i64 0,.int .i64 0,.slice none 0 0,.slice none 0 0,.slice none 0 0,.slice none 0 0] T.api_Method) fun h1=>∃ z,bldS P T.sl_2_int T.t2_int 49 [(0,.agg #[.int .i64 10,.int .i64 10]),(1,.agg #[.int .i64 10,.int .i64 11]),(2,.agg #[.int .i64 10,.int .i64 30]),(3,.agg #[.int .i64 10,.int .i64 31]),(4,.agg #[.int .i64 10,.int .i64 40]),(5,.agg #[.int .i64 10,.int .i64 41]),(6,.agg #[.int .i64 10,.int .i64 50]),(7,.agg #[.int .i64 10,.int .i64 51]),(8,.agg #[.int .i64 20,.int .i64 10]),(9,.agg #[.int .i64 20,.int .i64 11]),(10,.agg #[.int .i64 20,.int .i64 40]),(11,.agg #[.int .i64 20,.int .i64 41]),(12,.agg #[.int .i64 40,.int .i64 10]),(13,.agg #[.int .i64 40,.int .i64 11]),(14,.agg #[.int .i64 40,.int .i64 20]),(15,.agg #[.int .i64 40,.int .i64 21]),(16,.agg #[.int .i64 50,.int .i64 10]),(17,.agg #[.int .i64 50,.int .i64 11]),(18,.agg #[.int .i64 50,.int .i64 20]),(19,.agg #[.int .i64 50,.int .i64 21]),(20,.agg #[.int .i64 50,.int .i64 30]),(21,.agg #[.int .i64 50,.int .i64 31]),(22,.agg #[.int .i64 50,.int .i64 40]),(23,.agg #[.int .i64 50,.int .i64 41]),(24,.agg #[.int .i64 50,.int .i64 50]),(25,.agg #[.int .i64 50,.int .i64 51]),(26,.agg #[.int .i64 60,.int .i64 10]),(27,.agg #[.int .i64 60,.int .i64 11]),(28,.agg #[.int .i64 60,.int .i64 20]),(29,.agg #[.int .i64 60,.int .i64 21]),(30,.agg #[.int .i64 60,.int .i64 30]),(31,.agg #[.int .i64 60,.int .i64 31]),(32,.agg #[.int .i64 60,.int .i64 40]),(33,.agg #[.int .i64 60,.int .i64 50]),(34,.agg #[.int .i64 60,.int .i64 60]),(35,.agg #[.int .i64 60,.int .i64 70]),(36,.agg #[.int .i64 60,.int .i64 71]),(37,.agg #[.int .i64 60,.int .i64 72]),(38,.agg #[.int .i64 60,.int .i64 80]),(39,.agg #[.int .i64 60,.int .i64 90]),(40,.agg #[.int .i64 60,.int .i64 110]),(41,.agg #[.int .i64 60,.int .i64 111]),(42,.agg #[.int .i64 60,.int .i64 120]),(43,.agg #[.int .i64 90,.int .i64 10]),(44,.agg #[.int .i64 90,.int .i64 11]),(45,.agg #[.int .i64 90,.int .i64 20]),(46,.agg #[.int .i64 90,.int .i64 21]),(47,.agg #[.int .i64 90,.int .i64 30]),(48,.agg #[.int .i64 90,.int .i64 31])] z∧bd (al h1 (List.toArray z) T.t2_int) fun h3=>bd ((some (top h1)):OA) fun a4=>bd (49:Nat) fun p=>bd (49:Nat) fun ao=>(((p:Nat):Int):Int)≠0∧∃ p5,a4=some p5∧(0:Int)≤(Int.tmod (bitsI .and .i64 t0 65535) ((p:Nat):Int))∧(Int.tmod (bitsI .and .i64 t0 65535) ((p:Nat):Int))<((p:Nat):Int)∧∃ r,rdC h3 (Addr.add p5 (Int.toNat (Int.tmod (bitsI .and .i64 t0 65535) ((p:Nat):Int)) * 2)) 0 2=some r∧bd (al h3 #[.int .i64 0,.int .i64 0] T.t2_int) fun h7=>r.length=2∧∃ h8,stC h7 (top h3) 0 r=some h8∧(0:Int)≤0∧(0:Int)<2∧∃ n9,hcell h8 (Addr.add (top h3) (Int.toNat 0 * 1))=some (.int .i64 n9)∧(0:Int)≤1∧(1:Int)<2∧∃ x,hcell h8 (Addr.add (top h3) (Int.toNat 1 * 1))=some (.int .i64 x)∧bd (al h8 #[.int .i64 0,.int .i64 0,.slice none 0 0,.slice none 0 0,.slice none 0 0,.slice none 0 0] T.api_Method) fun aj=>([.int .i64 n9,.int .i64 x,.slice none 0 0,.slice none 0 0,.slice none 0 0,.slice none 0 0]:List Value).length=6∧∃ q,stC aj (top h8) 0 [.int .i64 n9,.int .i64 x,.slice none 0 0,.slice none 0 0,.slice none 0 0,.slice none 0 0]=some q∧(0:Int)≤0∧(0:Int)<2∧∃ aa,hcell q (Addr.add (top h3) (Int.toNat 0 * 1))=some (.int .i64 aa)∧(0:Int)≤1∧(1:Int)<2∧∃ ab,hcell q (Addr.add (top h3) (Int.toNat 1 * 1))=some (.int .i64 ab)∧CallsH P F.qaw [.int .i64 aa,.int .i64 ab] (fun ak am=>∃ ac an,ak=.tuple #[.string (mkS ac),.bool an]∧∃ fuel71,qag.L2 K fuel71 t1 ad ae t2 af ag t3 t4 ah ai (top h) (top h8) ac 0 am) q
def qag.plan (K:KT):Plan:=(.seq .go (.seq .go (.seq .go (.seq .go (.seq .go (.cut qag.j1.l (qag.j1.j K) (.seq .go (.block (.loop qag.L2.l (qag.L2.j K) (fun n2=>(.seq .go (.cut qag.j3.l (qag.j3.j K (qag.L2 K n2)) (.block (.seq .go (.block (.cut qag.j4.l (qag.j4.j K (qag.L2 K n2)) .go (.cond (.seq .go (.cut qag.j5.l (qag.j5.j K (qag.L2 K n2)) .go (.orders (.op 0 (.op 2 (.op 3 (.op 4 (.both (.op 1 (.op 5 (.op 6 (.op 7 (.op 8 (.op 9 (.op 10 .nil))))))) (.op 5 (.op 6 (.both (.op 1 (.op 7 (.op 8 (.op 9 (.op 10 .nil))))) (.op 7 (.op 1 (.op 8 (.op 9 (.op 10 .nil)))))))))))))))) (.seq .go (.cond .go (.seq .go (.cond .go (.seq .go (.cut qag.j6.l (qag.j6.j K (qag.L2 K n2)) .go (.cut qag.j7.l (qag.j7.j K (qag.L2 K n2)) .go .go)))))))))))) .go)))))) .go))))))
theorem qag.ev_eq:qag.p0=fun K t0 t1 p q t2 r x t3 t4 z aa h=>Ev P Tryz.f37 (qag.plan K) K [.int .i64 t0,.slice t1 p q,.slice t2 r x,.int .i64 t3,.slice t4 z aa] h:=by kernel_rfl
theorem qag.obl (K:KT):Obl P Tryz.f37 (qag.plan K) K :=
  obl_of (R:=(∀ x h,¬ (qag.L2.j K) 0 x h)∧ImpN (qag.L2.j K)∧(∀ (n2:Nat),Imp (qag.j4.j K (qag.L2 K n2))∧Imp (qag.j5.j K (qag.L2 K n2))∧DrawOK P Tryz.f37.ntmps (opsAt 22 (bodyOf Tryz.f37)) (.op 0 (.op 2 (.op 3 (.op 4 (.both (.op 1 (.op 5 (.op 6 (.op 7 (.op 8 (.op 9 (.op 10 .nil))))))) (.op 5 (.op 6 (.both (.op 1 (.op 7 (.op 8 (.op 9 (.op 10 .nil))))) (.op 7 (.op 1 (.op 8 (.op 9 (.op 10 .nil)))))))))))))∧Imp (qag.j6.j K (qag.L2 K n2))∧Imp (qag.j7.j K (qag.L2 K n2))∧Imp (qag.j3.j K (qag.L2 K n2))∧True)∧Imp (qag.j1.j K)∧True) (by kernel_rfl) ⟨fun _ _ H=>H,impN _,fun _=>⟨imp _,⟨imp _,⟨draw_ok (by kernel_rfl),⟨imp _,⟨imp _,⟨imp _,trivial⟩⟩⟩⟩⟩⟩,⟨imp _,trivial⟩⟩
theorem qag.ok {K:KT}{t0:Int}{t1:OA}{p:Nat}{q:Nat}{t2:OA}{r:Nat}{x:Nat}{t3:Int}{t4:OA}{z:Nat}{aa:Nat}{h:Heap} (H:qag.p0 K t0 t1 p q t2 r x t3 t4 z aa h):CallsH P F.qag [.int .i64 t0,.slice t1 p q,.slice t2 r x,.int .i64 t3,.slice t4 z aa] K h :=
  calls_of_Ev (qag.plan K) Tryz.func37 (by kernel_rfl) (qag.obl K) (by rw [qag.ev_eq] at H; exact H)
end Go.Proofs.YtjapglfpjhljpaaGreat.Pr
end
section
set_option linter.unusedVariables false
set_option maxRecDepth 100000
namespace Go.Proofs.YtjapglfpjhljpaaGreat.Pr
open Go Go.Lift Go.Proofs
def qav.j5 (K:KT) (t2:Addr) (t6:Addr) (x:Bool) (h:Heap):Prop :=
  (x=true→([.int .u64 0,.int .i64 0,.string (mkS ([]:List UInt8))]:List Value).length=3∧∃ p,stC h t2 0 [.int .u64 0,.int .i64 0,.string (mkS ([]:List UInt8))]=some p∧∃ z,rdC p t2 0 3=some z∧K (.tuple #[.agg (List.toArray z),.int .i64 4]) p)∧(x=false→∃ q,rdC h t6 0 3=some q∧q.length=3∧∃ r,stC h t2 0 q=some r∧∃ aa,rdC r t2 0 3=some aa∧K (.tuple #[.agg (List.toArray aa),.int .i64 0]) r)
def qav.j5.l:Live:=[(2,.addr),(6,.addr),(70,.bool)]
def qav.j5.j (K:KT):Tup qav.j5.l→Heap→Prop:=fun x h=>qav.j5 K x.1 x.2.1 x.2.2.1 h
def qav.j4 (K:KT) (t2:Addr) (t4:OA) (t5:Bool) (t6:Addr) (h:Heap):Prop :=
  ((!t5)=false→CallsH P F.qdu [.pointer t4] (fun x q=>∃ p,x=.bool p∧((!p)=false→CallsH P F.qdl [.pointer t4] (fun z aa=>∃ r,z=.int .i64 r∧qav.j5 K t2 t6 (decide (r > 0)) aa) q)∧((!p)=true→qav.j5 K t2 t6 true q)) h)∧((!t5)=true→qav.j5 K t2 t6 true h)
def qav.j4.l:Live:=[(2,.addr),(4,.ptr),(5,.bool),(6,.addr)]
def qav.j4.j (K:KT):Tup qav.j4.l→Heap→Prop:=fun x h=>qav.j4 K x.1 x.2.1 x.2.2.1 x.2.2.2.1 h
def qav.j3 (K:KT) (t2:Addr) (t4:OA) (t5:Bool) (t6:Addr) (t7:Int) (h:Heap):Prop :=
  (((bitsI .and .u64 t7 4096) != 0)=true→CallsH P F.qdr [.pointer t4,.int .i64 1] (fun z aa=>∃ r,z=.int .u64 r∧∃ p,stC aa (Addr.add t6 1) 0 [.int .i64 (IntKind.i64.wrap r)]=some p∧(t5=true→∃ q,hcell p (Addr.add t6 1)=some (.int .i64 q)∧((q==1)=false→∃ x,hcell p (Addr.add t6 1)=some (.int .i64 x)∧bd ((x==2):Bool) fun ab=>qav.j4 K t2 t4 ab t6 p)∧((q==1)=true→qav.j4 K t2 t4 true t6 p))∧(t5=false→qav.j4 K t2 t4 false t6 p)) h)∧(((bitsI .and .u64 t7 4096) != 0)=false→qav.j4 K t2 t4 t5 t6 h)
def qav.j3.l:Live:=[(2,.addr),(4,.ptr),(5,.bool),(6,.addr),(7,.int .u64)]
def qav.j3.j (K:KT):Tup qav.j3.l→Heap→Prop:=fun x h=>qav.j3 K x.1 x.2.1 x.2.2.1 x.2.2.2.1 x.2.2.2.2.1 h
def qav.j2 (K:KT) (t2:Addr) (t4:OA) (t5:Bool) (t6:Addr) (t7:Int) (h:Heap):Prop :=
  (((bitsI .and .u64 t7 32768) != 0)=true→CallsH P F.qdj [.pointer t4] (fun x z=>∃ q,x=.string (mkS q)∧∃ p,stC z (Addr.add t6 2) 0 [.string (mkS q)]=some p∧(t5=true→∃ r,hcell p (Addr.add t6 2)=some (.string (mkS r))∧bd ((!(r==([]:List UInt8))):Bool) fun aa=>qav.j3 K t2 t4 aa t6 t7 p)∧(t5=false→qav.j3 K t2 t4 false t6 t7 p)) h)∧(((bitsI .and .u64 t7 32768) != 0)=false→qav.j3 K t2 t4 t5 t6 t7 h)
def qav.j2.l:Live:=[(2,.addr),(4,.ptr),(5,.bool),(6,.addr),(7,.int .u64)]
def qav.j2.j (K:KT):Tup qav.j2.l→Heap→Prop:=fun x h=>qav.j2 K x.1 x.2.1 x.2.2.1 x.2.2.2.1 x.2.2.2.2.1 h
def qav.j1 (K:KT) (t2:Addr) (t4:OA) (t5:Bool) (h:Heap):Prop :=
  CallsH P F.qdr [.pointer t4,.int .i64 8] (fun v5 h6=>∃ n7,v5=.int .u64 n7∧bd (al h6 #[.int .u64 0,.int .i64 0,.string (mkS ([]:List UInt8))] T.api_Head) fun h8=>([.int .u64 n7,.int .i64 0,.string (mkS ([]:List UInt8))]:List Value).length=3∧∃ h9,stC h8 (top h6) 0 [.int .u64 n7,.int .i64 0,.string (mkS ([]:List UInt8))]=some h9∧CallsH P F.qdr [.pointer t4,.int .i64 2] (fun r q=>∃ p,r=.int .u64 p∧(t5=true→bd (((bitsI .andNot .u64 p 36864)==0):Bool) fun x=>qav.j2 K t2 t4 x (top h6) p q)∧(t5=false→qav.j2 K t2 t4 false (top h6) p q)) h9) h
def qav.j1.l:Live:=[(2,.addr),(4,.ptr),(5,.bool)]
def qav.j1.j (K:KT):Tup qav.j1.l→Heap→Prop:=fun x h=>qav.j1 K x.1 x.2.1 x.2.2.1 h
def qav.p0 (K:KT) (t0:OA) (x:Nat) (z:Nat) (h:Heap):Prop :=
  bd (al h #[.int .u64 0,.int .i64 0,.string (mkS ([]:List UInt8))] T.api_Head) fun h1=>CallsH P F.qee [.slice t0 x z] (fun v2 h3=>∃ p4,v2=.pointer p4∧CallsH P F.qdr [.pointer p4,.int .i64 2] (fun aa q=>∃ p,aa=.int .u64 p∧((p==60)=true→CallsH P F.qdr [.pointer p4,.int .i64 2] (fun ab ac=>∃ r,ab=.int .u64 r∧bd ((r==0):Bool) fun ad=>qav.j1 K (top h) p4 ad ac) q)∧((p==60)=false→qav.j1 K (top h) p4 false q)) h3) h1
def qav.plan (K:KT):Plan:=(.seq .go (.seq .go (.cut qav.j1.l (qav.j1.j K) .go (.seq .go (.seq .go (.cut qav.j2.l (qav.j2.j K) .go (.cut qav.j3.l (qav.j3.j K) .go (.cut qav.j4.l (qav.j4.j K) .go (.seq (.cut qav.j5.l (qav.j5.j K) .go .go) .go)))))))))
theorem qav.ev_eq:qav.p0=fun K t0 p q h=>Ev P Tryz.f145 (qav.plan K) K [.slice t0 p q] h:=by kernel_rfl
theorem qav.obl (K:KT):Obl P Tryz.f145 (qav.plan K) K :=
  obl_of (R:=Imp (qav.j1.j K)∧Imp (qav.j2.j K)∧Imp (qav.j3.j K)∧Imp (qav.j4.j K)∧Imp (qav.j5.j K)∧True) (by kernel_rfl) ⟨imp _,⟨imp _,⟨imp _,⟨imp _,⟨imp _,trivial⟩⟩⟩⟩⟩
theorem qav.ok {K:KT}{t0:OA}{p:Nat}{q:Nat}{h:Heap} (H:qav.p0 K t0 p q h):CallsH P F.qav [.slice t0 p q] K h :=
  calls_of_Ev (qav.plan K) Tryz.func145 (by kernel_rfl) (qav.obl K) (by rw [qav.ev_eq] at H; exact H)
end Go.Proofs.YtjapglfpjhljpaaGreat.Pr
end
section
set_option linter.unusedVariables false
set_option maxRecDepth 100000
namespace Go.Proofs.YtjapglfpjhljpaaGreat.Pr
open Go Go.Lift Go.Proofs
def qei.p0 (K:KT) (e_0:Int) (h:Heap):Prop :=
  bd ((e_0==3):Bool) fun b1=>(b1=true→K (.int .i64 501) h)∧(b1=false→bd ((e_0==4):Bool) fun b2=>(b2=true→K (.int .i64 502) h)∧(b2=false→bd ((e_0==5):Bool) fun b3=>(b3=true→K (.int .i64 540) h)∧(b3=false→K (.int .i64 506) h)))
def qei.plan (K:KT):Plan:=.go
theorem qei.ev_eq:qei.p0=fun K e_0 h=>Ev P Tryz.f93 (qei.plan K) K [.int .i64 e_0] h:=by kernel_rfl
theorem qei.obl (K:KT):Obl P Tryz.f93 (qei.plan K) K :=
  obl_true (by kernel_rfl)
theorem qei.ok {K:KT}{e_0:Int}{h:Heap} (H:qei.p0 K e_0 h):CallsH P F.qei [.int .i64 e_0] K h :=
  calls_of_Ev (qei.plan K) Tryz.func93 (by kernel_rfl) (qei.obl K) (by rw [qei.ev_eq] at H; exact H)
def qec.p0 (K:KT) (t0:Int) (h:Heap):Prop :=
  ((decide (t0 ≥ 501))=true→((decide (t0≤506))=false→((t0==530)=false→bd ((t0==540):Bool) fun b1=>K (.bool b1) h)∧((t0==530)=true→K (.bool true) h))∧((decide (t0≤506))=true→K (.bool true) h))∧((decide (t0 ≥ 501))=false→((t0==530)=false→bd ((t0==540):Bool) fun b2=>K (.bool b2) h)∧((t0==530)=true→K (.bool true) h))
def qec.plan (K:KT):Plan:=.go
theorem qec.ev_eq:qec.p0=fun K t0 h=>Ev P Tryz.f122 (qec.plan K) K [.int .i64 t0] h:=by kernel_rfl
theorem qec.obl (K:KT):Obl P Tryz.f122 (qec.plan K) K :=
  obl_true (by kernel_rfl)
theorem qec.ok {K:KT}{t0:Int}{h:Heap} (H:qec.p0 K t0 h):CallsH P F.qec [.int .i64 t0] K h :=
  calls_of_Ev (qec.plan K) Tryz.func122 (by kernel_rfl) (qec.obl K) (by rw [qec.ev_eq] at H; exact H)
def qdy.p0 (K:KT) (t0:Int) (h:Heap):Prop :=
  bd ((t0==200):Bool) fun b1=>(b1=true→K (.string (mkS ([79,75]:List UInt8))) h)∧(b1=false→bd ((t0==311):Bool) fun b2=>(b2=true→K (.string (mkS ([67,79,78,84,69,78,84,95,84,79,79,95,76,65,82,71,69]:List UInt8))) h)∧(b2=false→bd ((t0==312):Bool) fun b3=>(b3=true→K (.string (mkS ([78,79,95,82,79,85,84,69]:List UInt8))) h)∧(b3=false→bd ((t0==403):Bool) fun b4=>(b4=true→K (.string (mkS ([65,67,67,69,83,83,95,82,69,70,85,83,69,68]:List UInt8))) h)∧(b4=false→bd ((t0==404):Bool) fun b5=>(b5=true→K (.string (mkS ([78,79,84,95,70,79,85,78,68]:List UInt8))) h)∧(b5=false→bd ((t0==406):Bool) fun b6=>(b6=true→K (.string (mkS ([80,82,69,67,79,78,68,73,84,73,79,78,95,70,65,73,76,69,68]:List UInt8))) h)∧(b6=false→bd ((t0==501):Bool) fun b7=>(b7=true→K (.string (mkS ([70,82,65,77,69,95,69,82,82,79,82]:List UInt8))) h)∧(b7=false→bd ((t0==502):Bool) fun b8=>(b8=true→K (.string (mkS ([83,89,78,84,65,88,95,69,82,82,79,82]:List UInt8))) h)∧(b8=false→bd ((t0==503):Bool) fun b9=>(b9=true→K (.string (mkS ([67,79,77,77,65,78,68,95,73,78,86,65,76,73,68]:List UInt8))) h)∧(b9=false→bd ((t0==504):Bool) fun p=>(p=true→K (.string (mkS ([67,72,65,78,78,69,76,95,69,82,82,79,82]:List UInt8))) h)∧(p=false→bd ((t0==505):Bool) fun q=>(q=true→K (.string (mkS ([85,78,69,88,80,69,67,84,69,68,95,70,82,65,77,69]:List UInt8))) h)∧(q=false→bd ((t0==506):Bool) fun r=>(r=true→K (.string (mkS ([82,69,83,79,85,82,67,69,95,69,82,82,79,82]:List UInt8))) h)∧(r=false→bd ((t0==530):Bool) fun x=>(x=true→K (.string (mkS ([78,79,84,95,65,76,76,79,87,69,68]:List UInt8))) h)∧(x=false→bd ((t0==540):Bool) fun z=>(z=true→K (.string (mkS ([78,79,84,95,73,77,80,76,69,77,69,78,84,69,68]:List UInt8))) h)∧(z=false→K (.string (mkS ([]:List UInt8))) h))))))))))))))
def qdy.plan (K:KT):Plan:=.go
theorem qdy.ev_eq:qdy.p0=fun K t0 h=>Ev P Tryz.f65 (qdy.plan K) K [.int .i64 t0] h:=by kernel_rfl
theorem qdy.obl (K:KT):Obl P Tryz.f65 (qdy.plan K) K :=
  obl_true (by kernel_rfl)
theorem qdy.ok {K:KT}{t0:Int}{h:Heap} (H:qdy.p0 K t0 h):CallsH P F.qdy [.int .i64 t0] K h :=
  calls_of_Ev (qdy.plan K) Tryz.func65 (by kernel_rfl) (qdy.obl K) (by rw [qdy.ev_eq] at H; exact H)
end Go.Proofs.YtjapglfpjhljpaaGreat.Pr
end
section
set_option linter.unusedVariables false
set_option maxRecDepth 100000
namespace Go.Proofs.YtjapglfpjhljpaaGreat.Pr
open Go Go.Lift Go.Proofs
def qdx.p0 (K:KT) (t0:Int) (h:Heap):Prop :=
  ((decide (t0 ≥ 1))=true→((decide (t0≤3))=false→bd ((t0==8):Bool) fun b1=>K (.bool b1) h)∧((decide (t0≤3))=true→K (.bool true) h))∧((decide (t0 ≥ 1))=false→bd ((t0==8):Bool) fun b2=>K (.bool b2) h)
def qdx.plan (K:KT):Plan:=.go
theorem qdx.ev_eq:qdx.p0=fun K t0 h=>Ev P Tryz.f49 (qdx.plan K) K [.int .i64 t0] h:=by kernel_rfl
theorem qdx.obl (K:KT):Obl P Tryz.f49 (qdx.plan K) K :=
  obl_true (by kernel_rfl)
theorem qdx.ok {K:KT}{t0:Int}{h:Heap} (H:qdx.p0 K t0 h):CallsH P F.qdx [.int .i64 t0] K h :=
  calls_of_Ev (qdx.plan K) Tryz.func49 (by kernel_rfl) (qdx.obl K) (by rw [qdx.ev_eq] at H; exact H)
def qca.j1 (K:KT) (b_0:OA) (b_0l:Nat) (b_0c:Nat) (f_3:Addr) (p:Bool) (h:Heap):Prop :=
  (p=true→CallsH P F.qcb [.slice b_0 b_0l b_0c] (fun v2 h3=>∃ a4 q r,v2=.slice a4 q r∧K (.tuple #[.slice a4 q r,.bool false]) h3) h)∧(p=false→∃ n5,hcell h (Addr.add f_3 0)=some (.int .i64 n5)∧CallsH P F.qcs [.slice b_0 b_0l b_0c,.int .i64 1,.int .u64 (IntKind.u64.wrap n5)] (fun v6 h7=>∃ a8 x z,v6=.slice a8 x z∧∃ n9,hcell h7 (Addr.add f_3 1)=some (.int .i64 n9)∧CallsH P F.qcs [.slice a8 x z,.int .i64 2,.int .u64 (IntKind.u64.wrap n9)] (fun aq aa=>∃ ab ac ad,aq=.slice ab ac ad∧∃ ae af ag,hcell aa (Addr.add f_3 2)=some (.slice ae af ag)∧CallsH P F.qea [.slice ab ac ad,.slice ae af ag] (fun ar ah=>∃ ai aj ak,ar=.slice ai aj ak∧bd (al ah #[.int .u8 206] T.uint8) fun au=>SemH P (Builtin.append_ #[T.sl_uint8,T.sl_uint8] T.sl_uint8 #[.slice ai aj ak,.slice (some (top ah)) 1 1]) (fun aw ax=>∃ am an ao,aw=.slice am an ao∧K (.tuple #[.slice am an ao,.bool true]) ax) au) aa) h7) h)
def qca.j1.l:Live:=[(0,.slice),(3,.addr),(25,.bool)]
def qca.j1.j (K:KT):Tup qca.j1.l→Heap→Prop:=fun x h=>qca.j1 K x.1.1 x.1.2.1 x.1.2.2 x.2.1 x.2.2.1 h
def qca.p0 (K:KT) (b_0:OA) (b_0l:Nat) (b_0c:Nat) (f_1:List Value) (h:Heap):Prop :=
  bd (al h (List.toArray f_1) T.api_Frame) fun h1=>∃ z,hcell h1 (Addr.add (top h) 0)=some (.int .i64 z)∧CallsH P F.qdx [.int .i64 z] (fun ab p=>∃ q,ab=.bool q∧((!q)=false→∃ r,hcell p (Addr.add (top h) 1)=some (.int .i64 r)∧((decide (r<0))=false→∃ x,hcell p (Addr.add (top h) 1)=some (.int .i64 x)∧((decide (x > 65535))=false→∃ ac aa ad,hcell p (Addr.add (top h) 2)=some (.slice ac aa ad)∧qca.j1 K b_0 b_0l b_0c (top h) (decide (((aa:Nat):Int) > 4088)) p)∧((decide (x > 65535))=true→qca.j1 K b_0 b_0l b_0c (top h) true p))∧((decide (r<0))=true→qca.j1 K b_0 b_0l b_0c (top h) true p))∧((!q)=true→qca.j1 K b_0 b_0l b_0c (top h) true p)) h1
def qca.plan (K:KT):Plan:=(.seq .go (.seq (.cut qca.j1.l (qca.j1.j K) .go .go) .go))
theorem qca.ev_eq:qca.p0=fun K b_0 b_0l b_0c f_1 h=>Ev P Tryz.f64 (qca.plan K) K [.slice b_0 b_0l b_0c,.agg (List.toArray f_1)] h:=by kernel_rfl
theorem qca.obl (K:KT):Obl P Tryz.f64 (qca.plan K) K :=
  obl_of (R:=Imp (qca.j1.j K)∧True) (by kernel_rfl) ⟨imp _,trivial⟩
theorem qca.ok {K:KT}{b_0:OA}{b_0l:Nat}{b_0c:Nat}{f_1:List Value}{h:Heap} (H:qca.p0 K b_0 b_0l b_0c f_1 h):CallsH P F.qca [.slice b_0 b_0l b_0c,.agg (List.toArray f_1)] K h :=
  calls_of_Ev (qca.plan K) Tryz.func64 (by kernel_rfl) (qca.obl K) (by rw [qca.ev_eq] at H; exact H)
def qdw.p0 (K:KT) (b_0:OA) (b_0l:Nat) (b_0c:Nat) (h:Heap):Prop :=
  bd (al h #[.int .i64 0,.int .i64 0,.slice none 0 0] T.api_Frame) fun h1=>((((b_0l:Nat):Int)==0)=true→([.int .i64 0,.int .i64 0,.slice none 0 0]:List Value).length=3∧∃ h2,stC h1 (top h) 0 [.int .i64 0,.int .i64 0,.slice none 0 0]=some h2∧∃ ai,rdC h2 (top h) 0 3=some ai∧K (.tuple #[.agg (List.toArray ai),.int .i64 0,.int .i64 2]) h2)∧((((b_0l:Nat):Int)==0)=false→∃ p4,b_0=some p4∧(0:Int)≤0∧0<((b_0l:Nat):Int)∧∃ n5,hcell h1 (Addr.add p4 (Int.toNat 0 * 1))=some (.int .u8 n5)∧CallsH P F.qdx [.int .i64 (IntKind.i64.wrap n5)] (fun v6 h7=>∃ b8,v6=.bool b8∧((!b8)=true→([.int .i64 0,.int .i64 0,.slice none 0 0]:List Value).length=3∧∃ h9,stC h7 (top h) 0 [.int .i64 0,.int .i64 0,.slice none 0 0]=some h9∧∃ aj,rdC h9 (top h) 0 3=some aj∧K (.tuple #[.agg (List.toArray aj),.int .i64 0,.int .i64 3]) h9)∧((!b8)=false→((decide (((b_0l:Nat):Int)<7))=true→([.int .i64 0,.int .i64 0,.slice none 0 0]:List Value).length=3∧∃ z,stC h7 (top h) 0 [.int .i64 0,.int .i64 0,.slice none 0 0]=some z∧∃ ak,rdC z (top h) 0 3=some ak∧K (.tuple #[.agg (List.toArray ak),.int .i64 0,.int .i64 2]) z)∧((decide (((b_0l:Nat):Int)<7))=false→CallsH P F.qee [.slice b_0 b_0l b_0c] (fun bc be=>∃ q,bc=.pointer q∧CallsH P F.qdr [.pointer q,.int .i64 1] (fun bf bg=>∃ aa,bf=.int .u64 aa∧CallsH P F.qdr [.pointer q,.int .i64 2] (fun bh r=>∃ ab,bh=.int .u64 ab∧bd (al r #[.int .i64 0,.int .i64 0,.slice none 0 0] T.api_Frame) fun bi=>([.int .i64 (IntKind.i64.wrap aa),.int .i64 (IntKind.i64.wrap ab),.slice none 0 0]:List Value).length=3∧∃ am,stC bi (top r) 0 [.int .i64 (IntKind.i64.wrap aa),.int .i64 (IntKind.i64.wrap ab),.slice none 0 0]=some am∧CallsH P F.qdr [.pointer q,.int .i64 4] (fun bj p=>∃ x,bj=.int .u64 x∧((decide (x > 4088))=true→([.int .i64 0,.int .i64 0,.slice none 0 0]:List Value).length=3∧∃ ac,stC p (top h) 0 [.int .i64 0,.int .i64 0,.slice none 0 0]=some ac∧∃ an,rdC ac (top h) 0 3=some an∧K (.tuple #[.agg (List.toArray an),.int .i64 0,.int .i64 3]) ac)∧((decide (x > 4088))=false→bd ((IntKind.i64.wrap ((7:Int)+(IntKind.i64.wrap x))):Int) fun to_29=>bd ((decide (((b_0l:Nat):Int)≤to_29)):Bool) fun ao=>(ao=true→([.int .i64 0,.int .i64 0,.slice none 0 0]:List Value).length=3∧∃ ad,stC p (top h) 0 [.int .i64 0,.int .i64 0,.slice none 0 0]=some ad∧∃ aq,rdC ad (top h) 0 3=some aq∧K (.tuple #[.agg (List.toArray aq),.int .i64 0,.int .i64 2]) ad)∧(ao=false→∃ ar,b_0=some ar∧(0:Int)≤to_29∧to_29<((b_0l:Nat):Int)∧∃ au,hcell p (Addr.add ar (Int.toNat to_29 * 1))=some (.int .u8 au)∧bd ((au != 206):Bool) fun aw=>(aw=true→([.int .i64 0,.int .i64 0,.slice none 0 0]:List Value).length=3∧∃ ae,stC p (top h) 0 [.int .i64 0,.int .i64 0,.slice none 0 0]=some ae∧∃ ax,rdC ae (top h) 0 3=some ax∧K (.tuple #[.agg (List.toArray ax),.int .i64 0,.int .i64 3]) ae)∧(aw=false→inB to_29 b_0c∧inB 7 (Int.toNat to_29)∧CallsH P F.qcb [.slice (slA b_0 (Int.toNat 7) b_0c 1) (Int.toNat to_29 - Int.toNat 7) (b_0c - Int.toNat 7)] (fun bk bl=>∃ ay az ba,bk=.slice ay az ba∧∃ af,stC bl (Addr.add (top r) 2) 0 [.slice ay az ba]=some af∧∃ ag,rdC af (top r) 0 3=some ag∧ag.length=3∧∃ ah,stC af (top h) 0 ag=some ah∧bd ((IntKind.i64.wrap (to_29+1)):Int) fun bm=>∃ bb,rdC ah (top h) 0 3=some bb∧K (.tuple #[.agg (List.toArray bb),.int .i64 bm,.int .i64 0]) ah) p)))) am) bg) be) h7))) h1)
def qdw.plan (K:KT):Plan:=.go
theorem qdw.ev_eq:qdw.p0=fun K b_0 b_0l b_0c h=>Ev P Tryz.f25 (qdw.plan K) K [.slice b_0 b_0l b_0c] h:=by kernel_rfl
theorem qdw.obl (K:KT):Obl P Tryz.f25 (qdw.plan K) K :=
  obl_true (by kernel_rfl)
theorem qdw.ok {K:KT}{b_0:OA}{b_0l:Nat}{b_0c:Nat}{h:Heap} (H:qdw.p0 K b_0 b_0l b_0c h):CallsH P F.qdw [.slice b_0 b_0l b_0c] K h :=
  calls_of_Ev (qdw.plan K) Tryz.func25 (by kernel_rfl) (qdw.obl K) (by rw [qdw.ev_eq] at H; exact H)
end Go.Proofs.YtjapglfpjhljpaaGreat.Pr
end
section
set_option linter.unusedVariables false
set_option maxRecDepth 100000
namespace Go.Proofs.YtjapglfpjhljpaaGreat.Pr
open Go Go.Lift Go.Proofs
def qdn.p0 (K:KT) (b_0:OA) (b_0l:Nat) (b_0c:Nat) (h:Heap):Prop :=
  bd (al h #[.int .i64 0,.int .i64 0,.slice none 0 0,.slice none 0 0,.slice none 0 0,.slice none 0 0] T.api_Method) fun h1=>CallsH P F.qee [.slice b_0 b_0l b_0c] (fun v2 h3=>∃ p4,v2=.pointer p4∧CallsH P F.qdr [.pointer p4,.int .i64 2] (fun v5 h6=>∃ n7,v5=.int .u64 n7∧CallsH P F.qdr [.pointer p4,.int .i64 2] (fun v8 h9=>∃ p,v8=.int .u64 p∧([.int .i64 (IntKind.i64.wrap n7),.int .i64 (IntKind.i64.wrap p),.slice none 0 0,.slice none 0 0,.slice none 0 0,.slice none 0 0]:List Value).length=6∧∃ q,stC h9 (top h) 0 [.int .i64 (IntKind.i64.wrap n7),.int .i64 (IntKind.i64.wrap p),.slice none 0 0,.slice none 0 0,.slice none 0 0,.slice none 0 0]=some q∧∃ r,rdC q (top h) 0 6=some r∧K (.agg (List.toArray r)) q) h6) h3) h1
def qdn.plan (K:KT):Plan:=.go
theorem qdn.ev_eq:qdn.p0=fun K b_0 b_0l b_0c h=>Ev P Tryz.f120 (qdn.plan K) K [.slice b_0 b_0l b_0c] h:=by kernel_rfl
theorem qdn.obl (K:KT):Obl P Tryz.f120 (qdn.plan K) K :=
  obl_true (by kernel_rfl)
theorem qdn.ok {K:KT}{b_0:OA}{b_0l:Nat}{b_0c:Nat}{h:Heap} (H:qdn.p0 K b_0 b_0l b_0c h):CallsH P F.qdn [.slice b_0 b_0l b_0c] K h :=
  calls_of_Ev (qdn.plan K) Tryz.func120 (by kernel_rfl) (qdn.obl K) (by rw [qdn.ev_eq] at H; exact H)
def qef.p0 (K:KT)  (h:Heap):Prop :=
  bd (al h #[.int .i64 0,.bool false,.int .i64 0,.int .i64 0,.slice none 0 0,.slice none 0 0,.slice none 0 0,.slice none 0 0,.int .u64 0,.int .i64 0,.string (mkS ([]:List UInt8)),.slice none 0 0] T.chans_Asm) fun h1=>K (.pointer (some (top h))) h1
def qef.plan (K:KT):Plan:=.go
theorem qef.ev_eq:qef.p0=fun K  h=>Ev P Tryz.f97 (qef.plan K) K [] h:=by kernel_rfl
theorem qef.obl (K:KT):Obl P Tryz.f97 (qef.plan K) K :=
  obl_true (by kernel_rfl)
theorem qef.ok {K:KT}  {h:Heap} (H:qef.p0 K  h):CallsH P F.qef [] K h :=
  calls_of_Ev (qef.plan K) Tryz.func97 (by kernel_rfl) (qef.obl K) (by rw [qef.ev_eq] at H; exact H)
def qdb.p0 (K:KT) (a_0:OA) (h:Heap):Prop :=
  ∃ p1,a_0=some p1∧∃ n2,hcell h (Addr.add p1 0)=some (.int .i64 n2)∧bd ((n2 != 0):Bool) fun b3=>K (.bool b3) h
def qdb.plan (K:KT):Plan:=.go
theorem qdb.ev_eq:qdb.p0=fun K a_0 h=>Ev P Tryz.f143 (qdb.plan K) K [.pointer a_0] h:=by kernel_rfl
theorem qdb.obl (K:KT):Obl P Tryz.f143 (qdb.plan K) K :=
  obl_true (by kernel_rfl)
theorem qdb.ok {K:KT}{a_0:OA}{h:Heap} (H:qdb.p0 K a_0 h):CallsH P F.qdb [.pointer a_0] K h :=
  calls_of_Ev (qdb.plan K) Tryz.func143 (by kernel_rfl) (qdb.obl K) (by rw [qdb.ev_eq] at H; exact H)
def qbw.j1 (K:KT) (a_0:OA) (t1:Int) (m_5:Addr) (t6:Addr) (h:Heap):Prop :=
  ∃ p3,a_0=some p3∧([.int .i64 0,.bool false,.int .i64 0,.int .i64 0,.slice none 0 0,.slice none 0 0,.slice none 0 0,.slice none 0 0,.int .u64 0,.int .i64 0,.string (mkS ([]:List UInt8)),.slice none 0 0]:List Value).length=12∧∃ h4,stC h p3 0 [.int .i64 0,.bool false,.int .i64 0,.int .i64 0,.slice none 0 0,.slice none 0 0,.slice none 0 0,.slice none 0 0,.int .u64 0,.int .i64 0,.string (mkS ([]:List UInt8)),.slice none 0 0]=some h4∧∃ q,rdC h4 m_5 0 6=some q∧∃ p,bld P T.api_Ask [(1,.agg (List.toArray q))] p∧p.length=11∧∃ h7,stC h4 t6 0 p=some h7∧∃ r,rdC h7 t6 0 11=some r∧K (.tuple #[.agg (List.toArray r),.int .i64 t1]) h7
def qbw.j1.l:Live:=[(0,.ptr),(1,.int .i64),(5,.addr),(6,.addr)]
def qbw.j1.j (K:KT):Tup qbw.j1.l→Heap→Prop:=fun x h=>qbw.j1 K x.1 x.2.1 x.2.2.1 x.2.2.2.1 h
def qbw.p0 (K:KT) (a_0:OA) (t1:Int) (m_2:List Value) (h:Heap):Prop :=
  bd (al h (List.toArray m_2) T.api_Method) fun h1=>bd (al h1 #[.bool false,.int .i64 0,.int .i64 0,.slice none 0 0,.slice none 0 0,.slice none 0 0,.slice none 0 0,.int .u64 0,.int .i64 0,.string (mkS ([]:List UInt8)),.slice none 0 0] T.api_Ask) fun h2=>CallsH P F.qdb [.pointer a_0] (fun v9 q=>∃ p,v9=.bool p∧(p=true→([.int .i64 60,.int .i64 40,.slice none 0 0,.slice none 0 0,.slice none 0 0,.slice none 0 0]:List Value).length=6∧∃ r,stC q (top h) 0 [.int .i64 60,.int .i64 40,.slice none 0 0,.slice none 0 0,.slice none 0 0,.slice none 0 0]=some r∧qbw.j1 K a_0 t1 (top h) (top h1) r)∧(p=false→qbw.j1 K a_0 t1 (top h) (top h1) q)) h2
def qbw.plan (K:KT):Plan:=(.seq .go (.cut qbw.j1.l (qbw.j1.j K) .go .go))
theorem qbw.ev_eq:qbw.p0=fun K a_0 t1 m_2 h=>Ev P Tryz.f137 (qbw.plan K) K [.pointer a_0,.int .i64 t1,.agg (List.toArray m_2)] h:=by kernel_rfl
theorem qbw.obl (K:KT):Obl P Tryz.f137 (qbw.plan K) K :=
  obl_of (R:=Imp (qbw.j1.j K)∧True) (by kernel_rfl) ⟨imp _,trivial⟩
theorem qbw.ok {K:KT}{a_0:OA}{t1:Int}{m_2:List Value}{h:Heap} (H:qbw.p0 K a_0 t1 m_2 h):CallsH P F.qbw [.pointer a_0,.int .i64 t1,.agg (List.toArray m_2)] K h :=
  calls_of_Ev (qbw.plan K) Tryz.func137 (by kernel_rfl) (qbw.obl K) (by rw [qbw.ev_eq] at H; exact H)
def qcz.p0 (K:KT) (a_0:OA) (h:Heap):Prop :=
  bd (al h #[.bool false,.int .i64 0,.int .i64 0,.slice none 0 0,.slice none 0 0,.slice none 0 0,.slice none 0 0,.int .u64 0,.int .i64 0,.string (mkS ([]:List UInt8)),.slice none 0 0] T.api_Ask) fun h1=>∃ p2,a_0=some p2∧∃ p,rdC h1 (Addr.add p2 1) 0 11=some p∧bd (al h1 #[.bool false,.int .i64 0,.int .i64 0,.slice none 0 0,.slice none 0 0,.slice none 0 0,.slice none 0 0,.int .u64 0,.int .i64 0,.string (mkS ([]:List UInt8)),.slice none 0 0] T.api_Ask) fun h4=>p.length=11∧∃ h5,stC h4 (top h1) 0 p=some h5∧∃ h6,stC h5 (Addr.add (top h1) 0) 0 [.bool true]=some h6∧∃ p7,a_0=some p7∧([.int .i64 0,.bool false,.int .i64 0,.int .i64 0,.slice none 0 0,.slice none 0 0,.slice none 0 0,.slice none 0 0,.int .u64 0,.int .i64 0,.string (mkS ([]:List UInt8)),.slice none 0 0]:List Value).length=12∧∃ h8,stC h6 p7 0 [.int .i64 0,.bool false,.int .i64 0,.int .i64 0,.slice none 0 0,.slice none 0 0,.slice none 0 0,.slice none 0 0,.int .u64 0,.int .i64 0,.string (mkS ([]:List UInt8)),.slice none 0 0]=some h8∧∃ q,rdC h8 (top h1) 0 11=some q∧q.length=11∧∃ r,stC h8 (top h) 0 q=some r∧∃ x,rdC r (top h) 0 11=some x∧K (.tuple #[.agg (List.toArray x),.int .i64 0]) r
def qcz.plan (K:KT):Plan:=.go
theorem qcz.ev_eq:qcz.p0=fun K a_0 h=>Ev P Tryz.f144 (qcz.plan K) K [.pointer a_0] h:=by kernel_rfl
theorem qcz.obl (K:KT):Obl P Tryz.f144 (qcz.plan K) K :=
  obl_true (by kernel_rfl)
theorem qcz.ok {K:KT}{a_0:OA}{h:Heap} (H:qcz.p0 K a_0 h):CallsH P F.qcz [.pointer a_0] K h :=
  calls_of_Ev (qcz.plan K) Tryz.func144 (by kernel_rfl) (qcz.obl K) (by rw [qcz.ev_eq] at H; exact H)
def qbm.j1 (K:KT) (a_0:OA) (t4:Addr) (x:Bool) (h:Heap):Prop :=
  (x=true→∃ z,a_0=some z∧∃ aa,stC h (Addr.add z 0) 0 [.int .i64 1]=some aa∧([.bool false,.int .i64 0,.int .i64 0,.slice none 0 0,.slice none 0 0,.slice none 0 0,.slice none 0 0,.int .u64 0,.int .i64 0,.string (mkS ([]:List UInt8)),.slice none 0 0]:List Value).length=11∧∃ p,stC aa t4 0 [.bool false,.int .i64 0,.int .i64 0,.slice none 0 0,.slice none 0 0,.slice none 0 0,.slice none 0 0,.int .u64 0,.int .i64 0,.string (mkS ([]:List UInt8)),.slice none 0 0]=some p∧∃ ab,rdC p t4 0 11=some ab∧K (.tuple #[.agg (List.toArray ab),.int .i64 0]) p)∧(x=false→CallsH P F.qcz [.pointer a_0] (fun ae af=>∃ q ac,ae=.tuple #[.agg (List.toArray q),.int .i64 ac]∧q.length=11∧∃ r,stC af t4 0 q=some r∧∃ ad,rdC r t4 0 11=some ad∧K (.tuple #[.agg (List.toArray ad),.int .i64 ac]) r) h)
def qbm.j1.l:Live:=[(0,.ptr),(4,.addr),(42,.bool)]
def qbm.j1.j (K:KT):Tup qbm.j1.l→Heap→Prop:=fun x h=>qbm.j1 K x.1 x.2.1 x.2.2.1 h
def qbm.p0 (K:KT) (a_0:OA) (b_1:OA) (b_1l:Nat) (b_1c:Nat) (h:Heap):Prop :=
  bd (al h #[.bool false,.int .i64 0,.int .i64 0,.slice none 0 0,.slice none 0 0,.slice none 0 0,.slice none 0 0,.int .u64 0,.int .i64 0,.string (mkS ([]:List UInt8)),.slice none 0 0] T.api_Ask) fun h1=>CallsH P F.qdb [.pointer a_0] (fun v2 h3=>∃ b4,v2=.bool b4∧(b4=true→CallsH P F.qbw [.pointer a_0,.int .i64 505,.agg #[.int .i64 0,.int .i64 0,.slice none 0 0,.slice none 0 0,.slice none 0 0,.slice none 0 0]] (fun v5 h6=>∃ z n8,v5=.tuple #[.agg (List.toArray z),.int .i64 n8]∧z.length=11∧∃ h9,stC h6 (top h) 0 z=some h9∧∃ af,rdC h9 (top h) 0 11=some af∧K (.tuple #[.agg (List.toArray af),.int .i64 n8]) h9) h3)∧(b4=false→CallsH P F.qax [.slice b_1 b_1l b_1c] (fun ao p=>∃ aa r,ao=.tuple #[.agg (List.toArray aa),.int .i64 r]∧bd (al p #[.int .i64 0,.int .i64 0,.slice none 0 0,.slice none 0 0,.slice none 0 0,.slice none 0 0] T.api_Method) fun aq=>aa.length=6∧∃ x,stC aq (top p) 0 aa=some x∧((r != 0)=true→CallsH P F.qei [.int .i64 r] (fun ar au=>∃ ag,ar=.int .i64 ag∧CallsH P F.qdn [.slice b_1 b_1l b_1c] (fun aw ax=>∃ ah,aw=.agg (List.toArray ah)∧CallsH P F.qbw [.pointer a_0,.int .i64 ag,.agg (List.toArray ah)] (fun ay az=>∃ ab ai,ay=.tuple #[.agg (List.toArray ab),.int .i64 ai]∧ab.length=11∧∃ ac,stC az (top h) 0 ab=some ac∧∃ aj,rdC ac (top h) 0 11=some aj∧K (.tuple #[.agg (List.toArray aj),.int .i64 ai]) ac) ax) au) x)∧((r != 0)=false→∃ ak,rdC x (top p) 0 6=some ak∧∃ ad,bld P T.api_Ask [(1,.agg (List.toArray ak))] ad∧∃ am,a_0=some am∧ad.length=11∧∃ q,stC x (Addr.add am 1) 0 ad=some q∧∃ ae,hcell q (Addr.add (top p) 0)=some (.int .i64 ae)∧((ae==60)=true→∃ an,hcell q (Addr.add (top p) 1)=some (.int .i64 an)∧qbm.j1 K a_0 (top h) (an==40) q)∧((ae==60)=false→qbm.j1 K a_0 (top h) false q))) h3)) h1
def qbm.plan (K:KT):Plan:=(.seq .go (.seq .go (.seq .go (.seq .go (.seq .go (.seq (.cut qbm.j1.l (qbm.j1.j K) .go .go) .go))))))
theorem qbm.ev_eq:qbm.p0=fun K a_0 b_1 b_1l b_1c h=>Ev P Tryz.f134 (qbm.plan K) K [.pointer a_0,.slice b_1 b_1l b_1c] h:=by kernel_rfl
theorem qbm.obl (K:KT):Obl P Tryz.f134 (qbm.plan K) K :=
  obl_of (R:=Imp (qbm.j1.j K)∧True) (by kernel_rfl) ⟨imp _,trivial⟩
theorem qbm.ok {K:KT}{a_0:OA}{b_1:OA}{b_1l:Nat}{b_1c:Nat}{h:Heap} (H:qbm.p0 K a_0 b_1 b_1l b_1c h):CallsH P F.qbm [.pointer a_0,.slice b_1 b_1l b_1c] K h :=
  calls_of_Ev (qbm.plan K) Tryz.func134 (by kernel_rfl) (qbm.obl K) (by rw [qbm.ev_eq] at H; exact H)
def qdg.p0 (K:KT) (a_0:OA) (b_1:OA) (b_1l:Nat) (b_1c:Nat) (h:Heap):Prop :=
  bd (al h #[.bool false,.int .i64 0,.int .i64 0,.slice none 0 0,.slice none 0 0,.slice none 0 0,.slice none 0 0,.int .u64 0,.int .i64 0,.string (mkS ([]:List UInt8)),.slice none 0 0] T.api_Ask) fun h1=>∃ p2,a_0=some p2∧∃ n3,hcell h1 (Addr.add p2 0)=some (.int .i64 n3)∧((n3 != 1)=true→CallsH P F.qbw [.pointer a_0,.int .i64 505,.agg #[.int .i64 0,.int .i64 0,.slice none 0 0,.slice none 0 0,.slice none 0 0,.slice none 0 0]] (fun v4 h5=>∃ x n7,v4=.tuple #[.agg (List.toArray x),.int .i64 n7]∧x.length=11∧∃ h8,stC h5 (top h) 0 x=some h8∧∃ ak,rdC h8 (top h) 0 11=some ak∧K (.tuple #[.agg (List.toArray ak),.int .i64 n7]) h8) h1)∧((n3 != 1)=false→CallsH P F.qav [.slice b_1 b_1l b_1c] (fun bf q=>∃ z aa,bf=.tuple #[.agg (List.toArray z),.int .i64 aa]∧bd (al q #[.int .u64 0,.int .i64 0,.string (mkS ([]:List UInt8))] T.api_Head) fun bg=>z.length=3∧∃ p,stC bg (top q) 0 z=some p∧bd ((aa != 0):Bool) fun am=>(am=true→CallsH P F.qei [.int .i64 aa] (fun bh bi=>∃ an,bh=.int .i64 an∧CallsH P F.qbw [.pointer a_0,.int .i64 an,.agg #[.int .i64 0,.int .i64 0,.slice none 0 0,.slice none 0 0,.slice none 0 0,.slice none 0 0]] (fun bj bk=>∃ ab ao,bj=.tuple #[.agg (List.toArray ab),.int .i64 ao]∧ab.length=11∧∃ ac,stC bk (top h) 0 ab=some ac∧∃ aq,rdC ac (top h) 0 11=some aq∧K (.tuple #[.agg (List.toArray aq),.int .i64 ao]) ac) bi) p)∧(am=false→∃ ar,hcell p (Addr.add (top q) 0)=some (.int .u64 ar)∧bd ((decide (ar > 10000)):Bool) fun au=>(au=true→CallsH P F.qbw [.pointer a_0,.int .i64 311,.agg #[.int .i64 0,.int .i64 0,.slice none 0 0,.slice none 0 0,.slice none 0 0,.slice none 0 0]] (fun bl bm=>∃ ad aw,bl=.tuple #[.agg (List.toArray ad),.int .i64 aw]∧ad.length=11∧∃ ae,stC bm (top h) 0 ad=some ae∧∃ ax,rdC ae (top h) 0 11=some ax∧K (.tuple #[.agg (List.toArray ax),.int .i64 aw]) ae) p)∧(au=false→∃ af,rdC p (top q) 0 3=some af∧∃ ay,a_0=some ay∧af.length=3∧∃ r,stC p (Addr.add (Addr.add ay 1) 7) 0 af=some r∧∃ ag,hcell r (Addr.add (top q) 0)=some (.int .u64 ag)∧((ag==0)=true→CallsH P F.qcz [.pointer a_0] (fun bn bo=>∃ ah az,bn=.tuple #[.agg (List.toArray ah),.int .i64 az]∧ah.length=11∧∃ ai,stC bo (top h) 0 ah=some ai∧∃ ba,rdC ai (top h) 0 11=some ba∧K (.tuple #[.agg (List.toArray ba),.int .i64 az]) ai) r)∧((ag==0)=false→∃ bb,a_0=some bb∧∃ bc,stC r (Addr.add bb 0) 0 [.int .i64 2]=some bc∧([.bool false,.int .i64 0,.int .i64 0,.slice none 0 0,.slice none 0 0,.slice none 0 0,.slice none 0 0,.int .u64 0,.int .i64 0,.string (mkS ([]:List UInt8)),.slice none 0 0]:List Value).length=11∧∃ aj,stC bc (top h) 0 [.bool false,.int .i64 0,.int .i64 0,.slice none 0 0,.slice none 0 0,.slice none 0 0,.slice none 0 0,.int .u64 0,.int .i64 0,.string (mkS ([]:List UInt8)),.slice none 0 0]=some aj∧∃ be,rdC aj (top h) 0 11=some be∧K (.tuple #[.agg (List.toArray be),.int .i64 0]) aj)))) h1)
def qdg.plan (K:KT):Plan:=.go
theorem qdg.ev_eq:qdg.p0=fun K a_0 b_1 b_1l b_1c h=>Ev P Tryz.f135 (qdg.plan K) K [.pointer a_0,.slice b_1 b_1l b_1c] h:=by kernel_rfl
theorem qdg.obl (K:KT):Obl P Tryz.f135 (qdg.plan K) K :=
  obl_true (by kernel_rfl)
theorem qdg.ok {K:KT}{a_0:OA}{b_1:OA}{b_1l:Nat}{b_1c:Nat}{h:Heap} (H:qdg.p0 K a_0 b_1 b_1l b_1c h):CallsH P F.qdg [.pointer a_0,.slice b_1 b_1l b_1c] K h :=
  calls_of_Ev (qdg.plan K) Tryz.func135 (by kernel_rfl) (qdg.obl K) (by rw [qdg.ev_eq] at H; exact H)
def qdh.p0 (K:KT) (a_0:OA) (b_1:OA) (b_1l:Nat) (b_1c:Nat) (h:Heap):Prop :=
  bd (al h #[.bool false,.int .i64 0,.int .i64 0,.slice none 0 0,.slice none 0 0,.slice none 0 0,.slice none 0 0,.int .u64 0,.int .i64 0,.string (mkS ([]:List UInt8)),.slice none 0 0] T.api_Ask) fun h1=>∃ p2,a_0=some p2∧∃ p3,a_0=some p3∧∃ n4,hcell h1 (Addr.add (Addr.add (Addr.add p2 1) 7) 0)=some (.int .u64 n4)∧∃ a5 ad az,hcell h1 (Addr.add (Addr.add p3 1) 10)=some (.slice a5 ad az)∧bd ((IntKind.i64.wrap ((IntKind.i64.wrap n4) - ((ad:Nat):Int))):Int) fun left_6=>∃ p7,a_0=some p7∧∃ n8,hcell h1 (Addr.add p7 0)=some (.int .i64 n8)∧bd ((n8 != 2):Bool) fun b9=>(b9=true→CallsH P F.qbw [.pointer a_0,.int .i64 505,.agg #[.int .i64 0,.int .i64 0,.slice none 0 0,.slice none 0 0,.slice none 0 0,.slice none 0 0]] (fun ba bb=>∃ p ae,ba=.tuple #[.agg (List.toArray p),.int .i64 ae]∧p.length=11∧∃ q,stC bb (top h) 0 p=some q∧∃ af,rdC q (top h) 0 11=some af∧K (.tuple #[.agg (List.toArray af),.int .i64 ae]) q) h1)∧(b9=false→bd ((decide (((b_1l:Nat):Int) > left_6)):Bool) fun ag=>(ag=true→CallsH P F.qbw [.pointer a_0,.int .i64 501,.agg #[.int .i64 0,.int .i64 0,.slice none 0 0,.slice none 0 0,.slice none 0 0,.slice none 0 0]] (fun bc be=>∃ r ah,bc=.tuple #[.agg (List.toArray r),.int .i64 ah]∧r.length=11∧∃ x,stC be (top h) 0 r=some x∧∃ ai,rdC x (top h) 0 11=some ai∧K (.tuple #[.agg (List.toArray ai),.int .i64 ah]) x) h1)∧(ag=false→∃ aj,a_0=some aj∧∃ ak am an,hcell h1 (Addr.add (Addr.add aj 1) 10)=some (.slice ak am an)∧SemH P (Builtin.append_ #[T.sl_uint8,T.sl_uint8] T.sl_uint8 #[.slice ak am an,.slice b_1 b_1l b_1c]) (fun bf bg=>∃ ao aq ar,bf=.slice ao aq ar∧∃ au,a_0=some au∧∃ z,stC bg (Addr.add (Addr.add au 1) 10) 0 [.slice ao aq ar]=some z∧((((b_1l:Nat):Int)==left_6)=true→CallsH P F.qcz [.pointer a_0] (fun bh bi=>∃ aa aw,bh=.tuple #[.agg (List.toArray aa),.int .i64 aw]∧aa.length=11∧∃ ab,stC bi (top h) 0 aa=some ab∧∃ ax,rdC ab (top h) 0 11=some ax∧K (.tuple #[.agg (List.toArray ax),.int .i64 aw]) ab) z)∧((((b_1l:Nat):Int)==left_6)=false→([.bool false,.int .i64 0,.int .i64 0,.slice none 0 0,.slice none 0 0,.slice none 0 0,.slice none 0 0,.int .u64 0,.int .i64 0,.string (mkS ([]:List UInt8)),.slice none 0 0]:List Value).length=11∧∃ ac,stC z (top h) 0 [.bool false,.int .i64 0,.int .i64 0,.slice none 0 0,.slice none 0 0,.slice none 0 0,.slice none 0 0,.int .u64 0,.int .i64 0,.string (mkS ([]:List UInt8)),.slice none 0 0]=some ac∧∃ ay,rdC ac (top h) 0 11=some ay∧K (.tuple #[.agg (List.toArray ay),.int .i64 0]) ac)) h1))
def qdh.plan (K:KT):Plan:=(.seq .go (.seq (.orders (.op 0 (.op 1 (.op 2 (.op 3 (.op 4 (.op 7 (.op 8 (.op 9 (.op 10 (.op 5 (.op 6 (.op 11 (.op 12 (.op 13 (.op 14 .nil)))))))))))))))) .go))
theorem qdh.ev_eq:qdh.p0=fun K a_0 b_1 b_1l b_1c h=>Ev P Tryz.f136 (qdh.plan K) K [.pointer a_0,.slice b_1 b_1l b_1c] h:=by kernel_rfl
theorem qdh.obl (K:KT):Obl P Tryz.f136 (qdh.plan K) K :=
  obl_of (R:=DrawOK P Tryz.f136.ntmps (opsAt 1 (bodyOf Tryz.f136)) (.op 0 (.op 1 (.op 2 (.op 3 (.op 4 (.op 7 (.op 8 (.op 9 (.op 10 (.op 5 (.op 6 (.op 11 (.op 12 (.op 13 (.op 14 .nil)))))))))))))))∧True) (by kernel_rfl) ⟨draw_ok (by kernel_rfl),trivial⟩
theorem qdh.ok {K:KT}{a_0:OA}{b_1:OA}{b_1l:Nat}{b_1c:Nat}{h:Heap} (H:qdh.p0 K a_0 b_1 b_1l b_1c h):CallsH P F.qdh [.pointer a_0,.slice b_1 b_1l b_1c] K h :=
  calls_of_Ev (qdh.plan K) Tryz.func136 (by kernel_rfl) (qdh.obl K) (by rw [qdh.ev_eq] at H; exact H)
def qda.p0 (K:KT) (a_0:OA) (f_1:List Value) (h:Heap):Prop :=
  bd (al h (List.toArray f_1) T.api_Frame) fun h1=>bd (al h1 #[.bool false,.int .i64 0,.int .i64 0,.slice none 0 0,.slice none 0 0,.slice none 0 0,.slice none 0 0,.int .u64 0,.int .i64 0,.string (mkS ([]:List UInt8)),.slice none 0 0] T.api_Ask) fun h2=>∃ n3,hcell h2 (Addr.add (top h) 0)=some (.int .i64 n3)∧bd ((n3==1):Bool) fun b4=>(b4=true→∃ a5 ad ae,hcell h2 (Addr.add (top h) 2)=some (.slice a5 ad ae)∧CallsH P F.qbm [.pointer a_0,.slice a5 ad ae] (fun v6 h7=>∃ p n9,v6=.tuple #[.agg (List.toArray p),.int .i64 n9]∧p.length=11∧∃ q,stC h7 (top h1) 0 p=some q∧∃ af,rdC q (top h1) 0 11=some af∧K (.tuple #[.agg (List.toArray af),.int .i64 n9]) q) h2)∧(b4=false→bd ((n3==2):Bool) fun ag=>(ag=true→∃ ah ai aj,hcell h2 (Addr.add (top h) 2)=some (.slice ah ai aj)∧CallsH P F.qdg [.pointer a_0,.slice ah ai aj] (fun az ba=>∃ r ak,az=.tuple #[.agg (List.toArray r),.int .i64 ak]∧r.length=11∧∃ x,stC ba (top h1) 0 r=some x∧∃ am,rdC x (top h1) 0 11=some am∧K (.tuple #[.agg (List.toArray am),.int .i64 ak]) x) h2)∧(ag=false→bd ((n3==3):Bool) fun an=>(an=true→∃ ao aq ar,hcell h2 (Addr.add (top h) 2)=some (.slice ao aq ar)∧CallsH P F.qdh [.pointer a_0,.slice ao aq ar] (fun bb bc=>∃ z au,bb=.tuple #[.agg (List.toArray z),.int .i64 au]∧z.length=11∧∃ aa,stC bc (top h1) 0 z=some aa∧∃ aw,rdC aa (top h1) 0 11=some aw∧K (.tuple #[.agg (List.toArray aw),.int .i64 au]) aa) h2)∧(an=false→CallsH P F.qbw [.pointer a_0,.int .i64 503,.agg #[.int .i64 0,.int .i64 0,.slice none 0 0,.slice none 0 0,.slice none 0 0,.slice none 0 0]] (fun be bf=>∃ ab ax,be=.tuple #[.agg (List.toArray ab),.int .i64 ax]∧ab.length=11∧∃ ac,stC bf (top h1) 0 ab=some ac∧∃ ay,rdC ac (top h1) 0 11=some ay∧K (.tuple #[.agg (List.toArray ay),.int .i64 ax]) ac) h2)))
def qda.plan (K:KT):Plan:=.go
theorem qda.ev_eq:qda.p0=fun K a_0 f_1 h=>Ev P Tryz.f121 (qda.plan K) K [.pointer a_0,.agg (List.toArray f_1)] h:=by kernel_rfl
theorem qda.obl (K:KT):Obl P Tryz.f121 (qda.plan K) K :=
  obl_true (by kernel_rfl)
theorem qda.ok {K:KT}{a_0:OA}{f_1:List Value}{h:Heap} (H:qda.p0 K a_0 f_1 h):CallsH P F.qda [.pointer a_0,.agg (List.toArray f_1)] K h :=
  calls_of_Ev (qda.plan K) Tryz.func121 (by kernel_rfl) (qda.obl K) (by rw [qda.ev_eq] at H; exact H)
end Go.Proofs.YtjapglfpjhljpaaGreat.Pr
end
section
set_option linter.unusedVariables false
set_option maxRecDepth 100000
namespace Go.Proofs.YtjapglfpjhljpaaGreat.Pr
open Go Go.Lift Go.Proofs
def qcy.p0 (K:KT) (s_0:List UInt8) (t1:Int) (h:Heap):Prop :=
  inB (if (t1:Int)<((List.length s_0:Nat):Int) then t1 else ((List.length s_0:Nat):Int)) (List.length s_0)∧bd ((List.take (Int.toNat (if (t1:Int)<((List.length s_0:Nat):Int) then t1 else ((List.length s_0:Nat):Int))) s_0):List UInt8) fun s1=>K (.string (mkS s1)) h
def qcy.plan (K:KT):Plan:=.go
theorem qcy.ev_eq:qcy.p0=fun K s_0 t1 h=>Ev P Tryz.f34 (qcy.plan K) K [.string (mkS s_0),.int .i64 t1] h:=by kernel_rfl
theorem qcy.obl (K:KT):Obl P Tryz.f34 (qcy.plan K) K :=
  obl_true (by kernel_rfl)
theorem qcy.ok {K:KT}{s_0:List UInt8}{t1:Int}{h:Heap} (H:qcy.p0 K s_0 t1 h):CallsH P F.qcy [.string (mkS s_0),.int .i64 t1] K h :=
  calls_of_Ev (qcy.plan K) Tryz.func34 (by kernel_rfl) (qcy.obl K) (by rw [qcy.ev_eq] at H; exact H)
end Go.Proofs.YtjapglfpjhljpaaGreat.Pr
end
section
set_option linter.unusedVariables false
set_option maxRecDepth 100000
namespace Go.Proofs.YtjapglfpjhljpaaGreat.Pr
open Go Go.Lift Go.Proofs
def qcg.p0 (K:KT) (ch_0:Int) (m_1:List Value) (h:Heap):Prop :=
  bd (al h (List.toArray m_1) T.api_Method) fun h1=>∃ p,rdC h1 (top h) 0 6=some p∧CallsH P F.qae [.slice none 0 0,.agg (List.toArray p)] (fun v3 h4=>∃ a5 q r b6,v3=.tuple #[.slice a5 q r,.bool b6]∧CallsH P F.qcm [.slice none 0 0,.agg #[.int .i64 1,.int .i64 ch_0,.slice a5 q r]] (fun v7 h8=>∃ a9 x z,v7=.slice a9 x z∧K (.slice a9 x z) h8) h4) h1
def qcg.plan (K:KT):Plan:=.go
theorem qcg.ev_eq:qcg.p0=fun K ch_0 m_1 h=>Ev P Tryz.f27 (qcg.plan K) K [.int .i64 ch_0,.agg (List.toArray m_1)] h:=by kernel_rfl
theorem qcg.obl (K:KT):Obl P Tryz.f27 (qcg.plan K) K :=
  obl_true (by kernel_rfl)
theorem qcg.ok {K:KT}{ch_0:Int}{m_1:List Value}{h:Heap} (H:qcg.p0 K ch_0 m_1 h):CallsH P F.qcg [.int .i64 ch_0,.agg (List.toArray m_1)] K h :=
  calls_of_Ev (qcg.plan K) Tryz.func27 (by kernel_rfl) (qcg.obl K) (by rw [qcg.ev_eq] at H; exact H)
end Go.Proofs.YtjapglfpjhljpaaGreat.Pr
end
section
set_option linter.unusedVariables false
set_option maxRecDepth 100000
namespace Go.Proofs.YtjapglfpjhljpaaGreat.Pr
open Go Go.Lift Go.Proofs
def qck.p0 (K:KT)  (h:Heap):Prop :=
  bd (al h #[.int .u8 65,.int .u8 77,.int .u8 81,.int .u8 80] T.uint8) fun h1=>SemH P (Go.convert T.sl_uint8 T.sl_uint8 (.slice (some (top h)) 4 4)) (fun v2 h3=>∃ a4 p q,v2=.slice a4 p q∧bd (al h3 #[.int .u8 0,.int .u8 0,.int .u8 9,.int .u8 1] T.uint8) fun h5=>SemH P (Builtin.append_ #[T.sl_uint8,T.sl_uint8] T.sl_uint8 #[.slice a4 p q,.slice (some (top h3)) 4 4]) (fun v6 h7=>∃ a8 r x,v6=.slice a8 r x∧bd (al h7 #[.string (mkS ([80,76,65,73,78]:List UInt8)),.string (mkS ([]:List UInt8)),.string (mkS ([101,110,95,85,83]:List UInt8))] T.string) fun h9=>CallsH P F.qcg [.int .i64 0,.agg #[.int .i64 10,.int .i64 11,.slice none 0 0,.slice (some (top h7)) 3 3,.slice none 0 0,.slice none 0 0]] (fun bo bp=>∃ z aa ab,bo=.slice z aa ab∧SemH P (Builtin.append_ #[T.sl_uint8,T.sl_uint8] T.sl_uint8 #[.slice a8 r x,.slice z aa ab]) (fun bq ac=>∃ ad ae af,bq=.slice ad ae af∧bd (al ac #[.int .u64 16,.int .u64 4096,.int .u64 0] T.uint64) fun br=>CallsH P F.qcg [.int .i64 0,.agg #[.int .i64 10,.int .i64 31,.slice (some (top ac)) 3 3,.slice none 0 0,.slice none 0 0,.slice none 0 0]] (fun bs bt=>∃ ag ah ai,bs=.slice ag ah ai∧SemH P (Builtin.append_ #[T.sl_uint8,T.sl_uint8] T.sl_uint8 #[.slice ad ae af,.slice ag ah ai]) (fun bu aj=>∃ ak am an,bu=.slice ak am an∧bd (al aj #[.string (mkS ([47]:List UInt8)),.string (mkS ([]:List UInt8))] T.string) fun ao=>bd (al ao #[.bool false] T.bool) fun bw=>CallsH P F.qcg [.int .i64 0,.agg #[.int .i64 10,.int .i64 40,.slice none 0 0,.slice (some (top aj)) 2 2,.slice (some (top ao)) 1 1,.slice none 0 0]] (fun bx bz=>∃ aq ar au,bx=.slice aq ar au∧SemH P (Builtin.append_ #[T.sl_uint8,T.sl_uint8] T.sl_uint8 #[.slice ak am an,.slice aq ar au]) (fun ca aw=>∃ ax ay az,ca=.slice ax ay az∧bd (al aw #[.string (mkS ([]:List UInt8))] T.string) fun cb=>CallsH P F.qcg [.int .i64 1,.agg #[.int .i64 20,.int .i64 10,.slice none 0 0,.slice (some (top aw)) 1 1,.slice none 0 0,.slice none 0 0]] (fun cd ce=>∃ ba bb bc,cd=.slice ba bb bc∧SemH P (Builtin.append_ #[T.sl_uint8,T.sl_uint8] T.sl_uint8 #[.slice ax ay az,.slice ba bb bc]) (fun cf be=>∃ bf bg bh,cf=.slice bf bg bh∧bd (al be #[.string (mkS ([]:List UInt8))] T.string) fun cg=>CallsH P F.qcg [.int .i64 2,.agg #[.int .i64 20,.int .i64 10,.slice none 0 0,.slice (some (top be)) 1 1,.slice none 0 0,.slice none 0 0]] (fun ci cj=>∃ bi bj bk,ci=.slice bi bj bk∧SemH P (Builtin.append_ #[T.sl_uint8,T.sl_uint8] T.sl_uint8 #[.slice bf bg bh,.slice bi bj bk]) (fun ck cm=>∃ bl bm bn,ck=.slice bl bm bn∧K (.slice bl bm bn) cm) cj) cg) ce) cb) bz) bw) bt) br) bp) h9) h5) h1
def qck.plan (K:KT):Plan:=.go
theorem qck.ev_eq:qck.p0=fun K  h=>Ev P Tryz.f10 (qck.plan K) K [] h:=by kernel_rfl
theorem qck.obl (K:KT):Obl P Tryz.f10 (qck.plan K) K :=
  obl_true (by kernel_rfl)
theorem qck.ok {K:KT}  {h:Heap} (H:qck.p0 K  h):CallsH P F.qck [] K h :=
  calls_of_Ev (qck.plan K) Tryz.func10 (by kernel_rfl) (qck.obl K) (by rw [qck.ev_eq] at H; exact H)
end Go.Proofs.YtjapglfpjhljpaaGreat.Pr
end
section
set_option linter.unusedVariables false
set_option maxRecDepth 100000
namespace Go.Proofs.YtjapglfpjhljpaaGreat.Pr
open Go Go.Lift Go.Proofs
def qba.L1 (K:KT):Nat→Int→Addr→OA→Nat→Nat→Int→Heap→Prop
  | 0,_,_,_,_,_,_,_=>False
  | fuel+1,t0,t1,l_4,l_4l,l_4c,i_5,h=>((decide (i_5<t0))=true→∃ n1,hcell h (Addr.add t1 3)=some (.int .i64 n1)∧(0:Int)≤(IntKind.u64.wrap i_5)∧bd (al h #[.bool ((bitsI .and .i64 (shrI .i64 n1 (IntKind.u64.wrap i_5)) 1)==1)] T.bool) fun h2=>SemH P (Builtin.append_ #[T.sl_bool,T.sl_bool] T.sl_bool #[.slice l_4 l_4l l_4c,.slice (some (top h)) 1 1]) (fun v3 h4=>∃ a5 p q,v3=.slice a5 p q∧bd ((IntKind.i64.wrap (i_5+1)):Int) fun i_6=>(qba.L1 K fuel) t0 t1 a5 p q i_6 h4) h2)∧((decide (i_5<t0))=false→K (.slice l_4 l_4l l_4c) h)
termination_by structural n=>n
def qba.L1.l:Live:=[(0,.int .i64),(1,.addr),(4,.slice),(5,.int .i64)]
def qba.L1.j (K:KT):Nat→Tup qba.L1.l→Heap→Prop:=fun n x h=>qba.L1 K n x.1 x.2.1 x.2.2.1.1 x.2.2.1.2.1 x.2.2.1.2.2 x.2.2.2.1 h
def qba.p0 (K:KT) (t0:Int) (t1:Addr) (h:Heap):Prop :=
  ∃ fuel7,qba.L1 K fuel7 t0 t1 none 0 0 0 h
def qba.plan (K:KT):Plan:=(.seq .go (.seq .go (.seq (.seq .go (.block (.loop qba.L1.l (qba.L1.j K) (fun n1=>.go)))) .go)))
theorem qba.ev_eq:qba.p0=fun K t0 t1 h=>Ev P Tryz.f35 (qba.plan K) K [.int .i64 t0,.pointer (some t1)] h:=by kernel_rfl
theorem qba.obl (K:KT):Obl P Tryz.f35 (qba.plan K) K :=
  obl_of (R:=(∀ x h,¬ (qba.L1.j K) 0 x h)∧ImpN (qba.L1.j K)∧(∀ (n1:Nat),True)∧True) (by kernel_rfl) ⟨fun _ _ H=>H,impN _,fun _=>trivial,trivial⟩
theorem qba.ok {K:KT}{t0:Int}{t1:Addr}{h:Heap} (H:qba.p0 K t0 t1 h):CallsH P F.qba [.int .i64 t0,.pointer (some t1)] K h :=
  calls_of_Ev (qba.plan K) Tryz.func35 (by kernel_rfl) (qba.obl K) (by rw [qba.ev_eq] at H; exact H)
end Go.Proofs.YtjapglfpjhljpaaGreat.Pr
end
section
set_option linter.unusedVariables false
set_option maxRecDepth 100000
namespace Go.Proofs.YtjapglfpjhljpaaGreat.Pr
open Go Go.Lift Go.Proofs
def qcq.p0 (K:KT) (s_0:List UInt8) (t1:List UInt8) (h:Heap):Prop :=
  CallsH P F.qbr [.string (mkS s_0),.string (mkS t1)] (fun v1 h2=>∃ b3,v1=.bool b3∧K (.bool b3) h2) h
def qcq.plan (K:KT):Plan:=.go
theorem qcq.ev_eq:qcq.p0=fun K s_0 t1 h=>Ev P Tryz.f73 (qcq.plan K) K [.string (mkS s_0),.string (mkS t1)] h:=by kernel_rfl
theorem qcq.obl (K:KT):Obl P Tryz.f73 (qcq.plan K) K :=
  obl_true (by kernel_rfl)
theorem qcq.ok {K:KT}{s_0:List UInt8}{t1:List UInt8}{h:Heap} (H:qcq.p0 K s_0 t1 h):CallsH P F.qcq [.string (mkS s_0),.string (mkS t1)] K h :=
  calls_of_Ev (qcq.plan K) Tryz.func73 (by kernel_rfl) (qcq.obl K) (by rw [qcq.ev_eq] at H; exact H)
end Go.Proofs.YtjapglfpjhljpaaGreat.Pr
end
section
set_option linter.unusedVariables false
set_option maxRecDepth 100000
namespace Go.Proofs.YtjapglfpjhljpaaGreat.Pr
open Go Go.Lift Go.Proofs
def qbr.p0 (K:KT) (s_0:List UInt8) (t1:List UInt8) (h:Heap):Prop :=
  ((decide (((List.length s_0:Nat):Int) ≥ ((List.length t1:Nat):Int)))=true→inB ((List.length t1:Nat):Int) (List.length s_0)∧bd (((List.take (Int.toNat ((List.length t1:Nat):Int)) s_0)==t1):Bool) fun b1=>K (.bool b1) h)∧((decide (((List.length s_0:Nat):Int) ≥ ((List.length t1:Nat):Int)))=false→K (.bool false) h)
def qbr.plan (K:KT):Plan:=.go
theorem qbr.ev_eq:qbr.p0=fun K s_0 t1 h=>Ev P Tryz.f91 (qbr.plan K) K [.string (mkS s_0),.string (mkS t1)] h:=by kernel_rfl
theorem qbr.obl (K:KT):Obl P Tryz.f91 (qbr.plan K) K :=
  obl_true (by kernel_rfl)
theorem qbr.ok {K:KT}{s_0:List UInt8}{t1:List UInt8}{h:Heap} (H:qbr.p0 K s_0 t1 h):CallsH P F.qbr [.string (mkS s_0),.string (mkS t1)] K h :=
  calls_of_Ev (qbr.plan K) Tryz.func91 (by kernel_rfl) (qbr.obl K) (by rw [qbr.ev_eq] at H; exact H)
end Go.Proofs.YtjapglfpjhljpaaGreat.Pr
end
section
set_option linter.unusedVariables false
set_option maxRecDepth 100000
namespace Go.Proofs.YtjapglfpjhljpaaGreat.Pr
open Go Go.Lift Go.Proofs
def qbb.p0 (K:KT) (m_0:Option Nat) (h:Heap):Prop :=
  bd (al h #[.map m_0] T.map_int_p_chans_Asm) fun h1=>K (.func (.func F.maps_Keys_map_int_chans_Asm_int_chans_Asm_1) #[] #[.pointer (some (top h))]) h1
def qbb.plan (K:KT):Plan:=.go
theorem qbb.ev_eq:qbb.p0=fun K m_0 h=>Ev P Tryz.f31 (qbb.plan K) K [.map m_0] h:=by kernel_rfl
theorem qbb.obl (K:KT):Obl P Tryz.f31 (qbb.plan K) K :=
  obl_true (by kernel_rfl)
theorem qbb.ok {K:KT}{m_0:Option Nat}{h:Heap} (H:qbb.p0 K m_0 h):CallsH P F.qbb [.map m_0] K h :=
  calls_of_Ev (qbb.plan K) Tryz.func31 (by kernel_rfl) (qbb.obl K) (by rw [qbb.ev_eq] at H; exact H)
end Go.Proofs.YtjapglfpjhljpaaGreat.Pr
end
section
set_option linter.unusedVariables false
set_option maxRecDepth 100000
namespace Go.Proofs.YtjapglfpjhljpaaGreat.Pr
open Go Go.Lift Go.Proofs
def qdi.p0 (K:KT) (t0:Int) (h:Heap):Prop :=
  bd ((t0 != t0):Bool) fun b1=>K (.bool b1) h
def qdi.plan (K:KT):Plan:=.go
theorem qdi.ev_eq:qdi.p0=fun K t0 h=>Ev P Tryz.f128 (qdi.plan K) K [.int .i64 t0] h:=by kernel_rfl
theorem qdi.obl (K:KT):Obl P Tryz.f128 (qdi.plan K) K :=
  obl_true (by kernel_rfl)
theorem qdi.ok {K:KT}{t0:Int}{h:Heap} (H:qdi.p0 K t0 h):CallsH P F.qdi [.int .i64 t0] K h :=
  calls_of_Ev (qdi.plan K) Tryz.func128 (by kernel_rfl) (qdi.obl K) (by rw [qdi.ev_eq] at H; exact H)
def qdk.p0 (K:KT) (t0:Int) (y_1:Int) (h:Heap):Prop :=
  CallsH P F.qdi [.int .i64 t0] (fun v1 h2=>∃ b3,v1=.bool b3∧(b3=true→CallsH P F.qdi [.int .i64 y_1] (fun v4 h5=>∃ b6,v4=.bool b6∧((!b6)=false→bd ((decide (t0<y_1)):Bool) fun b7=>K (.bool b7) h5)∧((!b6)=true→K (.bool true) h5)) h2)∧(b3=false→bd ((decide (t0<y_1)):Bool) fun b8=>K (.bool b8) h2)) h
def qdk.plan (K:KT):Plan:=.go
theorem qdk.ev_eq:qdk.p0=fun K t0 y_1 h=>Ev P Tryz.f105 (qdk.plan K) K [.int .i64 t0,.int .i64 y_1] h:=by kernel_rfl
theorem qdk.obl (K:KT):Obl P Tryz.f105 (qdk.plan K) K :=
  obl_true (by kernel_rfl)
theorem qdk.ok {K:KT}{t0:Int}{y_1:Int}{h:Heap} (H:qdk.p0 K t0 y_1 h):CallsH P F.qdk [.int .i64 t0,.int .i64 y_1] K h :=
  calls_of_Ev (qdk.plan K) Tryz.func105 (by kernel_rfl) (qdk.obl K) (by rw [qdk.ev_eq] at H; exact H)
end Go.Proofs.YtjapglfpjhljpaaGreat.Pr
end
section
set_option linter.unusedVariables false
set_option maxRecDepth 100000
namespace Go.Proofs.YtjapglfpjhljpaaGreat.Pr
open Go Go.Lift Go.Proofs
def qbk.L1 (K:KT):Nat→OA→Nat→Nat→OA→Nat→Nat→Int→Heap→Prop
  | 0,_,_,_,_,_,_,_,_=>False
  | fuel+1,l_0,l_0l,l_0c,b_3,b_3l,b_3c,i_4,h=>((decide (i_4<((l_0l:Nat):Int)))=true→∃ p1,l_0=some p1∧(0:Int)≤i_4∧i_4<((l_0l:Nat):Int)∧∃ p,rdC h (Addr.add p1 (Int.toNat i_4 * 8)) 0 8=some p∧CallsH P F.qaa [.agg (List.toArray p)] (fun v3 h4=>∃ a5 q r,v3=.slice a5 q r∧SemH P (Builtin.append_ #[T.sl_uint8,T.sl_uint8] T.sl_uint8 #[.slice b_3 b_3l b_3c,.slice a5 q r]) (fun v6 h7=>∃ a8 x z,v6=.slice a8 x z∧bd ((IntKind.i64.wrap (i_4+1)):Int) fun i_9=>(qbk.L1 K fuel) l_0 l_0l l_0c a8 x z i_9 h7) h4) h)∧((decide (i_4<((l_0l:Nat):Int)))=false→K (.slice b_3 b_3l b_3c) h)
termination_by structural n=>n
def qbk.L1.l:Live:=[(0,.slice),(3,.slice),(4,.int .i64)]
def qbk.L1.j (K:KT):Nat→Tup qbk.L1.l→Heap→Prop:=fun n x h=>qbk.L1 K n x.1.1 x.1.2.1 x.1.2.2 x.2.1.1 x.2.1.2.1 x.2.1.2.2 x.2.2.1 h
def qbk.p0 (K:KT) (l_0:OA) (l_0l:Nat) (l_0c:Nat) (h:Heap):Prop :=
  ∃ fuel10,qbk.L1 K fuel10 l_0 l_0l l_0c none 0 0 0 h
def qbk.plan (K:KT):Plan:=(.seq .go (.seq .go (.seq (.seq .go (.block (.loop qbk.L1.l (qbk.L1.j K) (fun n1=>.go)))) .go)))
theorem qbk.ev_eq:qbk.p0=fun K l_0 l_0l l_0c h=>Ev P Tryz.f11 (qbk.plan K) K [.slice l_0 l_0l l_0c] h:=by kernel_rfl
theorem qbk.obl (K:KT):Obl P Tryz.f11 (qbk.plan K) K :=
  obl_of (R:=(∀ x h,¬ (qbk.L1.j K) 0 x h)∧ImpN (qbk.L1.j K)∧(∀ (n1:Nat),True)∧True) (by kernel_rfl) ⟨fun _ _ H=>H,impN _,fun _=>trivial,trivial⟩
theorem qbk.ok {K:KT}{l_0:OA}{l_0l:Nat}{l_0c:Nat}{h:Heap} (H:qbk.p0 K l_0 l_0l l_0c h):CallsH P F.qbk [.slice l_0 l_0l l_0c] K h :=
  calls_of_Ev (qbk.plan K) Tryz.func11 (by kernel_rfl) (qbk.obl K) (by rw [qbk.ev_eq] at H; exact H)
end Go.Proofs.YtjapglfpjhljpaaGreat.Pr
end
