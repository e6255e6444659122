/- brokTakes_holds: all that the theorem needs, in a few texts (bundle.py; made of the texts that NOTES.md names). -/
import Derived.Below
import Derived.KernelRfl
import Derived.Laws.Sem
import Derived.Laws.Strings
import Derived.LoopN
import Derived.Orders
import Derived.Test.YtofpbcakppjgcaaGreatDoorChecked
import Derived.Test.YtofpbcakppjgcaaGreatDoorBBrokTakes2
import Derived.Test.YtofpbcakppjgcaaGreatDoorBBrokTakes3
section
namespace Go.Proofs.YtofpbcakppjgcaaGreatDoor.Pr
open Go Go.Lift Go.Proofs
noncomputable abbrev P:Program:=Tryz.prog
abbrev F.qag:Nat:=4
abbrev F.qee:Nat:=13
abbrev F.qdb:Nat:=14
abbrev F.qbz:Nat:=15
abbrev F.qba:Nat:=16
abbrev F.qde:Nat:=17
abbrev F.qdg:Nat:=22
abbrev F.qby:Nat:=23
abbrev F.qdo:Nat:=26
abbrev F.qdh:Nat:=27
abbrev F.qdk:Nat:=42
abbrev F.brok_Broker_declared:Nat:=43
abbrev F.brok_Broker_exchGone:Nat:=44
abbrev F.qat:Nat:=45
abbrev F.brok_Broker_queueGone:Nat:=46
abbrev F.qbb:Nat:=47
abbrev F.brok_Broker_bind:Nat:=48
abbrev F.brok_Broker_unbind:Nat:=49
abbrev F.qap:Nat:=50
abbrev F.qas:Nat:=51
abbrev F.qbf:Nat:=52
abbrev F.qed:Nat:=53
abbrev F.qah:Nat:=54
abbrev F.qbi:Nat:=55
abbrev F.qcu:Nat:=56
abbrev F.qeg:Nat:=57
abbrev F.qcd:Nat:=58
abbrev F.qda:Nat:=59
abbrev F.strings_Compare:Nat:=60
abbrev F.qce:Nat:=61
abbrev F.qcs:Nat:=62
abbrev F.qbo:Nat:=63
abbrev F.qcl:Nat:=64
abbrev F.qbt:Nat:=65
abbrev F.qbm:Nat:=66
abbrev F.qdr:Nat:=67
abbrev F.qdz:Nat:=68
abbrev F.qbs:Nat:=102
abbrev F.qds:Nat:=103
abbrev F.qei:Nat:=104
abbrev F.qdw:Nat:=105
abbrev F.qeh:Nat:=108
abbrev F.qdu:Nat:=109
abbrev F.qef:Nat:=110
abbrev F.qbu:Nat:=112
abbrev F.qbl:Nat:=113
abbrev F.qbg:Nat:=117
abbrev F.qcm:Nat:=118
abbrev F.qbh:Nat:=119
abbrev F.qdf:Nat:=120
abbrev F.qdq:Nat:=121
abbrev F.qdn:Nat:=122
abbrev F.qdt:Nat:=123
abbrev F.qdx:Nat:=124
abbrev F.qdj:Nat:=125
abbrev F.qec:Nat:=126
abbrev F.qaq:Nat:=127
abbrev F.math_bits_Len:Nat:=128
abbrev F.qct:Nat:=130
abbrev F.qbp:Nat:=131
abbrev F.qcq:Nat:=132
abbrev F.qco:Nat:=133
abbrev F.maps_Keys_map_string_brok_queue_string_brok_queue_1:Nat:=134
abbrev F.qcr:Nat:=135
abbrev F.qca:Nat:=136
abbrev F.maps_Keys_map_api_Bind_int_api_Bind_int_1:Nat:=137
abbrev F.qcx:Nat:=138
abbrev F.qdc:Nat:=139
abbrev F.qbv:Nat:=140
abbrev F.qcv:Nat:=141
abbrev F.qdd:Nat:=179
abbrev F.qcn:Nat:=185
abbrev F.qck:Nat:=186
abbrev F.qdv:Nat:=187
abbrev F.qar:Nat:=188
abbrev F.qcc:Nat:=189
abbrev F.qbq:Nat:=190
abbrev F.qdy:Nat:=191
abbrev F.qbr:Nat:=192
abbrev F.qan:Nat:=193
abbrev F.slices_heapSortCmpFunc_api_Op:Nat:=194
abbrev F.slices_breakPatternsCmpFunc_api_Op:Nat:=195
abbrev F.slices_choosePivotCmpFunc_api_Op:Nat:=196
abbrev F.slices_reverseRangeCmpFunc_api_Op:Nat:=197
abbrev F.slices_partialInsertionSortCmpFunc_api_Op:Nat:=198
abbrev F.slices_partitionEqualCmpFunc_api_Op:Nat:=199
abbrev F.slices_partitionCmpFunc_api_Op:Nat:=200
abbrev F.math_bits_Len64:Nat:=202
abbrev F.qcp:Nat:=204
abbrev F.maps_Keys_map_uint64_api_Entry_uint64_api_Entry_1:Nat:=205
abbrev F.slices_AppendSeq_string_string:Nat:=206
abbrev F.qai:Nat:=207
abbrev F.slices_AppendSeq_api_Bind_api_Bind:Nat:=208
abbrev F.qal:Nat:=209
abbrev F.qcz:Nat:=210
abbrev F.maps_Keys_map_uint64_int_uint64_int_1:Nat:=211
abbrev F.qdp:Nat:=221
abbrev F.qcf:Nat:=225
abbrev F.qcb:Nat:=229
abbrev F.qaj:Nat:=231
abbrev F.qbe:Nat:=232
abbrev F.qbn:Nat:=233
abbrev F.maps_Keys_map_string_api_Exch_string_api_Exch_1:Nat:=234
abbrev F.qcw:Nat:=236
abbrev F.qcy:Nat:=237
abbrev F.slices_AppendSeq_uint64_uint64:Nat:=240
abbrev F.qam:Nat:=241
abbrev F.qay:Nat:=242
abbrev F.qax:Nat:=243
abbrev F.qbd:Nat:=244
abbrev F.qbj:Nat:=245
abbrev F.qac:Nat:=246
abbrev F.qdl:Nat:=247
abbrev F.qaf:Nat:=248
abbrev F.qaa:Nat:=249
abbrev F.qak:Nat:=250
abbrev F.slices_heapSortCmpFunc_api_Bind:Nat:=251
abbrev F.slices_breakPatternsCmpFunc_api_Bind:Nat:=252
abbrev F.slices_choosePivotCmpFunc_api_Bind:Nat:=253
abbrev F.slices_reverseRangeCmpFunc_api_Bind:Nat:=254
abbrev F.slices_partialInsertionSortCmpFunc_api_Bind:Nat:=255
abbrev F.slices_partitionEqualCmpFunc_api_Bind:Nat:=256
abbrev F.slices_partitionCmpFunc_api_Bind:Nat:=257
abbrev F.qeb:Nat:=263
abbrev F.qao:Nat:=264
abbrev F.qaz:Nat:=265
abbrev F.qaw:Nat:=266
abbrev F.qbc:Nat:=267
abbrev F.qbk:Nat:=268
abbrev F.qad:Nat:=269
abbrev F.qdm:Nat:=270
abbrev F.qae:Nat:=271
abbrev F.qab:Nat:=272
abbrev F.qea:Nat:=273
abbrev F.qau:Nat:=275
abbrev F.qbx:Nat:=276
abbrev F.qcg:Nat:=277
abbrev F.qav:Nat:=281
abbrev F.qbw:Nat:=282
abbrev F.qcj:Nat:=283
abbrev F.qdi:Nat:=284
abbrev F.strings_Split:Nat:=285
abbrev F.qci:Nat:=286
abbrev F.qch:Nat:=288
abbrev T.unit:Nat:=0
abbrev T.int:Nat:=3
abbrev T.bool:Nat:=4
abbrev T.uint8:Nat:=5
abbrev T.string:Nat:=9
abbrev T.sl_api_Op:Nat:=26
abbrev T.sl_string:Nat:=27
abbrev T.sl_uint8:Nat:=28
abbrev T.api_Msg:Nat:=30
abbrev T.uint64:Nat:=31
abbrev T.api_Entry:Nat:=33
abbrev T.api_Did:Nat:=35
abbrev T.sl_api_Hold:Nat:=37
abbrev T.api_Deed:Nat:=39
abbrev T.sl_api_Entry:Nat:=42
abbrev T.api_Hold:Nat:=46
abbrev T.sl_api_Queue:Nat:=58
abbrev T.sl_uint64:Nat:=66
abbrev T.sl_bool:Nat:=68
abbrev T.api_Key:Nat:=81
abbrev T.api_Op:Nat:=95
abbrev T.map_string_brok_queue:Nat:=100
abbrev T.map_uint64_brok_message:Nat:=101
abbrev T.brok_Broker:Nat:=103
abbrev T.api_Queue:Nat:=107
abbrev T.brok_message:Nat:=110
abbrev T.brok_queue:Nat:=117
abbrev T.api_Bind:Nat:=126
abbrev T.map_api_Bind_int:Nat:=130
abbrev T.map_string_api_Exch:Nat:=131
abbrev T.rout_Rout:Nat:=133
abbrev T.sl_api_Exch:Nat:=161
abbrev T.api_Exch:Nat:=165
abbrev T.map_uint64_api_Entry:Nat:=200
abbrev T.map_uint64_int:Nat:=201
abbrev T.line_Line:Nat:=203
abbrev T.slices_xorshift:Nat:=271
end Go.Proofs.YtofpbcakppjgcaaGreatDoor.Pr
end
section
namespace Go.Proofs.YtofpbcakppjgcaaGreatDoor.Pr
abbrev blim:Nat:=12
abbrev klim:Nat:=12
end Go.Proofs.YtofpbcakppjgcaaGreatDoor.Pr
end
section
set_option linter.unusedVariables false
set_option maxRecDepth 100000
namespace Go.Proofs.YtofpbcakppjgcaaGreatDoor.Pr
open Go Go.Lift Go.Proofs
def qan.j2 (K:KT) (R1:OA→Nat→Nat→Int→Int→Value→Int→Heap→Prop) (f:OA) (m:Nat) (p:Nat) (q:Int) (w:Int) (y:Value) (z:Int) (h:Heap):Prop :=
  bd ((IntKind.i64.wrap (z+1)):Int) fun aa=>R1 f m p q w y aa h
def qan.j2.l:Live:=[(0,.slice),(1,.int .i64),(2,.int .i64),(3,.raw),(8,.int .i64)]
def qan.j2.j (K:KT) (R1:OA→Nat→Nat→Int→Int→Value→Int→Heap→Prop):Tup qan.j2.l→Heap→Prop:=fun x h=>qan.j2 K R1 x.1.1 x.1.2.1 x.1.2.2 x.2.1 x.2.2.1 x.2.2.2.1 x.2.2.2.2.1 h
def qan.j4 (K:KT) (R1:OA→Nat→Nat→Int→Int→Value→Int→Heap→Prop) (R3:OA→Nat→Nat→Int→Int→Value→Int→Int→Heap→Prop) (m:OA) (p:Nat) (y:Nat) (z:Int) (aa:Int) (ab:Value) (ac:Int) (f:Int) (ad:Bool) (h:Heap):Prop :=
  (ad=true→∃ p3,m=some p3∧(0:Int)≤(IntKind.i64.wrap (f - 1))∧(IntKind.i64.wrap (f - 1))<((p:Nat):Int)∧∃ p4,m=some p4∧(0:Int)≤f∧f<((p:Nat):Int)∧∃ q,rdC h (Addr.add p3 (Int.toNat (IntKind.i64.wrap (f - 1)) * 3)) 0 3=some q∧∃ w,rdC h (Addr.add p4 (Int.toNat f * 3)) 0 3=some w∧∃ p7,m=some p7∧(0:Int)≤f∧f<((p:Nat):Int)∧q.length=3∧∃ h8,stC h (Addr.add p7 (Int.toNat f * 3)) 0 q=some h8∧∃ p9,m=some p9∧(0:Int)≤(IntKind.i64.wrap (f - 1))∧(IntKind.i64.wrap (f - 1))<((p:Nat):Int)∧w.length=3∧∃ ae,stC h8 (Addr.add p9 (Int.toNat (IntKind.i64.wrap (f - 1)) * 3)) 0 w=some ae∧bd ((IntKind.i64.wrap (f - 1)):Int) fun af=>R3 m p y z aa ab ac af ae)∧(ad=false→qan.j2 K R1 m p y z aa ab ac h)
def qan.j4.l:Live:=[(0,.slice),(1,.int .i64),(2,.int .i64),(3,.raw),(8,.int .i64),(9,.int .i64),(34,.bool)]
def qan.j4.j (K:KT) (R1:OA→Nat→Nat→Int→Int→Value→Int→Heap→Prop) (R3:OA→Nat→Nat→Int→Int→Value→Int→Int→Heap→Prop):Tup qan.j4.l→Heap→Prop:=fun x h=>qan.j4 K R1 R3 x.1.1 x.1.2.1 x.1.2.2 x.2.1 x.2.2.1 x.2.2.2.1 x.2.2.2.2.1 x.2.2.2.2.2.1 x.2.2.2.2.2.2.1 h
def qan.L3 (K:KT) (R1:OA→Nat→Nat→Int→Int→Value→Int→Heap→Prop):Nat→OA→Nat→Nat→Int→Int→Value→Int→Int→Heap→Prop
  | 0,_,_,_,_,_,_,_,_,_=>False
  | fuel+1,m,p,y,q,z,w,aa,f,h=>((decide (f > q))=true→∃ ab,m=some ab∧(0:Int)≤f∧f<((p:Nat):Int)∧∃ ac,m=some ac∧(0:Int)≤(IntKind.i64.wrap (f - 1))∧(IntKind.i64.wrap (f - 1))<((p:Nat):Int)∧∃ ad,rdC h (Addr.add ab (Int.toNat f * 3)) 0 3=some ad∧∃ ae,rdC h (Addr.add ac (Int.toNat (IntKind.i64.wrap (f - 1)) * 3)) 0 3=some ae∧CallV P w [.agg (List.toArray ad),.agg (List.toArray ae)] (fun ag ah=>∃ af,ag=.int .i64 af∧qan.j4 K R1 (qan.L3 K R1 fuel) m p y q z w aa f (decide (af<0)) ah) h)∧((decide (f > q))=false→qan.j4 K R1 (qan.L3 K R1 fuel) m p y q z w aa f false h)
termination_by structural n=>n
def qan.L3.l:Live:=[(0,.slice),(1,.int .i64),(2,.int .i64),(3,.raw),(8,.int .i64),(9,.int .i64)]
def qan.L3.j (K:KT) (R1:OA→Nat→Nat→Int→Int→Value→Int→Heap→Prop):Nat→Tup qan.L3.l→Heap→Prop:=fun n x h=>qan.L3 K R1 n x.1.1 x.1.2.1 x.1.2.2 x.2.1 x.2.2.1 x.2.2.2.1 x.2.2.2.2.1 x.2.2.2.2.2.1 h
def qan.L1 (K:KT):Nat→OA→Nat→Nat→Int→Int→Value→Int→Heap→Prop
  | 0,_,_,_,_,_,_,_,_=>False
  | fuel+1,p,q,w,y,m,z,f,h=>((decide (f<m))=true→∃ fuel19,qan.L3 K (qan.L1 K fuel) fuel19 p q w y m z f f h)∧((decide (f<m))=false→K (.tuple #[]) h)
termination_by structural n=>n
def qan.L1.l:Live:=[(0,.slice),(1,.int .i64),(2,.int .i64),(3,.raw),(8,.int .i64)]
def qan.L1.j (K:KT):Nat→Tup qan.L1.l→Heap→Prop:=fun n x h=>qan.L1 K n x.1.1 x.1.2.1 x.1.2.2 x.2.1 x.2.2.1 x.2.2.2.1 x.2.2.2.2.1 h
def qan.p0 (K:KT) (m:OA) (p:Nat) (q:Nat) (f:Int) (w:Int) (y:Value) (h:Heap):Prop :=
  bd ((IntKind.i64.wrap (f+1)):Int) fun z=>∃ fuel20,qan.L1 K fuel20 m p q f w y z h
def qan.plan (K:KT):Plan:=(.seq .go (.block (.loop qan.L1.l (qan.L1.j K) (fun n1=>(.seq .go (.cut qan.j2.l (qan.j2.j K (qan.L1 K n1)) (.block (.seq .go (.block (.loop qan.L3.l (qan.L3.j K (qan.L1 K n1)) (fun n3=>(.seq (.cut qan.j4.l (qan.j4.j K (qan.L1 K n1) (qan.L3 K (qan.L1 K n1) n3)) (.orders (.op 0 (.op 1 (.op 2 (.op 3 (.op 4 (.op 5 (.op 6 (.op 7 (.op 9 (.op 10 (.op 11 (.op 12 (.op 8 (.op 13 (.op 14 (.op 15 (.op 16 .nil)))))))))))))))))) .go) (.seq (.block (.orders (.op 0 (.op 1 (.op 2 (.op 3 (.op 4 (.op 5 (.op 6 (.op 7 (.op 8 (.op 10 (.op 11 (.op 12 (.op 9 (.op 13 (.op 14 (.op 15 (.op 16 (.op 17 .nil)))))))))))))))))))) .go))))))) .go))))))
theorem qan.ev_eq:qan.p0=fun K f m p q w y h=>Ev P Tryz.f193 (qan.plan K) K [.slice f m p,.int .i64 q,.int .i64 w,y] h:=by kernel_rfl
theorem qan.obl (K:KT):Obl P Tryz.f193 (qan.plan K) K :=
  obl_of (R:=(∀ x h,¬ (qan.L1.j K) 0 x h)∧ImpN (qan.L1.j K)∧(∀ (n1:Nat),(∀ x h,¬ (qan.L3.j K (qan.L1 K n1)) 0 x h)∧ImpN (qan.L3.j K (qan.L1 K n1))∧(∀ (n3:Nat),DrawOK P Tryz.f193.ntmps (opsAt 4 (bodyOf Tryz.f193)) (.op 0 (.op 1 (.op 2 (.op 3 (.op 4 (.op 5 (.op 6 (.op 7 (.op 9 (.op 10 (.op 11 (.op 12 (.op 8 (.op 13 (.op 14 (.op 15 (.op 16 .nil)))))))))))))))))∧Imp (qan.j4.j K (qan.L1 K n1) (qan.L3 K (qan.L1 K n1) n3))∧DrawOK P Tryz.f193.ntmps (opsAt 6 (bodyOf Tryz.f193)) (.op 0 (.op 1 (.op 2 (.op 3 (.op 4 (.op 5 (.op 6 (.op 7 (.op 8 (.op 10 (.op 11 (.op 12 (.op 9 (.op 13 (.op 14 (.op 15 (.op 16 (.op 17 .nil))))))))))))))))))∧True)∧Imp (qan.j2.j K (qan.L1 K n1))∧True)∧True) (by kernel_rfl) ⟨fun _ _ H=>H,impN _,fun _=>⟨fun _ _ H=>H,impN _,fun _=>⟨draw_ok (by kernel_rfl),⟨imp _,⟨draw_ok (by kernel_rfl),trivial⟩⟩⟩,⟨imp _,trivial⟩⟩,trivial⟩
theorem qan.ok {K:KT}{f:OA}{m:Nat}{p:Nat}{q:Int}{w:Int}{y:Value}{h:Heap} (H:qan.p0 K f m p q w y h):CallsH P F.qan [.slice f m p,.int .i64 q,.int .i64 w,y] K h :=
  calls_of_Ev (qan.plan K) Tryz.func193 (by kernel_rfl) (qan.obl K) (by rw [qan.ev_eq] at H; exact H)
def qaq.j5 (K:KT) (R1:OA→Nat→Nat→Int→Int→Int→Value→Bool→Bool→Heap→Prop) (f:OA) (m:Nat) (p:Nat) (z:Int) (y:Int) (aa:Int) (q:Value) (aj:Bool) (ak:Bool) (am:Int) (ae:Int) (af:Bool) (h:Heap):Prop :=
  (af=true→CallsH P F.slices_partitionEqualCmpFunc_api_Op [.slice f m p,.int .i64 z,.int .i64 y,.int .i64 ae,q] (fun an ao=>∃ ag,an=.int .i64 ag∧R1 f m p ag y aa q aj ak ao) h)∧(af=false→CallsH P F.slices_partitionCmpFunc_api_Op [.slice f m p,.int .i64 z,.int .i64 y,.int .i64 ae,q] (fun aq ah=>∃ w ab,aq=.tuple #[.int .i64 w,.bool ab]∧bd ((IntKind.i64.wrap (w - z)):Int) fun ac=>bd ((IntKind.i64.wrap (y - w)):Int) fun ad=>(8:Int)≠0∧bd ((IntKind.i64.wrap (Int.tdiv am 8)):Int) fun ai=>((decide (ac<ad))=true→bd ((decide (ac ≥ ai)):Bool) fun ar=>CallsH P F.qaq [.slice f m p,.int .i64 z,.int .i64 w,.int .i64 aa,q] (fun au av=>au=.tuple #[]∧bd ((IntKind.i64.wrap (w+1)):Int) fun aw=>R1 f m p aw y aa q ar ab av) ah)∧((decide (ac<ad))=false→bd ((decide (ad ≥ ai)):Bool) fun ax=>CallsH P F.qaq [.slice f m p,.int .i64 (IntKind.i64.wrap (w+1)),.int .i64 y,.int .i64 aa,q] (fun ay az=>ay=.tuple #[]∧R1 f m p z w aa q ax ab az) ah)) h)
def qaq.j5.l:Live:=[(0,.slice),(1,.int .i64),(2,.int .i64),(3,.int .i64),(4,.raw),(10,.bool),(11,.bool),(12,.int .i64),(13,.int .i64),(97,.bool)]
def qaq.j5.j (K:KT) (R1:OA→Nat→Nat→Int→Int→Int→Value→Bool→Bool→Heap→Prop):Tup qaq.j5.l→Heap→Prop:=fun x h=>qaq.j5 K R1 x.1.1 x.1.2.1 x.1.2.2 x.2.1 x.2.2.1 x.2.2.2.1 x.2.2.2.2.1 x.2.2.2.2.2.1 x.2.2.2.2.2.2.1 x.2.2.2.2.2.2.2.1 x.2.2.2.2.2.2.2.2.1 x.2.2.2.2.2.2.2.2.2.1 h
def qaq.j4 (K:KT) (R1:OA→Nat→Nat→Int→Int→Int→Value→Bool→Bool→Heap→Prop) (p:OA) (q:Nat) (y:Nat) (f:Int) (z:Int) (aa:Int) (w:Value) (ab:Bool) (ac:Bool) (ad:Int) (m:Int) (h:Heap):Prop :=
  ((decide (f > 0))=true→∃ p27,p=some p27∧(0:Int)≤(IntKind.i64.wrap (f - 1))∧(IntKind.i64.wrap (f - 1))<((q:Nat):Int)∧∃ ae,p=some ae∧(0:Int)≤m∧m<((q:Nat):Int)∧∃ af,rdC h (Addr.add p27 (Int.toNat (IntKind.i64.wrap (f - 1)) * 3)) 0 3=some af∧∃ ag,rdC h (Addr.add ae (Int.toNat m * 3)) 0 3=some ag∧CallV P w [.agg (List.toArray af),.agg (List.toArray ag)] (fun ai aj=>∃ ah,ai=.int .i64 ah∧qaq.j5 K R1 p q y f z aa w ab ac ad m (!(decide (ah<0))) aj) h)∧((decide (f > 0))=false→qaq.j5 K R1 p q y f z aa w ab ac ad m false h)
def qaq.j4.l:Live:=[(0,.slice),(1,.int .i64),(2,.int .i64),(3,.int .i64),(4,.raw),(10,.bool),(11,.bool),(12,.int .i64),(13,.int .i64)]
def qaq.j4.j (K:KT) (R1:OA→Nat→Nat→Int→Int→Int→Value→Bool→Bool→Heap→Prop):Tup qaq.j4.l→Heap→Prop:=fun x h=>qaq.j4 K R1 x.1.1 x.1.2.1 x.1.2.2 x.2.1 x.2.2.1 x.2.2.2.1 x.2.2.2.2.1 x.2.2.2.2.2.1 x.2.2.2.2.2.2.1 x.2.2.2.2.2.2.2.1 x.2.2.2.2.2.2.2.2.1 h
def qaq.j6 (K:KT) (R1:OA→Nat→Nat→Int→Int→Int→Value→Bool→Bool→Heap→Prop) (f:OA) (m:Nat) (p:Nat) (q:Int) (w:Int) (aa:Int) (y:Value) (ab:Bool) (ac:Bool) (ad:Int) (ae:Int) (af:Bool) (h:Heap):Prop :=
  (af=true→CallsH P F.slices_partialInsertionSortCmpFunc_api_Op [.slice f m p,.int .i64 q,.int .i64 w,y] (fun ah ag=>∃ z,ah=.bool z∧(z=true→K (.tuple #[]) ag)∧(z=false→qaq.j4 K R1 f m p q w aa y ab ac ad ae ag)) h)∧(af=false→qaq.j4 K R1 f m p q w aa y ab ac ad ae h)
def qaq.j6.l:Live:=[(0,.slice),(1,.int .i64),(2,.int .i64),(3,.int .i64),(4,.raw),(10,.bool),(11,.bool),(12,.int .i64),(13,.int .i64),(75,.bool)]
def qaq.j6.j (K:KT) (R1:OA→Nat→Nat→Int→Int→Int→Value→Bool→Bool→Heap→Prop):Tup qaq.j6.l→Heap→Prop:=fun x h=>qaq.j6 K R1 x.1.1 x.1.2.1 x.1.2.2 x.2.1 x.2.2.1 x.2.2.2.1 x.2.2.2.2.1 x.2.2.2.2.2.1 x.2.2.2.2.2.2.1 x.2.2.2.2.2.2.2.1 x.2.2.2.2.2.2.2.2.1 x.2.2.2.2.2.2.2.2.2.1 h
def qaq.j3 (K:KT) (R1:OA→Nat→Nat→Int→Int→Int→Value→Bool→Bool→Heap→Prop) (p:OA) (q:Nat) (w:Nat) (y:Int) (z:Int) (aa:Int) (ab:Value) (f:Bool) (m:Bool) (ac:Int) (ad:Int) (ae:Int) (h:Heap):Prop :=
  (f=true→(m=true→qaq.j6 K R1 p q w y z aa ab f m ac ad (ae==1) h)∧(m=false→qaq.j6 K R1 p q w y z aa ab f m ac ad false h))∧(f=false→qaq.j6 K R1 p q w y z aa ab f m ac ad false h)
def qaq.j3.l:Live:=[(0,.slice),(1,.int .i64),(2,.int .i64),(3,.int .i64),(4,.raw),(10,.bool),(11,.bool),(12,.int .i64),(13,.int .i64),(14,.int .i64)]
def qaq.j3.j (K:KT) (R1:OA→Nat→Nat→Int→Int→Int→Value→Bool→Bool→Heap→Prop):Tup qaq.j3.l→Heap→Prop:=fun x h=>qaq.j3 K R1 x.1.1 x.1.2.1 x.1.2.2 x.2.1 x.2.2.1 x.2.2.2.1 x.2.2.2.2.1 x.2.2.2.2.2.1 x.2.2.2.2.2.2.1 x.2.2.2.2.2.2.2.1 x.2.2.2.2.2.2.2.2.1 x.2.2.2.2.2.2.2.2.2.1 h
def qaq.j2 (K:KT) (R1:OA→Nat→Nat→Int→Int→Int→Value→Bool→Bool→Heap→Prop) (p:OA) (q:Nat) (w:Nat) (f:Int) (m:Int) (z:Int) (y:Value) (aa:Bool) (ab:Bool) (ac:Int) (h:Heap):Prop :=
  CallsH P F.slices_choosePivotCmpFunc_api_Op [.slice p q w,.int .i64 f,.int .i64 m,y] (fun v6 h7=>∃ n8 n9,v6=.tuple #[.int .i64 n8,.int .i64 n9]∧((n9==2)=true→CallsH P F.slices_reverseRangeCmpFunc_api_Op [.slice p q w,.int .i64 f,.int .i64 m,y] (fun ad ae=>ad=.tuple #[]∧bd ((IntKind.i64.wrap ((IntKind.i64.wrap (m - 1)) - (IntKind.i64.wrap (n8 - f)))):Int) fun af=>qaq.j3 K R1 p q w f m z y aa ab ac af 1 ae) h7)∧((n9==2)=false→qaq.j3 K R1 p q w f m z y aa ab ac n8 n9 h7)) h
def qaq.j2.l:Live:=[(0,.slice),(1,.int .i64),(2,.int .i64),(3,.int .i64),(4,.raw),(10,.bool),(11,.bool),(12,.int .i64)]
def qaq.j2.j (K:KT) (R1:OA→Nat→Nat→Int→Int→Int→Value→Bool→Bool→Heap→Prop):Tup qaq.j2.l→Heap→Prop:=fun x h=>qaq.j2 K R1 x.1.1 x.1.2.1 x.1.2.2 x.2.1 x.2.2.1 x.2.2.2.1 x.2.2.2.2.1 x.2.2.2.2.2.1 x.2.2.2.2.2.2.1 x.2.2.2.2.2.2.2.1 h
def qaq.L1 (K:KT):Nat→OA→Nat→Nat→Int→Int→Int→Value→Bool→Bool→Heap→Prop
  | 0,_,_,_,_,_,_,_,_,_,_=>False
  | fuel+1,p,q,w,f,m,z,y,aa,ac,h=>bd ((IntKind.i64.wrap (m - f)):Int) fun ab=>((decide (ab≤12))=true→CallsH P F.qan [.slice p q w,.int .i64 f,.int .i64 m,y] (fun v2 h3=>v2=.tuple #[]∧K (.tuple #[]) h3) h)∧((decide (ab≤12))=false→((z==0)=true→CallsH P F.slices_heapSortCmpFunc_api_Op [.slice p q w,.int .i64 f,.int .i64 m,y] (fun v4 h5=>v4=.tuple #[]∧K (.tuple #[]) h5) h)∧((z==0)=false→((!aa)=true→CallsH P F.slices_breakPatternsCmpFunc_api_Op [.slice p q w,.int .i64 f,.int .i64 m,y] (fun ad ae=>ad=.tuple #[]∧bd ((IntKind.i64.wrap (z - 1)):Int) fun af=>qaq.j2 K (qaq.L1 K fuel) p q w f m af y aa ac ab ae) h)∧((!aa)=false→qaq.j2 K (qaq.L1 K fuel) p q w f m z y aa ac ab h)))
termination_by structural n=>n
def qaq.L1.l:Live:=[(0,.slice),(1,.int .i64),(2,.int .i64),(3,.int .i64),(4,.raw),(10,.bool),(11,.bool)]
def qaq.L1.j (K:KT):Nat→Tup qaq.L1.l→Heap→Prop:=fun n x h=>qaq.L1 K n x.1.1 x.1.2.1 x.1.2.2 x.2.1 x.2.2.1 x.2.2.2.1 x.2.2.2.2.1 x.2.2.2.2.2.1 x.2.2.2.2.2.2.1 h
def qaq.p0 (K:KT) (f:OA) (m:Nat) (p:Nat) (q:Int) (w:Int) (y:Int) (z:Value) (h:Heap):Prop :=
  ∃ fuel43,qaq.L1 K fuel43 f m p q w y z true true h
def qaq.plan (K:KT):Plan:=(.seq .go (.seq .go (.block (.loop qaq.L1.l (qaq.L1.j K) (fun n1=>(.block (.seq .go (.seq .go (.seq .go (.cut qaq.j2.l (qaq.j2.j K (qaq.L1 K n1)) .go (.seq .go (.cut qaq.j3.l (qaq.j3.j K (qaq.L1 K n1)) .go (.cut qaq.j4.l (qaq.j4.j K (qaq.L1 K n1)) (.cut qaq.j6.l (qaq.j6.j K (qaq.L1 K n1)) .go .go) (.seq (.cut qaq.j5.l (qaq.j5.j K (qaq.L1 K n1)) (.orders (.op 0 (.op 1 (.op 2 (.op 3 (.op 4 (.op 5 (.op 6 (.op 7 (.op 9 (.op 10 (.op 11 (.op 8 (.op 12 (.op 13 (.op 14 (.op 15 (.op 16 .nil)))))))))))))))))) .go) .go))))))))))))))
theorem qaq.ev_eq:qaq.p0=fun K f m p q w y z h=>Ev P Tryz.f127 (qaq.plan K) K [.slice f m p,.int .i64 q,.int .i64 w,.int .i64 y,z] h:=by kernel_rfl
theorem qaq.obl (K:KT):Obl P Tryz.f127 (qaq.plan K) K :=
  obl_of (R:=(∀ x h,¬ (qaq.L1.j K) 0 x h)∧ImpN (qaq.L1.j K)∧(∀ (n1:Nat),Imp (qaq.j2.j K (qaq.L1 K n1))∧Imp (qaq.j3.j K (qaq.L1 K n1))∧Imp (qaq.j6.j K (qaq.L1 K n1))∧Imp (qaq.j4.j K (qaq.L1 K n1))∧DrawOK P Tryz.f127.ntmps (opsAt 17 (bodyOf Tryz.f127)) (.op 0 (.op 1 (.op 2 (.op 3 (.op 4 (.op 5 (.op 6 (.op 7 (.op 9 (.op 10 (.op 11 (.op 8 (.op 12 (.op 13 (.op 14 (.op 15 (.op 16 .nil)))))))))))))))))∧Imp (qaq.j5.j K (qaq.L1 K n1))∧True)∧True) (by kernel_rfl) ⟨fun _ _ H=>H,impN _,fun _=>⟨imp _,⟨imp _,⟨imp _,⟨imp _,⟨draw_ok (by kernel_rfl),⟨imp _,trivial⟩⟩⟩⟩⟩⟩,trivial⟩
theorem qaq.ok {K:KT}{f:OA}{m:Nat}{p:Nat}{q:Int}{w:Int}{y:Int}{z:Value}{h:Heap} (H:qaq.p0 K f m p q w y z h):CallsH P F.qaq [.slice f m p,.int .i64 q,.int .i64 w,.int .i64 y,z] K h :=
  calls_of_Ev (qaq.plan K) Tryz.func127 (by kernel_rfl) (qaq.obl K) (by rw [qaq.ev_eq] at H; exact H)
def qcd.p0 (K:KT) (t0:OA) (f:Nat) (p:Nat) (q:Value) (h:Heap):Prop :=
  bd (((f:Nat):Int):Int) fun m=>CallsH P F.math_bits_Len [.int .u64 (IntKind.u64.wrap m)] (fun v2 h3=>∃ n4,v2=.int .i64 n4∧CallsH P F.qaq [.slice t0 f p,.int .i64 0,.int .i64 m,.int .i64 n4,q] (fun v5 h6=>v5=.tuple #[]∧K (.tuple #[]) h6) h3) h
def qcd.plan (K:KT):Plan:=.go
theorem qcd.ev_eq:qcd.p0=fun K t0 f m p h=>Ev P Tryz.f58 (qcd.plan K) K [.slice t0 f m,p] h:=by kernel_rfl
theorem qcd.obl (K:KT):Obl P Tryz.f58 (qcd.plan K) K :=
  obl_true (by kernel_rfl)
theorem qcd.ok {K:KT}{t0:OA}{f:Nat}{m:Nat}{p:Value}{h:Heap} (H:qcd.p0 K t0 f m p h):CallsH P F.qcd [.slice t0 f m,p] K h :=
  calls_of_Ev (qcd.plan K) Tryz.func58 (by kernel_rfl) (qcd.obl K) (by rw [qcd.ev_eq] at H; exact H)
end Go.Proofs.YtofpbcakppjgcaaGreatDoor.Pr
end
section
set_option linter.unusedVariables false
set_option maxRecDepth 100000
namespace Go.Proofs.YtofpbcakppjgcaaGreatDoor.Pr
open Go Go.Lift Go.Proofs
def qar.j2 (K:KT) (R1:OA→Nat→Nat→Int→Heap→Prop) (p:OA) (q:Nat) (m:Nat) (f:Int) (h:Heap):Prop :=
  inB f q∧SemH P (Builtin.clear_ #[T.sl_string] T.unit #[.slice (slA p (Int.toNat f) m 1) (q - Int.toNat f) (m - Int.toNat f)]) (fun v6 h7=>inB f m∧bd ((slA p 0 m 1):OA) fun a8=>bd ((Int.toNat f):Nat) fun w=>bd (m:Nat) fun y=>K (.slice a8 w y) h7) h
def qar.j2.l:Live:=[(0,.slice),(3,.int .i64)]
def qar.j2.j (K:KT) (R1:OA→Nat→Nat→Int→Heap→Prop):Tup qar.j2.l→Heap→Prop:=fun x h=>qar.j2 K R1 x.1.1 x.1.2.1 x.1.2.2 x.2.1 h
def qar.j4 (K:KT) (R1:OA→Nat→Nat→Int→Heap→Prop) (R3:OA→Nat→Nat→Int→OA→Nat→Nat→Int→Heap→Prop) (f:OA) (m:Nat) (p:Nat) (q:Int) (w:OA) (y:Nat) (z:Nat) (aa:Int) (h:Heap):Prop :=
  bd ((IntKind.i64.wrap (aa+1)):Int) fun ab=>R3 f m p q w y z ab h
def qar.j4.l:Live:=[(0,.slice),(3,.int .i64),(4,.slice),(5,.int .i64)]
def qar.j4.j (K:KT) (R1:OA→Nat→Nat→Int→Heap→Prop) (R3:OA→Nat→Nat→Int→OA→Nat→Nat→Int→Heap→Prop):Tup qar.j4.l→Heap→Prop:=fun x h=>qar.j4 K R1 R3 x.1.1 x.1.2.1 x.1.2.2 x.2.1 x.2.2.1.1 x.2.2.1.2.1 x.2.2.1.2.2 x.2.2.2.1 h
def qar.L3 (K:KT) (R1:OA→Nat→Nat→Int→Heap→Prop):Nat→OA→Nat→Nat→Int→OA→Nat→Nat→Int→Heap→Prop
  | 0,_,_,_,_,_,_,_,_,_=>False
  | fuel+1,w,y,z,p,q,m,ab,f,h=>((decide (f<((m:Nat):Int)))=true→∃ ac,q=some ac∧(0:Int)≤f∧f<((m:Nat):Int)∧∃ ad,q=some ad∧(0:Int)≤(IntKind.i64.wrap (f - 1))∧(IntKind.i64.wrap (f - 1))<((m:Nat):Int)∧∃ aa,hcell h (Addr.add ac (Int.toNat f * 1))=some (.string (mkS aa))∧∃ s13,hcell h (Addr.add ad (Int.toNat (IntKind.i64.wrap (f - 1)) * 1))=some (.string (mkS s13))∧((!(aa==s13))=true→∃ ae,q=some ae∧(0:Int)≤f∧f<((m:Nat):Int)∧∃ s15,hcell h (Addr.add ae (Int.toNat f * 1))=some (.string (mkS s15))∧∃ af,w=some af∧(0:Int)≤p∧p<((y:Nat):Int)∧∃ ag,stC h (Addr.add af (Int.toNat p * 1)) 0 [.string (mkS s15)]=some ag∧bd ((IntKind.i64.wrap (p+1)):Int) fun ah=>qar.j4 K R1 (qar.L3 K R1 fuel) w y z ah q m ab f ag)∧((!(aa==s13))=false→qar.j4 K R1 (qar.L3 K R1 fuel) w y z p q m ab f h))∧((decide (f<((m:Nat):Int)))=false→qar.j2 K R1 w y z p h)
termination_by structural n=>n
def qar.L3.l:Live:=[(0,.slice),(3,.int .i64),(4,.slice),(5,.int .i64)]
def qar.L3.j (K:KT) (R1:OA→Nat→Nat→Int→Heap→Prop):Nat→Tup qar.L3.l→Heap→Prop:=fun n x h=>qar.L3 K R1 n x.1.1 x.1.2.1 x.1.2.2 x.2.1 x.2.2.1.1 x.2.2.1.2.1 x.2.2.1.2.2 x.2.2.2.1 h
def qar.L1 (K:KT):Nat→OA→Nat→Nat→Int→Heap→Prop
  | 0,_,_,_,_,_=>False
  | fuel+1,p,m,q,f,h=>((decide (f<((m:Nat):Int)))=true→∃ p1,p=some p1∧(0:Int)≤f∧f<((m:Nat):Int)∧∃ p2,p=some p2∧(0:Int)≤(IntKind.i64.wrap (f - 1))∧(IntKind.i64.wrap (f - 1))<((m:Nat):Int)∧∃ s3,hcell h (Addr.add p1 (Int.toNat f * 1))=some (.string (mkS s3))∧∃ s4,hcell h (Addr.add p2 (Int.toNat (IntKind.i64.wrap (f - 1)) * 1))=some (.string (mkS s4))∧((s3==s4)=true→inB f m∧bd ((slA p (Int.toNat f) q 1):OA) fun w=>bd ((m - Int.toNat f):Nat) fun y=>bd ((q - Int.toNat f):Nat) fun z=>∃ fuel19,qar.L3 K (qar.L1 K fuel) fuel19 p m q f w y z 1 h)∧((s3==s4)=false→bd ((IntKind.i64.wrap (f+1)):Int) fun aa=>(qar.L1 K fuel) p m q aa h))∧((decide (f<((m:Nat):Int)))=false→K (.slice p m q) h)
termination_by structural n=>n
def qar.L1.l:Live:=[(0,.slice),(3,.int .i64)]
def qar.L1.j (K:KT):Nat→Tup qar.L1.l→Heap→Prop:=fun n x h=>qar.L1 K n x.1.1 x.1.2.1 x.1.2.2 x.2.1 h
def qar.p0 (K:KT) (m:OA) (f:Nat) (p:Nat) (h:Heap):Prop :=
  ((decide (((f:Nat):Int)<2))=true→K (.slice m f p) h)∧((decide (((f:Nat):Int)<2))=false→∃ fuel21,qar.L1 K fuel21 m f p 1 h)
def qar.plan (K:KT):Plan:=(.seq .go (.seq .go (.seq (.seq .go (.block (.loop qar.L1.l (qar.L1.j K) (fun n1=>(.seq .go (.seq (.block (.seq (.orders (.op 0 (.op 1 (.op 2 (.op 4 (.op 5 (.op 6 (.op 7 (.op 3 (.op 8 (.op 9 .nil))))))))))) (.cond (.seq .go (.cut qar.j2.l (qar.j2.j K (qar.L1 K n1)) (.seq .go (.block (.loop qar.L3.l (qar.L3.j K (qar.L1 K n1)) (fun n3=>(.seq .go (.cut qar.j4.l (qar.j4.j K (qar.L1 K n1) (qar.L3 K (qar.L1 K n1) n3)) (.block (.seq (.orders (.op 0 (.op 1 (.op 2 (.op 4 (.op 5 (.op 6 (.op 7 (.op 3 (.op 8 (.op 9 .nil))))))))))) .go)) .go)))))) .go)) .go))) .go)))))) .go)))
theorem qar.ev_eq:qar.p0=fun K f m p h=>Ev P Tryz.f188 (qar.plan K) K [.slice f m p] h:=by kernel_rfl
theorem qar.obl (K:KT):Obl P Tryz.f188 (qar.plan K) K :=
  obl_of (R:=(∀ x h,¬ (qar.L1.j K) 0 x h)∧ImpN (qar.L1.j K)∧(∀ (n1:Nat),DrawOK P Tryz.f188.ntmps (opsAt 6 (bodyOf Tryz.f188)) (.op 0 (.op 1 (.op 2 (.op 4 (.op 5 (.op 6 (.op 7 (.op 3 (.op 8 (.op 9 .nil))))))))))∧(∀ x h,¬ (qar.L3.j K (qar.L1 K n1)) 0 x h)∧ImpN (qar.L3.j K (qar.L1 K n1))∧(∀ (n3:Nat),DrawOK P Tryz.f188.ntmps (opsAt 11 (bodyOf Tryz.f188)) (.op 0 (.op 1 (.op 2 (.op 4 (.op 5 (.op 6 (.op 7 (.op 3 (.op 8 (.op 9 .nil))))))))))∧Imp (qar.j4.j K (qar.L1 K n1) (qar.L3 K (qar.L1 K n1) n3))∧True)∧Imp (qar.j2.j K (qar.L1 K n1))∧True)∧True) (by kernel_rfl) ⟨fun _ _ H=>H,impN _,fun _=>⟨draw_ok (by kernel_rfl),⟨fun _ _ H=>H,impN _,fun _=>⟨draw_ok (by kernel_rfl),⟨imp _,trivial⟩⟩,⟨imp _,trivial⟩⟩⟩,trivial⟩
theorem qar.ok {K:KT}{f:OA}{m:Nat}{p:Nat}{h:Heap} (H:qar.p0 K f m p h):CallsH P F.qar [.slice f m p] K h :=
  calls_of_Ev (qar.plan K) Tryz.func188 (by kernel_rfl) (qar.obl K) (by rw [qar.ev_eq] at H; exact H)
def qcq.p0 (K:KT) (p:Value) (h:Heap):Prop :=
  CallsH P F.slices_AppendSeq_string_string [.slice none 0 0,p] (fun v1 h2=>∃ a3 f m,v1=.slice a3 f m∧K (.slice a3 f m) h2) h
def qcq.plan (K:KT):Plan:=.go
theorem qcq.ev_eq:qcq.p0=fun K f h=>Ev P Tryz.f132 (qcq.plan K) K [f] h:=by kernel_rfl
theorem qcq.obl (K:KT):Obl P Tryz.f132 (qcq.plan K) K :=
  obl_true (by kernel_rfl)
theorem qcq.ok {K:KT}{f:Value}{h:Heap} (H:qcq.p0 K f h):CallsH P F.qcq [f] K h :=
  calls_of_Ev (qcq.plan K) Tryz.func132 (by kernel_rfl) (qcq.obl K) (by rw [qcq.ev_eq] at H; exact H)
def qam.j2 (K:KT) (R1:OA→Nat→Nat→Int→Int→Int→Heap→Prop) (f:OA) (m:Nat) (p:Nat) (q:Int) (w:Int) (y:Int) (h:Heap):Prop :=
  bd ((IntKind.i64.wrap (y+1)):Int) fun z=>R1 f m p q w z h
def qam.j2.l:Live:=[(0,.slice),(1,.int .i64),(2,.int .i64),(6,.int .i64)]
def qam.j2.j (K:KT) (R1:OA→Nat→Nat→Int→Int→Int→Heap→Prop):Tup qam.j2.l→Heap→Prop:=fun x h=>qam.j2 K R1 x.1.1 x.1.2.1 x.1.2.2 x.2.1 x.2.2.1 x.2.2.2.1 h
def qam.j4 (K:KT) (R1:OA→Nat→Nat→Int→Int→Int→Heap→Prop) (R3:OA→Nat→Nat→Int→Int→Int→Int→Heap→Prop) (m:OA) (p:Nat) (q:Nat) (w:Int) (y:Int) (z:Int) (f:Int) (aa:Bool) (h:Heap):Prop :=
  (aa=true→∃ p3,m=some p3∧(0:Int)≤(IntKind.i64.wrap (f - 1))∧(IntKind.i64.wrap (f - 1))<((p:Nat):Int)∧∃ p4,m=some p4∧(0:Int)≤f∧f<((p:Nat):Int)∧∃ s5,hcell h (Addr.add p3 (Int.toNat (IntKind.i64.wrap (f - 1)) * 1))=some (.string (mkS s5))∧∃ s6,hcell h (Addr.add p4 (Int.toNat f * 1))=some (.string (mkS s6))∧∃ p7,m=some p7∧(0:Int)≤f∧f<((p:Nat):Int)∧∃ h8,stC h (Addr.add p7 (Int.toNat f * 1)) 0 [.string (mkS s5)]=some h8∧∃ p9,m=some p9∧(0:Int)≤(IntKind.i64.wrap (f - 1))∧(IntKind.i64.wrap (f - 1))<((p:Nat):Int)∧∃ ab,stC h8 (Addr.add p9 (Int.toNat (IntKind.i64.wrap (f - 1)) * 1)) 0 [.string (mkS s6)]=some ab∧bd ((IntKind.i64.wrap (f - 1)):Int) fun ac=>R3 m p q w y z ac ab)∧(aa=false→qam.j2 K R1 m p q w y z h)
def qam.j4.l:Live:=[(0,.slice),(1,.int .i64),(2,.int .i64),(6,.int .i64),(7,.int .i64),(30,.bool)]
def qam.j4.j (K:KT) (R1:OA→Nat→Nat→Int→Int→Int→Heap→Prop) (R3:OA→Nat→Nat→Int→Int→Int→Int→Heap→Prop):Tup qam.j4.l→Heap→Prop:=fun x h=>qam.j4 K R1 R3 x.1.1 x.1.2.1 x.1.2.2 x.2.1 x.2.2.1 x.2.2.2.1 x.2.2.2.2.1 x.2.2.2.2.2.1 h
def qam.L3 (K:KT) (R1:OA→Nat→Nat→Int→Int→Int→Heap→Prop):Nat→OA→Nat→Nat→Int→Int→Int→Int→Heap→Prop
  | 0,_,_,_,_,_,_,_,_=>False
  | fuel+1,m,p,w,q,y,z,f,h=>((decide (f > q))=true→∃ aa,m=some aa∧(0:Int)≤f∧f<((p:Nat):Int)∧∃ ab,m=some ab∧(0:Int)≤(IntKind.i64.wrap (f - 1))∧(IntKind.i64.wrap (f - 1))<((p:Nat):Int)∧∃ s14,hcell h (Addr.add aa (Int.toNat f * 1))=some (.string (mkS s14))∧∃ s15,hcell h (Addr.add ab (Int.toNat (IntKind.i64.wrap (f - 1)) * 1))=some (.string (mkS s15))∧CallsH P F.qdl [.string (mkS s14),.string (mkS s15)] (fun ad ae=>∃ ac,ad=.bool ac∧qam.j4 K R1 (qam.L3 K R1 fuel) m p w q y z f ac ae) h)∧((decide (f > q))=false→qam.j4 K R1 (qam.L3 K R1 fuel) m p w q y z f false h)
termination_by structural n=>n
def qam.L3.l:Live:=[(0,.slice),(1,.int .i64),(2,.int .i64),(6,.int .i64),(7,.int .i64)]
def qam.L3.j (K:KT) (R1:OA→Nat→Nat→Int→Int→Int→Heap→Prop):Nat→Tup qam.L3.l→Heap→Prop:=fun n x h=>qam.L3 K R1 n x.1.1 x.1.2.1 x.1.2.2 x.2.1 x.2.2.1 x.2.2.2.1 x.2.2.2.2.1 h
def qam.L1 (K:KT):Nat→OA→Nat→Nat→Int→Int→Int→Heap→Prop
  | 0,_,_,_,_,_,_,_=>False
  | fuel+1,p,q,w,y,m,f,h=>((decide (f<m))=true→∃ fuel19,qam.L3 K (qam.L1 K fuel) fuel19 p q w y m f f h)∧((decide (f<m))=false→K (.tuple #[]) h)
termination_by structural n=>n
def qam.L1.l:Live:=[(0,.slice),(1,.int .i64),(2,.int .i64),(6,.int .i64)]
def qam.L1.j (K:KT):Nat→Tup qam.L1.l→Heap→Prop:=fun n x h=>qam.L1 K n x.1.1 x.1.2.1 x.1.2.2 x.2.1 x.2.2.1 x.2.2.2.1 h
def qam.p0 (K:KT) (m:OA) (p:Nat) (q:Nat) (f:Int) (w:Int) (h:Heap):Prop :=
  bd ((IntKind.i64.wrap (f+1)):Int) fun y=>∃ fuel20,qam.L1 K fuel20 m p q f w y h
def qam.plan (K:KT):Plan:=(.seq .go (.block (.loop qam.L1.l (qam.L1.j K) (fun n1=>(.seq .go (.cut qam.j2.l (qam.j2.j K (qam.L1 K n1)) (.block (.seq .go (.block (.loop qam.L3.l (qam.L3.j K (qam.L1 K n1)) (fun n3=>(.seq (.cut qam.j4.l (qam.j4.j K (qam.L1 K n1) (qam.L3 K (qam.L1 K n1) n3)) (.orders (.op 0 (.op 1 (.op 2 (.op 3 (.op 4 (.op 5 (.op 6 (.op 8 (.op 9 (.op 10 (.op 11 (.op 7 (.op 12 (.op 13 (.op 14 .nil)))))))))))))))) .go) (.seq (.block (.orders (.op 0 (.op 1 (.op 2 (.op 3 (.op 4 (.op 5 (.op 6 (.op 7 (.op 8 (.op 10 (.op 11 (.op 12 (.op 9 (.op 13 (.op 14 (.op 15 (.op 16 (.op 17 .nil)))))))))))))))))))) .go))))))) .go))))))
theorem qam.ev_eq:qam.p0=fun K f m p q w h=>Ev P Tryz.f241 (qam.plan K) K [.slice f m p,.int .i64 q,.int .i64 w] h:=by kernel_rfl
theorem qam.obl (K:KT):Obl P Tryz.f241 (qam.plan K) K :=
  obl_of (R:=(∀ x h,¬ (qam.L1.j K) 0 x h)∧ImpN (qam.L1.j K)∧(∀ (n1:Nat),(∀ x h,¬ (qam.L3.j K (qam.L1 K n1)) 0 x h)∧ImpN (qam.L3.j K (qam.L1 K n1))∧(∀ (n3:Nat),DrawOK P Tryz.f241.ntmps (opsAt 4 (bodyOf Tryz.f241)) (.op 0 (.op 1 (.op 2 (.op 3 (.op 4 (.op 5 (.op 6 (.op 8 (.op 9 (.op 10 (.op 11 (.op 7 (.op 12 (.op 13 (.op 14 .nil)))))))))))))))∧Imp (qam.j4.j K (qam.L1 K n1) (qam.L3 K (qam.L1 K n1) n3))∧DrawOK P Tryz.f241.ntmps (opsAt 6 (bodyOf Tryz.f241)) (.op 0 (.op 1 (.op 2 (.op 3 (.op 4 (.op 5 (.op 6 (.op 7 (.op 8 (.op 10 (.op 11 (.op 12 (.op 9 (.op 13 (.op 14 (.op 15 (.op 16 (.op 17 .nil))))))))))))))))))∧True)∧Imp (qam.j2.j K (qam.L1 K n1))∧True)∧True) (by kernel_rfl) ⟨fun _ _ H=>H,impN _,fun _=>⟨fun _ _ H=>H,impN _,fun _=>⟨draw_ok (by kernel_rfl),⟨imp _,⟨draw_ok (by kernel_rfl),trivial⟩⟩⟩,⟨imp _,trivial⟩⟩,trivial⟩
theorem qam.ok {K:KT}{f:OA}{m:Nat}{p:Nat}{q:Int}{w:Int}{h:Heap} (H:qam.p0 K f m p q w h):CallsH P F.qam [.slice f m p,.int .i64 q,.int .i64 w] K h :=
  calls_of_Ev (qam.plan K) Tryz.func241 (by kernel_rfl) (qam.obl K) (by rw [qam.ev_eq] at H; exact H)
def qau.j2 (K:KT) (R1:OA→Nat→Nat→Int→Int→Int→Heap→Prop) (q:OA) (w:Nat) (ae:Nat) (af:Int) (f:Int) (p:Int) (m:Int) (h:Heap):Prop :=
  ∃ p2,q=some p2∧(0:Int)≤(IntKind.i64.wrap (f+p))∧(IntKind.i64.wrap (f+p))<((w:Nat):Int)∧∃ p3,q=some p3∧(0:Int)≤(IntKind.i64.wrap (f+m))∧(IntKind.i64.wrap (f+m))<((w:Nat):Int)∧∃ s4,hcell h (Addr.add p2 (Int.toNat (IntKind.i64.wrap (f+p)) * 1))=some (.string (mkS s4))∧∃ s5,hcell h (Addr.add p3 (Int.toNat (IntKind.i64.wrap (f+m)) * 1))=some (.string (mkS s5))∧CallsH P F.qdl [.string (mkS s4),.string (mkS s5)] (fun v6 h7=>∃ b8,v6=.bool b8∧((!b8)=true→K (.tuple #[]) h7)∧((!b8)=false→∃ p9,q=some p9∧(0:Int)≤(IntKind.i64.wrap (f+m))∧(IntKind.i64.wrap (f+m))<((w:Nat):Int)∧∃ y,q=some y∧(0:Int)≤(IntKind.i64.wrap (f+p))∧(IntKind.i64.wrap (f+p))<((w:Nat):Int)∧∃ s11,hcell h7 (Addr.add p9 (Int.toNat (IntKind.i64.wrap (f+m)) * 1))=some (.string (mkS s11))∧∃ z,hcell h7 (Addr.add y (Int.toNat (IntKind.i64.wrap (f+p)) * 1))=some (.string (mkS z))∧∃ aa,q=some aa∧(0:Int)≤(IntKind.i64.wrap (f+p))∧(IntKind.i64.wrap (f+p))<((w:Nat):Int)∧∃ ab,stC h7 (Addr.add aa (Int.toNat (IntKind.i64.wrap (f+p)) * 1)) 0 [.string (mkS s11)]=some ab∧∃ ac,q=some ac∧(0:Int)≤(IntKind.i64.wrap (f+m))∧(IntKind.i64.wrap (f+m))<((w:Nat):Int)∧∃ ad,stC ab (Addr.add ac (Int.toNat (IntKind.i64.wrap (f+m)) * 1)) 0 [.string (mkS z)]=some ad∧R1 q w ae af f m ad)) h
def qau.j2.l:Live:=[(0,.slice),(2,.int .i64),(3,.int .i64),(8,.int .i64),(9,.int .i64)]
def qau.j2.j (K:KT) (R1:OA→Nat→Nat→Int→Int→Int→Heap→Prop):Tup qau.j2.l→Heap→Prop:=fun x h=>qau.j2 K R1 x.1.1 x.1.2.1 x.1.2.2 x.2.1 x.2.2.1 x.2.2.2.1 x.2.2.2.2.1 h
def qau.j3 (K:KT) (R1:OA→Nat→Nat→Int→Int→Int→Heap→Prop) (f:OA) (m:Nat) (p:Nat) (q:Int) (w:Int) (y:Int) (z:Int) (aa:Bool) (h:Heap):Prop :=
  (aa=true→bd ((IntKind.i64.wrap (z+1)):Int) fun ab=>qau.j2 K R1 f m p q w y ab h)∧(aa=false→qau.j2 K R1 f m p q w y z h)
def qau.j3.l:Live:=[(0,.slice),(2,.int .i64),(3,.int .i64),(8,.int .i64),(9,.int .i64),(36,.bool)]
def qau.j3.j (K:KT) (R1:OA→Nat→Nat→Int→Int→Int→Heap→Prop):Tup qau.j3.l→Heap→Prop:=fun x h=>qau.j3 K R1 x.1.1 x.1.2.1 x.1.2.2 x.2.1 x.2.2.1 x.2.2.2.1 x.2.2.2.2.1 x.2.2.2.2.2.1 h
def qau.L1 (K:KT):Nat→OA→Nat→Nat→Int→Int→Int→Heap→Prop
  | 0,_,_,_,_,_,_,_=>False
  | fuel+1,q,w,z,p,m,y,h=>bd ((IntKind.i64.wrap ((IntKind.i64.wrap ((2:Int) * y))+1)):Int) fun f=>((decide (f ≥ p))=true→K (.tuple #[]) h)∧((decide (f ≥ p))=false→((decide ((IntKind.i64.wrap (f+1))<p))=true→∃ aa,q=some aa∧(0:Int)≤(IntKind.i64.wrap (m+f))∧(IntKind.i64.wrap (m+f))<((w:Nat):Int)∧∃ ab,q=some ab∧(0:Int)≤(IntKind.i64.wrap ((IntKind.i64.wrap (m+f))+1))∧(IntKind.i64.wrap ((IntKind.i64.wrap (m+f))+1))<((w:Nat):Int)∧∃ ac,hcell h (Addr.add aa (Int.toNat (IntKind.i64.wrap (m+f)) * 1))=some (.string (mkS ac))∧∃ ad,hcell h (Addr.add ab (Int.toNat (IntKind.i64.wrap ((IntKind.i64.wrap (m+f))+1)) * 1))=some (.string (mkS ad))∧CallsH P F.qdl [.string (mkS ac),.string (mkS ad)] (fun af ag=>∃ ae,af=.bool ae∧qau.j3 K (qau.L1 K fuel) q w z p m y f ae ag) h)∧((decide ((IntKind.i64.wrap (f+1))<p))=false→qau.j3 K (qau.L1 K fuel) q w z p m y f false h))
termination_by structural n=>n
def qau.L1.l:Live:=[(0,.slice),(2,.int .i64),(3,.int .i64),(8,.int .i64)]
def qau.L1.j (K:KT):Nat→Tup qau.L1.l→Heap→Prop:=fun n x h=>qau.L1 K n x.1.1 x.1.2.1 x.1.2.2 x.2.1 x.2.2.1 x.2.2.2.1 h
def qau.p0 (K:KT) (f:OA) (m:Nat) (p:Nat) (q:Int) (w:Int) (y:Int) (h:Heap):Prop :=
  ∃ fuel25,qau.L1 K fuel25 f m p w y q h
def qau.plan (K:KT):Plan:=(.seq .go (.block (.loop qau.L1.l (qau.L1.j K) (fun n1=>(.block (.seq .go (.seq .go (.cut qau.j2.l (qau.j2.j K (qau.L1 K n1)) (.cut qau.j3.l (qau.j3.j K (qau.L1 K n1)) (.orders (.op 0 (.op 1 (.op 2 (.op 3 (.op 4 (.op 5 (.op 6 (.op 7 (.op 8 (.op 9 (.op 11 (.op 12 (.op 13 (.op 14 (.op 15 (.op 16 (.op 10 (.op 17 (.op 18 (.op 19 .nil))))))))))))))))))))) .go) (.seq (.seq (.orders (.op 0 (.op 1 (.op 2 (.op 3 (.op 4 (.op 6 (.op 7 (.op 8 (.op 9 (.op 10 (.op 5 (.op 11 (.op 12 (.op 13 .nil))))))))))))))) .go) (.seq (.orders (.op 0 (.op 1 (.op 2 (.op 3 (.op 4 (.op 5 (.op 6 (.op 7 (.op 8 (.op 9 (.op 10 (.op 11 (.op 12 (.op 14 (.op 15 (.op 16 (.op 17 (.op 18 (.op 13 (.op 19 (.op 20 (.op 21 (.op 22 (.op 23 .nil))))))))))))))))))))))))) .go))))))))))
theorem qau.ev_eq:qau.p0=fun K f m p q w y h=>Ev P Tryz.f275 (qau.plan K) K [.slice f m p,.int .i64 q,.int .i64 w,.int .i64 y] h:=by kernel_rfl
theorem qau.obl (K:KT):Obl P Tryz.f275 (qau.plan K) K :=
  obl_of (R:=(∀ x h,¬ (qau.L1.j K) 0 x h)∧ImpN (qau.L1.j K)∧(∀ (n1:Nat),DrawOK P Tryz.f275.ntmps (opsAt 3 (bodyOf Tryz.f275)) (.op 0 (.op 1 (.op 2 (.op 3 (.op 4 (.op 5 (.op 6 (.op 7 (.op 8 (.op 9 (.op 11 (.op 12 (.op 13 (.op 14 (.op 15 (.op 16 (.op 10 (.op 17 (.op 18 (.op 19 .nil))))))))))))))))))))∧Imp (qau.j3.j K (qau.L1 K n1))∧Imp (qau.j2.j K (qau.L1 K n1))∧DrawOK P Tryz.f275.ntmps (opsAt 5 (bodyOf Tryz.f275)) (.op 0 (.op 1 (.op 2 (.op 3 (.op 4 (.op 6 (.op 7 (.op 8 (.op 9 (.op 10 (.op 5 (.op 11 (.op 12 (.op 13 .nil))))))))))))))∧DrawOK P Tryz.f275.ntmps (opsAt 6 (bodyOf Tryz.f275)) (.op 0 (.op 1 (.op 2 (.op 3 (.op 4 (.op 5 (.op 6 (.op 7 (.op 8 (.op 9 (.op 10 (.op 11 (.op 12 (.op 14 (.op 15 (.op 16 (.op 17 (.op 18 (.op 13 (.op 19 (.op 20 (.op 21 (.op 22 (.op 23 .nil))))))))))))))))))))))))∧True)∧True) (by kernel_rfl) ⟨fun _ _ H=>H,impN _,fun _=>⟨draw_ok (by kernel_rfl),⟨imp _,⟨imp _,⟨draw_ok (by kernel_rfl),⟨draw_ok (by kernel_rfl),trivial⟩⟩⟩⟩⟩,trivial⟩
theorem qau.ok {K:KT}{f:OA}{m:Nat}{p:Nat}{q:Int}{w:Int}{y:Int}{h:Heap} (H:qau.p0 K f m p q w y h):CallsH P F.qau [.slice f m p,.int .i64 q,.int .i64 w,.int .i64 y] K h :=
  calls_of_Ev (qau.plan K) Tryz.func275 (by kernel_rfl) (qau.obl K) (by rw [qau.ev_eq] at H; exact H)
def qay.L2 (K:KT):Nat→OA→Nat→Nat→Int→Int→Int→Heap→Prop
  | 0,_,_,_,_,_,_,_=>False
  | fuel+1,p,q,w,f,y,m,h=>((decide (m ≥ 0))=true→∃ p3,p=some p3∧(0:Int)≤(IntKind.i64.wrap (f+m))∧(IntKind.i64.wrap (f+m))<((q:Nat):Int)∧∃ p4,p=some p4∧(0:Int)≤f∧f<((q:Nat):Int)∧∃ s5,hcell h (Addr.add p3 (Int.toNat (IntKind.i64.wrap (f+m)) * 1))=some (.string (mkS s5))∧∃ s6,hcell h (Addr.add p4 (Int.toNat f * 1))=some (.string (mkS s6))∧∃ p7,p=some p7∧(0:Int)≤f∧f<((q:Nat):Int)∧∃ h8,stC h (Addr.add p7 (Int.toNat f * 1)) 0 [.string (mkS s5)]=some h8∧∃ p9,p=some p9∧(0:Int)≤(IntKind.i64.wrap (f+m))∧(IntKind.i64.wrap (f+m))<((q:Nat):Int)∧∃ z,stC h8 (Addr.add p9 (Int.toNat (IntKind.i64.wrap (f+m)) * 1)) 0 [.string (mkS s6)]=some z∧CallsH P F.qau [.slice p q w,.int .i64 y,.int .i64 m,.int .i64 f] (fun aa ab=>aa=.tuple #[]∧bd ((IntKind.i64.wrap (m - 1)):Int) fun ac=>(qay.L2 K fuel) p q w f y ac ab) z)∧((decide (m ≥ 0))=false→K (.tuple #[]) h)
termination_by structural n=>n
def qay.L2.l:Live:=[(0,.slice),(6,.int .i64),(7,.int .i64),(10,.int .i64)]
def qay.L2.j (K:KT):Nat→Tup qay.L2.l→Heap→Prop:=fun n x h=>qay.L2 K n x.1.1 x.1.2.1 x.1.2.2 x.2.1 x.2.2.1 x.2.2.2.1 h
def qay.j1 (K:KT) (f:OA) (m:Nat) (p:Nat) (q:Int) (w:Int) (y:Int) (h:Heap):Prop :=
  bd ((IntKind.i64.wrap (y - 1)):Int) fun z=>∃ fuel14,qay.L2 K fuel14 f m p q w z h
def qay.j1.l:Live:=[(0,.slice),(6,.int .i64),(7,.int .i64),(8,.int .i64)]
def qay.j1.j (K:KT):Tup qay.j1.l→Heap→Prop:=fun x h=>qay.j1 K x.1.1 x.1.2.1 x.1.2.2 x.2.1 x.2.2.1 x.2.2.2.1 h
def qay.L3 (K:KT):Nat→OA→Nat→Nat→Int→Int→Int→Int→Heap→Prop
  | 0,_,_,_,_,_,_,_,_=>False
  | fuel+1,m,p,q,w,z,y,f,h=>((decide (f ≥ 0))=true→CallsH P F.qau [.slice m p q,.int .i64 f,.int .i64 y,.int .i64 w] (fun aa ab=>aa=.tuple #[]∧bd ((IntKind.i64.wrap (f - 1)):Int) fun ac=>(qay.L3 K fuel) m p q w z y ac ab) h)∧((decide (f ≥ 0))=false→qay.j1 K m p q w z y h)
termination_by structural n=>n
def qay.L3.l:Live:=[(0,.slice),(6,.int .i64),(7,.int .i64),(8,.int .i64),(9,.int .i64)]
def qay.L3.j (K:KT):Nat→Tup qay.L3.l→Heap→Prop:=fun n x h=>qay.L3 K n x.1.1 x.1.2.1 x.1.2.2 x.2.1 x.2.2.1 x.2.2.2.1 x.2.2.2.2.1 h
def qay.p0 (K:KT) (p:OA) (q:Nat) (w:Nat) (f:Int) (y:Int) (h:Heap):Prop :=
  bd ((IntKind.i64.wrap (y - f)):Int) fun m=>(2:Int)≠0∧bd ((IntKind.i64.wrap (Int.tdiv (IntKind.i64.wrap (m - 1)) 2)):Int) fun z=>∃ fuel19,qay.L3 K fuel19 p q w f 0 m z h
def qay.plan (K:KT):Plan:=(.seq .go (.seq .go (.seq .go (.cut qay.j1.l (qay.j1.j K) (.seq .go (.block (.loop qay.L3.l (qay.L3.j K) (fun n3=>.go)))) (.seq .go (.block (.loop qay.L2.l (qay.L2.j K) (fun n2=>(.seq .go (.seq (.block (.seq (.orders (.op 0 (.op 1 (.op 2 (.op 3 (.op 4 (.op 5 (.op 6 (.op 7 (.op 8 (.op 9 (.op 10 (.op 12 (.op 13 (.op 14 (.op 11 (.op 15 (.op 16 (.op 17 (.op 18 (.op 19 .nil))))))))))))))))))))) .go)) .go))))))))))
theorem qay.ev_eq:qay.p0=fun K f m p q w h=>Ev P Tryz.f242 (qay.plan K) K [.slice f m p,.int .i64 q,.int .i64 w] h:=by kernel_rfl
theorem qay.obl (K:KT):Obl P Tryz.f242 (qay.plan K) K :=
  obl_of (R:=(∀ x h,¬ (qay.L3.j K) 0 x h)∧ImpN (qay.L3.j K)∧(∀ (n3:Nat),True)∧Imp (qay.j1.j K)∧(∀ x h,¬ (qay.L2.j K) 0 x h)∧ImpN (qay.L2.j K)∧(∀ (n2:Nat),DrawOK P Tryz.f242.ntmps (opsAt 10 (bodyOf Tryz.f242)) (.op 0 (.op 1 (.op 2 (.op 3 (.op 4 (.op 5 (.op 6 (.op 7 (.op 8 (.op 9 (.op 10 (.op 12 (.op 13 (.op 14 (.op 11 (.op 15 (.op 16 (.op 17 (.op 18 (.op 19 .nil))))))))))))))))))))∧True)∧True) (by kernel_rfl) ⟨fun _ _ H=>H,impN _,fun _=>trivial,⟨imp _,⟨fun _ _ H=>H,impN _,fun _=>⟨draw_ok (by kernel_rfl),trivial⟩,trivial⟩⟩⟩
theorem qay.ok {K:KT}{f:OA}{m:Nat}{p:Nat}{q:Int}{w:Int}{h:Heap} (H:qay.p0 K f m p q w h):CallsH P F.qay [.slice f m p,.int .i64 q,.int .i64 w] K h :=
  calls_of_Ev (qay.plan K) Tryz.func242 (by kernel_rfl) (qay.obl K) (by rw [qay.ev_eq] at H; exact H)
def qax.j2 (K:KT) (R1:OA→Nat→Nat→Int→Int→Addr→Int→Int→Heap→Prop) (q:OA) (w:Nat) (ae:Nat) (f:Int) (af:Int) (ag:Addr) (ah:Int) (m:Int) (p:Int) (h:Heap):Prop :=
  ∃ y,q=some y∧(0:Int)≤(IntKind.i64.wrap (f+p))∧(IntKind.i64.wrap (f+p))<((w:Nat):Int)∧∃ z,q=some z∧(0:Int)≤m∧m<((w:Nat):Int)∧∃ s14,hcell h (Addr.add y (Int.toNat (IntKind.i64.wrap (f+p)) * 1))=some (.string (mkS s14))∧∃ s15,hcell h (Addr.add z (Int.toNat m * 1))=some (.string (mkS s15))∧∃ aa,q=some aa∧(0:Int)≤m∧m<((w:Nat):Int)∧∃ ab,stC h (Addr.add aa (Int.toNat m * 1)) 0 [.string (mkS s14)]=some ab∧∃ ac,q=some ac∧(0:Int)≤(IntKind.i64.wrap (f+p))∧(IntKind.i64.wrap (f+p))<((w:Nat):Int)∧∃ ad,stC ab (Addr.add ac (Int.toNat (IntKind.i64.wrap (f+p)) * 1)) 0 [.string (mkS s15)]=some ad∧bd ((IntKind.i64.wrap (m+1)):Int) fun ai=>R1 q w ae f af ag ah ai ad
def qax.j2.l:Live:=[(0,.slice),(1,.int .i64),(6,.int .i64),(7,.addr),(8,.int .u64),(9,.int .i64),(10,.int .i64)]
def qax.j2.j (K:KT) (R1:OA→Nat→Nat→Int→Int→Addr→Int→Int→Heap→Prop):Tup qax.j2.l→Heap→Prop:=fun x h=>qax.j2 K R1 x.1.1 x.1.2.1 x.1.2.2 x.2.1 x.2.2.1 x.2.2.2.1 x.2.2.2.2.1 x.2.2.2.2.2.1 x.2.2.2.2.2.2.1 h
def qax.L1 (K:KT):Nat→OA→Nat→Nat→Int→Int→Addr→Int→Int→Heap→Prop
  | 0,_,_,_,_,_,_,_,_,_=>False
  | fuel+1,z,aa,ab,m,f,w,y,p,h=>(4:Int)≠0∧((decide (p≤(IntKind.i64.wrap ((IntKind.i64.wrap (m+(IntKind.i64.wrap ((IntKind.i64.wrap (Int.tdiv f 4)) * 2))))+1))))=true→CallsH P F.qcy [.pointer (some w)] (fun v8 h9=>∃ ac,v8=.int .u64 ac∧bd ((IntKind.i64.wrap (bitsI .and .u64 ac (IntKind.u64.wrap (y - 1)))):Int) fun q=>((decide (q ≥ f))=true→bd ((IntKind.i64.wrap (q - f)):Int) fun ad=>qax.j2 K (qax.L1 K fuel) z aa ab m f w y p ad h9)∧((decide (q ≥ f))=false→qax.j2 K (qax.L1 K fuel) z aa ab m f w y p q h9)) h)∧((decide (p≤(IntKind.i64.wrap ((IntKind.i64.wrap (m+(IntKind.i64.wrap ((IntKind.i64.wrap (Int.tdiv f 4)) * 2))))+1))))=false→K (.tuple #[]) h)
termination_by structural n=>n
def qax.L1.l:Live:=[(0,.slice),(1,.int .i64),(6,.int .i64),(7,.addr),(8,.int .u64),(9,.int .i64)]
def qax.L1.j (K:KT):Nat→Tup qax.L1.l→Heap→Prop:=fun n x h=>qax.L1 K n x.1.1 x.1.2.1 x.1.2.2 x.2.1 x.2.2.1 x.2.2.2.1 x.2.2.2.2.1 x.2.2.2.2.2.1 h
def qax.p0 (K:KT) (p:OA) (q:Nat) (w:Nat) (m:Int) (y:Int) (h:Heap):Prop :=
  bd ((IntKind.i64.wrap (y - m)):Int) fun f=>((decide (f ≥ 8))=true→bd (al h #[.int .u64 0] T.slices_xorshift) fun h2=>∃ h3,stC h2 (top h) 0 [.int .u64 (IntKind.u64.wrap f)]=some h3∧CallsH P F.qcw [.int .i64 f] (fun v4 h5=>∃ n6,v4=.int .u64 n6∧(4:Int)≠0∧bd ((IntKind.i64.wrap ((IntKind.i64.wrap (m+(IntKind.i64.wrap ((IntKind.i64.wrap (Int.tdiv f 4)) * 2)))) - 1)):Int) fun z=>∃ fuel22,qax.L1 K fuel22 p q w m f (top h) n6 z h5) h3)∧((decide (f ≥ 8))=false→K (.tuple #[]) h)
def qax.plan (K:KT):Plan:=(.seq .go (.seq .go (.cond (.seq .go (.seq .go (.seq .go (.block (.loop qax.L1.l (qax.L1.j K) (fun n1=>(.seq .go (.seq (.block (.seq .go (.cut qax.j2.l (qax.j2.j K (qax.L1 K n1)) .go (.orders (.op 0 (.op 1 (.op 2 (.op 3 (.op 4 (.op 5 (.op 6 (.op 7 (.op 8 (.op 9 (.op 10 (.op 12 (.op 13 (.op 14 (.op 11 (.op 15 (.op 16 (.op 17 (.op 18 (.op 19 .nil)))))))))))))))))))))))) .go)))))))) .go)))
theorem qax.ev_eq:qax.p0=fun K f m p q w h=>Ev P Tryz.f243 (qax.plan K) K [.slice f m p,.int .i64 q,.int .i64 w] h:=by kernel_rfl
theorem qax.obl (K:KT):Obl P Tryz.f243 (qax.plan K) K :=
  obl_of (R:=(∀ x h,¬ (qax.L1.j K) 0 x h)∧ImpN (qax.L1.j K)∧(∀ (n1:Nat),Imp (qax.j2.j K (qax.L1 K n1))∧DrawOK P Tryz.f243.ntmps (opsAt 10 (bodyOf Tryz.f243)) (.op 0 (.op 1 (.op 2 (.op 3 (.op 4 (.op 5 (.op 6 (.op 7 (.op 8 (.op 9 (.op 10 (.op 12 (.op 13 (.op 14 (.op 11 (.op 15 (.op 16 (.op 17 (.op 18 (.op 19 .nil))))))))))))))))))))∧True)∧True) (by kernel_rfl) ⟨fun _ _ H=>H,impN _,fun _=>⟨imp _,⟨draw_ok (by kernel_rfl),trivial⟩⟩,trivial⟩
theorem qax.ok {K:KT}{f:OA}{m:Nat}{p:Nat}{q:Int}{w:Int}{h:Heap} (H:qax.p0 K f m p q w h):CallsH P F.qax [.slice f m p,.int .i64 q,.int .i64 w] K h :=
  calls_of_Ev (qax.plan K) Tryz.func243 (by kernel_rfl) (qax.obl K) (by rw [qax.ev_eq] at H; exact H)
def qci.p0 (K:KT) (p:OA) (q:Nat) (aa:Nat) (f:Int) (m:Int) (w:OA) (h:Heap):Prop :=
  ∃ p1,p=some p1∧(0:Int)≤m∧m<((q:Nat):Int)∧∃ p2,p=some p2∧(0:Int)≤f∧f<((q:Nat):Int)∧∃ s3,hcell h (Addr.add p1 (Int.toNat m * 1))=some (.string (mkS s3))∧∃ s4,hcell h (Addr.add p2 (Int.toNat f * 1))=some (.string (mkS s4))∧CallsH P F.qdl [.string (mkS s3),.string (mkS s4)] (fun v5 h6=>∃ b7,v5=.bool b7∧(b7=true→∃ p8,w=some p8∧∃ n9,hcell h6 p8=some (.int .i64 n9)∧∃ y,w=some y∧∃ z,stC h6 y 0 [.int .i64 (IntKind.i64.wrap (n9+1))]=some z∧K (.tuple #[.int .i64 m,.int .i64 f]) z)∧(b7=false→K (.tuple #[.int .i64 f,.int .i64 m]) h6)) h
def qci.plan (K:KT):Plan:=(.seq .go (.seq (.seq (.orders (.op 0 (.op 1 (.op 2 (.op 4 (.op 5 (.op 6 (.op 3 (.op 7 (.op 8 .nil)))))))))) .go) .go))
theorem qci.ev_eq:qci.p0=fun K f m p q w y h=>Ev P Tryz.f286 (qci.plan K) K [.slice f m p,.int .i64 q,.int .i64 w,.pointer y] h:=by kernel_rfl
theorem qci.obl (K:KT):Obl P Tryz.f286 (qci.plan K) K :=
  obl_of (R:=DrawOK P Tryz.f286.ntmps (opsAt 1 (bodyOf Tryz.f286)) (.op 0 (.op 1 (.op 2 (.op 4 (.op 5 (.op 6 (.op 3 (.op 7 (.op 8 .nil)))))))))∧True) (by kernel_rfl) ⟨draw_ok (by kernel_rfl),trivial⟩
theorem qci.ok {K:KT}{f:OA}{m:Nat}{p:Nat}{q:Int}{w:Int}{y:OA}{h:Heap} (H:qci.p0 K f m p q w y h):CallsH P F.qci [.slice f m p,.int .i64 q,.int .i64 w,.pointer y] K h :=
  calls_of_Ev (qci.plan K) Tryz.func286 (by kernel_rfl) (qci.obl K) (by rw [qci.ev_eq] at H; exact H)
def qcg.p0 (K:KT) (f:OA) (m:Nat) (p:Nat) (y:Int) (z:Int) (aa:Int) (q:OA) (h:Heap):Prop :=
  CallsH P F.qci [.slice f m p,.int .i64 y,.int .i64 z,.pointer q] (fun v1 h2=>∃ n3 n4,v1=.tuple #[.int .i64 n3,.int .i64 n4]∧CallsH P F.qci [.slice f m p,.int .i64 n4,.int .i64 aa,.pointer q] (fun v5 h6=>∃ n7 n8,v5=.tuple #[.int .i64 n7,.int .i64 n8]∧CallsH P F.qci [.slice f m p,.int .i64 n3,.int .i64 n7,.pointer q] (fun v9 ab=>∃ ac w,v9=.tuple #[.int .i64 ac,.int .i64 w]∧K (.int .i64 w) ab) h6) h2) h
def qcg.plan (K:KT):Plan:=.go
theorem qcg.ev_eq:qcg.p0=fun K f m p q w y z h=>Ev P Tryz.f277 (qcg.plan K) K [.slice f m p,.int .i64 q,.int .i64 w,.int .i64 y,.pointer z] h:=by kernel_rfl
theorem qcg.obl (K:KT):Obl P Tryz.f277 (qcg.plan K) K :=
  obl_true (by kernel_rfl)
theorem qcg.ok {K:KT}{f:OA}{m:Nat}{p:Nat}{q:Int}{w:Int}{y:Int}{z:OA}{h:Heap} (H:qcg.p0 K f m p q w y z h):CallsH P F.qcg [.slice f m p,.int .i64 q,.int .i64 w,.int .i64 y,.pointer z] K h :=
  calls_of_Ev (qcg.plan K) Tryz.func277 (by kernel_rfl) (qcg.obl K) (by rw [qcg.ev_eq] at H; exact H)
def qbx.p0 (K:KT) (m:OA) (p:Nat) (q:Nat) (f:Int) (w:OA) (h:Heap):Prop :=
  CallsH P F.qcg [.slice m p q,.int .i64 (IntKind.i64.wrap (f - 1)),.int .i64 f,.int .i64 (IntKind.i64.wrap (f+1)),.pointer w] (fun v1 h2=>∃ n3,v1=.int .i64 n3∧K (.int .i64 n3) h2) h
def qbx.plan (K:KT):Plan:=.go
theorem qbx.ev_eq:qbx.p0=fun K f m p q w h=>Ev P Tryz.f276 (qbx.plan K) K [.slice f m p,.int .i64 q,.pointer w] h:=by kernel_rfl
theorem qbx.obl (K:KT):Obl P Tryz.f276 (qbx.plan K) K :=
  obl_true (by kernel_rfl)
theorem qbx.ok {K:KT}{f:OA}{m:Nat}{p:Nat}{q:Int}{w:OA}{h:Heap} (H:qbx.p0 K f m p q w h):CallsH P F.qbx [.slice f m p,.int .i64 q,.pointer w] K h :=
  calls_of_Ev (qbx.plan K) Tryz.func276 (by kernel_rfl) (qbx.obl K) (by rw [qbx.ev_eq] at H; exact H)
def qbd.j1 (K:KT) (m:Addr) (f:Int) (h:Heap):Prop :=
  ∃ n6,hcell h m=some (.int .i64 n6)∧bd ((n6==0):Bool) fun b7=>(b7=true→K (.tuple #[.int .i64 f,.int .i64 1]) h)∧(b7=false→bd ((n6==12):Bool) fun b8=>(b8=true→K (.tuple #[.int .i64 f,.int .i64 2]) h)∧(b8=false→K (.tuple #[.int .i64 f,.int .i64 0]) h))
def qbd.j1.l:Live:=[(9,.addr),(11,.int .i64)]
def qbd.j1.j (K:KT):Tup qbd.j1.l→Heap→Prop:=fun x h=>qbd.j1 K x.1 x.2.1 h
def qbd.j2 (K:KT) (p:OA) (q:Nat) (w:Nat) (f:Addr) (y:Int) (z:Int) (aa:Int) (h:Heap):Prop :=
  CallsH P F.qcg [.slice p q w,.int .i64 y,.int .i64 z,.int .i64 aa,.pointer (some f)] (fun v9 ab=>∃ m,v9=.int .i64 m∧qbd.j1 K f m ab) h
def qbd.j2.l:Live:=[(0,.slice),(9,.addr),(10,.int .i64),(11,.int .i64),(12,.int .i64)]
def qbd.j2.j (K:KT):Tup qbd.j2.l→Heap→Prop:=fun x h=>qbd.j2 K x.1.1 x.1.2.1 x.1.2.2 x.2.1 x.2.2.1 x.2.2.2.1 x.2.2.2.2.1 h
def qbd.p0 (K:KT) (m:OA) (p:Nat) (q:Nat) (w:Int) (ae:Int) (h:Heap):Prop :=
  bd ((IntKind.i64.wrap (ae - w)):Int) fun f=>bd (al h #[.int .i64 0] T.int) fun h2=>(4:Int)≠0∧bd ((IntKind.i64.wrap (w+(IntKind.i64.wrap ((IntKind.i64.wrap (Int.tdiv f 4)) * 1)))):Int) fun z=>(4:Int)≠0∧bd ((IntKind.i64.wrap (w+(IntKind.i64.wrap ((IntKind.i64.wrap (Int.tdiv f 4)) * 2)))):Int) fun y=>(4:Int)≠0∧bd ((IntKind.i64.wrap (w+(IntKind.i64.wrap ((IntKind.i64.wrap (Int.tdiv f 4)) * 3)))):Int) fun aa=>((decide (f ≥ 8))=true→((decide (f ≥ 50))=true→CallsH P F.qbx [.slice m p q,.int .i64 z,.pointer (some (top h))] (fun af ag=>∃ ab,af=.int .i64 ab∧CallsH P F.qbx [.slice m p q,.int .i64 y,.pointer (some (top h))] (fun ah ai=>∃ ac,ah=.int .i64 ac∧CallsH P F.qbx [.slice m p q,.int .i64 aa,.pointer (some (top h))] (fun aj ak=>∃ ad,aj=.int .i64 ad∧qbd.j2 K m p q (top h) ab ac ad ak) ai) ag) h2)∧((decide (f ≥ 50))=false→qbd.j2 K m p q (top h) z y aa h2))∧((decide (f ≥ 8))=false→qbd.j1 K (top h) y h2)
def qbd.plan (K:KT):Plan:=(.seq .go (.seq .go (.seq .go (.seq .go (.seq .go (.seq .go (.cut qbd.j1.l (qbd.j1.j K) (.seq .go (.cond (.cut qbd.j2.l (qbd.j2.j K) .go .go) .go)) .go)))))))
theorem qbd.ev_eq:qbd.p0=fun K f m p q w h=>Ev P Tryz.f244 (qbd.plan K) K [.slice f m p,.int .i64 q,.int .i64 w] h:=by kernel_rfl
theorem qbd.obl (K:KT):Obl P Tryz.f244 (qbd.plan K) K :=
  obl_of (R:=Imp (qbd.j2.j K)∧Imp (qbd.j1.j K)∧True) (by kernel_rfl) ⟨imp _,⟨imp _,trivial⟩⟩
theorem qbd.ok {K:KT}{f:OA}{m:Nat}{p:Nat}{q:Int}{w:Int}{h:Heap} (H:qbd.p0 K f m p q w h):CallsH P F.qbd [.slice f m p,.int .i64 q,.int .i64 w] K h :=
  calls_of_Ev (qbd.plan K) Tryz.func244 (by kernel_rfl) (qbd.obl K) (by rw [qbd.ev_eq] at H; exact H)
def qbj.L1 (K:KT):Nat→OA→Nat→Nat→Int→Int→Heap→Prop
  | 0,_,_,_,_,_,_=>False
  | fuel+1,p,q,w,f,m,h=>((decide (f<m))=true→∃ p2,p=some p2∧(0:Int)≤m∧m<((q:Nat):Int)∧∃ p3,p=some p3∧(0:Int)≤f∧f<((q:Nat):Int)∧∃ s4,hcell h (Addr.add p2 (Int.toNat m * 1))=some (.string (mkS s4))∧∃ s5,hcell h (Addr.add p3 (Int.toNat f * 1))=some (.string (mkS s5))∧∃ p6,p=some p6∧(0:Int)≤f∧f<((q:Nat):Int)∧∃ h7,stC h (Addr.add p6 (Int.toNat f * 1)) 0 [.string (mkS s4)]=some h7∧∃ p8,p=some p8∧(0:Int)≤m∧m<((q:Nat):Int)∧∃ h9,stC h7 (Addr.add p8 (Int.toNat m * 1)) 0 [.string (mkS s5)]=some h9∧bd ((IntKind.i64.wrap (f+1)):Int) fun y=>bd ((IntKind.i64.wrap (m - 1)):Int) fun z=>(qbj.L1 K fuel) p q w y z h9)∧((decide (f<m))=false→K (.tuple #[]) h)
termination_by structural n=>n
def qbj.L1.l:Live:=[(0,.slice),(6,.int .i64),(7,.int .i64)]
def qbj.L1.j (K:KT):Nat→Tup qbj.L1.l→Heap→Prop:=fun n x h=>qbj.L1 K n x.1.1 x.1.2.1 x.1.2.2 x.2.1 x.2.2.1 h
def qbj.p0 (K:KT) (f:OA) (m:Nat) (p:Nat) (q:Int) (w:Int) (h:Heap):Prop :=
  bd ((IntKind.i64.wrap (w - 1)):Int) fun y=>∃ fuel12,qbj.L1 K fuel12 f m p q y h
def qbj.plan (K:KT):Plan:=(.seq .go (.seq .go (.block (.loop qbj.L1.l (qbj.L1.j K) (fun n1=>(.seq .go (.block (.seq (.orders (.op 0 (.op 1 (.op 2 (.op 3 (.op 4 (.op 5 (.op 6 (.op 8 (.op 9 (.op 10 (.op 7 (.op 11 (.op 12 (.op 13 (.op 14 (.op 15 .nil))))))))))))))))) .go))))))))
theorem qbj.ev_eq:qbj.p0=fun K f m p q w h=>Ev P Tryz.f245 (qbj.plan K) K [.slice f m p,.int .i64 q,.int .i64 w] h:=by kernel_rfl
theorem qbj.obl (K:KT):Obl P Tryz.f245 (qbj.plan K) K :=
  obl_of (R:=(∀ x h,¬ (qbj.L1.j K) 0 x h)∧ImpN (qbj.L1.j K)∧(∀ (n1:Nat),DrawOK P Tryz.f245.ntmps (opsAt 3 (bodyOf Tryz.f245)) (.op 0 (.op 1 (.op 2 (.op 3 (.op 4 (.op 5 (.op 6 (.op 8 (.op 9 (.op 10 (.op 7 (.op 11 (.op 12 (.op 13 (.op 14 (.op 15 .nil))))))))))))))))∧True)∧True) (by kernel_rfl) ⟨fun _ _ H=>H,impN _,fun _=>⟨draw_ok (by kernel_rfl),trivial⟩,trivial⟩
theorem qbj.ok {K:KT}{f:OA}{m:Nat}{p:Nat}{q:Int}{w:Int}{h:Heap} (H:qbj.p0 K f m p q w h):CallsH P F.qbj [.slice f m p,.int .i64 q,.int .i64 w] K h :=
  calls_of_Ev (qbj.plan K) Tryz.func245 (by kernel_rfl) (qbj.obl K) (by rw [qbj.ev_eq] at H; exact H)
def qac.j2 (K:KT) (R1:OA→Nat→Nat→Int→Int→Int→Int→Heap→Prop) (f:OA) (m:Nat) (p:Nat) (q:Int) (w:Int) (y:Int) (z:Int) (h:Heap):Prop :=
  bd ((IntKind.i64.wrap (z+1)):Int) fun aa=>R1 f m p q w y aa h
def qac.j2.l:Live:=[(0,.slice),(1,.int .i64),(2,.int .i64),(7,.int .i64),(8,.int .i64)]
def qac.j2.j (K:KT) (R1:OA→Nat→Nat→Int→Int→Int→Int→Heap→Prop):Tup qac.j2.l→Heap→Prop:=fun x h=>qac.j2 K R1 x.1.1 x.1.2.1 x.1.2.2 x.2.1 x.2.2.1 x.2.2.2.1 x.2.2.2.2.1 h
def qac.L5 (K:KT) (R1:OA→Nat→Nat→Int→Int→Int→Int→Heap→Prop):Nat→OA→Nat→Nat→Int→Int→Int→Int→Int→Heap→Prop
  | 0,_,_,_,_,_,_,_,_,_=>False
  | fuel+1,m,p,y,z,q,aa,ab,f,h=>((decide (f<q))=true→∃ ad,m=some ad∧(0:Int)≤f∧f<((p:Nat):Int)∧∃ ae,m=some ae∧(0:Int)≤(IntKind.i64.wrap (f - 1))∧(IntKind.i64.wrap (f - 1))<((p:Nat):Int)∧∃ s14,hcell h (Addr.add ad (Int.toNat f * 1))=some (.string (mkS s14))∧∃ s15,hcell h (Addr.add ae (Int.toNat (IntKind.i64.wrap (f - 1)) * 1))=some (.string (mkS s15))∧CallsH P F.qdl [.string (mkS s14),.string (mkS s15)] (fun ao w=>∃ ac,ao=.bool ac∧((!ac)=true→qac.j2 K R1 m p y z q aa ab w)∧((!ac)=false→∃ af,m=some af∧(0:Int)≤(IntKind.i64.wrap (f - 1))∧(IntKind.i64.wrap (f - 1))<((p:Nat):Int)∧∃ ag,m=some ag∧(0:Int)≤f∧f<((p:Nat):Int)∧∃ ah,hcell w (Addr.add af (Int.toNat (IntKind.i64.wrap (f - 1)) * 1))=some (.string (mkS ah))∧∃ ai,hcell w (Addr.add ag (Int.toNat f * 1))=some (.string (mkS ai))∧∃ aj,m=some aj∧(0:Int)≤f∧f<((p:Nat):Int)∧∃ ak,stC w (Addr.add aj (Int.toNat f * 1)) 0 [.string (mkS ah)]=some ak∧∃ am,m=some am∧(0:Int)≤(IntKind.i64.wrap (f - 1))∧(IntKind.i64.wrap (f - 1))<((p:Nat):Int)∧∃ an,stC ak (Addr.add am (Int.toNat (IntKind.i64.wrap (f - 1)) * 1)) 0 [.string (mkS ai)]=some an∧bd ((IntKind.i64.wrap (f+1)):Int) fun aq=>(qac.L5 K R1 fuel) m p y z q aa ab aq an)) h)∧((decide (f<q))=false→qac.j2 K R1 m p y z q aa ab h)
termination_by structural n=>n
def qac.L5.l:Live:=[(0,.slice),(1,.int .i64),(2,.int .i64),(7,.int .i64),(8,.int .i64),(10,.int .i64)]
def qac.L5.j (K:KT) (R1:OA→Nat→Nat→Int→Int→Int→Int→Heap→Prop):Nat→Tup qac.L5.l→Heap→Prop:=fun n x h=>qac.L5 K R1 n x.1.1 x.1.2.1 x.1.2.2 x.2.1 x.2.2.1 x.2.2.2.1 x.2.2.2.2.1 x.2.2.2.2.2.1 h
def qac.j4 (K:KT) (R1:OA→Nat→Nat→Int→Int→Int→Int→Heap→Prop) (p:OA) (q:Nat) (w:Nat) (y:Int) (m:Int) (f:Int) (z:Int) (h:Heap):Prop :=
  ((decide ((IntKind.i64.wrap (m - f)) ≥ 2))=true→bd ((IntKind.i64.wrap (f+1)):Int) fun aa=>∃ fuel28,qac.L5 K R1 fuel28 p q w y m f z aa h)∧((decide ((IntKind.i64.wrap (m - f)) ≥ 2))=false→qac.j2 K R1 p q w y m f z h)
def qac.j4.l:Live:=[(0,.slice),(1,.int .i64),(2,.int .i64),(7,.int .i64),(8,.int .i64)]
def qac.j4.j (K:KT) (R1:OA→Nat→Nat→Int→Int→Int→Int→Heap→Prop):Tup qac.j4.l→Heap→Prop:=fun x h=>qac.j4 K R1 x.1.1 x.1.2.1 x.1.2.2 x.2.1 x.2.2.1 x.2.2.2.1 x.2.2.2.2.1 h
def qac.L6 (K:KT) (R1:OA→Nat→Nat→Int→Int→Int→Int→Heap→Prop):Nat→OA→Nat→Nat→Int→Int→Int→Int→Int→Heap→Prop
  | 0,_,_,_,_,_,_,_,_,_=>False
  | fuel+1,m,p,w,y,z,aa,ab,f,h=>((decide (f ≥ 1))=true→∃ ad,m=some ad∧(0:Int)≤f∧f<((p:Nat):Int)∧∃ ae,m=some ae∧(0:Int)≤(IntKind.i64.wrap (f - 1))∧(IntKind.i64.wrap (f - 1))<((p:Nat):Int)∧∃ af,hcell h (Addr.add ad (Int.toNat f * 1))=some (.string (mkS af))∧∃ ag,hcell h (Addr.add ae (Int.toNat (IntKind.i64.wrap (f - 1)) * 1))=some (.string (mkS ag))∧CallsH P F.qdl [.string (mkS af),.string (mkS ag)] (fun aq q=>∃ ac,aq=.bool ac∧((!ac)=true→qac.j4 K R1 m p w y z aa ab q)∧((!ac)=false→∃ p37,m=some p37∧(0:Int)≤(IntKind.i64.wrap (f - 1))∧(IntKind.i64.wrap (f - 1))<((p:Nat):Int)∧∃ ah,m=some ah∧(0:Int)≤f∧f<((p:Nat):Int)∧∃ ai,hcell q (Addr.add p37 (Int.toNat (IntKind.i64.wrap (f - 1)) * 1))=some (.string (mkS ai))∧∃ aj,hcell q (Addr.add ah (Int.toNat f * 1))=some (.string (mkS aj))∧∃ ak,m=some ak∧(0:Int)≤f∧f<((p:Nat):Int)∧∃ am,stC q (Addr.add ak (Int.toNat f * 1)) 0 [.string (mkS ai)]=some am∧∃ an,m=some an∧(0:Int)≤(IntKind.i64.wrap (f - 1))∧(IntKind.i64.wrap (f - 1))<((p:Nat):Int)∧∃ ao,stC am (Addr.add an (Int.toNat (IntKind.i64.wrap (f - 1)) * 1)) 0 [.string (mkS aj)]=some ao∧bd ((IntKind.i64.wrap (f - 1)):Int) fun ar=>(qac.L6 K R1 fuel) m p w y z aa ab ar ao)) h)∧((decide (f ≥ 1))=false→qac.j4 K R1 m p w y z aa ab h)
termination_by structural n=>n
def qac.L6.l:Live:=[(0,.slice),(1,.int .i64),(2,.int .i64),(7,.int .i64),(8,.int .i64),(9,.int .i64)]
def qac.L6.j (K:KT) (R1:OA→Nat→Nat→Int→Int→Int→Int→Heap→Prop):Nat→Tup qac.L6.l→Heap→Prop:=fun n x h=>qac.L6 K R1 n x.1.1 x.1.2.1 x.1.2.2 x.2.1 x.2.2.1 x.2.2.2.1 x.2.2.2.2.1 x.2.2.2.2.2.1 h
def qac.j3 (K:KT) (R1:OA→Nat→Nat→Int→Int→Int→Int→Heap→Prop) (m:OA) (p:Nat) (z:Nat) (q:Int) (w:Int) (f:Int) (aa:Int) (h:Heap):Prop :=
  ((f==w)=true→K (.bool true) h)∧((f==w)=false→((decide ((IntKind.i64.wrap (w - q))<50))=true→K (.bool false) h)∧((decide ((IntKind.i64.wrap (w - q))<50))=false→∃ p3,m=some p3∧(0:Int)≤(IntKind.i64.wrap (f - 1))∧(IntKind.i64.wrap (f - 1))<((p:Nat):Int)∧∃ p4,m=some p4∧(0:Int)≤f∧f<((p:Nat):Int)∧∃ s5,hcell h (Addr.add p3 (Int.toNat (IntKind.i64.wrap (f - 1)) * 1))=some (.string (mkS s5))∧∃ s6,hcell h (Addr.add p4 (Int.toNat f * 1))=some (.string (mkS s6))∧∃ p7,m=some p7∧(0:Int)≤f∧f<((p:Nat):Int)∧∃ h8,stC h (Addr.add p7 (Int.toNat f * 1)) 0 [.string (mkS s5)]=some h8∧∃ p9,m=some p9∧(0:Int)≤(IntKind.i64.wrap (f - 1))∧(IntKind.i64.wrap (f - 1))<((p:Nat):Int)∧∃ y,stC h8 (Addr.add p9 (Int.toNat (IntKind.i64.wrap (f - 1)) * 1)) 0 [.string (mkS s6)]=some y∧((decide ((IntKind.i64.wrap (f - q)) ≥ 2))=true→bd ((IntKind.i64.wrap (f - 1)):Int) fun ab=>∃ fuel46,qac.L6 K R1 fuel46 m p z q w f aa ab y)∧((decide ((IntKind.i64.wrap (f - q)) ≥ 2))=false→qac.j4 K R1 m p z q w f aa y)))
def qac.j3.l:Live:=[(0,.slice),(1,.int .i64),(2,.int .i64),(7,.int .i64),(8,.int .i64)]
def qac.j3.j (K:KT) (R1:OA→Nat→Nat→Int→Int→Int→Int→Heap→Prop):Tup qac.j3.l→Heap→Prop:=fun x h=>qac.j3 K R1 x.1.1 x.1.2.1 x.1.2.2 x.2.1 x.2.2.1 x.2.2.2.1 x.2.2.2.2.1 h
def qac.j8 (K:KT) (R1:OA→Nat→Nat→Int→Int→Int→Int→Heap→Prop) (R7:OA→Nat→Nat→Int→Int→Int→Int→Heap→Prop) (f:OA) (m:Nat) (p:Nat) (q:Int) (w:Int) (y:Int) (z:Int) (aa:Bool) (h:Heap):Prop :=
  (aa=true→bd ((IntKind.i64.wrap (y+1)):Int) fun ab=>R7 f m p q w ab z h)∧(aa=false→qac.j3 K R1 f m p q w y z h)
def qac.j8.l:Live:=[(0,.slice),(1,.int .i64),(2,.int .i64),(7,.int .i64),(8,.int .i64),(32,.bool)]
def qac.j8.j (K:KT) (R1:OA→Nat→Nat→Int→Int→Int→Int→Heap→Prop) (R7:OA→Nat→Nat→Int→Int→Int→Int→Heap→Prop):Tup qac.j8.l→Heap→Prop:=fun x h=>qac.j8 K R1 R7 x.1.1 x.1.2.1 x.1.2.2 x.2.1 x.2.2.1 x.2.2.2.1 x.2.2.2.2.1 x.2.2.2.2.2.1 h
def qac.L7 (K:KT) (R1:OA→Nat→Nat→Int→Int→Int→Int→Heap→Prop):Nat→OA→Nat→Nat→Int→Int→Int→Int→Heap→Prop
  | 0,_,_,_,_,_,_,_,_=>False
  | fuel+1,m,p,w,y,q,f,z,h=>((decide (f<q))=true→∃ aa,m=some aa∧(0:Int)≤f∧f<((p:Nat):Int)∧∃ ab,m=some ab∧(0:Int)≤(IntKind.i64.wrap (f - 1))∧(IntKind.i64.wrap (f - 1))<((p:Nat):Int)∧∃ ac,hcell h (Addr.add aa (Int.toNat f * 1))=some (.string (mkS ac))∧∃ ad,hcell h (Addr.add ab (Int.toNat (IntKind.i64.wrap (f - 1)) * 1))=some (.string (mkS ad))∧CallsH P F.qdl [.string (mkS ac),.string (mkS ad)] (fun af ag=>∃ ae,af=.bool ae∧qac.j8 K R1 (qac.L7 K R1 fuel) m p w y q f z (!ae) ag) h)∧((decide (f<q))=false→qac.j8 K R1 (qac.L7 K R1 fuel) m p w y q f z false h)
termination_by structural n=>n
def qac.L7.l:Live:=[(0,.slice),(1,.int .i64),(2,.int .i64),(7,.int .i64),(8,.int .i64)]
def qac.L7.j (K:KT) (R1:OA→Nat→Nat→Int→Int→Int→Int→Heap→Prop):Nat→Tup qac.L7.l→Heap→Prop:=fun n x h=>qac.L7 K R1 n x.1.1 x.1.2.1 x.1.2.2 x.2.1 x.2.2.1 x.2.2.2.1 x.2.2.2.2.1 h
def qac.L1 (K:KT):Nat→OA→Nat→Nat→Int→Int→Int→Int→Heap→Prop
  | 0,_,_,_,_,_,_,_,_=>False
  | fuel+1,m,p,q,w,y,z,f,h=>((decide (f<5))=true→∃ fuel55,qac.L7 K (qac.L1 K fuel) fuel55 m p q w y z f h)∧((decide (f<5))=false→K (.bool false) h)
termination_by structural n=>n
def qac.L1.l:Live:=[(0,.slice),(1,.int .i64),(2,.int .i64),(7,.int .i64),(8,.int .i64)]
def qac.L1.j (K:KT):Nat→Tup qac.L1.l→Heap→Prop:=fun n x h=>qac.L1 K n x.1.1 x.1.2.1 x.1.2.2 x.2.1 x.2.2.1 x.2.2.2.1 x.2.2.2.2.1 h
def qac.p0 (K:KT) (m:OA) (p:Nat) (q:Nat) (f:Int) (w:Int) (h:Heap):Prop :=
  bd ((IntKind.i64.wrap (f+1)):Int) fun y=>∃ fuel56,qac.L1 K fuel56 m p q f w y 0 h
def qac.plan (K:KT):Plan:=(.seq .go (.seq .go (.seq (.seq .go (.block (.loop qac.L1.l (qac.L1.j K) (fun n1=>(.seq .go (.cut qac.j2.l (qac.j2.j K (qac.L1 K n1)) (.block (.cut qac.j3.l (qac.j3.j K (qac.L1 K n1)) (.block (.loop qac.L7.l (qac.L7.j K (qac.L1 K n1)) (fun n7=>(.seq (.cut qac.j8.l (qac.j8.j K (qac.L1 K n1) (qac.L7 K (qac.L1 K n1) n7)) (.orders (.op 0 (.op 1 (.op 2 (.op 3 (.op 4 (.op 5 (.op 6 (.op 8 (.op 9 (.op 10 (.op 11 (.op 7 (.op 12 (.op 13 (.op 14 (.op 15 .nil))))))))))))))))) .go) .go)))) (.seq .go (.seq .go (.seq (.orders (.op 0 (.op 1 (.op 2 (.op 3 (.op 4 (.op 5 (.op 6 (.op 7 (.op 8 (.op 10 (.op 11 (.op 12 (.op 9 (.op 13 (.op 14 (.op 15 (.op 16 (.op 17 .nil))))))))))))))))))) (.cut qac.j4.l (qac.j4.j K (qac.L1 K n1)) (.seq .go (.cond (.seq .go (.block (.loop qac.L6.l (qac.L6.j K (qac.L1 K n1)) (fun n6=>(.seq .go (.seq (.block (.seq (.seq (.orders (.op 0 (.op 1 (.op 2 (.op 4 (.op 5 (.op 6 (.op 7 (.op 3 (.op 8 (.op 9 (.op 10 .nil)))))))))))) .go) (.orders (.op 0 (.op 1 (.op 2 (.op 3 (.op 4 (.op 5 (.op 6 (.op 7 (.op 8 (.op 10 (.op 11 (.op 12 (.op 9 (.op 13 (.op 14 (.op 15 (.op 16 (.op 17 .nil))))))))))))))))))))) .go)))))) .go)) (.seq .go (.cond (.seq .go (.block (.loop qac.L5.l (qac.L5.j K (qac.L1 K n1)) (fun n5=>(.seq .go (.seq (.block (.seq (.seq (.orders (.op 0 (.op 1 (.op 2 (.op 4 (.op 5 (.op 6 (.op 7 (.op 3 (.op 8 (.op 9 (.op 10 .nil)))))))))))) .go) (.orders (.op 0 (.op 1 (.op 2 (.op 3 (.op 4 (.op 5 (.op 6 (.op 7 (.op 8 (.op 10 (.op 11 (.op 12 (.op 9 (.op 13 (.op 14 (.op 15 (.op 16 (.op 17 .nil))))))))))))))))))))) .go)))))) .go)))))))) .go)))))) .go)))
theorem qac.ev_eq:qac.p0=fun K f m p q w h=>Ev P Tryz.f246 (qac.plan K) K [.slice f m p,.int .i64 q,.int .i64 w] h:=by kernel_rfl
theorem qac.obl (K:KT):Obl P Tryz.f246 (qac.plan K) K :=
  obl_of (R:=(∀ x h,¬ (qac.L1.j K) 0 x h)∧ImpN (qac.L1.j K)∧(∀ (n1:Nat),(∀ x h,¬ (qac.L7.j K (qac.L1 K n1)) 0 x h)∧ImpN (qac.L7.j K (qac.L1 K n1))∧(∀ (n7:Nat),DrawOK P Tryz.f246.ntmps (opsAt 5 (bodyOf Tryz.f246)) (.op 0 (.op 1 (.op 2 (.op 3 (.op 4 (.op 5 (.op 6 (.op 8 (.op 9 (.op 10 (.op 11 (.op 7 (.op 12 (.op 13 (.op 14 (.op 15 .nil))))))))))))))))∧Imp (qac.j8.j K (qac.L1 K n1) (qac.L7 K (qac.L1 K n1) n7))∧True)∧Imp (qac.j3.j K (qac.L1 K n1))∧DrawOK P Tryz.f246.ntmps (opsAt 11 (bodyOf Tryz.f246)) (.op 0 (.op 1 (.op 2 (.op 3 (.op 4 (.op 5 (.op 6 (.op 7 (.op 8 (.op 10 (.op 11 (.op 12 (.op 9 (.op 13 (.op 14 (.op 15 (.op 16 (.op 17 .nil))))))))))))))))))∧(∀ x h,¬ (qac.L6.j K (qac.L1 K n1)) 0 x h)∧ImpN (qac.L6.j K (qac.L1 K n1))∧(∀ (n6:Nat),DrawOK P Tryz.f246.ntmps (opsAt 16 (bodyOf Tryz.f246)) (.op 0 (.op 1 (.op 2 (.op 4 (.op 5 (.op 6 (.op 7 (.op 3 (.op 8 (.op 9 (.op 10 .nil)))))))))))∧DrawOK P Tryz.f246.ntmps (opsAt 17 (bodyOf Tryz.f246)) (.op 0 (.op 1 (.op 2 (.op 3 (.op 4 (.op 5 (.op 6 (.op 7 (.op 8 (.op 10 (.op 11 (.op 12 (.op 9 (.op 13 (.op 14 (.op 15 (.op 16 (.op 17 .nil))))))))))))))))))∧True)∧Imp (qac.j4.j K (qac.L1 K n1))∧(∀ x h,¬ (qac.L5.j K (qac.L1 K n1)) 0 x h)∧ImpN (qac.L5.j K (qac.L1 K n1))∧(∀ (n5:Nat),DrawOK P Tryz.f246.ntmps (opsAt 22 (bodyOf Tryz.f246)) (.op 0 (.op 1 (.op 2 (.op 4 (.op 5 (.op 6 (.op 7 (.op 3 (.op 8 (.op 9 (.op 10 .nil)))))))))))∧DrawOK P Tryz.f246.ntmps (opsAt 23 (bodyOf Tryz.f246)) (.op 0 (.op 1 (.op 2 (.op 3 (.op 4 (.op 5 (.op 6 (.op 7 (.op 8 (.op 10 (.op 11 (.op 12 (.op 9 (.op 13 (.op 14 (.op 15 (.op 16 (.op 17 .nil))))))))))))))))))∧True)∧Imp (qac.j2.j K (qac.L1 K n1))∧True)∧True) (by kernel_rfl) ⟨fun _ _ H=>H,impN _,fun _=>⟨fun _ _ H=>H,impN _,fun _=>⟨draw_ok (by kernel_rfl),⟨imp _,trivial⟩⟩,⟨imp _,⟨draw_ok (by kernel_rfl),⟨fun _ _ H=>H,impN _,fun _=>⟨draw_ok (by kernel_rfl),⟨draw_ok (by kernel_rfl),trivial⟩⟩,⟨imp _,⟨fun _ _ H=>H,impN _,fun _=>⟨draw_ok (by kernel_rfl),⟨draw_ok (by kernel_rfl),trivial⟩⟩,⟨imp _,trivial⟩⟩⟩⟩⟩⟩⟩,trivial⟩
theorem qac.ok {K:KT}{f:OA}{m:Nat}{p:Nat}{q:Int}{w:Int}{h:Heap} (H:qac.p0 K f m p q w h):CallsH P F.qac [.slice f m p,.int .i64 q,.int .i64 w] K h :=
  calls_of_Ev (qac.plan K) Tryz.func246 (by kernel_rfl) (qac.obl K) (by rw [qac.ev_eq] at H; exact H)
def qaf.j3 (K:KT) (R1:OA→Nat→Nat→Int→Int→Int→Heap→Prop) (p:OA) (q:Nat) (ad:Nat) (ae:Int) (f:Int) (m:Int) (h:Heap):Prop :=
  ((decide (f > m))=true→K (.int .i64 f) h)∧((decide (f > m))=false→∃ w,p=some w∧(0:Int)≤m∧m<((q:Nat):Int)∧∃ y,p=some y∧(0:Int)≤f∧f<((q:Nat):Int)∧∃ s13,hcell h (Addr.add w (Int.toNat m * 1))=some (.string (mkS s13))∧∃ s14,hcell h (Addr.add y (Int.toNat f * 1))=some (.string (mkS s14))∧∃ z,p=some z∧(0:Int)≤f∧f<((q:Nat):Int)∧∃ aa,stC h (Addr.add z (Int.toNat f * 1)) 0 [.string (mkS s13)]=some aa∧∃ ab,p=some ab∧(0:Int)≤m∧m<((q:Nat):Int)∧∃ ac,stC aa (Addr.add ab (Int.toNat m * 1)) 0 [.string (mkS s14)]=some ac∧bd ((IntKind.i64.wrap (f+1)):Int) fun af=>bd ((IntKind.i64.wrap (m - 1)):Int) fun ag=>R1 p q ad ae af ag ac)
def qaf.j3.l:Live:=[(0,.slice),(1,.int .i64),(9,.int .i64),(10,.int .i64)]
def qaf.j3.j (K:KT) (R1:OA→Nat→Nat→Int→Int→Int→Heap→Prop):Tup qaf.j3.l→Heap→Prop:=fun x h=>qaf.j3 K R1 x.1.1 x.1.2.1 x.1.2.2 x.2.1 x.2.2.1 x.2.2.2.1 h
def qaf.j5 (K:KT) (R1:OA→Nat→Nat→Int→Int→Int→Heap→Prop) (R4:OA→Nat→Nat→Int→Int→Int→Heap→Prop) (f:OA) (m:Nat) (p:Nat) (q:Int) (w:Int) (y:Int) (z:Bool) (h:Heap):Prop :=
  (z=true→bd ((IntKind.i64.wrap (y - 1)):Int) fun aa=>R4 f m p q w aa h)∧(z=false→qaf.j3 K R1 f m p q w y h)
def qaf.j5.l:Live:=[(0,.slice),(1,.int .i64),(9,.int .i64),(10,.int .i64),(59,.bool)]
def qaf.j5.j (K:KT) (R1:OA→Nat→Nat→Int→Int→Int→Heap→Prop) (R4:OA→Nat→Nat→Int→Int→Int→Heap→Prop):Tup qaf.j5.l→Heap→Prop:=fun x h=>qaf.j5 K R1 R4 x.1.1 x.1.2.1 x.1.2.2 x.2.1 x.2.2.1 x.2.2.2.1 x.2.2.2.2.1 h
def qaf.L4 (K:KT) (R1:OA→Nat→Nat→Int→Int→Int→Heap→Prop):Nat→OA→Nat→Nat→Int→Int→Int→Heap→Prop
  | 0,_,_,_,_,_,_,_=>False
  | fuel+1,p,q,y,m,w,f,h=>((decide (w≤f))=true→∃ z,p=some z∧(0:Int)≤m∧m<((q:Nat):Int)∧∃ aa,p=some aa∧(0:Int)≤f∧f<((q:Nat):Int)∧∃ ab,hcell h (Addr.add z (Int.toNat m * 1))=some (.string (mkS ab))∧∃ ac,hcell h (Addr.add aa (Int.toNat f * 1))=some (.string (mkS ac))∧CallsH P F.qdl [.string (mkS ab),.string (mkS ac)] (fun ae af=>∃ ad,ae=.bool ad∧qaf.j5 K R1 (qaf.L4 K R1 fuel) p q y m w f ad af) h)∧((decide (w≤f))=false→qaf.j5 K R1 (qaf.L4 K R1 fuel) p q y m w f false h)
termination_by structural n=>n
def qaf.L4.l:Live:=[(0,.slice),(1,.int .i64),(9,.int .i64),(10,.int .i64)]
def qaf.L4.j (K:KT) (R1:OA→Nat→Nat→Int→Int→Int→Heap→Prop):Nat→Tup qaf.L4.l→Heap→Prop:=fun n x h=>qaf.L4 K R1 n x.1.1 x.1.2.1 x.1.2.2 x.2.1 x.2.2.1 x.2.2.2.1 h
def qaf.j2 (K:KT) (R1:OA→Nat→Nat→Int→Int→Int→Heap→Prop) (f:OA) (m:Nat) (p:Nat) (q:Int) (w:Int) (y:Int) (h:Heap):Prop :=
  ∃ fuel29,qaf.L4 K R1 fuel29 f m p q w y h
def qaf.j2.l:Live:=[(0,.slice),(1,.int .i64),(9,.int .i64),(10,.int .i64)]
def qaf.j2.j (K:KT) (R1:OA→Nat→Nat→Int→Int→Int→Heap→Prop):Tup qaf.j2.l→Heap→Prop:=fun x h=>qaf.j2 K R1 x.1.1 x.1.2.1 x.1.2.2 x.2.1 x.2.2.1 x.2.2.2.1 h
def qaf.j7 (K:KT) (R1:OA→Nat→Nat→Int→Int→Int→Heap→Prop) (R6:OA→Nat→Nat→Int→Int→Int→Heap→Prop) (f:OA) (m:Nat) (p:Nat) (q:Int) (w:Int) (y:Int) (z:Bool) (h:Heap):Prop :=
  (z=true→bd ((IntKind.i64.wrap (w+1)):Int) fun aa=>R6 f m p q aa y h)∧(z=false→qaf.j2 K R1 f m p q w y h)
def qaf.j7.l:Live:=[(0,.slice),(1,.int .i64),(9,.int .i64),(10,.int .i64),(43,.bool)]
def qaf.j7.j (K:KT) (R1:OA→Nat→Nat→Int→Int→Int→Heap→Prop) (R6:OA→Nat→Nat→Int→Int→Int→Heap→Prop):Tup qaf.j7.l→Heap→Prop:=fun x h=>qaf.j7 K R1 R6 x.1.1 x.1.2.1 x.1.2.2 x.2.1 x.2.2.1 x.2.2.2.1 x.2.2.2.2.1 h
def qaf.L6 (K:KT) (R1:OA→Nat→Nat→Int→Int→Int→Heap→Prop):Nat→OA→Nat→Nat→Int→Int→Int→Heap→Prop
  | 0,_,_,_,_,_,_,_=>False
  | fuel+1,p,q,y,m,f,w,h=>((decide (f≤w))=true→∃ z,p=some z∧(0:Int)≤m∧m<((q:Nat):Int)∧∃ aa,p=some aa∧(0:Int)≤f∧f<((q:Nat):Int)∧∃ ab,hcell h (Addr.add z (Int.toNat m * 1))=some (.string (mkS ab))∧∃ ac,hcell h (Addr.add aa (Int.toNat f * 1))=some (.string (mkS ac))∧CallsH P F.qdl [.string (mkS ab),.string (mkS ac)] (fun ae af=>∃ ad,ae=.bool ad∧qaf.j7 K R1 (qaf.L6 K R1 fuel) p q y m f w (!ad) af) h)∧((decide (f≤w))=false→qaf.j7 K R1 (qaf.L6 K R1 fuel) p q y m f w false h)
termination_by structural n=>n
def qaf.L6.l:Live:=[(0,.slice),(1,.int .i64),(9,.int .i64),(10,.int .i64)]
def qaf.L6.j (K:KT) (R1:OA→Nat→Nat→Int→Int→Int→Heap→Prop):Nat→Tup qaf.L6.l→Heap→Prop:=fun n x h=>qaf.L6 K R1 n x.1.1 x.1.2.1 x.1.2.2 x.2.1 x.2.2.1 x.2.2.2.1 h
def qaf.L1 (K:KT):Nat→OA→Nat→Nat→Int→Int→Int→Heap→Prop
  | 0,_,_,_,_,_,_,_=>False
  | fuel+1,f,m,p,q,w,y,h=>∃ fuel38,qaf.L6 K (qaf.L1 K fuel) fuel38 f m p q w y h
termination_by structural n=>n
def qaf.L1.l:Live:=[(0,.slice),(1,.int .i64),(9,.int .i64),(10,.int .i64)]
def qaf.L1.j (K:KT):Nat→Tup qaf.L1.l→Heap→Prop:=fun n x h=>qaf.L1 K n x.1.1 x.1.2.1 x.1.2.2 x.2.1 x.2.2.1 x.2.2.2.1 h
def qaf.p0 (K:KT) (p:OA) (q:Nat) (w:Nat) (f:Int) (y:Int) (m:Int) (h:Heap):Prop :=
  ∃ p1,p=some p1∧(0:Int)≤m∧m<((q:Nat):Int)∧∃ p2,p=some p2∧(0:Int)≤f∧f<((q:Nat):Int)∧∃ s3,hcell h (Addr.add p1 (Int.toNat m * 1))=some (.string (mkS s3))∧∃ s4,hcell h (Addr.add p2 (Int.toNat f * 1))=some (.string (mkS s4))∧∃ p5,p=some p5∧(0:Int)≤f∧f<((q:Nat):Int)∧∃ h6,stC h (Addr.add p5 (Int.toNat f * 1)) 0 [.string (mkS s3)]=some h6∧∃ p7,p=some p7∧(0:Int)≤m∧m<((q:Nat):Int)∧∃ h8,stC h6 (Addr.add p7 (Int.toNat m * 1)) 0 [.string (mkS s4)]=some h8∧bd ((IntKind.i64.wrap (f+1)):Int) fun z=>bd ((IntKind.i64.wrap (y - 1)):Int) fun aa=>∃ fuel39,qaf.L1 K fuel39 p q w f z aa h8
def qaf.plan (K:KT):Plan:=(.seq .go (.seq (.orders (.op 0 (.op 1 (.op 2 (.op 3 (.op 4 (.op 5 (.op 6 (.op 8 (.op 9 (.op 10 (.op 7 (.op 11 (.op 12 (.op 13 (.op 14 (.op 15 .nil))))))))))))))))) (.seq .go (.seq (.block (.loop qaf.L1.l (qaf.L1.j K) (fun n1=>(.block (.cut qaf.j2.l (qaf.j2.j K (qaf.L1 K n1)) (.block (.loop qaf.L6.l (qaf.L6.j K (qaf.L1 K n1)) (fun n6=>(.seq (.cut qaf.j7.l (qaf.j7.j K (qaf.L1 K n1) (qaf.L6 K (qaf.L1 K n1) n6)) (.orders (.op 0 (.op 1 (.op 2 (.op 3 (.op 4 (.op 5 (.op 6 (.op 8 (.op 9 (.op 10 (.op 7 (.op 11 (.op 12 (.op 13 (.op 14 .nil)))))))))))))))) .go) .go)))) (.cut qaf.j3.l (qaf.j3.j K (qaf.L1 K n1)) (.block (.loop qaf.L4.l (qaf.L4.j K (qaf.L1 K n1)) (fun n4=>(.seq (.cut qaf.j5.l (qaf.j5.j K (qaf.L1 K n1) (qaf.L4 K (qaf.L1 K n1) n4)) (.orders (.op 0 (.op 1 (.op 2 (.op 3 (.op 4 (.op 5 (.op 6 (.op 8 (.op 9 (.op 10 (.op 7 (.op 11 (.op 12 (.op 13 .nil))))))))))))))) .go) .go)))) (.seq .go (.seq (.orders (.op 0 (.op 1 (.op 2 (.op 3 (.op 4 (.op 5 (.op 6 (.op 8 (.op 9 (.op 10 (.op 7 (.op 11 (.op 12 (.op 13 (.op 14 (.op 15 .nil))))))))))))))))) .go)))))))) .go))))
theorem qaf.ev_eq:qaf.p0=fun K f m p q w y h=>Ev P Tryz.f248 (qaf.plan K) K [.slice f m p,.int .i64 q,.int .i64 w,.int .i64 y] h:=by kernel_rfl
theorem qaf.obl (K:KT):Obl P Tryz.f248 (qaf.plan K) K :=
  obl_of (R:=DrawOK P Tryz.f248.ntmps (opsAt 1 (bodyOf Tryz.f248)) (.op 0 (.op 1 (.op 2 (.op 3 (.op 4 (.op 5 (.op 6 (.op 8 (.op 9 (.op 10 (.op 7 (.op 11 (.op 12 (.op 13 (.op 14 (.op 15 .nil))))))))))))))))∧(∀ x h,¬ (qaf.L1.j K) 0 x h)∧ImpN (qaf.L1.j K)∧(∀ (n1:Nat),(∀ x h,¬ (qaf.L6.j K (qaf.L1 K n1)) 0 x h)∧ImpN (qaf.L6.j K (qaf.L1 K n1))∧(∀ (n6:Nat),DrawOK P Tryz.f248.ntmps (opsAt 3 (bodyOf Tryz.f248)) (.op 0 (.op 1 (.op 2 (.op 3 (.op 4 (.op 5 (.op 6 (.op 8 (.op 9 (.op 10 (.op 7 (.op 11 (.op 12 (.op 13 (.op 14 .nil)))))))))))))))∧Imp (qaf.j7.j K (qaf.L1 K n1) (qaf.L6 K (qaf.L1 K n1) n6))∧True)∧Imp (qaf.j2.j K (qaf.L1 K n1))∧(∀ x h,¬ (qaf.L4.j K (qaf.L1 K n1)) 0 x h)∧ImpN (qaf.L4.j K (qaf.L1 K n1))∧(∀ (n4:Nat),DrawOK P Tryz.f248.ntmps (opsAt 5 (bodyOf Tryz.f248)) (.op 0 (.op 1 (.op 2 (.op 3 (.op 4 (.op 5 (.op 6 (.op 8 (.op 9 (.op 10 (.op 7 (.op 11 (.op 12 (.op 13 .nil))))))))))))))∧Imp (qaf.j5.j K (qaf.L1 K n1) (qaf.L4 K (qaf.L1 K n1) n4))∧True)∧Imp (qaf.j3.j K (qaf.L1 K n1))∧DrawOK P Tryz.f248.ntmps (opsAt 8 (bodyOf Tryz.f248)) (.op 0 (.op 1 (.op 2 (.op 3 (.op 4 (.op 5 (.op 6 (.op 8 (.op 9 (.op 10 (.op 7 (.op 11 (.op 12 (.op 13 (.op 14 (.op 15 .nil))))))))))))))))∧True)∧True) (by kernel_rfl) ⟨draw_ok (by kernel_rfl),⟨fun _ _ H=>H,impN _,fun _=>⟨fun _ _ H=>H,impN _,fun _=>⟨draw_ok (by kernel_rfl),⟨imp _,trivial⟩⟩,⟨imp _,⟨fun _ _ H=>H,impN _,fun _=>⟨draw_ok (by kernel_rfl),⟨imp _,trivial⟩⟩,⟨imp _,⟨draw_ok (by kernel_rfl),trivial⟩⟩⟩⟩⟩,trivial⟩⟩
theorem qaf.ok {K:KT}{f:OA}{m:Nat}{p:Nat}{q:Int}{w:Int}{y:Int}{h:Heap} (H:qaf.p0 K f m p q w y h):CallsH P F.qaf [.slice f m p,.int .i64 q,.int .i64 w,.int .i64 y] K h :=
  calls_of_Ev (qaf.plan K) Tryz.func248 (by kernel_rfl) (qaf.obl K) (by rw [qaf.ev_eq] at H; exact H)
def qaa.j3 (K:KT) (p:OA) (q:Nat) (af:Nat) (m:Int) (f:Int) (h:Heap):Prop :=
  ∃ w,p=some w∧(0:Int)≤m∧m<((q:Nat):Int)∧∃ y,p=some y∧(0:Int)≤f∧f<((q:Nat):Int)∧∃ z,hcell h (Addr.add w (Int.toNat m * 1))=some (.string (mkS z))∧∃ aa,hcell h (Addr.add y (Int.toNat f * 1))=some (.string (mkS aa))∧∃ ab,p=some ab∧(0:Int)≤f∧f<((q:Nat):Int)∧∃ ac,stC h (Addr.add ab (Int.toNat f * 1)) 0 [.string (mkS z)]=some ac∧∃ ad,p=some ad∧(0:Int)≤m∧m<((q:Nat):Int)∧∃ ae,stC ac (Addr.add ad (Int.toNat m * 1)) 0 [.string (mkS aa)]=some ae∧K (.tuple #[.int .i64 f,.bool false]) ae
def qaa.j3.l:Live:=[(0,.slice),(1,.int .i64),(11,.int .i64)]
def qaa.j3.j (K:KT):Tup qaa.j3.l→Heap→Prop:=fun x h=>qaa.j3 K x.1.1 x.1.2.1 x.1.2.2 x.2.1 x.2.2.1 h
def qaa.j6 (K:KT) (R4:OA→Nat→Nat→Int→Int→Int→Heap→Prop) (p:OA) (q:Nat) (w:Nat) (y:Int) (m:Int) (f:Int) (h:Heap):Prop :=
  ((decide (m > f))=true→qaa.j3 K p q w y f h)∧((decide (m > f))=false→∃ p37,p=some p37∧(0:Int)≤f∧f<((q:Nat):Int)∧∃ z,p=some z∧(0:Int)≤m∧m<((q:Nat):Int)∧∃ aa,hcell h (Addr.add p37 (Int.toNat f * 1))=some (.string (mkS aa))∧∃ ab,hcell h (Addr.add z (Int.toNat m * 1))=some (.string (mkS ab))∧∃ ac,p=some ac∧(0:Int)≤m∧m<((q:Nat):Int)∧∃ ad,stC h (Addr.add ac (Int.toNat m * 1)) 0 [.string (mkS aa)]=some ad∧∃ ae,p=some ae∧(0:Int)≤f∧f<((q:Nat):Int)∧∃ af,stC ad (Addr.add ae (Int.toNat f * 1)) 0 [.string (mkS ab)]=some af∧bd ((IntKind.i64.wrap (m+1)):Int) fun ag=>bd ((IntKind.i64.wrap (f - 1)):Int) fun ah=>R4 p q w y ag ah af)
def qaa.j6.l:Live:=[(0,.slice),(1,.int .i64),(10,.int .i64),(11,.int .i64)]
def qaa.j6.j (K:KT) (R4:OA→Nat→Nat→Int→Int→Int→Heap→Prop):Tup qaa.j6.l→Heap→Prop:=fun x h=>qaa.j6 K R4 x.1.1 x.1.2.1 x.1.2.2 x.2.1 x.2.2.1 x.2.2.2.1 h
def qaa.j8 (K:KT) (R4:OA→Nat→Nat→Int→Int→Int→Heap→Prop) (R7:OA→Nat→Nat→Int→Int→Int→Heap→Prop) (f:OA) (m:Nat) (p:Nat) (q:Int) (w:Int) (y:Int) (z:Bool) (h:Heap):Prop :=
  (z=true→bd ((IntKind.i64.wrap (y - 1)):Int) fun aa=>R7 f m p q w aa h)∧(z=false→qaa.j6 K R4 f m p q w y h)
def qaa.j8.l:Live:=[(0,.slice),(1,.int .i64),(10,.int .i64),(11,.int .i64),(129,.bool)]
def qaa.j8.j (K:KT) (R4:OA→Nat→Nat→Int→Int→Int→Heap→Prop) (R7:OA→Nat→Nat→Int→Int→Int→Heap→Prop):Tup qaa.j8.l→Heap→Prop:=fun x h=>qaa.j8 K R4 R7 x.1.1 x.1.2.1 x.1.2.2 x.2.1 x.2.2.1 x.2.2.2.1 x.2.2.2.2.1 h
def qaa.L7 (K:KT) (R4:OA→Nat→Nat→Int→Int→Int→Heap→Prop):Nat→OA→Nat→Nat→Int→Int→Int→Heap→Prop
  | 0,_,_,_,_,_,_,_=>False
  | fuel+1,p,q,y,m,w,f,h=>((decide (w≤f))=true→∃ z,p=some z∧(0:Int)≤f∧f<((q:Nat):Int)∧∃ aa,p=some aa∧(0:Int)≤m∧m<((q:Nat):Int)∧∃ ab,hcell h (Addr.add z (Int.toNat f * 1))=some (.string (mkS ab))∧∃ ac,hcell h (Addr.add aa (Int.toNat m * 1))=some (.string (mkS ac))∧CallsH P F.qdl [.string (mkS ab),.string (mkS ac)] (fun ae af=>∃ ad,ae=.bool ad∧qaa.j8 K R4 (qaa.L7 K R4 fuel) p q y m w f (!ad) af) h)∧((decide (w≤f))=false→qaa.j8 K R4 (qaa.L7 K R4 fuel) p q y m w f false h)
termination_by structural n=>n
def qaa.L7.l:Live:=[(0,.slice),(1,.int .i64),(10,.int .i64),(11,.int .i64)]
def qaa.L7.j (K:KT) (R4:OA→Nat→Nat→Int→Int→Int→Heap→Prop):Nat→Tup qaa.L7.l→Heap→Prop:=fun n x h=>qaa.L7 K R4 n x.1.1 x.1.2.1 x.1.2.2 x.2.1 x.2.2.1 x.2.2.2.1 h
def qaa.j5 (K:KT) (R4:OA→Nat→Nat→Int→Int→Int→Heap→Prop) (f:OA) (m:Nat) (p:Nat) (q:Int) (w:Int) (y:Int) (h:Heap):Prop :=
  ∃ fuel55,qaa.L7 K R4 fuel55 f m p q w y h
def qaa.j5.l:Live:=[(0,.slice),(1,.int .i64),(10,.int .i64),(11,.int .i64)]
def qaa.j5.j (K:KT) (R4:OA→Nat→Nat→Int→Int→Int→Heap→Prop):Tup qaa.j5.l→Heap→Prop:=fun x h=>qaa.j5 K R4 x.1.1 x.1.2.1 x.1.2.2 x.2.1 x.2.2.1 x.2.2.2.1 h
def qaa.j10 (K:KT) (R4:OA→Nat→Nat→Int→Int→Int→Heap→Prop) (R9:OA→Nat→Nat→Int→Int→Int→Heap→Prop) (f:OA) (m:Nat) (p:Nat) (q:Int) (w:Int) (y:Int) (z:Bool) (h:Heap):Prop :=
  (z=true→bd ((IntKind.i64.wrap (w+1)):Int) fun aa=>R9 f m p q aa y h)∧(z=false→qaa.j5 K R4 f m p q w y h)
def qaa.j10.l:Live:=[(0,.slice),(1,.int .i64),(10,.int .i64),(11,.int .i64),(112,.bool)]
def qaa.j10.j (K:KT) (R4:OA→Nat→Nat→Int→Int→Int→Heap→Prop) (R9:OA→Nat→Nat→Int→Int→Int→Heap→Prop):Tup qaa.j10.l→Heap→Prop:=fun x h=>qaa.j10 K R4 R9 x.1.1 x.1.2.1 x.1.2.2 x.2.1 x.2.2.1 x.2.2.2.1 x.2.2.2.2.1 h
def qaa.L9 (K:KT) (R4:OA→Nat→Nat→Int→Int→Int→Heap→Prop):Nat→OA→Nat→Nat→Int→Int→Int→Heap→Prop
  | 0,_,_,_,_,_,_,_=>False
  | fuel+1,p,q,y,m,f,w,h=>((decide (f≤w))=true→∃ z,p=some z∧(0:Int)≤f∧f<((q:Nat):Int)∧∃ aa,p=some aa∧(0:Int)≤m∧m<((q:Nat):Int)∧∃ ab,hcell h (Addr.add z (Int.toNat f * 1))=some (.string (mkS ab))∧∃ ac,hcell h (Addr.add aa (Int.toNat m * 1))=some (.string (mkS ac))∧CallsH P F.qdl [.string (mkS ab),.string (mkS ac)] (fun ae af=>∃ ad,ae=.bool ad∧qaa.j10 K R4 (qaa.L9 K R4 fuel) p q y m f w ad af) h)∧((decide (f≤w))=false→qaa.j10 K R4 (qaa.L9 K R4 fuel) p q y m f w false h)
termination_by structural n=>n
def qaa.L9.l:Live:=[(0,.slice),(1,.int .i64),(10,.int .i64),(11,.int .i64)]
def qaa.L9.j (K:KT) (R4:OA→Nat→Nat→Int→Int→Int→Heap→Prop):Nat→Tup qaa.L9.l→Heap→Prop:=fun n x h=>qaa.L9 K R4 n x.1.1 x.1.2.1 x.1.2.2 x.2.1 x.2.2.1 x.2.2.2.1 h
def qaa.L4 (K:KT):Nat→OA→Nat→Nat→Int→Int→Int→Heap→Prop
  | 0,_,_,_,_,_,_,_=>False
  | fuel+1,f,m,p,q,w,y,h=>∃ fuel64,qaa.L9 K (qaa.L4 K fuel) fuel64 f m p q w y h
termination_by structural n=>n
def qaa.L4.l:Live:=[(0,.slice),(1,.int .i64),(10,.int .i64),(11,.int .i64)]
def qaa.L4.j (K:KT):Nat→Tup qaa.L4.l→Heap→Prop:=fun n x h=>qaa.L4 K n x.1.1 x.1.2.1 x.1.2.2 x.2.1 x.2.2.1 x.2.2.2.1 h
def qaa.j2 (K:KT) (m:OA) (p:Nat) (an:Nat) (w:Int) (q:Int) (f:Int) (h:Heap):Prop :=
  ((decide (q > f))=true→∃ y,m=some y∧(0:Int)≤w∧w<((p:Nat):Int)∧∃ z,m=some z∧(0:Int)≤f∧f<((p:Nat):Int)∧∃ s13,hcell h (Addr.add y (Int.toNat w * 1))=some (.string (mkS s13))∧∃ s14,hcell h (Addr.add z (Int.toNat f * 1))=some (.string (mkS s14))∧∃ aa,m=some aa∧(0:Int)≤f∧f<((p:Nat):Int)∧∃ ab,stC h (Addr.add aa (Int.toNat f * 1)) 0 [.string (mkS s13)]=some ab∧∃ ac,m=some ac∧(0:Int)≤w∧w<((p:Nat):Int)∧∃ ad,stC ab (Addr.add ac (Int.toNat w * 1)) 0 [.string (mkS s14)]=some ad∧K (.tuple #[.int .i64 f,.bool true]) ad)∧((decide (q > f))=false→∃ ae,m=some ae∧(0:Int)≤f∧f<((p:Nat):Int)∧∃ af,m=some af∧(0:Int)≤q∧q<((p:Nat):Int)∧∃ ag,hcell h (Addr.add ae (Int.toNat f * 1))=some (.string (mkS ag))∧∃ ah,hcell h (Addr.add af (Int.toNat q * 1))=some (.string (mkS ah))∧∃ ai,m=some ai∧(0:Int)≤q∧q<((p:Nat):Int)∧∃ aj,stC h (Addr.add ai (Int.toNat q * 1)) 0 [.string (mkS ag)]=some aj∧∃ ak,m=some ak∧(0:Int)≤f∧f<((p:Nat):Int)∧∃ am,stC aj (Addr.add ak (Int.toNat f * 1)) 0 [.string (mkS ah)]=some am∧bd ((IntKind.i64.wrap (q+1)):Int) fun ao=>bd ((IntKind.i64.wrap (f - 1)):Int) fun aq=>∃ fuel65,qaa.L4 K fuel65 m p an w ao aq am)
def qaa.j2.l:Live:=[(0,.slice),(1,.int .i64),(10,.int .i64),(11,.int .i64)]
def qaa.j2.j (K:KT):Tup qaa.j2.l→Heap→Prop:=fun x h=>qaa.j2 K x.1.1 x.1.2.1 x.1.2.2 x.2.1 x.2.2.1 x.2.2.2.1 h
def qaa.j12 (K:KT) (R11:OA→Nat→Nat→Int→Int→Int→Heap→Prop) (f:OA) (m:Nat) (p:Nat) (q:Int) (w:Int) (y:Int) (z:Bool) (h:Heap):Prop :=
  (z=true→bd ((IntKind.i64.wrap (y - 1)):Int) fun aa=>R11 f m p q w aa h)∧(z=false→qaa.j2 K f m p q w y h)
def qaa.j12.l:Live:=[(0,.slice),(1,.int .i64),(10,.int .i64),(11,.int .i64),(60,.bool)]
def qaa.j12.j (K:KT) (R11:OA→Nat→Nat→Int→Int→Int→Heap→Prop):Tup qaa.j12.l→Heap→Prop:=fun x h=>qaa.j12 K R11 x.1.1 x.1.2.1 x.1.2.2 x.2.1 x.2.2.1 x.2.2.2.1 x.2.2.2.2.1 h
def qaa.L11 (K:KT):Nat→OA→Nat→Nat→Int→Int→Int→Heap→Prop
  | 0,_,_,_,_,_,_,_=>False
  | fuel+1,p,q,y,m,w,f,h=>((decide (w≤f))=true→∃ z,p=some z∧(0:Int)≤f∧f<((q:Nat):Int)∧∃ aa,p=some aa∧(0:Int)≤m∧m<((q:Nat):Int)∧∃ ab,hcell h (Addr.add z (Int.toNat f * 1))=some (.string (mkS ab))∧∃ ac,hcell h (Addr.add aa (Int.toNat m * 1))=some (.string (mkS ac))∧CallsH P F.qdl [.string (mkS ab),.string (mkS ac)] (fun ae af=>∃ ad,ae=.bool ad∧qaa.j12 K (qaa.L11 K fuel) p q y m w f (!ad) af) h)∧((decide (w≤f))=false→qaa.j12 K (qaa.L11 K fuel) p q y m w f false h)
termination_by structural n=>n
def qaa.L11.l:Live:=[(0,.slice),(1,.int .i64),(10,.int .i64),(11,.int .i64)]
def qaa.L11.j (K:KT):Nat→Tup qaa.L11.l→Heap→Prop:=fun n x h=>qaa.L11 K n x.1.1 x.1.2.1 x.1.2.2 x.2.1 x.2.2.1 x.2.2.2.1 h
def qaa.j1 (K:KT) (f:OA) (m:Nat) (p:Nat) (q:Int) (w:Int) (y:Int) (h:Heap):Prop :=
  ∃ fuel74,qaa.L11 K fuel74 f m p q w y h
def qaa.j1.l:Live:=[(0,.slice),(1,.int .i64),(10,.int .i64),(11,.int .i64)]
def qaa.j1.j (K:KT):Tup qaa.j1.l→Heap→Prop:=fun x h=>qaa.j1 K x.1.1 x.1.2.1 x.1.2.2 x.2.1 x.2.2.1 x.2.2.2.1 h
def qaa.j14 (K:KT) (R13:OA→Nat→Nat→Int→Int→Int→Heap→Prop) (f:OA) (m:Nat) (p:Nat) (q:Int) (w:Int) (y:Int) (z:Bool) (h:Heap):Prop :=
  (z=true→bd ((IntKind.i64.wrap (w+1)):Int) fun aa=>R13 f m p q aa y h)∧(z=false→qaa.j1 K f m p q w y h)
def qaa.j14.l:Live:=[(0,.slice),(1,.int .i64),(10,.int .i64),(11,.int .i64),(43,.bool)]
def qaa.j14.j (K:KT) (R13:OA→Nat→Nat→Int→Int→Int→Heap→Prop):Tup qaa.j14.l→Heap→Prop:=fun x h=>qaa.j14 K R13 x.1.1 x.1.2.1 x.1.2.2 x.2.1 x.2.2.1 x.2.2.2.1 x.2.2.2.2.1 h
def qaa.L13 (K:KT):Nat→OA→Nat→Nat→Int→Int→Int→Heap→Prop
  | 0,_,_,_,_,_,_,_=>False
  | fuel+1,p,q,y,m,f,w,h=>((decide (f≤w))=true→∃ z,p=some z∧(0:Int)≤f∧f<((q:Nat):Int)∧∃ aa,p=some aa∧(0:Int)≤m∧m<((q:Nat):Int)∧∃ ab,hcell h (Addr.add z (Int.toNat f * 1))=some (.string (mkS ab))∧∃ ac,hcell h (Addr.add aa (Int.toNat m * 1))=some (.string (mkS ac))∧CallsH P F.qdl [.string (mkS ab),.string (mkS ac)] (fun ae af=>∃ ad,ae=.bool ad∧qaa.j14 K (qaa.L13 K fuel) p q y m f w ad af) h)∧((decide (f≤w))=false→qaa.j14 K (qaa.L13 K fuel) p q y m f w false h)
termination_by structural n=>n
def qaa.L13.l:Live:=[(0,.slice),(1,.int .i64),(10,.int .i64),(11,.int .i64)]
def qaa.L13.j (K:KT):Nat→Tup qaa.L13.l→Heap→Prop:=fun n x h=>qaa.L13 K n x.1.1 x.1.2.1 x.1.2.2 x.2.1 x.2.2.1 x.2.2.2.1 h
def qaa.p0 (K:KT) (p:OA) (q:Nat) (w:Nat) (f:Int) (y:Int) (m:Int) (h:Heap):Prop :=
  ∃ p1,p=some p1∧(0:Int)≤m∧m<((q:Nat):Int)∧∃ p2,p=some p2∧(0:Int)≤f∧f<((q:Nat):Int)∧∃ s3,hcell h (Addr.add p1 (Int.toNat m * 1))=some (.string (mkS s3))∧∃ s4,hcell h (Addr.add p2 (Int.toNat f * 1))=some (.string (mkS s4))∧∃ p5,p=some p5∧(0:Int)≤f∧f<((q:Nat):Int)∧∃ h6,stC h (Addr.add p5 (Int.toNat f * 1)) 0 [.string (mkS s3)]=some h6∧∃ p7,p=some p7∧(0:Int)≤m∧m<((q:Nat):Int)∧∃ h8,stC h6 (Addr.add p7 (Int.toNat m * 1)) 0 [.string (mkS s4)]=some h8∧bd ((IntKind.i64.wrap (f+1)):Int) fun z=>bd ((IntKind.i64.wrap (y - 1)):Int) fun aa=>∃ fuel83,qaa.L13 K fuel83 p q w f z aa h8
def qaa.plan (K:KT):Plan:=(.seq .go (.seq (.orders (.op 0 (.op 1 (.op 2 (.op 3 (.op 4 (.op 5 (.op 6 (.op 8 (.op 9 (.op 10 (.op 7 (.op 11 (.op 12 (.op 13 (.op 14 (.op 15 .nil))))))))))))))))) (.seq .go (.cut qaa.j1.l (qaa.j1.j K) (.block (.loop qaa.L13.l (qaa.L13.j K) (fun f=>(.seq (.cut qaa.j14.l (qaa.j14.j K (qaa.L13 K f)) (.orders (.op 0 (.op 1 (.op 2 (.op 3 (.op 4 (.op 5 (.op 6 (.op 8 (.op 9 (.op 10 (.op 7 (.op 11 (.op 12 (.op 13 .nil))))))))))))))) .go) .go)))) (.cut qaa.j2.l (qaa.j2.j K) (.block (.loop qaa.L11.l (qaa.L11.j K) (fun m=>(.seq (.cut qaa.j12.l (qaa.j12.j K (qaa.L11 K m)) (.orders (.op 0 (.op 1 (.op 2 (.op 3 (.op 4 (.op 5 (.op 6 (.op 8 (.op 9 (.op 10 (.op 7 (.op 11 (.op 12 (.op 13 (.op 14 .nil)))))))))))))))) .go) .go)))) (.seq (.seq .go (.cond (.seq (.orders (.op 0 (.op 1 (.op 2 (.op 3 (.op 4 (.op 5 (.op 6 (.op 8 (.op 9 (.op 10 (.op 7 (.op 11 (.op 12 (.op 13 (.op 14 (.op 15 .nil))))))))))))))))) .go) .go)) (.seq (.orders (.op 0 (.op 1 (.op 2 (.op 3 (.op 4 (.op 5 (.op 6 (.op 8 (.op 9 (.op 10 (.op 7 (.op 11 (.op 12 (.op 13 (.op 14 (.op 15 .nil))))))))))))))))) (.seq .go (.seq .go (.cut qaa.j3.l (qaa.j3.j K) (.block (.loop qaa.L4.l (qaa.L4.j K) (fun n4=>(.block (.cut qaa.j5.l (qaa.j5.j K (qaa.L4 K n4)) (.block (.loop qaa.L9.l (qaa.L9.j K (qaa.L4 K n4)) (fun n9=>(.seq (.cut qaa.j10.l (qaa.j10.j K (qaa.L4 K n4) (qaa.L9 K (qaa.L4 K n4) n9)) (.orders (.op 0 (.op 1 (.op 2 (.op 3 (.op 4 (.op 5 (.op 6 (.op 8 (.op 9 (.op 10 (.op 7 (.op 11 (.op 12 (.op 13 .nil))))))))))))))) .go) .go)))) (.cut qaa.j6.l (qaa.j6.j K (qaa.L4 K n4)) (.block (.loop qaa.L7.l (qaa.L7.j K (qaa.L4 K n4)) (fun n7=>(.seq (.cut qaa.j8.l (qaa.j8.j K (qaa.L4 K n4) (qaa.L7 K (qaa.L4 K n4) n7)) (.orders (.op 0 (.op 1 (.op 2 (.op 3 (.op 4 (.op 5 (.op 6 (.op 8 (.op 9 (.op 10 (.op 7 (.op 11 (.op 12 (.op 13 (.op 14 .nil)))))))))))))))) .go) .go)))) (.seq .go (.seq (.orders (.op 0 (.op 1 (.op 2 (.op 3 (.op 4 (.op 5 (.op 6 (.op 8 (.op 9 (.op 10 (.op 7 (.op 11 (.op 12 (.op 13 (.op 14 (.op 15 .nil))))))))))))))))) .go)))))))) (.seq (.orders (.op 0 (.op 1 (.op 2 (.op 3 (.op 4 (.op 5 (.op 6 (.op 8 (.op 9 (.op 10 (.op 7 (.op 11 (.op 12 (.op 13 (.op 14 (.op 15 .nil))))))))))))))))) .go)))))))))))
theorem qaa.ev_eq:qaa.p0=fun K f m p q w y h=>Ev P Tryz.f249 (qaa.plan K) K [.slice f m p,.int .i64 q,.int .i64 w,.int .i64 y] h:=by kernel_rfl
theorem qaa.obl (K:KT):Obl P Tryz.f249 (qaa.plan K) K :=
  obl_of (R:=DrawOK P Tryz.f249.ntmps (opsAt 1 (bodyOf Tryz.f249)) (.op 0 (.op 1 (.op 2 (.op 3 (.op 4 (.op 5 (.op 6 (.op 8 (.op 9 (.op 10 (.op 7 (.op 11 (.op 12 (.op 13 (.op 14 (.op 15 .nil))))))))))))))))∧(∀ x h,¬ (qaa.L13.j K) 0 x h)∧ImpN (qaa.L13.j K)∧(∀ (f:Nat),DrawOK P Tryz.f249.ntmps (opsAt 3 (bodyOf Tryz.f249)) (.op 0 (.op 1 (.op 2 (.op 3 (.op 4 (.op 5 (.op 6 (.op 8 (.op 9 (.op 10 (.op 7 (.op 11 (.op 12 (.op 13 .nil))))))))))))))∧Imp (qaa.j14.j K (qaa.L13 K f))∧True)∧Imp (qaa.j1.j K)∧(∀ x h,¬ (qaa.L11.j K) 0 x h)∧ImpN (qaa.L11.j K)∧(∀ (m:Nat),DrawOK P Tryz.f249.ntmps (opsAt 5 (bodyOf Tryz.f249)) (.op 0 (.op 1 (.op 2 (.op 3 (.op 4 (.op 5 (.op 6 (.op 8 (.op 9 (.op 10 (.op 7 (.op 11 (.op 12 (.op 13 (.op 14 .nil)))))))))))))))∧Imp (qaa.j12.j K (qaa.L11 K m))∧True)∧Imp (qaa.j2.j K)∧DrawOK P Tryz.f249.ntmps (opsAt 8 (bodyOf Tryz.f249)) (.op 0 (.op 1 (.op 2 (.op 3 (.op 4 (.op 5 (.op 6 (.op 8 (.op 9 (.op 10 (.op 7 (.op 11 (.op 12 (.op 13 (.op 14 (.op 15 .nil))))))))))))))))∧DrawOK P Tryz.f249.ntmps (opsAt 10 (bodyOf Tryz.f249)) (.op 0 (.op 1 (.op 2 (.op 3 (.op 4 (.op 5 (.op 6 (.op 8 (.op 9 (.op 10 (.op 7 (.op 11 (.op 12 (.op 13 (.op 14 (.op 15 .nil))))))))))))))))∧(∀ x h,¬ (qaa.L4.j K) 0 x h)∧ImpN (qaa.L4.j K)∧(∀ (n4:Nat),(∀ x h,¬ (qaa.L9.j K (qaa.L4 K n4)) 0 x h)∧ImpN (qaa.L9.j K (qaa.L4 K n4))∧(∀ (n9:Nat),DrawOK P Tryz.f249.ntmps (opsAt 13 (bodyOf Tryz.f249)) (.op 0 (.op 1 (.op 2 (.op 3 (.op 4 (.op 5 (.op 6 (.op 8 (.op 9 (.op 10 (.op 7 (.op 11 (.op 12 (.op 13 .nil))))))))))))))∧Imp (qaa.j10.j K (qaa.L4 K n4) (qaa.L9 K (qaa.L4 K n4) n9))∧True)∧Imp (qaa.j5.j K (qaa.L4 K n4))∧(∀ x h,¬ (qaa.L7.j K (qaa.L4 K n4)) 0 x h)∧ImpN (qaa.L7.j K (qaa.L4 K n4))∧(∀ (n7:Nat),DrawOK P Tryz.f249.ntmps (opsAt 15 (bodyOf Tryz.f249)) (.op 0 (.op 1 (.op 2 (.op 3 (.op 4 (.op 5 (.op 6 (.op 8 (.op 9 (.op 10 (.op 7 (.op 11 (.op 12 (.op 13 (.op 14 .nil)))))))))))))))∧Imp (qaa.j8.j K (qaa.L4 K n4) (qaa.L7 K (qaa.L4 K n4) n7))∧True)∧Imp (qaa.j6.j K (qaa.L4 K n4))∧DrawOK P Tryz.f249.ntmps (opsAt 18 (bodyOf Tryz.f249)) (.op 0 (.op 1 (.op 2 (.op 3 (.op 4 (.op 5 (.op 6 (.op 8 (.op 9 (.op 10 (.op 7 (.op 11 (.op 12 (.op 13 (.op 14 (.op 15 .nil))))))))))))))))∧True)∧Imp (qaa.j3.j K)∧DrawOK P Tryz.f249.ntmps (opsAt 21 (bodyOf Tryz.f249)) (.op 0 (.op 1 (.op 2 (.op 3 (.op 4 (.op 5 (.op 6 (.op 8 (.op 9 (.op 10 (.op 7 (.op 11 (.op 12 (.op 13 (.op 14 (.op 15 .nil))))))))))))))))∧True) (by kernel_rfl) ⟨draw_ok (by kernel_rfl),⟨fun _ _ H=>H,impN _,fun _=>⟨draw_ok (by kernel_rfl),⟨imp _,trivial⟩⟩,⟨imp _,⟨fun _ _ H=>H,impN _,fun _=>⟨draw_ok (by kernel_rfl),⟨imp _,trivial⟩⟩,⟨imp _,⟨draw_ok (by kernel_rfl),⟨draw_ok (by kernel_rfl),⟨fun _ _ H=>H,impN _,fun _=>⟨fun _ _ H=>H,impN _,fun _=>⟨draw_ok (by kernel_rfl),⟨imp _,trivial⟩⟩,⟨imp _,⟨fun _ _ H=>H,impN _,fun _=>⟨draw_ok (by kernel_rfl),⟨imp _,trivial⟩⟩,⟨imp _,⟨draw_ok (by kernel_rfl),trivial⟩⟩⟩⟩⟩,⟨imp _,⟨draw_ok (by kernel_rfl),trivial⟩⟩⟩⟩⟩⟩⟩⟩⟩⟩
theorem qaa.ok {K:KT}{f:OA}{m:Nat}{p:Nat}{q:Int}{w:Int}{y:Int}{h:Heap} (H:qaa.p0 K f m p q w y h):CallsH P F.qaa [.slice f m p,.int .i64 q,.int .i64 w,.int .i64 y] K h :=
  calls_of_Ev (qaa.plan K) Tryz.func249 (by kernel_rfl) (qaa.obl K) (by rw [qaa.ev_eq] at H; exact H)
def qai.j5 (K:KT) (R1:OA→Nat→Nat→Int→Int→Int→Bool→Bool→Heap→Prop) (f:OA) (m:Nat) (p:Nat) (y:Int) (w:Int) (z:Int) (ai:Bool) (aj:Bool) (ak:Int) (ad:Int) (ae:Bool) (h:Heap):Prop :=
  (ae=true→CallsH P F.qaf [.slice f m p,.int .i64 y,.int .i64 w,.int .i64 ad] (fun am an=>∃ af,am=.int .i64 af∧R1 f m p af w z ai aj an) h)∧(ae=false→CallsH P F.qaa [.slice f m p,.int .i64 y,.int .i64 w,.int .i64 ad] (fun ao ag=>∃ q aa,ao=.tuple #[.int .i64 q,.bool aa]∧bd ((IntKind.i64.wrap (q - y)):Int) fun ab=>bd ((IntKind.i64.wrap (w - q)):Int) fun ac=>(8:Int)≠0∧bd ((IntKind.i64.wrap (Int.tdiv ak 8)):Int) fun ah=>((decide (ab<ac))=true→bd ((decide (ab ≥ ah)):Bool) fun aq=>CallsH P F.qai [.slice f m p,.int .i64 y,.int .i64 q,.int .i64 z] (fun ar au=>ar=.tuple #[]∧bd ((IntKind.i64.wrap (q+1)):Int) fun av=>R1 f m p av w z aq aa au) ag)∧((decide (ab<ac))=false→bd ((decide (ac ≥ ah)):Bool) fun aw=>CallsH P F.qai [.slice f m p,.int .i64 (IntKind.i64.wrap (q+1)),.int .i64 w,.int .i64 z] (fun ax ay=>ax=.tuple #[]∧R1 f m p y q z aw aa ay) ag)) h)
def qai.j5.l:Live:=[(0,.slice),(1,.int .i64),(2,.int .i64),(3,.int .i64),(8,.bool),(9,.bool),(10,.int .i64),(11,.int .i64),(87,.bool)]
def qai.j5.j (K:KT) (R1:OA→Nat→Nat→Int→Int→Int→Bool→Bool→Heap→Prop):Tup qai.j5.l→Heap→Prop:=fun x h=>qai.j5 K R1 x.1.1 x.1.2.1 x.1.2.2 x.2.1 x.2.2.1 x.2.2.2.1 x.2.2.2.2.1 x.2.2.2.2.2.1 x.2.2.2.2.2.2.1 x.2.2.2.2.2.2.2.1 x.2.2.2.2.2.2.2.2.1 h
def qai.j4 (K:KT) (R1:OA→Nat→Nat→Int→Int→Int→Bool→Bool→Heap→Prop) (p:OA) (q:Nat) (w:Nat) (f:Int) (y:Int) (z:Int) (aa:Bool) (ab:Bool) (ac:Int) (m:Int) (h:Heap):Prop :=
  ((decide (f > 0))=true→∃ p27,p=some p27∧(0:Int)≤(IntKind.i64.wrap (f - 1))∧(IntKind.i64.wrap (f - 1))<((q:Nat):Int)∧∃ ad,p=some ad∧(0:Int)≤m∧m<((q:Nat):Int)∧∃ ae,hcell h (Addr.add p27 (Int.toNat (IntKind.i64.wrap (f - 1)) * 1))=some (.string (mkS ae))∧∃ af,hcell h (Addr.add ad (Int.toNat m * 1))=some (.string (mkS af))∧CallsH P F.qdl [.string (mkS ae),.string (mkS af)] (fun ah ai=>∃ ag,ah=.bool ag∧qai.j5 K R1 p q w f y z aa ab ac m (!ag) ai) h)∧((decide (f > 0))=false→qai.j5 K R1 p q w f y z aa ab ac m false h)
def qai.j4.l:Live:=[(0,.slice),(1,.int .i64),(2,.int .i64),(3,.int .i64),(8,.bool),(9,.bool),(10,.int .i64),(11,.int .i64)]
def qai.j4.j (K:KT) (R1:OA→Nat→Nat→Int→Int→Int→Bool→Bool→Heap→Prop):Tup qai.j4.l→Heap→Prop:=fun x h=>qai.j4 K R1 x.1.1 x.1.2.1 x.1.2.2 x.2.1 x.2.2.1 x.2.2.2.1 x.2.2.2.2.1 x.2.2.2.2.2.1 x.2.2.2.2.2.2.1 x.2.2.2.2.2.2.2.1 h
def qai.j6 (K:KT) (R1:OA→Nat→Nat→Int→Int→Int→Bool→Bool→Heap→Prop) (f:OA) (m:Nat) (p:Nat) (q:Int) (w:Int) (z:Int) (aa:Bool) (ab:Bool) (ac:Int) (ad:Int) (ae:Bool) (h:Heap):Prop :=
  (ae=true→CallsH P F.qac [.slice f m p,.int .i64 q,.int .i64 w] (fun ag af=>∃ y,ag=.bool y∧(y=true→K (.tuple #[]) af)∧(y=false→qai.j4 K R1 f m p q w z aa ab ac ad af)) h)∧(ae=false→qai.j4 K R1 f m p q w z aa ab ac ad h)
def qai.j6.l:Live:=[(0,.slice),(1,.int .i64),(2,.int .i64),(3,.int .i64),(8,.bool),(9,.bool),(10,.int .i64),(11,.int .i64),(68,.bool)]
def qai.j6.j (K:KT) (R1:OA→Nat→Nat→Int→Int→Int→Bool→Bool→Heap→Prop):Tup qai.j6.l→Heap→Prop:=fun x h=>qai.j6 K R1 x.1.1 x.1.2.1 x.1.2.2 x.2.1 x.2.2.1 x.2.2.2.1 x.2.2.2.2.1 x.2.2.2.2.2.1 x.2.2.2.2.2.2.1 x.2.2.2.2.2.2.2.1 x.2.2.2.2.2.2.2.2.1 h
def qai.j3 (K:KT) (R1:OA→Nat→Nat→Int→Int→Int→Bool→Bool→Heap→Prop) (p:OA) (q:Nat) (w:Nat) (y:Int) (z:Int) (aa:Int) (f:Bool) (m:Bool) (ab:Int) (ac:Int) (ad:Int) (h:Heap):Prop :=
  (f=true→(m=true→qai.j6 K R1 p q w y z aa f m ab ac (ad==1) h)∧(m=false→qai.j6 K R1 p q w y z aa f m ab ac false h))∧(f=false→qai.j6 K R1 p q w y z aa f m ab ac false h)
def qai.j3.l:Live:=[(0,.slice),(1,.int .i64),(2,.int .i64),(3,.int .i64),(8,.bool),(9,.bool),(10,.int .i64),(11,.int .i64),(12,.int .i64)]
def qai.j3.j (K:KT) (R1:OA→Nat→Nat→Int→Int→Int→Bool→Bool→Heap→Prop):Tup qai.j3.l→Heap→Prop:=fun x h=>qai.j3 K R1 x.1.1 x.1.2.1 x.1.2.2 x.2.1 x.2.2.1 x.2.2.2.1 x.2.2.2.2.1 x.2.2.2.2.2.1 x.2.2.2.2.2.2.1 x.2.2.2.2.2.2.2.1 x.2.2.2.2.2.2.2.2.1 h
def qai.j2 (K:KT) (R1:OA→Nat→Nat→Int→Int→Int→Bool→Bool→Heap→Prop) (p:OA) (q:Nat) (w:Nat) (f:Int) (m:Int) (y:Int) (z:Bool) (aa:Bool) (ab:Int) (h:Heap):Prop :=
  CallsH P F.qbd [.slice p q w,.int .i64 f,.int .i64 m] (fun v6 h7=>∃ n8 n9,v6=.tuple #[.int .i64 n8,.int .i64 n9]∧((n9==2)=true→CallsH P F.qbj [.slice p q w,.int .i64 f,.int .i64 m] (fun ac ad=>ac=.tuple #[]∧bd ((IntKind.i64.wrap ((IntKind.i64.wrap (m - 1)) - (IntKind.i64.wrap (n8 - f)))):Int) fun ae=>qai.j3 K R1 p q w f m y z aa ab ae 1 ad) h7)∧((n9==2)=false→qai.j3 K R1 p q w f m y z aa ab n8 n9 h7)) h
def qai.j2.l:Live:=[(0,.slice),(1,.int .i64),(2,.int .i64),(3,.int .i64),(8,.bool),(9,.bool),(10,.int .i64)]
def qai.j2.j (K:KT) (R1:OA→Nat→Nat→Int→Int→Int→Bool→Bool→Heap→Prop):Tup qai.j2.l→Heap→Prop:=fun x h=>qai.j2 K R1 x.1.1 x.1.2.1 x.1.2.2 x.2.1 x.2.2.1 x.2.2.2.1 x.2.2.2.2.1 x.2.2.2.2.2.1 x.2.2.2.2.2.2.1 h
def qai.L1 (K:KT):Nat→OA→Nat→Nat→Int→Int→Int→Bool→Bool→Heap→Prop
  | 0,_,_,_,_,_,_,_,_,_=>False
  | fuel+1,p,q,w,f,m,y,z,ab,h=>bd ((IntKind.i64.wrap (m - f)):Int) fun aa=>((decide (aa≤12))=true→CallsH P F.qam [.slice p q w,.int .i64 f,.int .i64 m] (fun v2 h3=>v2=.tuple #[]∧K (.tuple #[]) h3) h)∧((decide (aa≤12))=false→((y==0)=true→CallsH P F.qay [.slice p q w,.int .i64 f,.int .i64 m] (fun v4 h5=>v4=.tuple #[]∧K (.tuple #[]) h5) h)∧((y==0)=false→((!z)=true→CallsH P F.qax [.slice p q w,.int .i64 f,.int .i64 m] (fun ac ad=>ac=.tuple #[]∧bd ((IntKind.i64.wrap (y - 1)):Int) fun ae=>qai.j2 K (qai.L1 K fuel) p q w f m ae z ab aa ad) h)∧((!z)=false→qai.j2 K (qai.L1 K fuel) p q w f m y z ab aa h)))
termination_by structural n=>n
def qai.L1.l:Live:=[(0,.slice),(1,.int .i64),(2,.int .i64),(3,.int .i64),(8,.bool),(9,.bool)]
def qai.L1.j (K:KT):Nat→Tup qai.L1.l→Heap→Prop:=fun n x h=>qai.L1 K n x.1.1 x.1.2.1 x.1.2.2 x.2.1 x.2.2.1 x.2.2.2.1 x.2.2.2.2.1 x.2.2.2.2.2.1 h
def qai.p0 (K:KT) (f:OA) (m:Nat) (p:Nat) (q:Int) (w:Int) (y:Int) (h:Heap):Prop :=
  ∃ fuel43,qai.L1 K fuel43 f m p q w y true true h
def qai.plan (K:KT):Plan:=(.seq .go (.seq .go (.block (.loop qai.L1.l (qai.L1.j K) (fun n1=>(.block (.seq .go (.seq .go (.seq .go (.cut qai.j2.l (qai.j2.j K (qai.L1 K n1)) .go (.seq .go (.cut qai.j3.l (qai.j3.j K (qai.L1 K n1)) .go (.cut qai.j4.l (qai.j4.j K (qai.L1 K n1)) (.cut qai.j6.l (qai.j6.j K (qai.L1 K n1)) .go .go) (.seq (.cut qai.j5.l (qai.j5.j K (qai.L1 K n1)) (.orders (.op 0 (.op 1 (.op 2 (.op 3 (.op 4 (.op 5 (.op 6 (.op 8 (.op 9 (.op 10 (.op 7 (.op 11 (.op 12 (.op 13 (.op 14 .nil)))))))))))))))) .go) .go))))))))))))))
theorem qai.ev_eq:qai.p0=fun K f m p q w y h=>Ev P Tryz.f207 (qai.plan K) K [.slice f m p,.int .i64 q,.int .i64 w,.int .i64 y] h:=by kernel_rfl
theorem qai.obl (K:KT):Obl P Tryz.f207 (qai.plan K) K :=
  obl_of (R:=(∀ x h,¬ (qai.L1.j K) 0 x h)∧ImpN (qai.L1.j K)∧(∀ (n1:Nat),Imp (qai.j2.j K (qai.L1 K n1))∧Imp (qai.j3.j K (qai.L1 K n1))∧Imp (qai.j6.j K (qai.L1 K n1))∧Imp (qai.j4.j K (qai.L1 K n1))∧DrawOK P Tryz.f207.ntmps (opsAt 17 (bodyOf Tryz.f207)) (.op 0 (.op 1 (.op 2 (.op 3 (.op 4 (.op 5 (.op 6 (.op 8 (.op 9 (.op 10 (.op 7 (.op 11 (.op 12 (.op 13 (.op 14 .nil)))))))))))))))∧Imp (qai.j5.j K (qai.L1 K n1))∧True)∧True) (by kernel_rfl) ⟨fun _ _ H=>H,impN _,fun _=>⟨imp _,⟨imp _,⟨imp _,⟨imp _,⟨draw_ok (by kernel_rfl),⟨imp _,trivial⟩⟩⟩⟩⟩⟩,trivial⟩
theorem qai.ok {K:KT}{f:OA}{m:Nat}{p:Nat}{q:Int}{w:Int}{y:Int}{h:Heap} (H:qai.p0 K f m p q w y h):CallsH P F.qai [.slice f m p,.int .i64 q,.int .i64 w,.int .i64 y] K h :=
  calls_of_Ev (qai.plan K) Tryz.func207 (by kernel_rfl) (qai.obl K) (by rw [qai.ev_eq] at H; exact H)
def qco.p0 (K:KT) (t0:OA) (f:Nat) (p:Nat) (h:Heap):Prop :=
  bd (((f:Nat):Int):Int) fun m=>CallsH P F.math_bits_Len [.int .u64 (IntKind.u64.wrap m)] (fun v2 h3=>∃ n4,v2=.int .i64 n4∧CallsH P F.qai [.slice t0 f p,.int .i64 0,.int .i64 m,.int .i64 n4] (fun v5 h6=>v5=.tuple #[]∧K (.tuple #[]) h6) h3) h
def qco.plan (K:KT):Plan:=.go
theorem qco.ev_eq:qco.p0=fun K t0 f m h=>Ev P Tryz.f133 (qco.plan K) K [.slice t0 f m] h:=by kernel_rfl
theorem qco.obl (K:KT):Obl P Tryz.f133 (qco.plan K) K :=
  obl_true (by kernel_rfl)
theorem qco.ok {K:KT}{t0:OA}{f:Nat}{m:Nat}{h:Heap} (H:qco.p0 K t0 f m h):CallsH P F.qco [.slice t0 f m] K h :=
  calls_of_Ev (qco.plan K) Tryz.func133 (by kernel_rfl) (qco.obl K) (by rw [qco.ev_eq] at H; exact H)
def qcs.p0 (K:KT) (p:Value) (h:Heap):Prop :=
  CallsH P F.qcq [p] (fun v1 h2=>∃ a3 f m,v1=.slice a3 f m∧CallsH P F.qco [.slice a3 f m] (fun v4 h5=>v4=.tuple #[]∧K (.slice a3 f m) h5) h2) h
def qcs.plan (K:KT):Plan:=.go
theorem qcs.ev_eq:qcs.p0=fun K f h=>Ev P Tryz.f62 (qcs.plan K) K [f] h:=by kernel_rfl
theorem qcs.obl (K:KT):Obl P Tryz.f62 (qcs.plan K) K :=
  obl_true (by kernel_rfl)
theorem qcs.ok {K:KT}{f:Value}{h:Heap} (H:qcs.p0 K f h):CallsH P F.qcs [f] K h :=
  calls_of_Ev (qcs.plan K) Tryz.func62 (by kernel_rfl) (qcs.obl K) (by rw [qcs.ev_eq] at H; exact H)
end Go.Proofs.YtofpbcakppjgcaaGreatDoor.Pr
end
section
set_option linter.unusedVariables false
set_option maxRecDepth 100000
namespace Go.Proofs.YtofpbcakppjgcaaGreatDoor.Pr
open Go Go.Lift Go.Proofs
def qcz.p0 (K:KT) (t0:List UInt8) (h:Heap):Prop :=
  bd ((!(t0==t0)):Bool) fun b1=>K (.bool b1) h
def qcz.plan (K:KT):Plan:=.go
theorem qcz.ev_eq:qcz.p0=fun K t0 h=>Ev P Tryz.f210 (qcz.plan K) K [.string (mkS t0)] h:=by kernel_rfl
theorem qcz.obl (K:KT):Obl P Tryz.f210 (qcz.plan K) K :=
  obl_true (by kernel_rfl)
theorem qcz.ok {K:KT}{t0:List UInt8}{h:Heap} (H:qcz.p0 K t0 h):CallsH P F.qcz [.string (mkS t0)] K h :=
  calls_of_Ev (qcz.plan K) Tryz.func210 (by kernel_rfl) (qcz.obl K) (by rw [qcz.ev_eq] at H; exact H)
def qdc.p0 (K:KT) (t0:List UInt8) (f:List UInt8) (h:Heap):Prop :=
  CallsH P F.qcz [.string (mkS t0)] (fun v1 h2=>∃ b3,v1=.bool b3∧CallsH P F.qcz [.string (mkS f)] (fun v4 h5=>∃ b6,v4=.bool b6∧(b3=true→(b6=true→K (.int .i64 0) h5)∧(b6=false→K (.int .i64 (-1)) h5))∧(b3=false→(b6=true→K (.int .i64 1) h5)∧(b6=false→((Op.bytesLess t0 f)=true→K (.int .i64 (-1)) h5)∧((Op.bytesLess t0 f)=false→((!(Op.bytesLess t0 f || t0==f))=true→K (.int .i64 1) h5)∧((!(Op.bytesLess t0 f || t0==f))=false→K (.int .i64 0) h5))))) h2) h
def qdc.plan (K:KT):Plan:=.go
theorem qdc.ev_eq:qdc.p0=fun K t0 f h=>Ev P Tryz.f139 (qdc.plan K) K [.string (mkS t0),.string (mkS f)] h:=by kernel_rfl
theorem qdc.obl (K:KT):Obl P Tryz.f139 (qdc.plan K) K :=
  obl_true (by kernel_rfl)
theorem qdc.ok {K:KT}{t0:List UInt8}{f:List UInt8}{h:Heap} (H:qdc.p0 K t0 f h):CallsH P F.qdc [.string (mkS t0),.string (mkS f)] K h :=
  calls_of_Ev (qdc.plan K) Tryz.func139 (by kernel_rfl) (qdc.obl K) (by rw [qdc.ev_eq] at H; exact H)
def qdl.p0 (K:KT) (t0:List UInt8) (f:List UInt8) (h:Heap):Prop :=
  CallsH P F.qcz [.string (mkS t0)] (fun v1 h2=>∃ b3,v1=.bool b3∧(b3=true→CallsH P F.qcz [.string (mkS f)] (fun v4 h5=>∃ b6,v4=.bool b6∧((!b6)=false→bd ((Op.bytesLess t0 f):Bool) fun b7=>K (.bool b7) h5)∧((!b6)=true→K (.bool true) h5)) h2)∧(b3=false→bd ((Op.bytesLess t0 f):Bool) fun b8=>K (.bool b8) h2)) h
def qdl.plan (K:KT):Plan:=.go
theorem qdl.ev_eq:qdl.p0=fun K t0 f h=>Ev P Tryz.f247 (qdl.plan K) K [.string (mkS t0),.string (mkS f)] h:=by kernel_rfl
theorem qdl.obl (K:KT):Obl P Tryz.f247 (qdl.plan K) K :=
  obl_true (by kernel_rfl)
theorem qdl.ok {K:KT}{t0:List UInt8}{f:List UInt8}{h:Heap} (H:qdl.p0 K t0 f h):CallsH P F.qdl [.string (mkS t0),.string (mkS f)] K h :=
  calls_of_Ev (qdl.plan K) Tryz.func247 (by kernel_rfl) (qdl.obl K) (by rw [qdl.ev_eq] at H; exact H)
end Go.Proofs.YtofpbcakppjgcaaGreatDoor.Pr
end
section
set_option linter.unusedVariables false
set_option maxRecDepth 100000
namespace Go.Proofs.YtofpbcakppjgcaaGreatDoor.Pr
open Go Go.Lift Go.Proofs
def qcw.p0 (K:KT) (f:Int) (h:Heap):Prop :=
  CallsH P F.math_bits_Len [.int .u64 (IntKind.u64.wrap f)] (fun v1 h2=>∃ n3,v1=.int .i64 n3∧(0:Int)≤n3∧bd ((shlI .u64 1 n3):Int) fun n4=>K (.int .u64 n4) h2) h
def qcw.plan (K:KT):Plan:=.go
theorem qcw.ev_eq:qcw.p0=fun K f h=>Ev P Tryz.f236 (qcw.plan K) K [.int .i64 f] h:=by kernel_rfl
theorem qcw.obl (K:KT):Obl P Tryz.f236 (qcw.plan K) K :=
  obl_true (by kernel_rfl)
theorem qcw.ok {K:KT}{f:Int}{h:Heap} (H:qcw.p0 K f h):CallsH P F.qcw [.int .i64 f] K h :=
  calls_of_Ev (qcw.plan K) Tryz.func236 (by kernel_rfl) (qcw.obl K) (by rw [qcw.ev_eq] at H; exact H)
def qcy.p0 (K:KT) (f:OA) (h:Heap):Prop :=
  ∃ p1,f=some p1∧∃ p2,f=some p2∧∃ n3,hcell h p2=some (.int .u64 n3)∧(0:Int)≤13∧∃ n4,hcell h p1=some (.int .u64 n4)∧∃ p5,f=some p5∧∃ h6,stC h p5 0 [.int .u64 (bitsI .xor .u64 n4 (shlI .u64 n3 13))]=some h6∧∃ p7,f=some p7∧∃ p8,f=some p8∧∃ n9,hcell h6 p8=some (.int .u64 n9)∧(0:Int)≤7∧∃ q,hcell h6 p7=some (.int .u64 q)∧∃ w,f=some w∧∃ m,stC h6 w 0 [.int .u64 (bitsI .xor .u64 q (shrI .u64 n9 7))]=some m∧∃ y,f=some y∧∃ z,f=some z∧∃ aa,hcell m z=some (.int .u64 aa)∧(0:Int)≤17∧∃ ab,hcell m y=some (.int .u64 ab)∧∃ ac,f=some ac∧∃ p,stC m ac 0 [.int .u64 (bitsI .xor .u64 ab (shlI .u64 aa 17))]=some p∧∃ ad,f=some ad∧∃ ae,hcell p ad=some (.int .u64 ae)∧K (.int .u64 ae) p
def qcy.plan (K:KT):Plan:=(.seq .go (.seq (.orders (.op 0 (.op 1 (.op 3 (.op 4 (.op 5 (.op 6 (.op 2 (.op 7 (.op 8 (.op 9 .nil))))))))))) (.seq (.orders (.op 0 (.op 1 (.op 3 (.op 4 (.op 5 (.op 6 (.op 2 (.op 7 (.op 8 (.op 9 .nil))))))))))) (.seq (.orders (.op 0 (.op 1 (.op 3 (.op 4 (.op 5 (.op 6 (.op 2 (.op 7 (.op 8 (.op 9 .nil))))))))))) .go))))
theorem qcy.ev_eq:qcy.p0=fun K f h=>Ev P Tryz.f237 (qcy.plan K) K [.pointer f] h:=by kernel_rfl
theorem qcy.obl (K:KT):Obl P Tryz.f237 (qcy.plan K) K :=
  obl_of (R:=DrawOK P Tryz.f237.ntmps (opsAt 1 (bodyOf Tryz.f237)) (.op 0 (.op 1 (.op 3 (.op 4 (.op 5 (.op 6 (.op 2 (.op 7 (.op 8 (.op 9 .nil))))))))))∧DrawOK P Tryz.f237.ntmps (opsAt 2 (bodyOf Tryz.f237)) (.op 0 (.op 1 (.op 3 (.op 4 (.op 5 (.op 6 (.op 2 (.op 7 (.op 8 (.op 9 .nil))))))))))∧DrawOK P Tryz.f237.ntmps (opsAt 3 (bodyOf Tryz.f237)) (.op 0 (.op 1 (.op 3 (.op 4 (.op 5 (.op 6 (.op 2 (.op 7 (.op 8 (.op 9 .nil))))))))))∧True) (by kernel_rfl) ⟨draw_ok (by kernel_rfl),⟨draw_ok (by kernel_rfl),⟨draw_ok (by kernel_rfl),trivial⟩⟩⟩
theorem qcy.ok {K:KT}{f:OA}{h:Heap} (H:qcy.p0 K f h):CallsH P F.qcy [.pointer f] K h :=
  calls_of_Ev (qcy.plan K) Tryz.func237 (by kernel_rfl) (qcy.obl K) (by rw [qcy.ev_eq] at H; exact H)
end Go.Proofs.YtofpbcakppjgcaaGreatDoor.Pr
end
section
set_option linter.unusedVariables false
set_option maxRecDepth 100000
namespace Go.Proofs.YtofpbcakppjgcaaGreatDoor.Pr
open Go Go.Lift Go.Proofs
def qbs.j2 (K:KT) (p:OA) (t3:Addr) (f:Bool) (h:Heap):Prop :=
  (f=true→K (.bool false) h)∧(f=false→∃ p2,p=some p2∧∃ m3,hcell h (Addr.add p2 0)=some (.map m3)∧∃ s4,hcell h (Addr.add t3 0)=some (.string (mkS s4))∧∃ m,rdC h t3 0 3=some m∧SemH P (unit (Instr.mapUpdate T.map_string_api_Exch (.map m3) (.string (mkS s4)) (.agg (List.toArray m)))) (fun v6 h7=>K (.bool true) h7) h)
def qbs.j2.l:Live:=[(0,.ptr),(3,.addr),(27,.bool)]
def qbs.j2.j (K:KT):Tup qbs.j2.l→Heap→Prop:=fun x h=>qbs.j2 K x.1 x.2.1 x.2.2.1 h
def qbs.j1 (K:KT) (f:OA) (t3:Addr) (m:Bool) (h:Heap):Prop :=
  (m=false→∃ n8,hcell h (Addr.add t3 1)=some (.int .i64 n8)∧((decide (n8<1))=false→∃ n9,hcell h (Addr.add t3 1)=some (.int .i64 n9)∧qbs.j2 K f t3 (decide (n9 > 3)) h)∧((decide (n8<1))=true→qbs.j2 K f t3 true h))∧(m=true→qbs.j2 K f t3 true h)
def qbs.j1.l:Live:=[(0,.ptr),(3,.addr),(6,.bool)]
def qbs.j1.j (K:KT):Tup qbs.j1.l→Heap→Prop:=fun x h=>qbs.j1 K x.1 x.2.1 x.2.2.1 h
def qbs.p0 (K:KT) (f:OA) (t1:List Value) (h:Heap):Prop :=
  bd (al h (List.toArray t1) T.api_Exch) fun h1=>∃ m,f=some m∧(∃ p,hcell h1 (Addr.add m 0)=some (.map p)∧(∃ w,hcell h1 (Addr.add (top h) 0)=some (.string (mkS w))∧(SemH P (Instr.lookup T.map_string_api_Exch (.map p) (.string (mkS w)) true) (fun bj ag=>∃ y ah,bj=.tuple #[.agg (List.toArray y),.bool ah]∧bd (al ag #[.string (mkS ([]:List UInt8)),.int .i64 0,.bool false] T.api_Exch) fun bk=>y.length=3∧∃ ai,stC bk (top ag) 0 y=some ai∧qbs.j1 K f (top h) ah ai) h1)∧(bd (al h1 #[.string (mkS ([]:List UInt8)),.int .i64 0,.bool false] T.api_Exch) fun bl=>SemH P (Instr.lookup T.map_string_api_Exch (.map p) (.string (mkS w)) true) (fun bm bn=>∃ z aj,bm=.tuple #[.agg (List.toArray z),.bool aj]∧z.length=3∧∃ ak,stC bn (top h1) 0 z=some ak∧qbs.j1 K f (top h) aj ak) bl))∧(bd (al h1 #[.string (mkS ([]:List UInt8)),.int .i64 0,.bool false] T.api_Exch) fun am=>∃ an,hcell am (Addr.add (top h) 0)=some (.string (mkS an))∧SemH P (Instr.lookup T.map_string_api_Exch (.map p) (.string (mkS an)) true) (fun bo bp=>∃ aa ao,bo=.tuple #[.agg (List.toArray aa),.bool ao]∧aa.length=3∧∃ aq,stC bp (top h1) 0 aa=some aq∧qbs.j1 K f (top h) ao aq) am))∧((∃ q,hcell h1 (Addr.add (top h) 0)=some (.string (mkS q))∧(∃ ab,hcell h1 (Addr.add m 0)=some (.map ab)∧(SemH P (Instr.lookup T.map_string_api_Exch (.map ab) (.string (mkS q)) true) (fun bq ar=>∃ cs36 au,bq=.tuple #[.agg (List.toArray cs36),.bool au]∧bd (al ar #[.string (mkS ([]:List UInt8)),.int .i64 0,.bool false] T.api_Exch) fun br=>cs36.length=3∧∃ av,stC br (top ar) 0 cs36=some av∧qbs.j1 K f (top h) au av) h1)∧(bd (al h1 #[.string (mkS ([]:List UInt8)),.int .i64 0,.bool false] T.api_Exch) fun bs=>SemH P (Instr.lookup T.map_string_api_Exch (.map ab) (.string (mkS q)) true) (fun bt bu=>∃ ac aw,bt=.tuple #[.agg (List.toArray ac),.bool aw]∧ac.length=3∧∃ ax,stC bu (top h1) 0 ac=some ax∧qbs.j1 K f (top h) aw ax) bs))∧(bd (al h1 #[.string (mkS ([]:List UInt8)),.int .i64 0,.bool false] T.api_Exch) fun ay=>∃ az,hcell ay (Addr.add m 0)=some (.map az)∧SemH P (Instr.lookup T.map_string_api_Exch (.map az) (.string (mkS q)) true) (fun bv bw=>∃ ad ba,bv=.tuple #[.agg (List.toArray ad),.bool ba]∧ad.length=3∧∃ bb,stC bw (top h1) 0 ad=some bb∧qbs.j1 K f (top h) ba bb) ay))∧(bd (al h1 #[.string (mkS ([]:List UInt8)),.int .i64 0,.bool false] T.api_Exch) fun ae=>∃ be,hcell ae (Addr.add m 0)=some (.map be)∧∃ bf,hcell ae (Addr.add (top h) 0)=some (.string (mkS bf))∧SemH P (Instr.lookup T.map_string_api_Exch (.map be) (.string (mkS bf)) true) (fun bz ca=>∃ af bh,bz=.tuple #[.agg (List.toArray af),.bool bh]∧af.length=3∧∃ bi,stC ca (top h1) 0 af=some bi∧qbs.j1 K f (top h) bh bi) ae))
def qbs.plan (K:KT):Plan:=(.seq .go (.seq (.cut qbs.j1.l (qbs.j1.j K) (.orders (.op 0 (.op 1 (.op 2 (.op 4 (.both (.op 3 (.both (.op 5 (.both (.op 6 (.op 7 (.op 8 (.op 9 (.op 10 (.op 11 (.op 12 .nil))))))) (.op 10 (.op 6 (.op 7 (.op 8 (.op 9 (.op 11 (.op 12 .nil))))))))) (.op 10 (.op 5 (.op 6 (.op 7 (.op 8 (.op 9 (.op 11 (.op 12 .nil)))))))))) (.both (.op 5 (.both (.op 3 (.both (.op 6 (.op 7 (.op 8 (.op 9 (.op 10 (.op 11 (.op 12 .nil))))))) (.op 10 (.op 6 (.op 7 (.op 8 (.op 9 (.op 11 (.op 12 .nil))))))))) (.op 10 (.op 3 (.op 6 (.op 7 (.op 8 (.op 9 (.op 11 (.op 12 .nil)))))))))) (.op 10 (.op 3 (.op 5 (.op 6 (.op 7 (.op 8 (.op 9 (.op 11 (.op 12 .nil)))))))))))))))) (.cut qbs.j2.l (qbs.j2.j K) .go .go)) (.seq (.orders (.op 0 (.op 1 (.op 2 (.op 4 (.op 3 (.op 5 (.op 6 (.op 7 .nil))))))))) .go)))
theorem qbs.ev_eq:qbs.p0=fun K f t1 h=>Ev P Tryz.f102 (qbs.plan K) K [.pointer f,.agg (List.toArray t1)] h:=by kernel_rfl
theorem qbs.obl (K:KT):Obl P Tryz.f102 (qbs.plan K) K :=
  obl_of (R:=DrawOK P Tryz.f102.ntmps (opsAt 1 (bodyOf Tryz.f102)) (.op 0 (.op 1 (.op 2 (.op 4 (.both (.op 3 (.both (.op 5 (.both (.op 6 (.op 7 (.op 8 (.op 9 (.op 10 (.op 11 (.op 12 .nil))))))) (.op 10 (.op 6 (.op 7 (.op 8 (.op 9 (.op 11 (.op 12 .nil))))))))) (.op 10 (.op 5 (.op 6 (.op 7 (.op 8 (.op 9 (.op 11 (.op 12 .nil)))))))))) (.both (.op 5 (.both (.op 3 (.both (.op 6 (.op 7 (.op 8 (.op 9 (.op 10 (.op 11 (.op 12 .nil))))))) (.op 10 (.op 6 (.op 7 (.op 8 (.op 9 (.op 11 (.op 12 .nil))))))))) (.op 10 (.op 3 (.op 6 (.op 7 (.op 8 (.op 9 (.op 11 (.op 12 .nil)))))))))) (.op 10 (.op 3 (.op 5 (.op 6 (.op 7 (.op 8 (.op 9 (.op 11 (.op 12 .nil)))))))))))))))∧Imp (qbs.j1.j K)∧Imp (qbs.j2.j K)∧DrawOK P Tryz.f102.ntmps (opsAt 4 (bodyOf Tryz.f102)) (.op 0 (.op 1 (.op 2 (.op 4 (.op 3 (.op 5 (.op 6 (.op 7 .nil))))))))∧True) (by kernel_rfl) ⟨draw_ok (by kernel_rfl),⟨imp _,⟨imp _,⟨draw_ok (by kernel_rfl),trivial⟩⟩⟩⟩
theorem qbs.ok {K:KT}{f:OA}{t1:List Value}{h:Heap} (H:qbs.p0 K f t1 h):CallsH P F.qbs [.pointer f,.agg (List.toArray t1)] K h :=
  calls_of_Ev (qbs.plan K) Tryz.func102 (by kernel_rfl) (qbs.obl K) (by rw [qbs.ev_eq] at H; exact H)
def qdk.L1 (K:KT):Nat→OA→OA→Nat→Nat→Int→Int→Heap→Prop
  | 0,_,_,_,_,_,_,_=>False
  | fuel+1,m,y,z,ab,p,f,h=>((decide (f<p))=true→∃ p6,y=some p6∧(0:Int)≤f∧f<((z:Nat):Int)∧∃ q,rdC h (Addr.add p6 (Int.toNat f * 3)) 0 3=some q∧bd (al h #[.string (mkS ([]:List UInt8)),.int .i64 0,.bool false] T.api_Exch) fun h8=>q.length=3∧∃ h9,stC h8 (top h) 0 q=some h9∧∃ w,stC h9 (Addr.add (top h) 2) 0 [.bool true]=some w∧∃ aa,rdC w (top h) 0 3=some aa∧CallsH P F.qbs [.pointer m,.agg (List.toArray aa)] (fun ac ad=>∃ ae,ac=.bool ae∧(qdk.L1 K fuel) m y z ab p (IntKind.i64.wrap (f+1)) ad) w)∧((decide (f<p))=false→K (.pointer m) h)
termination_by structural n=>n
def qdk.L1.l:Live:=[(1,.ptr),(12,.slice),(13,.int .i64),(14,.int .i64)]
def qdk.L1.j (K:KT):Nat→Tup qdk.L1.l→Heap→Prop:=fun n x h=>qdk.L1 K n x.1 x.2.1.1 x.2.1.2.1 x.2.1.2.2 x.2.2.1 x.2.2.2.1 h
def qdk.p0 (K:KT)  (h:Heap):Prop :=
  bd (Array.push h (.map #[] 0)) fun h1=>bd (Array.push h1 (.map #[] 0)) fun h2=>bd (al h2 #[.map (some (Array.size h)),.map (some (Array.size h1))] T.rout_Rout) fun h3=>∃ f,bldS P T.sl_api_Exch T.api_Exch 4 [(0,.agg #[.string (mkS ([]:List UInt8)),.int .i64 1,.bool false]),(1,.agg #[.string (mkS ([97,109,113,46,100,105,114,101,99,116]:List UInt8)),.int .i64 1,.bool false]),(2,.agg #[.string (mkS ([97,109,113,46,102,97,110,111,117,116]:List UInt8)),.int .i64 2,.bool false]),(3,.agg #[.string (mkS ([97,109,113,46,116,111,112,105,99]:List UInt8)),.int .i64 3,.bool false])] f∧bd (al h3 (List.toArray f) T.api_Exch) fun h5=>∃ fuel15,qdk.L1 K fuel15 (some (top h2)) (some (top h3)) 4 4 ((4:Nat):Int) 0 h5
def qdk.plan (K:KT):Plan:=(.seq .go (.seq .go (.seq (.seq .go (.block (.loop qdk.L1.l (qdk.L1.j K) (fun n1=>.go)))) .go)))
theorem qdk.ev_eq:qdk.p0=fun K  h=>Ev P Tryz.f42 (qdk.plan K) K [] h:=by kernel_rfl
theorem qdk.obl (K:KT):Obl P Tryz.f42 (qdk.plan K) K :=
  obl_of (R:=(∀ x h,¬ (qdk.L1.j K) 0 x h)∧ImpN (qdk.L1.j K)∧(∀ (n1:Nat),True)∧True) (by kernel_rfl) ⟨fun _ _ H=>H,impN _,fun _=>trivial,trivial⟩
theorem qdk.ok {K:KT}  {h:Heap} (H:qdk.p0 K  h):CallsH P F.qdk [] K h :=
  calls_of_Ev (qdk.plan K) Tryz.func42 (by kernel_rfl) (qdk.obl K) (by rw [qdk.ev_eq] at H; exact H)
def qds.p0 (K:KT) (w:OA) (y:List UInt8) (h:Heap):Prop :=
  bd (al h #[.string (mkS ([]:List UInt8)),.int .i64 0,.bool false] T.api_Exch) fun h1=>∃ p2,w=some p2∧∃ m3,hcell h1 (Addr.add p2 0)=some (.map m3)∧SemH P (Instr.lookup T.map_string_api_Exch (.map m3) (.string (mkS y)) true) (fun v4 h5=>∃ f b7,v4=.tuple #[.agg (List.toArray f),.bool b7]∧bd (al h5 #[.string (mkS ([]:List UInt8)),.int .i64 0,.bool false] T.api_Exch) fun h8=>f.length=3∧∃ h9,stC h8 (top h5) 0 f=some h9∧∃ m,rdC h9 (top h5) 0 3=some m∧m.length=3∧∃ p,stC h9 (top h) 0 m=some p∧∃ q,rdC p (top h) 0 3=some q∧K (.tuple #[.agg (List.toArray q),.bool b7]) p) h1
def qds.plan (K:KT):Plan:=.go
theorem qds.ev_eq:qds.p0=fun K f m h=>Ev P Tryz.f103 (qds.plan K) K [.pointer f,.string (mkS m)] h:=by kernel_rfl
theorem qds.obl (K:KT):Obl P Tryz.f103 (qds.plan K) K :=
  obl_true (by kernel_rfl)
theorem qds.ok {K:KT}{f:OA}{m:List UInt8}{h:Heap} (H:qds.p0 K f m h):CallsH P F.qds [.pointer f,.string (mkS m)] K h :=
  calls_of_Ev (qds.plan K) Tryz.func103 (by kernel_rfl) (qds.obl K) (by rw [qds.ev_eq] at H; exact H)
def qbm.j1 (K:KT) (t4:Int) (h:Heap):Prop :=
  K (.int .i64 t4) h
def qbm.j1.l:Live:=[(4,.int .i64)]
def qbm.j1.j (K:KT):Tup qbm.j1.l→Heap→Prop:=fun x h=>qbm.j1 K x.1 h
noncomputable def qbm.r2.ops:Array Oper:=opsAt 1 (bodyOf Tryz.f66)
def qbm.r2 (K:KT) (f:Addr) (m:Addr) (h:Heap):Prop:=evPar P qbm.r2.ops (leaf qbm.j1.l (qbm.j1.j K)) [(2,.pointer (some f)),(3,.pointer (some m))] h
def qbm.r2.v (f:Addr) (m:Addr) (s3:List UInt8) (s4:List UInt8) (s13:List UInt8) (s14:List UInt8) (q:List UInt8) (w:List UInt8) (n8:Int) (y:Int) (z:Int) (aa:Addr) (p:Int):List Value:=[.pointer (some (Addr.add f 0)),.string (mkS s3),.pointer (some (Addr.add m 0)),.string (mkS s4),.int .i64 n8,.pointer (some (Addr.add f 1)),.string (mkS s13),.pointer (some (Addr.add m 1)),.string (mkS s14),.int .i64 y,.pointer (some (Addr.add f 2)),.string (mkS q),.pointer (some (Addr.add m 2)),.string (mkS w),.int .i64 z,.slice (some aa) 3 3,.int .i64 p,.int .i64 p]
def qbm.r2.A:List (List Nat):=[[],[0],[],[2],[1,3],[],[5],[],[7],[6,8,4],[],[10],[],[12],[11,13,9],[4,9,14],[15,14],[16,16,0,1,2,3,4,5,6,7,8,9,10,11,12,13,14,15,16]]
def qbm.r2.AN:List (List Nat):=[[],[0],[],[2],[0,1,2,3],[],[5],[],[7],[0,1,2,3,4,5,6,7,8],[],[10],[],[12],[0,1,2,3,4,5,6,7,8,9,10,11,12,13],[0,1,2,3,4,5,6,7,8,9,10,11,12,13,14],[0,1,2,3,4,5,6,7,8,9,10,11,12,13,14,15],[0,1,2,3,4,5,6,7,8,9,10,11,12,13,14,15,16]]
def qbm.r2.DE:List (List Nat):=[[1,4,9,14,15,16,17],[4,9,14,15,16,17],[3,4,9,14,15,16,17],[4,9,14,15,16,17],[9,14,15,16,17],[6,9,14,15,16,17],[9,14,15,16,17],[8,9,14,15,16,17],[9,14,15,16,17],[14,15,16,17],[11,14,15,16,17],[14,15,16,17],[13,14,15,16,17],[14,15,16,17],[15,16,17],[16,17],[17],[]]
def qbm.r2.D:List (Option Nat):=[some 5,some 6,some 7,some 8,some 9,some 10,some 11,some 12,some 13,some 14,some 15,some 16,some 17,some 18,some 19,some 20,some 21,some 4]
def qbm.r2.u:List (List Nat):=[[],[0],[],[2],[1,3],[],[5],[],[7],[6,8],[],[10],[],[12],[11,13],[4,9,14],[15],[16]]
theorem qbm.r2.e:(fun (f:Addr) (m:Addr) (s3:List UInt8) (s4:List UInt8) (s13:List UInt8) (s14:List UInt8) (p:List UInt8) (q:List UInt8) (n8:Int) (w:Int) (y:Int) (z:Addr) (aa:Int) (h:Heap) (k:Value→Heap→Prop)=>(List.range 18).map fun i=>evI P qbm.r2.ops i (fullE qbm.r2.D (qbm.r2.v f m s3 s4 s13 s14 p q n8 w y z aa) (row qbm.r2.u i)++[(2,.pointer (some f)),(3,.pointer (some m))]) h k)=fun f m s3 s4 s13 s14 p q n8 w y z aa h k=>[k (.pointer (some (Addr.add f 0))) h,∃ s3,hcell h (Addr.add f 0)=some (.string (mkS s3))∧k (.string (mkS s3)) h,k (.pointer (some (Addr.add m 0))) h,∃ s4,hcell h (Addr.add m 0)=some (.string (mkS s4))∧k (.string (mkS s4)) h,CallsH P F.qdc [.string (mkS s3),.string (mkS s4)] (fun af ag=>∃ ab,af=.int .i64 ab∧k (.int .i64 ab) ag) h,k (.pointer (some (Addr.add f 1))) h,∃ s13,hcell h (Addr.add f 1)=some (.string (mkS s13))∧k (.string (mkS s13)) h,k (.pointer (some (Addr.add m 1))) h,∃ s14,hcell h (Addr.add m 1)=some (.string (mkS s14))∧k (.string (mkS s14)) h,CallsH P F.qdc [.string (mkS s13),.string (mkS s14)] (fun ah ai=>∃ ac,ah=.int .i64 ac∧k (.int .i64 ac) ai) h,k (.pointer (some (Addr.add f 2))) h,∃ p,hcell h (Addr.add f 2)=some (.string (mkS p))∧k (.string (mkS p)) h,k (.pointer (some (Addr.add m 2))) h,∃ q,hcell h (Addr.add m 2)=some (.string (mkS q))∧k (.string (mkS q)) h,CallsH P F.qdc [.string (mkS p),.string (mkS q)] (fun aj ak=>∃ ad,aj=.int .i64 ad∧k (.int .i64 ad) ak) h,bd (al h #[.int .i64 n8,.int .i64 w,.int .i64 y] T.int) fun am=>k (.slice (some (top h)) 3 3) am,CallsH P F.qcx [.slice (some z) 3 3] (fun an ao=>∃ ae,an=.int .i64 ae∧k (.int .i64 ae) ao) h,k (.int .i64 aa) h]:=by kernel_rfl
theorem qbm.r2.s4:(fun (f:Addr) (m:Addr) (s3:List UInt8) (s4:List UInt8) (s13:List UInt8) (s14:List UInt8) (p:List UInt8) (q:List UInt8) (n8:Int) (w:Int) (y:Int) (z:Addr) (aa:Int) (n8':Int)=>selU (row qbm.r2.DE 4) 4 0 (qbm.r2.v f m s3 s4 s13 s14 p q n8' w y z aa))=fun f m s3 s4 s13 s14 p q n8 w y z aa n8'=>selU (row qbm.r2.DE 4) 4 0 (qbm.r2.v f m s3 s4 s13 s14 p q n8 w y z aa):=by kernel_rfl
theorem qbm.r2.s9:(fun (f:Addr) (m:Addr) (s3:List UInt8) (s4:List UInt8) (s13:List UInt8) (s14:List UInt8) (p:List UInt8) (q:List UInt8) (n8:Int) (aa:Int) (w:Int) (y:Addr) (z:Int) (n18':Int)=>selU (row qbm.r2.DE 9) 9 0 (qbm.r2.v f m s3 s4 s13 s14 p q n8 n18' w y z))=fun f m s3 s4 s13 s14 p q n8 aa w y z n18'=>selU (row qbm.r2.DE 9) 9 0 (qbm.r2.v f m s3 s4 s13 s14 p q n8 aa w y z):=by kernel_rfl
theorem qbm.r2.s14:(fun (f:Addr) (m:Addr) (s3:List UInt8) (s4:List UInt8) (s13:List UInt8) (s14:List UInt8) (p:List UInt8) (q:List UInt8) (n8:Int) (w:Int) (aa:Int) (y:Addr) (z:Int) (n28':Int)=>selU (row qbm.r2.DE 14) 14 0 (qbm.r2.v f m s3 s4 s13 s14 p q n8 w n28' y z))=fun f m s3 s4 s13 s14 p q n8 w aa y z n28'=>selU (row qbm.r2.DE 14) 14 0 (qbm.r2.v f m s3 s4 s13 s14 p q n8 w aa y z):=by kernel_rfl
theorem qbm.r2.s15:(fun (f:Addr) (m:Addr) (s3:List UInt8) (s4:List UInt8) (s13:List UInt8) (s14:List UInt8) (p:List UInt8) (q:List UInt8) (n8:Int) (w:Int) (y:Int) (aa:Addr) (z:Int) (a34':Addr)=>selU (row qbm.r2.DE 15) 15 0 (qbm.r2.v f m s3 s4 s13 s14 p q n8 w y a34' z))=fun f m s3 s4 s13 s14 p q n8 w y aa z a34'=>selU (row qbm.r2.DE 15) 15 0 (qbm.r2.v f m s3 s4 s13 s14 p q n8 w y aa z):=by kernel_rfl
theorem qbm.r2.s16:(fun (f:Addr) (m:Addr) (s3:List UInt8) (s4:List UInt8) (s13:List UInt8) (s14:List UInt8) (p:List UInt8) (q:List UInt8) (n8:Int) (w:Int) (y:Int) (z:Addr) (aa:Int) (n40':Int)=>selU (row qbm.r2.DE 16) 16 0 (qbm.r2.v f m s3 s4 s13 s14 p q n8 w y z n40'))=fun f m s3 s4 s13 s14 p q n8 w y z aa n40'=>selU (row qbm.r2.DE 16) 16 0 (qbm.r2.v f m s3 s4 s13 s14 p q n8 w y z aa):=by kernel_rfl
set_option maxHeartbeats 4000000 in
theorem qbm.r2.rule {K:KT}{w:Addr}{y:Addr}{s3:List UInt8}{s4:List UInt8}{s13:List UInt8}{s14:List UInt8}{z:List UInt8}{aa:List UInt8}{h:Heap} (J:Dn→Int→Int→Int→Addr→Int→Heap→Prop) (h0:J (fun _=>false) 0 0 0 ⟨0,0,none⟩ 0 h)
    (ai:∀ d n8 f m p q h,d 4=false→d 9=false→d 14=false→d 15=false→d 16=false→J d n8 f m p q h→hcell h (Addr.add w 0)=some (.string (mkS s3)))
    (aj:∀ d n8 f m p q h,d 4=false→d 9=false→d 14=false→d 15=false→d 16=false→J d n8 f m p q h→hcell h (Addr.add y 0)=some (.string (mkS s4)))
    (ak:∀ (d:Dn) n8 f m p q h (k4:Int→Heap→Prop),d 4=false→d 9=false→d 14=false→d 15=false→d 16=false→J d n8 f m p q h→(∀ n8' h',J (d.on 4) n8' f m p q h'→k4 n8' h')→CallsH P F.qdc [.string (mkS s3),.string (mkS s4)] (fun v9 am=>∃ ab,v9=.int .i64 ab∧k4 ab am) h)
    (an:∀ d n8 f m p q h,d 9=false→d 14=false→d 15=false→d 16=false→J d n8 f m p q h→hcell h (Addr.add w 1)=some (.string (mkS s13)))
    (ao:∀ d n8 f m p q h,d 9=false→d 14=false→d 15=false→d 16=false→J d n8 f m p q h→hcell h (Addr.add y 1)=some (.string (mkS s14)))
    (aq:∀ (d:Dn) n8 f m p q h (k9:Int→Heap→Prop),d 9=false→d 4=true→d 14=false→d 15=false→d 16=false→J d n8 f m p q h→(∀ n18' h',J (d.on 9) n8 n18' m p q h'→k9 n18' h')→CallsH P F.qdc [.string (mkS s13),.string (mkS s14)] (fun ar au=>∃ ac,ar=.int .i64 ac∧k9 ac au) h)
    (av:∀ d n8 f m p q h,d 14=false→d 15=false→d 16=false→J d n8 f m p q h→hcell h (Addr.add w 2)=some (.string (mkS z)))
    (aw:∀ d n8 f m p q h,d 14=false→d 15=false→d 16=false→J d n8 f m p q h→hcell h (Addr.add y 2)=some (.string (mkS aa)))
    (ax:∀ (d:Dn) n8 f m p q h (ad:Int→Heap→Prop),d 14=false→d 4=true→d 9=true→d 15=false→d 16=false→J d n8 f m p q h→(∀ n28' h',J (d.on 14) n8 f n28' p q h'→ad n28' h')→CallsH P F.qdc [.string (mkS z),.string (mkS aa)] (fun ay az=>∃ ae,ay=.int .i64 ae∧ad ae az) h)
    (ba:∀ (d:Dn) n8 f m p q h (af:Addr→Heap→Prop),d 15=false→d 4=true→d 9=true→d 14=true→d 16=false→J d n8 f m p q h→(∀ a34' h',J (d.on 15) n8 f m a34' q h'→af a34' h')→bd (al h #[.int .i64 n8,.int .i64 f,.int .i64 m] T.int) fun bb=>af (top h) bb)
    (be:∀ (d:Dn) n8 f m p q h (ag:Int→Heap→Prop),d 16=false→d 4=true→d 9=true→d 14=true→d 15=true→J d n8 f m p q h→(∀ n40' h',J (d.on 16) n8 f m p n40' h'→ag n40' h')→CallsH P F.qcx [.slice (some p) 3 3] (fun bf bh=>∃ ah,bf=.int .i64 ah∧ag ah bh) h)
    (fin:∀ (d:Dn) n8 f m p q h,d 4=true→d 9=true→d 14=true→d 15=true→d 16=true→J d n8 f m p q h→qbm.j1 K q h):qbm.r2 K w y h:=by
  unfold qbm.r2
  have e:=fun (g:(Int) × (Int) × (Int) × (Addr) × (Int)) (h:Heap) (k:Value→Heap→Prop)=>congrFun (congrFun (congrFun (congrFun (congrFun (congrFun (congrFun (congrFun (congrFun (congrFun (congrFun (congrFun (congrFun (congrFun (congrFun (qbm.r2.e) w) y) s3) s4) s13) s14) z) aa) g.1) g.2.1) g.2.2.1) g.2.2.2.1) g.2.2.2.2) h) k
  refine par_of (G:=(Int) × (Int) × (Int) × (Addr) × (Int)) [(2,.pointer (some w)),(3,.pointer (some y))] (fun g=>qbm.r2.v w y s3 s4 s13 s14 z aa g.1 g.2.1 g.2.2.1 g.2.2.2.1 g.2.2.2.2) qbm.r2.A qbm.r2.D qbm.r2.AN qbm.r2.DE qbm.r2.u [4,9,14,15,16] (fun d g h=>J d g.1 g.2.1 g.2.2.1 g.2.2.2.1 g.2.2.2.2 h) (0,0,0,⟨0,0,none⟩,0) (by kernel_rfl) (by kernel_rfl) h0 ?_ ?_ ?_ (fun _ _ _=>leaf_mono)
  · exact forall_lt (n:=18) (belowS (belowS (belowS (belowS (belowS (belowS (belowS (belowS (belowS (belowS (belowS (belowS (belowS (belowS (belowS (belowS (belowS (belowS (below0) (fun _ d g h k ha hq hJ hk=>Eq.mpr (of_map (e g h k) (i:=0) (by decide)) (hk))) (fun _ d g h k ha hq hJ hk=>Eq.mpr (of_map (e g h k) (i:=1) (by decide)) (Exists.intro s3 (And.intro (ai d g.1 g.2.1 g.2.2.1 g.2.2.2.1 g.2.2.2.2 h (desc_of hq 4 rfl) (desc_of hq 9 rfl) (desc_of hq 14 rfl) (desc_of hq 15 rfl) (desc_of hq 16 rfl) hJ) hk)))) (fun _ d g h k ha hq hJ hk=>Eq.mpr (of_map (e g h k) (i:=2) (by decide)) (hk))) (fun _ d g h k ha hq hJ hk=>Eq.mpr (of_map (e g h k) (i:=3) (by decide)) (Exists.intro s4 (And.intro (aj d g.1 g.2.1 g.2.2.1 g.2.2.2.1 g.2.2.2.2 h (desc_of hq 4 rfl) (desc_of hq 9 rfl) (desc_of hq 14 rfl) (desc_of hq 15 rfl) (desc_of hq 16 rfl) hJ) hk)))) (fun hm=>by cases hm)) (fun _ d g h k ha hq hJ hk=>Eq.mpr (of_map (e g h k) (i:=5) (by decide)) (hk))) (fun _ d g h k ha hq hJ hk=>Eq.mpr (of_map (e g h k) (i:=6) (by decide)) (Exists.intro s13 (And.intro (an d g.1 g.2.1 g.2.2.1 g.2.2.2.1 g.2.2.2.2 h (desc_of hq 9 rfl) (desc_of hq 14 rfl) (desc_of hq 15 rfl) (desc_of hq 16 rfl) hJ) hk)))) (fun _ d g h k ha hq hJ hk=>Eq.mpr (of_map (e g h k) (i:=7) (by decide)) (hk))) (fun _ d g h k ha hq hJ hk=>Eq.mpr (of_map (e g h k) (i:=8) (by decide)) (Exists.intro s14 (And.intro (ao d g.1 g.2.1 g.2.2.1 g.2.2.2.1 g.2.2.2.2 h (desc_of hq 9 rfl) (desc_of hq 14 rfl) (desc_of hq 15 rfl) (desc_of hq 16 rfl) hJ) hk)))) (fun hm=>by cases hm)) (fun _ d g h k ha hq hJ hk=>Eq.mpr (of_map (e g h k) (i:=10) (by decide)) (hk))) (fun _ d g h k ha hq hJ hk=>Eq.mpr (of_map (e g h k) (i:=11) (by decide)) (Exists.intro z (And.intro (av d g.1 g.2.1 g.2.2.1 g.2.2.2.1 g.2.2.2.2 h (desc_of hq 14 rfl) (desc_of hq 15 rfl) (desc_of hq 16 rfl) hJ) hk)))) (fun _ d g h k ha hq hJ hk=>Eq.mpr (of_map (e g h k) (i:=12) (by decide)) (hk))) (fun _ d g h k ha hq hJ hk=>Eq.mpr (of_map (e g h k) (i:=13) (by decide)) (Exists.intro aa (And.intro (aw d g.1 g.2.1 g.2.2.1 g.2.2.2.1 g.2.2.2.2 h (desc_of hq 14 rfl) (desc_of hq 15 rfl) (desc_of hq 16 rfl) hJ) hk)))) (fun hm=>by cases hm)) (fun hm=>by cases hm)) (fun hm=>by cases hm)) (fun _ d g h k ha hq hJ hk=>Eq.mpr (of_map (e g h k) (i:=17) (by decide)) (hk)))
  · exact forall_lt (n:=18) (belowS (belowS (belowS (belowS (belowS (belowS (belowS (belowS (belowS (belowS (belowS (belowS (belowS (belowS (belowS (belowS (belowS (belowS (below0) (fun hm=>by cases hm)) (fun hm=>by cases hm)) (fun hm=>by cases hm)) (fun hm=>by cases hm)) (fun _ d g h hd ha hq hJ k hk=>Eq.mpr (of_map (e g h k) (i:=4) (by decide)) (ak d g.1 g.2.1 g.2.2.1 g.2.2.2.1 g.2.2.2.2 h (fun n8' h'=>k (.int .i64 n8') h') hd (desc_of hq 9 rfl) (desc_of hq 14 rfl) (desc_of hq 15 rfl) (desc_of hq 16 rfl) hJ (fun n8' h' hj=>hk (n8',g.2.1,g.2.2.1,g.2.2.2.1,g.2.2.2.2) h' (offs_same (congrFun (congrFun (congrFun (congrFun (congrFun (congrFun (congrFun (congrFun (congrFun (congrFun (congrFun (congrFun (congrFun (congrFun (qbm.r2.s4) w) y) s3) s4) s13) s14) z) aa) g.1) g.2.1) g.2.2.1) g.2.2.2.1) g.2.2.2.2) n8')) hj)))) (fun hm=>by cases hm)) (fun hm=>by cases hm)) (fun hm=>by cases hm)) (fun hm=>by cases hm)) (fun _ d g h hd ha hq hJ k hk=>Eq.mpr (of_map (e g h k) (i:=9) (by decide)) (aq d g.1 g.2.1 g.2.2.1 g.2.2.2.1 g.2.2.2.2 h (fun n18' h'=>k (.int .i64 n18') h') hd (anc_of ha 4 rfl) (desc_of hq 14 rfl) (desc_of hq 15 rfl) (desc_of hq 16 rfl) hJ (fun n18' h' hj=>hk (g.1,n18',g.2.2.1,g.2.2.2.1,g.2.2.2.2) h' (offs_same (congrFun (congrFun (congrFun (congrFun (congrFun (congrFun (congrFun (congrFun (congrFun (congrFun (congrFun (congrFun (congrFun (congrFun (qbm.r2.s9) w) y) s3) s4) s13) s14) z) aa) g.1) g.2.1) g.2.2.1) g.2.2.2.1) g.2.2.2.2) n18')) hj)))) (fun hm=>by cases hm)) (fun hm=>by cases hm)) (fun hm=>by cases hm)) (fun hm=>by cases hm)) (fun _ d g h hd ha hq hJ k hk=>Eq.mpr (of_map (e g h k) (i:=14) (by decide)) (ax d g.1 g.2.1 g.2.2.1 g.2.2.2.1 g.2.2.2.2 h (fun n28' h'=>k (.int .i64 n28') h') hd (anc_of ha 4 rfl) (anc_of ha 9 rfl) (desc_of hq 15 rfl) (desc_of hq 16 rfl) hJ (fun n28' h' hj=>hk (g.1,g.2.1,n28',g.2.2.2.1,g.2.2.2.2) h' (offs_same (congrFun (congrFun (congrFun (congrFun (congrFun (congrFun (congrFun (congrFun (congrFun (congrFun (congrFun (congrFun (congrFun (congrFun (qbm.r2.s14) w) y) s3) s4) s13) s14) z) aa) g.1) g.2.1) g.2.2.1) g.2.2.2.1) g.2.2.2.2) n28')) hj)))) (fun _ d g h hd ha hq hJ k hk=>Eq.mpr (of_map (e g h k) (i:=15) (by decide)) (ba d g.1 g.2.1 g.2.2.1 g.2.2.2.1 g.2.2.2.2 h (fun a34' h'=>k (.slice (some a34') 3 3) h') hd (anc_of ha 4 rfl) (anc_of ha 9 rfl) (anc_of ha 14 rfl) (desc_of hq 16 rfl) hJ (fun a34' h' hj=>hk (g.1,g.2.1,g.2.2.1,a34',g.2.2.2.2) h' (offs_same (congrFun (congrFun (congrFun (congrFun (congrFun (congrFun (congrFun (congrFun (congrFun (congrFun (congrFun (congrFun (congrFun (congrFun (qbm.r2.s15) w) y) s3) s4) s13) s14) z) aa) g.1) g.2.1) g.2.2.1) g.2.2.2.1) g.2.2.2.2) a34')) hj)))) (fun _ d g h hd ha hq hJ k hk=>Eq.mpr (of_map (e g h k) (i:=16) (by decide)) (be d g.1 g.2.1 g.2.2.1 g.2.2.2.1 g.2.2.2.2 h (fun n40' h'=>k (.int .i64 n40') h') hd (anc_of ha 4 rfl) (anc_of ha 9 rfl) (anc_of ha 14 rfl) (anc_of ha 15 rfl) hJ (fun n40' h' hj=>hk (g.1,g.2.1,g.2.2.1,g.2.2.2.1,n40') h' (offs_same (congrFun (congrFun (congrFun (congrFun (congrFun (congrFun (congrFun (congrFun (congrFun (congrFun (congrFun (congrFun (congrFun (congrFun (qbm.r2.s16) w) y) s3) s4) s13) s14) z) aa) g.1) g.2.1) g.2.2.1) g.2.2.2.1) g.2.2.2.2) n40')) hj)))) (fun hm=>by cases hm))
  · intro d g h ha hJ
    exact fin d g.1 g.2.1 g.2.2.1 g.2.2.2.1 g.2.2.2.2 h (ha 4 rfl (by decide)) (ha 9 rfl (by decide)) (ha 14 rfl (by decide)) (ha 15 rfl (by decide)) (ha 16 rfl (by decide)) hJ
def qbm.p0 (K:KT) (f:List Value) (m:List Value) (h:Heap):Prop :=
  bd (al h (List.toArray f) T.api_Bind) fun h1=>bd (al h1 (List.toArray m) T.api_Bind) fun h2=>qbm.r2 K (top h) (top h1) h2
def qbm.plan (K:KT):Plan:=(.seq .go (.cut qbm.j1.l (qbm.j1.j K) (.par [(2,.addr),(3,.addr)]) .go))
theorem qbm.ev_eq:qbm.p0=fun K f m h=>Ev P Tryz.f66 (qbm.plan K) K [.agg (List.toArray f),.agg (List.toArray m)] h:=by kernel_rfl
theorem qbm.obl (K:KT):Obl P Tryz.f66 (qbm.plan K) K :=
  obl_of (R:=parChk P Tryz.f66.ntmps (opsAt 1 (bodyOf Tryz.f66))=true∧Imp (qbm.j1.j K)∧True) (by kernel_rfl) ⟨by kernel_rfl,⟨imp _,trivial⟩⟩
theorem qbm.ok {K:KT}{f:List Value}{m:List Value}{h:Heap} (H:qbm.p0 K f m h):CallsH P F.qbm [.agg (List.toArray f),.agg (List.toArray m)] K h :=
  calls_of_Ev (qbm.plan K) Tryz.func66 (by kernel_rfl) (qbm.obl K) (by rw [qbm.ev_eq] at H; exact H)
def qdo.p0 (K:KT) (p:OA) (h:Heap):Prop :=
  ∃ p1,p=some p1∧∃ m2,hcell h (Addr.add p1 1)=some (.map m2)∧CallsH P F.qbt [.map m2] (fun v3 h4=>CallsH P F.qcl [v3,.func (.func F.qbm) #[] #[]] (fun v5 h6=>∃ a7 f m,v5=.slice a7 f m∧K (.slice a7 f m) h6) h4) h
def qdo.plan (K:KT):Plan:=.go
theorem qdo.ev_eq:qdo.p0=fun K f h=>Ev P Tryz.f26 (qdo.plan K) K [.pointer f] h:=by kernel_rfl
theorem qdo.obl (K:KT):Obl P Tryz.f26 (qdo.plan K) K :=
  obl_true (by kernel_rfl)
theorem qdo.ok {K:KT}{f:OA}{h:Heap} (H:qdo.p0 K f h):CallsH P F.qdo [.pointer f] K h :=
  calls_of_Ev (qdo.plan K) Tryz.func26 (by kernel_rfl) (qdo.obl K) (by rw [qdo.ev_eq] at H; exact H)
def qdv.p0 (K:KT) (t0:List Value) (p:List Value) (f:List UInt8) (h:Heap):Prop :=
  bd (al h (List.toArray t0) T.api_Exch) fun h1=>bd (al h1 (List.toArray p) T.api_Bind) fun h2=>∃ n3,hcell h2 (Addr.add (top h) 1)=some (.int .i64 n3)∧bd ((n3==1):Bool) fun b4=>(b4=true→∃ s5,hcell h2 (Addr.add (top h1) 2)=some (.string (mkS s5))∧bd ((s5==f):Bool) fun b6=>K (.bool b6) h2)∧(b4=false→bd ((n3==3):Bool) fun b7=>(b7=true→∃ s8,hcell h2 (Addr.add (top h1) 2)=some (.string (mkS s8))∧CallsH P F.qbe [.string (mkS s8),.string (mkS f)] (fun v9 q=>∃ m,v9=.bool m∧K (.bool m) q) h2)∧(b7=false→K (.bool true) h2))
def qdv.plan (K:KT):Plan:=.go
theorem qdv.ev_eq:qdv.p0=fun K t0 f m h=>Ev P Tryz.f187 (qdv.plan K) K [.agg (List.toArray t0),.agg (List.toArray f),.string (mkS m)] h:=by kernel_rfl
theorem qdv.obl (K:KT):Obl P Tryz.f187 (qdv.plan K) K :=
  obl_true (by kernel_rfl)
theorem qdv.ok {K:KT}{t0:List Value}{f:List Value}{m:List UInt8}{h:Heap} (H:qdv.p0 K t0 f m h):CallsH P F.qdv [.agg (List.toArray t0),.agg (List.toArray f),.string (mkS m)] K h :=
  calls_of_Ev (qdv.plan K) Tryz.func187 (by kernel_rfl) (qdv.obl K) (by rw [qdv.ev_eq] at H; exact H)
def qbg.j1 (K:KT) (q:OA) (w:Nat) (y:Nat) (h:Heap):Prop :=
  CallsH P F.qar [.slice q w y] (fun z aa=>∃ f m p,z=.slice f m p∧K (.slice f m p) aa) h
def qbg.j1.l:Live:=[(9,.slice)]
def qbg.j1.j (K:KT):Tup qbg.j1.l→Heap→Prop:=fun x h=>qbg.j1 K x.1.1 x.1.2.1 x.1.2.2 h
def qbg.j3 (K:KT) (R2:List UInt8→List UInt8→Addr→OA→Nat→Nat→OA→Nat→Nat→Int→Int→Heap→Prop) (f:List UInt8) (m:List UInt8) (t7:Addr) (p:OA) (q:Nat) (w:Nat) (y:OA) (z:Nat) (aa:Nat) (ab:Int) (ac:Int) (h:Heap):Prop :=
  R2 f m t7 p q w y z aa ab (IntKind.i64.wrap (ac+1)) h
def qbg.j3.l:Live:=[(1,.str),(2,.str),(7,.addr),(9,.slice),(30,.slice),(31,.int .i64),(32,.int .i64)]
def qbg.j3.j (K:KT) (R2:List UInt8→List UInt8→Addr→OA→Nat→Nat→OA→Nat→Nat→Int→Int→Heap→Prop):Tup qbg.j3.l→Heap→Prop:=fun x h=>qbg.j3 K R2 x.1 x.2.1 x.2.2.1 x.2.2.2.1.1 x.2.2.2.1.2.1 x.2.2.2.1.2.2 x.2.2.2.2.1.1 x.2.2.2.2.1.2.1 x.2.2.2.2.1.2.2 x.2.2.2.2.2.1 x.2.2.2.2.2.2.1 h
def qbg.j4 (K:KT) (R2:List UInt8→List UInt8→Addr→OA→Nat→Nat→OA→Nat→Nat→Int→Int→Heap→Prop) (f:List UInt8) (m:List UInt8) (t7:Addr) (p:OA) (q:Nat) (w:Nat) (ai:Addr) (y:OA) (z:Nat) (aa:Nat) (ab:Int) (ac:Int) (ad:Bool) (h:Heap):Prop :=
  (ad=true→∃ ae,hcell h (Addr.add ai 1)=some (.string (mkS ae))∧bd (al h #[.string (mkS ae)] T.string) fun aj=>SemH P (Builtin.append_ #[T.sl_string,T.sl_string] T.sl_string #[.slice p q w,.slice (some (top h)) 1 1]) (fun ak am=>∃ af ag ah,ak=.slice af ag ah∧qbg.j3 K R2 f m t7 af ag ah y z aa ab ac am) aj)∧(ad=false→qbg.j3 K R2 f m t7 p q w y z aa ab ac h)
def qbg.j4.l:Live:=[(1,.str),(2,.str),(7,.addr),(9,.slice),(11,.addr),(30,.slice),(31,.int .i64),(32,.int .i64),(45,.bool)]
def qbg.j4.j (K:KT) (R2:List UInt8→List UInt8→Addr→OA→Nat→Nat→OA→Nat→Nat→Int→Int→Heap→Prop):Tup qbg.j4.l→Heap→Prop:=fun x h=>qbg.j4 K R2 x.1 x.2.1 x.2.2.1 x.2.2.2.1.1 x.2.2.2.1.2.1 x.2.2.2.1.2.2 x.2.2.2.2.1 x.2.2.2.2.2.1.1 x.2.2.2.2.2.1.2.1 x.2.2.2.2.2.1.2.2 x.2.2.2.2.2.2.1 x.2.2.2.2.2.2.2.1 x.2.2.2.2.2.2.2.2.1 h
def qbg.L2 (K:KT):Nat→List UInt8→List UInt8→Addr→OA→Nat→Nat→OA→Nat→Nat→Int→Int→Heap→Prop
  | 0,_,_,_,_,_,_,_,_,_,_,_,_=>False
  | fuel+1,p,w,t7,y,z,aa,ab,ac,af,q,f,h=>((decide (f<q))=true→∃ ag,ab=some ag∧(0:Int)≤f∧f<((ac:Nat):Int)∧∃ ad,rdC h (Addr.add ag (Int.toNat f * 3)) 0 3=some ad∧bd (al h #[.string (mkS ([]:List UInt8)),.string (mkS ([]:List UInt8)),.string (mkS ([]:List UInt8))] T.api_Bind) fun ak=>ad.length=3∧∃ m,stC ak (top h) 0 ad=some m∧∃ ae,hcell m (Addr.add (top h) 0)=some (.string (mkS ae))∧((ae==p)=true→∃ ah,rdC m t7 0 3=some ah∧∃ ai,rdC m (top h) 0 3=some ai∧CallsH P F.qdv [.agg (List.toArray ah),.agg (List.toArray ai),.string (mkS w)] (fun am an=>∃ aj,am=.bool aj∧qbg.j4 K (qbg.L2 K fuel) p w t7 y z aa (top h) ab ac af q f aj an) m)∧((ae==p)=false→qbg.j4 K (qbg.L2 K fuel) p w t7 y z aa (top h) ab ac af q f false m))∧((decide (f<q))=false→qbg.j1 K y z aa h)
termination_by structural n=>n
def qbg.L2.l:Live:=[(1,.str),(2,.str),(7,.addr),(9,.slice),(30,.slice),(31,.int .i64),(32,.int .i64)]
def qbg.L2.j (K:KT):Nat→Tup qbg.L2.l→Heap→Prop:=fun n x h=>qbg.L2 K n x.1 x.2.1 x.2.2.1 x.2.2.2.1.1 x.2.2.2.1.2.1 x.2.2.2.1.2.2 x.2.2.2.2.1.1 x.2.2.2.2.1.2.1 x.2.2.2.2.1.2.2 x.2.2.2.2.2.1 x.2.2.2.2.2.2.1 h
def qbg.p0 (K:KT) (q:OA) (f:List UInt8) (w:List UInt8) (h:Heap):Prop :=
  ∃ p1,q=some p1∧∃ m2,hcell h (Addr.add p1 0)=some (.map m2)∧SemH P (Instr.lookup T.map_string_api_Exch (.map m2) (.string (mkS f)) true) (fun v3 h4=>∃ m b6,v3=.tuple #[.agg (List.toArray m),.bool b6]∧bd (al h4 #[.string (mkS ([]:List UInt8)),.int .i64 0,.bool false] T.api_Exch) fun h7=>m.length=3∧∃ h8,stC h7 (top h4) 0 m=some h8∧bd ((!b6):Bool) fun b9=>(b9=true→K (.slice none 0 0) h8)∧(b9=false→bd ((f==([]:List UInt8)):Bool) fun y=>(y=true→bd (al h8 #[.string (mkS w)] T.string) fun ab=>bd ((some (top h8)):OA) fun ac=>bd (1:Nat) fun ad=>bd (1:Nat) fun ae=>K (.slice ac ad ae) ab)∧(y=false→CallsH P F.qdo [.pointer q] (fun af ag=>∃ z p aa,af=.slice z p aa∧∃ fuel34,qbg.L2 K fuel34 f w (top h4) none 0 0 z p aa ((p:Nat):Int) 0 ag) h8))) h
def qbg.plan (K:KT):Plan:=(.seq .go (.seq .go (.seq .go (.seq .go (.cut qbg.j1.l (qbg.j1.j K) (.seq .go (.block (.loop qbg.L2.l (qbg.L2.j K) (fun n2=>(.seq .go (.seq .go (.cut qbg.j3.l (qbg.j3.j K (qbg.L2 K n2)) (.block (.seq .go (.cut qbg.j4.l (qbg.j4.j K (qbg.L2 K n2)) .go .go))) .go))))))) .go)))))
theorem qbg.ev_eq:qbg.p0=fun K f m p h=>Ev P Tryz.f117 (qbg.plan K) K [.pointer f,.string (mkS m),.string (mkS p)] h:=by kernel_rfl
theorem qbg.obl (K:KT):Obl P Tryz.f117 (qbg.plan K) K :=
  obl_of (R:=(∀ x h,¬ (qbg.L2.j K) 0 x h)∧ImpN (qbg.L2.j K)∧(∀ (n2:Nat),Imp (qbg.j4.j K (qbg.L2 K n2))∧Imp (qbg.j3.j K (qbg.L2 K n2))∧True)∧Imp (qbg.j1.j K)∧True) (by kernel_rfl) ⟨fun _ _ H=>H,impN _,fun _=>⟨imp _,⟨imp _,trivial⟩⟩,⟨imp _,trivial⟩⟩
theorem qbg.ok {K:KT}{f:OA}{m:List UInt8}{p:List UInt8}{h:Heap} (H:qbg.p0 K f m p h):CallsH P F.qbg [.pointer f,.string (mkS m),.string (mkS p)] K h :=
  calls_of_Ev (qbg.plan K) Tryz.func117 (by kernel_rfl) (qbg.obl K) (by rw [qbg.ev_eq] at H; exact H)
def qdn.p0 (K:KT) (p:OA) (h:Heap):Prop :=
  ∃ p1,p=some p1∧∃ m2,hcell h (Addr.add p1 0)=some (.map m2)∧CallsH P F.qbq [.map m2] (fun v3 h4=>CallsH P F.qcs [v3] (fun v5 h6=>∃ a7 f m,v5=.slice a7 f m∧K (.slice a7 f m) h6) h4) h
def qdn.plan (K:KT):Plan:=.go
theorem qdn.ev_eq:qdn.p0=fun K f h=>Ev P Tryz.f122 (qdn.plan K) K [.pointer f] h:=by kernel_rfl
theorem qdn.obl (K:KT):Obl P Tryz.f122 (qdn.plan K) K :=
  obl_true (by kernel_rfl)
theorem qdn.ok {K:KT}{f:OA}{h:Heap} (H:qdn.p0 K f h):CallsH P F.qdn [.pointer f] K h :=
  calls_of_Ev (qdn.plan K) Tryz.func122 (by kernel_rfl) (qdn.obl K) (by rw [qdn.ev_eq] at H; exact H)
end Go.Proofs.YtofpbcakppjgcaaGreatDoor.Pr
end
section
set_option linter.unusedVariables false
set_option maxRecDepth 100000
namespace Go.Proofs.YtofpbcakppjgcaaGreatDoor.Pr
open Go Go.Lift Go.Proofs
def qcx.L1 (K:KT):Nat→Int→OA→Nat→Nat→Int→Int→Heap→Prop
  | 0,_,_,_,_,_,_,_=>False
  | fuel+1,f,t6,m,p,t7,t8,h=>((decide (t8<t7))=true→∃ p1,t6=some p1∧(0:Int)≤t8∧t8<((m:Nat):Int)∧∃ n2,hcell h (Addr.add p1 (Int.toNat t8 * 1))=some (.int .i64 n2)∧((n2 != f)=true→K (.int .i64 n2) h)∧((n2 != f)=false→(qcx.L1 K fuel) f t6 m p t7 (IntKind.i64.wrap (t8+1)) h))∧((decide (t8<t7))=false→K (.int .i64 f) h)
termination_by structural n=>n
def qcx.L1.l:Live:=[(3,.int .i64),(6,.slice),(7,.int .i64),(8,.int .i64)]
def qcx.L1.j (K:KT):Nat→Tup qcx.L1.l→Heap→Prop:=fun n x h=>qcx.L1 K n x.1 x.2.1.1 x.2.1.2.1 x.2.1.2.2 x.2.2.1 x.2.2.2.1 h
def qcx.p0 (K:KT) (m:OA) (f:Nat) (p:Nat) (h:Heap):Prop :=
  ∃ fuel3,qcx.L1 K fuel3 0 m f p ((f:Nat):Int) 0 h
def qcx.plan (K:KT):Plan:=(.seq .go (.seq .go (.seq (.seq .go (.block (.loop qcx.L1.l (qcx.L1.j K) (fun n1=>.go)))) .go)))
theorem qcx.ev_eq:qcx.p0=fun K f m p h=>Ev P Tryz.f138 (qcx.plan K) K [.slice f m p] h:=by kernel_rfl
theorem qcx.obl (K:KT):Obl P Tryz.f138 (qcx.plan K) K :=
  obl_of (R:=(∀ x h,¬ (qcx.L1.j K) 0 x h)∧ImpN (qcx.L1.j K)∧(∀ (n1:Nat),True)∧True) (by kernel_rfl) ⟨fun _ _ H=>H,impN _,fun _=>trivial,trivial⟩
theorem qcx.ok {K:KT}{f:OA}{m:Nat}{p:Nat}{h:Heap} (H:qcx.p0 K f m p h):CallsH P F.qcx [.slice f m p] K h :=
  calls_of_Ev (qcx.plan K) Tryz.func138 (by kernel_rfl) (qcx.obl K) (by rw [qcx.ev_eq] at H; exact H)
end Go.Proofs.YtofpbcakppjgcaaGreatDoor.Pr
end
section
set_option linter.unusedVariables false
set_option maxRecDepth 100000
namespace Go.Proofs.YtofpbcakppjgcaaGreatDoor.Pr
open Go Go.Lift Go.Proofs
def qbt.p0 (K:KT) (f:Option Nat) (h:Heap):Prop :=
  bd (al h #[.map f] T.map_api_Bind_int) fun h1=>K (.func (.func F.maps_Keys_map_api_Bind_int_api_Bind_int_1) #[] #[.pointer (some (top h))]) h1
def qbt.plan (K:KT):Plan:=.go
theorem qbt.ev_eq:qbt.p0=fun K f h=>Ev P Tryz.f65 (qbt.plan K) K [.map f] h:=by kernel_rfl
theorem qbt.obl (K:KT):Obl P Tryz.f65 (qbt.plan K) K :=
  obl_true (by kernel_rfl)
theorem qbt.ok {K:KT}{f:Option Nat}{h:Heap} (H:qbt.p0 K f h):CallsH P F.qbt [.map f] K h :=
  calls_of_Ev (qbt.plan K) Tryz.func65 (by kernel_rfl) (qbt.obl K) (by rw [qbt.ev_eq] at H; exact H)
def qbv.p0 (K:KT) (f:Option Nat) (h:Heap):Prop :=
  bd (al h #[.map f] T.map_uint64_int) fun h1=>K (.func (.func F.maps_Keys_map_uint64_int_uint64_int_1) #[] #[.pointer (some (top h))]) h1
def qbv.plan (K:KT):Plan:=.go
theorem qbv.ev_eq:qbv.p0=fun K f h=>Ev P Tryz.f140 (qbv.plan K) K [.map f] h:=by kernel_rfl
theorem qbv.obl (K:KT):Obl P Tryz.f140 (qbv.plan K) K :=
  obl_true (by kernel_rfl)
theorem qbv.ok {K:KT}{f:Option Nat}{h:Heap} (H:qbv.p0 K f h):CallsH P F.qbv [.map f] K h :=
  calls_of_Ev (qbv.plan K) Tryz.func140 (by kernel_rfl) (qbv.obl K) (by rw [qbv.ev_eq] at H; exact H)
end Go.Proofs.YtofpbcakppjgcaaGreatDoor.Pr
end
section
set_option linter.unusedVariables false
set_option maxRecDepth 100000
namespace Go.Proofs.YtofpbcakppjgcaaGreatDoor.Pr
open Go Go.Lift Go.Proofs
def qcr.p0 (K:KT) (p:Value) (h:Heap):Prop :=
  CallsH P F.slices_AppendSeq_api_Bind_api_Bind [.slice none 0 0,p] (fun v1 h2=>∃ a3 f m,v1=.slice a3 f m∧K (.slice a3 f m) h2) h
def qcr.plan (K:KT):Plan:=.go
theorem qcr.ev_eq:qcr.p0=fun K f h=>Ev P Tryz.f135 (qcr.plan K) K [f] h:=by kernel_rfl
theorem qcr.obl (K:KT):Obl P Tryz.f135 (qcr.plan K) K :=
  obl_true (by kernel_rfl)
theorem qcr.ok {K:KT}{f:Value}{h:Heap} (H:qcr.p0 K f h):CallsH P F.qcr [f] K h :=
  calls_of_Ev (qcr.plan K) Tryz.func135 (by kernel_rfl) (qcr.obl K) (by rw [qcr.ev_eq] at H; exact H)
def qak.j2 (K:KT) (R1:OA→Nat→Nat→Int→Int→Value→Int→Heap→Prop) (f:OA) (m:Nat) (p:Nat) (q:Int) (w:Int) (y:Value) (z:Int) (h:Heap):Prop :=
  bd ((IntKind.i64.wrap (z+1)):Int) fun aa=>R1 f m p q w y aa h
def qak.j2.l:Live:=[(0,.slice),(1,.int .i64),(2,.int .i64),(3,.raw),(8,.int .i64)]
def qak.j2.j (K:KT) (R1:OA→Nat→Nat→Int→Int→Value→Int→Heap→Prop):Tup qak.j2.l→Heap→Prop:=fun x h=>qak.j2 K R1 x.1.1 x.1.2.1 x.1.2.2 x.2.1 x.2.2.1 x.2.2.2.1 x.2.2.2.2.1 h
def qak.j4 (K:KT) (R1:OA→Nat→Nat→Int→Int→Value→Int→Heap→Prop) (R3:OA→Nat→Nat→Int→Int→Value→Int→Int→Heap→Prop) (m:OA) (p:Nat) (y:Nat) (z:Int) (aa:Int) (ab:Value) (ac:Int) (f:Int) (ad:Bool) (h:Heap):Prop :=
  (ad=true→∃ p3,m=some p3∧(0:Int)≤(IntKind.i64.wrap (f - 1))∧(IntKind.i64.wrap (f - 1))<((p:Nat):Int)∧∃ p4,m=some p4∧(0:Int)≤f∧f<((p:Nat):Int)∧∃ q,rdC h (Addr.add p3 (Int.toNat (IntKind.i64.wrap (f - 1)) * 3)) 0 3=some q∧∃ w,rdC h (Addr.add p4 (Int.toNat f * 3)) 0 3=some w∧∃ p7,m=some p7∧(0:Int)≤f∧f<((p:Nat):Int)∧q.length=3∧∃ h8,stC h (Addr.add p7 (Int.toNat f * 3)) 0 q=some h8∧∃ p9,m=some p9∧(0:Int)≤(IntKind.i64.wrap (f - 1))∧(IntKind.i64.wrap (f - 1))<((p:Nat):Int)∧w.length=3∧∃ ae,stC h8 (Addr.add p9 (Int.toNat (IntKind.i64.wrap (f - 1)) * 3)) 0 w=some ae∧bd ((IntKind.i64.wrap (f - 1)):Int) fun af=>R3 m p y z aa ab ac af ae)∧(ad=false→qak.j2 K R1 m p y z aa ab ac h)
def qak.j4.l:Live:=[(0,.slice),(1,.int .i64),(2,.int .i64),(3,.raw),(8,.int .i64),(9,.int .i64),(34,.bool)]
def qak.j4.j (K:KT) (R1:OA→Nat→Nat→Int→Int→Value→Int→Heap→Prop) (R3:OA→Nat→Nat→Int→Int→Value→Int→Int→Heap→Prop):Tup qak.j4.l→Heap→Prop:=fun x h=>qak.j4 K R1 R3 x.1.1 x.1.2.1 x.1.2.2 x.2.1 x.2.2.1 x.2.2.2.1 x.2.2.2.2.1 x.2.2.2.2.2.1 x.2.2.2.2.2.2.1 h
def qak.L3 (K:KT) (R1:OA→Nat→Nat→Int→Int→Value→Int→Heap→Prop):Nat→OA→Nat→Nat→Int→Int→Value→Int→Int→Heap→Prop
  | 0,_,_,_,_,_,_,_,_,_=>False
  | fuel+1,m,p,y,q,z,w,aa,f,h=>((decide (f > q))=true→∃ ab,m=some ab∧(0:Int)≤f∧f<((p:Nat):Int)∧∃ ac,m=some ac∧(0:Int)≤(IntKind.i64.wrap (f - 1))∧(IntKind.i64.wrap (f - 1))<((p:Nat):Int)∧∃ ad,rdC h (Addr.add ab (Int.toNat f * 3)) 0 3=some ad∧∃ ae,rdC h (Addr.add ac (Int.toNat (IntKind.i64.wrap (f - 1)) * 3)) 0 3=some ae∧CallV P w [.agg (List.toArray ad),.agg (List.toArray ae)] (fun ag ah=>∃ af,ag=.int .i64 af∧qak.j4 K R1 (qak.L3 K R1 fuel) m p y q z w aa f (decide (af<0)) ah) h)∧((decide (f > q))=false→qak.j4 K R1 (qak.L3 K R1 fuel) m p y q z w aa f false h)
termination_by structural n=>n
def qak.L3.l:Live:=[(0,.slice),(1,.int .i64),(2,.int .i64),(3,.raw),(8,.int .i64),(9,.int .i64)]
def qak.L3.j (K:KT) (R1:OA→Nat→Nat→Int→Int→Value→Int→Heap→Prop):Nat→Tup qak.L3.l→Heap→Prop:=fun n x h=>qak.L3 K R1 n x.1.1 x.1.2.1 x.1.2.2 x.2.1 x.2.2.1 x.2.2.2.1 x.2.2.2.2.1 x.2.2.2.2.2.1 h
def qak.L1 (K:KT):Nat→OA→Nat→Nat→Int→Int→Value→Int→Heap→Prop
  | 0,_,_,_,_,_,_,_,_=>False
  | fuel+1,p,q,w,y,m,z,f,h=>((decide (f<m))=true→∃ fuel19,qak.L3 K (qak.L1 K fuel) fuel19 p q w y m z f f h)∧((decide (f<m))=false→K (.tuple #[]) h)
termination_by structural n=>n
def qak.L1.l:Live:=[(0,.slice),(1,.int .i64),(2,.int .i64),(3,.raw),(8,.int .i64)]
def qak.L1.j (K:KT):Nat→Tup qak.L1.l→Heap→Prop:=fun n x h=>qak.L1 K n x.1.1 x.1.2.1 x.1.2.2 x.2.1 x.2.2.1 x.2.2.2.1 x.2.2.2.2.1 h
def qak.p0 (K:KT) (m:OA) (p:Nat) (q:Nat) (f:Int) (w:Int) (y:Value) (h:Heap):Prop :=
  bd ((IntKind.i64.wrap (f+1)):Int) fun z=>∃ fuel20,qak.L1 K fuel20 m p q f w y z h
def qak.plan (K:KT):Plan:=(.seq .go (.block (.loop qak.L1.l (qak.L1.j K) (fun n1=>(.seq .go (.cut qak.j2.l (qak.j2.j K (qak.L1 K n1)) (.block (.seq .go (.block (.loop qak.L3.l (qak.L3.j K (qak.L1 K n1)) (fun n3=>(.seq (.cut qak.j4.l (qak.j4.j K (qak.L1 K n1) (qak.L3 K (qak.L1 K n1) n3)) (.orders (.op 0 (.op 1 (.op 2 (.op 3 (.op 4 (.op 5 (.op 6 (.op 7 (.op 9 (.op 10 (.op 11 (.op 12 (.op 8 (.op 13 (.op 14 (.op 15 (.op 16 .nil)))))))))))))))))) .go) (.seq (.block (.orders (.op 0 (.op 1 (.op 2 (.op 3 (.op 4 (.op 5 (.op 6 (.op 7 (.op 8 (.op 10 (.op 11 (.op 12 (.op 9 (.op 13 (.op 14 (.op 15 (.op 16 (.op 17 .nil)))))))))))))))))))) .go))))))) .go))))))
theorem qak.ev_eq:qak.p0=fun K f m p q w y h=>Ev P Tryz.f250 (qak.plan K) K [.slice f m p,.int .i64 q,.int .i64 w,y] h:=by kernel_rfl
theorem qak.obl (K:KT):Obl P Tryz.f250 (qak.plan K) K :=
  obl_of (R:=(∀ x h,¬ (qak.L1.j K) 0 x h)∧ImpN (qak.L1.j K)∧(∀ (n1:Nat),(∀ x h,¬ (qak.L3.j K (qak.L1 K n1)) 0 x h)∧ImpN (qak.L3.j K (qak.L1 K n1))∧(∀ (n3:Nat),DrawOK P Tryz.f250.ntmps (opsAt 4 (bodyOf Tryz.f250)) (.op 0 (.op 1 (.op 2 (.op 3 (.op 4 (.op 5 (.op 6 (.op 7 (.op 9 (.op 10 (.op 11 (.op 12 (.op 8 (.op 13 (.op 14 (.op 15 (.op 16 .nil)))))))))))))))))∧Imp (qak.j4.j K (qak.L1 K n1) (qak.L3 K (qak.L1 K n1) n3))∧DrawOK P Tryz.f250.ntmps (opsAt 6 (bodyOf Tryz.f250)) (.op 0 (.op 1 (.op 2 (.op 3 (.op 4 (.op 5 (.op 6 (.op 7 (.op 8 (.op 10 (.op 11 (.op 12 (.op 9 (.op 13 (.op 14 (.op 15 (.op 16 (.op 17 .nil))))))))))))))))))∧True)∧Imp (qak.j2.j K (qak.L1 K n1))∧True)∧True) (by kernel_rfl) ⟨fun _ _ H=>H,impN _,fun _=>⟨fun _ _ H=>H,impN _,fun _=>⟨draw_ok (by kernel_rfl),⟨imp _,⟨draw_ok (by kernel_rfl),trivial⟩⟩⟩,⟨imp _,trivial⟩⟩,trivial⟩
theorem qak.ok {K:KT}{f:OA}{m:Nat}{p:Nat}{q:Int}{w:Int}{y:Value}{h:Heap} (H:qak.p0 K f m p q w y h):CallsH P F.qak [.slice f m p,.int .i64 q,.int .i64 w,y] K h :=
  calls_of_Ev (qak.plan K) Tryz.func250 (by kernel_rfl) (qak.obl K) (by rw [qak.ev_eq] at H; exact H)
def qal.j5 (K:KT) (R1:OA→Nat→Nat→Int→Int→Int→Value→Bool→Bool→Heap→Prop) (f:OA) (m:Nat) (p:Nat) (z:Int) (y:Int) (aa:Int) (q:Value) (aj:Bool) (ak:Bool) (am:Int) (ae:Int) (af:Bool) (h:Heap):Prop :=
  (af=true→CallsH P F.slices_partitionEqualCmpFunc_api_Bind [.slice f m p,.int .i64 z,.int .i64 y,.int .i64 ae,q] (fun an ao=>∃ ag,an=.int .i64 ag∧R1 f m p ag y aa q aj ak ao) h)∧(af=false→CallsH P F.slices_partitionCmpFunc_api_Bind [.slice f m p,.int .i64 z,.int .i64 y,.int .i64 ae,q] (fun aq ah=>∃ w ab,aq=.tuple #[.int .i64 w,.bool ab]∧bd ((IntKind.i64.wrap (w - z)):Int) fun ac=>bd ((IntKind.i64.wrap (y - w)):Int) fun ad=>(8:Int)≠0∧bd ((IntKind.i64.wrap (Int.tdiv am 8)):Int) fun ai=>((decide (ac<ad))=true→bd ((decide (ac ≥ ai)):Bool) fun ar=>CallsH P F.qal [.slice f m p,.int .i64 z,.int .i64 w,.int .i64 aa,q] (fun au av=>au=.tuple #[]∧bd ((IntKind.i64.wrap (w+1)):Int) fun aw=>R1 f m p aw y aa q ar ab av) ah)∧((decide (ac<ad))=false→bd ((decide (ad ≥ ai)):Bool) fun ax=>CallsH P F.qal [.slice f m p,.int .i64 (IntKind.i64.wrap (w+1)),.int .i64 y,.int .i64 aa,q] (fun ay az=>ay=.tuple #[]∧R1 f m p z w aa q ax ab az) ah)) h)
def qal.j5.l:Live:=[(0,.slice),(1,.int .i64),(2,.int .i64),(3,.int .i64),(4,.raw),(10,.bool),(11,.bool),(12,.int .i64),(13,.int .i64),(97,.bool)]
def qal.j5.j (K:KT) (R1:OA→Nat→Nat→Int→Int→Int→Value→Bool→Bool→Heap→Prop):Tup qal.j5.l→Heap→Prop:=fun x h=>qal.j5 K R1 x.1.1 x.1.2.1 x.1.2.2 x.2.1 x.2.2.1 x.2.2.2.1 x.2.2.2.2.1 x.2.2.2.2.2.1 x.2.2.2.2.2.2.1 x.2.2.2.2.2.2.2.1 x.2.2.2.2.2.2.2.2.1 x.2.2.2.2.2.2.2.2.2.1 h
def qal.j4 (K:KT) (R1:OA→Nat→Nat→Int→Int→Int→Value→Bool→Bool→Heap→Prop) (p:OA) (q:Nat) (y:Nat) (f:Int) (z:Int) (aa:Int) (w:Value) (ab:Bool) (ac:Bool) (ad:Int) (m:Int) (h:Heap):Prop :=
  ((decide (f > 0))=true→∃ p27,p=some p27∧(0:Int)≤(IntKind.i64.wrap (f - 1))∧(IntKind.i64.wrap (f - 1))<((q:Nat):Int)∧∃ ae,p=some ae∧(0:Int)≤m∧m<((q:Nat):Int)∧∃ af,rdC h (Addr.add p27 (Int.toNat (IntKind.i64.wrap (f - 1)) * 3)) 0 3=some af∧∃ ag,rdC h (Addr.add ae (Int.toNat m * 3)) 0 3=some ag∧CallV P w [.agg (List.toArray af),.agg (List.toArray ag)] (fun ai aj=>∃ ah,ai=.int .i64 ah∧qal.j5 K R1 p q y f z aa w ab ac ad m (!(decide (ah<0))) aj) h)∧((decide (f > 0))=false→qal.j5 K R1 p q y f z aa w ab ac ad m false h)
def qal.j4.l:Live:=[(0,.slice),(1,.int .i64),(2,.int .i64),(3,.int .i64),(4,.raw),(10,.bool),(11,.bool),(12,.int .i64),(13,.int .i64)]
def qal.j4.j (K:KT) (R1:OA→Nat→Nat→Int→Int→Int→Value→Bool→Bool→Heap→Prop):Tup qal.j4.l→Heap→Prop:=fun x h=>qal.j4 K R1 x.1.1 x.1.2.1 x.1.2.2 x.2.1 x.2.2.1 x.2.2.2.1 x.2.2.2.2.1 x.2.2.2.2.2.1 x.2.2.2.2.2.2.1 x.2.2.2.2.2.2.2.1 x.2.2.2.2.2.2.2.2.1 h
def qal.j6 (K:KT) (R1:OA→Nat→Nat→Int→Int→Int→Value→Bool→Bool→Heap→Prop) (f:OA) (m:Nat) (p:Nat) (q:Int) (w:Int) (aa:Int) (y:Value) (ab:Bool) (ac:Bool) (ad:Int) (ae:Int) (af:Bool) (h:Heap):Prop :=
  (af=true→CallsH P F.slices_partialInsertionSortCmpFunc_api_Bind [.slice f m p,.int .i64 q,.int .i64 w,y] (fun ah ag=>∃ z,ah=.bool z∧(z=true→K (.tuple #[]) ag)∧(z=false→qal.j4 K R1 f m p q w aa y ab ac ad ae ag)) h)∧(af=false→qal.j4 K R1 f m p q w aa y ab ac ad ae h)
def qal.j6.l:Live:=[(0,.slice),(1,.int .i64),(2,.int .i64),(3,.int .i64),(4,.raw),(10,.bool),(11,.bool),(12,.int .i64),(13,.int .i64),(75,.bool)]
def qal.j6.j (K:KT) (R1:OA→Nat→Nat→Int→Int→Int→Value→Bool→Bool→Heap→Prop):Tup qal.j6.l→Heap→Prop:=fun x h=>qal.j6 K R1 x.1.1 x.1.2.1 x.1.2.2 x.2.1 x.2.2.1 x.2.2.2.1 x.2.2.2.2.1 x.2.2.2.2.2.1 x.2.2.2.2.2.2.1 x.2.2.2.2.2.2.2.1 x.2.2.2.2.2.2.2.2.1 x.2.2.2.2.2.2.2.2.2.1 h
def qal.j3 (K:KT) (R1:OA→Nat→Nat→Int→Int→Int→Value→Bool→Bool→Heap→Prop) (p:OA) (q:Nat) (w:Nat) (y:Int) (z:Int) (aa:Int) (ab:Value) (f:Bool) (m:Bool) (ac:Int) (ad:Int) (ae:Int) (h:Heap):Prop :=
  (f=true→(m=true→qal.j6 K R1 p q w y z aa ab f m ac ad (ae==1) h)∧(m=false→qal.j6 K R1 p q w y z aa ab f m ac ad false h))∧(f=false→qal.j6 K R1 p q w y z aa ab f m ac ad false h)
def qal.j3.l:Live:=[(0,.slice),(1,.int .i64),(2,.int .i64),(3,.int .i64),(4,.raw),(10,.bool),(11,.bool),(12,.int .i64),(13,.int .i64),(14,.int .i64)]
def qal.j3.j (K:KT) (R1:OA→Nat→Nat→Int→Int→Int→Value→Bool→Bool→Heap→Prop):Tup qal.j3.l→Heap→Prop:=fun x h=>qal.j3 K R1 x.1.1 x.1.2.1 x.1.2.2 x.2.1 x.2.2.1 x.2.2.2.1 x.2.2.2.2.1 x.2.2.2.2.2.1 x.2.2.2.2.2.2.1 x.2.2.2.2.2.2.2.1 x.2.2.2.2.2.2.2.2.1 x.2.2.2.2.2.2.2.2.2.1 h
def qal.j2 (K:KT) (R1:OA→Nat→Nat→Int→Int→Int→Value→Bool→Bool→Heap→Prop) (p:OA) (q:Nat) (w:Nat) (f:Int) (m:Int) (z:Int) (y:Value) (aa:Bool) (ab:Bool) (ac:Int) (h:Heap):Prop :=
  CallsH P F.slices_choosePivotCmpFunc_api_Bind [.slice p q w,.int .i64 f,.int .i64 m,y] (fun v6 h7=>∃ n8 n9,v6=.tuple #[.int .i64 n8,.int .i64 n9]∧((n9==2)=true→CallsH P F.slices_reverseRangeCmpFunc_api_Bind [.slice p q w,.int .i64 f,.int .i64 m,y] (fun ad ae=>ad=.tuple #[]∧bd ((IntKind.i64.wrap ((IntKind.i64.wrap (m - 1)) - (IntKind.i64.wrap (n8 - f)))):Int) fun af=>qal.j3 K R1 p q w f m z y aa ab ac af 1 ae) h7)∧((n9==2)=false→qal.j3 K R1 p q w f m z y aa ab ac n8 n9 h7)) h
def qal.j2.l:Live:=[(0,.slice),(1,.int .i64),(2,.int .i64),(3,.int .i64),(4,.raw),(10,.bool),(11,.bool),(12,.int .i64)]
def qal.j2.j (K:KT) (R1:OA→Nat→Nat→Int→Int→Int→Value→Bool→Bool→Heap→Prop):Tup qal.j2.l→Heap→Prop:=fun x h=>qal.j2 K R1 x.1.1 x.1.2.1 x.1.2.2 x.2.1 x.2.2.1 x.2.2.2.1 x.2.2.2.2.1 x.2.2.2.2.2.1 x.2.2.2.2.2.2.1 x.2.2.2.2.2.2.2.1 h
def qal.L1 (K:KT):Nat→OA→Nat→Nat→Int→Int→Int→Value→Bool→Bool→Heap→Prop
  | 0,_,_,_,_,_,_,_,_,_,_=>False
  | fuel+1,p,q,w,f,m,z,y,aa,ac,h=>bd ((IntKind.i64.wrap (m - f)):Int) fun ab=>((decide (ab≤12))=true→CallsH P F.qak [.slice p q w,.int .i64 f,.int .i64 m,y] (fun v2 h3=>v2=.tuple #[]∧K (.tuple #[]) h3) h)∧((decide (ab≤12))=false→((z==0)=true→CallsH P F.slices_heapSortCmpFunc_api_Bind [.slice p q w,.int .i64 f,.int .i64 m,y] (fun v4 h5=>v4=.tuple #[]∧K (.tuple #[]) h5) h)∧((z==0)=false→((!aa)=true→CallsH P F.slices_breakPatternsCmpFunc_api_Bind [.slice p q w,.int .i64 f,.int .i64 m,y] (fun ad ae=>ad=.tuple #[]∧bd ((IntKind.i64.wrap (z - 1)):Int) fun af=>qal.j2 K (qal.L1 K fuel) p q w f m af y aa ac ab ae) h)∧((!aa)=false→qal.j2 K (qal.L1 K fuel) p q w f m z y aa ac ab h)))
termination_by structural n=>n
def qal.L1.l:Live:=[(0,.slice),(1,.int .i64),(2,.int .i64),(3,.int .i64),(4,.raw),(10,.bool),(11,.bool)]
def qal.L1.j (K:KT):Nat→Tup qal.L1.l→Heap→Prop:=fun n x h=>qal.L1 K n x.1.1 x.1.2.1 x.1.2.2 x.2.1 x.2.2.1 x.2.2.2.1 x.2.2.2.2.1 x.2.2.2.2.2.1 x.2.2.2.2.2.2.1 h
def qal.p0 (K:KT) (f:OA) (m:Nat) (p:Nat) (q:Int) (w:Int) (y:Int) (z:Value) (h:Heap):Prop :=
  ∃ fuel43,qal.L1 K fuel43 f m p q w y z true true h
def qal.plan (K:KT):Plan:=(.seq .go (.seq .go (.block (.loop qal.L1.l (qal.L1.j K) (fun n1=>(.block (.seq .go (.seq .go (.seq .go (.cut qal.j2.l (qal.j2.j K (qal.L1 K n1)) .go (.seq .go (.cut qal.j3.l (qal.j3.j K (qal.L1 K n1)) .go (.cut qal.j4.l (qal.j4.j K (qal.L1 K n1)) (.cut qal.j6.l (qal.j6.j K (qal.L1 K n1)) .go .go) (.seq (.cut qal.j5.l (qal.j5.j K (qal.L1 K n1)) (.orders (.op 0 (.op 1 (.op 2 (.op 3 (.op 4 (.op 5 (.op 6 (.op 7 (.op 9 (.op 10 (.op 11 (.op 8 (.op 12 (.op 13 (.op 14 (.op 15 (.op 16 .nil)))))))))))))))))) .go) .go))))))))))))))
theorem qal.ev_eq:qal.p0=fun K f m p q w y z h=>Ev P Tryz.f209 (qal.plan K) K [.slice f m p,.int .i64 q,.int .i64 w,.int .i64 y,z] h:=by kernel_rfl
theorem qal.obl (K:KT):Obl P Tryz.f209 (qal.plan K) K :=
  obl_of (R:=(∀ x h,¬ (qal.L1.j K) 0 x h)∧ImpN (qal.L1.j K)∧(∀ (n1:Nat),Imp (qal.j2.j K (qal.L1 K n1))∧Imp (qal.j3.j K (qal.L1 K n1))∧Imp (qal.j6.j K (qal.L1 K n1))∧Imp (qal.j4.j K (qal.L1 K n1))∧DrawOK P Tryz.f209.ntmps (opsAt 17 (bodyOf Tryz.f209)) (.op 0 (.op 1 (.op 2 (.op 3 (.op 4 (.op 5 (.op 6 (.op 7 (.op 9 (.op 10 (.op 11 (.op 8 (.op 12 (.op 13 (.op 14 (.op 15 (.op 16 .nil)))))))))))))))))∧Imp (qal.j5.j K (qal.L1 K n1))∧True)∧True) (by kernel_rfl) ⟨fun _ _ H=>H,impN _,fun _=>⟨imp _,⟨imp _,⟨imp _,⟨imp _,⟨draw_ok (by kernel_rfl),⟨imp _,trivial⟩⟩⟩⟩⟩⟩,trivial⟩
theorem qal.ok {K:KT}{f:OA}{m:Nat}{p:Nat}{q:Int}{w:Int}{y:Int}{z:Value}{h:Heap} (H:qal.p0 K f m p q w y z h):CallsH P F.qal [.slice f m p,.int .i64 q,.int .i64 w,.int .i64 y,z] K h :=
  calls_of_Ev (qal.plan K) Tryz.func209 (by kernel_rfl) (qal.obl K) (by rw [qal.ev_eq] at H; exact H)
def qca.p0 (K:KT) (t0:OA) (f:Nat) (p:Nat) (q:Value) (h:Heap):Prop :=
  bd (((f:Nat):Int):Int) fun m=>CallsH P F.math_bits_Len [.int .u64 (IntKind.u64.wrap m)] (fun v2 h3=>∃ n4,v2=.int .i64 n4∧CallsH P F.qal [.slice t0 f p,.int .i64 0,.int .i64 m,.int .i64 n4,q] (fun v5 h6=>v5=.tuple #[]∧K (.tuple #[]) h6) h3) h
def qca.plan (K:KT):Plan:=.go
theorem qca.ev_eq:qca.p0=fun K t0 f m p h=>Ev P Tryz.f136 (qca.plan K) K [.slice t0 f m,p] h:=by kernel_rfl
theorem qca.obl (K:KT):Obl P Tryz.f136 (qca.plan K) K :=
  obl_true (by kernel_rfl)
theorem qca.ok {K:KT}{t0:OA}{f:Nat}{m:Nat}{p:Value}{h:Heap} (H:qca.p0 K t0 f m p h):CallsH P F.qca [.slice t0 f m,p] K h :=
  calls_of_Ev (qca.plan K) Tryz.func136 (by kernel_rfl) (qca.obl K) (by rw [qca.ev_eq] at H; exact H)
def qcl.p0 (K:KT) (p:Value) (q:Value) (h:Heap):Prop :=
  CallsH P F.qcr [p] (fun v1 h2=>∃ a3 f m,v1=.slice a3 f m∧CallsH P F.qca [.slice a3 f m,q] (fun v4 h5=>v4=.tuple #[]∧K (.slice a3 f m) h5) h2) h
def qcl.plan (K:KT):Plan:=.go
theorem qcl.ev_eq:qcl.p0=fun K f m h=>Ev P Tryz.f64 (qcl.plan K) K [f,m] h:=by kernel_rfl
theorem qcl.obl (K:KT):Obl P Tryz.f64 (qcl.plan K) K :=
  obl_true (by kernel_rfl)
theorem qcl.ok {K:KT}{f:Value}{m:Value}{h:Heap} (H:qcl.p0 K f m h):CallsH P F.qcl [f,m] K h :=
  calls_of_Ev (qcl.plan K) Tryz.func64 (by kernel_rfl) (qcl.obl K) (by rw [qcl.ev_eq] at H; exact H)
end Go.Proofs.YtofpbcakppjgcaaGreatDoor.Pr
end
section
set_option linter.unusedVariables false
set_option maxRecDepth 100000
namespace Go.Proofs.YtofpbcakppjgcaaGreatDoor.Pr
open Go Go.Lift Go.Proofs
def qbq.p0 (K:KT) (f:Option Nat) (h:Heap):Prop :=
  bd (al h #[.map f] T.map_string_api_Exch) fun h1=>K (.func (.func F.maps_Keys_map_string_api_Exch_string_api_Exch_1) #[] #[.pointer (some (top h))]) h1
def qbq.plan (K:KT):Plan:=.go
theorem qbq.ev_eq:qbq.p0=fun K f h=>Ev P Tryz.f190 (qbq.plan K) K [.map f] h:=by kernel_rfl
theorem qbq.obl (K:KT):Obl P Tryz.f190 (qbq.plan K) K :=
  obl_true (by kernel_rfl)
theorem qbq.ok {K:KT}{f:Option Nat}{h:Heap} (H:qbq.p0 K f h):CallsH P F.qbq [.map f] K h :=
  calls_of_Ev (qbq.plan K) Tryz.func190 (by kernel_rfl) (qbq.obl K) (by rw [qbq.ev_eq] at H; exact H)
end Go.Proofs.YtofpbcakppjgcaaGreatDoor.Pr
end
section
set_option linter.unusedVariables false
set_option maxRecDepth 100000
namespace Go.Proofs.YtofpbcakppjgcaaGreatDoor.Pr
open Go Go.Lift Go.Proofs
def qbo.p0 (K:KT) (f:Option Nat) (h:Heap):Prop :=
  bd (al h #[.map f] T.map_string_brok_queue) fun h1=>K (.func (.func F.maps_Keys_map_string_brok_queue_string_brok_queue_1) #[] #[.pointer (some (top h))]) h1
def qbo.plan (K:KT):Plan:=.go
theorem qbo.ev_eq:qbo.p0=fun K f h=>Ev P Tryz.f63 (qbo.plan K) K [.map f] h:=by kernel_rfl
theorem qbo.obl (K:KT):Obl P Tryz.f63 (qbo.plan K) K :=
  obl_true (by kernel_rfl)
theorem qbo.ok {K:KT}{f:Option Nat}{h:Heap} (H:qbo.p0 K f h):CallsH P F.qbo [.map f] K h :=
  calls_of_Ev (qbo.plan K) Tryz.func63 (by kernel_rfl) (qbo.obl K) (by rw [qbo.ev_eq] at H; exact H)
end Go.Proofs.YtofpbcakppjgcaaGreatDoor.Pr
end
section
set_option linter.unusedVariables false
set_option maxRecDepth 100000
namespace Go.Proofs.YtofpbcakppjgcaaGreatDoor.Pr
open Go Go.Lift Go.Proofs
def qea.p0 (K:KT) (p:List UInt8) (h:Heap):Prop :=
  CallsH P F.strings_Split [.string (mkS p),.string (mkS ([46]:List UInt8))] (fun v1 h2=>∃ a3 f m,v1=.slice a3 f m∧K (.slice a3 f m) h2) h
def qea.plan (K:KT):Plan:=.go
theorem qea.ev_eq:qea.p0=fun K f h=>Ev P Tryz.f273 (qea.plan K) K [.string (mkS f)] h:=by kernel_rfl
theorem qea.obl (K:KT):Obl P Tryz.f273 (qea.plan K) K :=
  obl_true (by kernel_rfl)
theorem qea.ok {K:KT}{f:List UInt8}{h:Heap} (H:qea.p0 K f h):CallsH P F.qea [.string (mkS f)] K h :=
  calls_of_Ev (qea.plan K) Tryz.func273 (by kernel_rfl) (qea.obl K) (by rw [qea.ev_eq] at H; exact H)
def qbe.j1 (K:KT) (q:OA) (f:Nat) (w:Nat) (t6:OA) (p:Nat) (y:Nat) (h:Heap):Prop :=
  ∃ p9,t6=some p9∧(0:Int)≤((f:Nat):Int)∧((f:Nat):Int)<((p:Nat):Int)∧∃ m,hcell h (Addr.add p9 (Int.toNat ((f:Nat):Int) * 1))=some (.bool m)∧K (.bool m) h
def qbe.j1.l:Live:=[(5,.slice),(6,.slice)]
def qbe.j1.j (K:KT):Tup qbe.j1.l→Heap→Prop:=fun x h=>qbe.j1 K x.1.1 x.1.2.1 x.1.2.2 x.2.1.1 x.2.1.2.1 x.2.1.2.2 h
def qbe.j3 (K:KT) (R2:OA→Nat→Nat→OA→Nat→Nat→OA→Nat→Nat→Int→Int→Heap→Prop) (f:OA) (m:Nat) (p:Nat) (q:OA) (w:Nat) (y:Nat) (z:OA) (aa:Nat) (ab:Nat) (t22:Int) (t23:Int) (h:Heap):Prop :=
  R2 f m p q w y z aa ab t22 (IntKind.i64.wrap (t23+1)) h
def qbe.j3.l:Live:=[(5,.slice),(9,.slice),(21,.slice),(22,.int .i64),(23,.int .i64)]
def qbe.j3.j (K:KT) (R2:OA→Nat→Nat→OA→Nat→Nat→OA→Nat→Nat→Int→Int→Heap→Prop):Tup qbe.j3.l→Heap→Prop:=fun x h=>qbe.j3 K R2 x.1.1 x.1.2.1 x.1.2.2 x.2.1.1 x.2.1.2.1 x.2.1.2.2 x.2.2.1.1 x.2.2.1.2.1 x.2.2.1.2.2 x.2.2.2.1 x.2.2.2.2.1 h
def qbe.j5 (K:KT) (R2:OA→Nat→Nat→OA→Nat→Nat→OA→Nat→Nat→Int→Int→Heap→Prop) (R4:OA→Nat→Nat→List UInt8→OA→Nat→Nat→OA→Nat→Nat→Int→Int→OA→Nat→Nat→Int→Int→Heap→Prop) (f:OA) (m:Nat) (p:Nat) (q:List UInt8) (w:OA) (y:Nat) (z:Nat) (aa:OA) (ab:Nat) (ac:Nat) (t22:Int) (t23:Int) (ad:OA) (ae:Nat) (af:Nat) (ag:Int) (ah:Int) (h:Heap):Prop :=
  R4 f m p q w y z aa ab ac t22 t23 ad ae af ag (IntKind.i64.wrap (ah+1)) h
def qbe.j5.l:Live:=[(5,.slice),(8,.str),(9,.slice),(21,.slice),(22,.int .i64),(23,.int .i64),(31,.slice),(32,.int .i64),(33,.int .i64)]
def qbe.j5.j (K:KT) (R2:OA→Nat→Nat→OA→Nat→Nat→OA→Nat→Nat→Int→Int→Heap→Prop) (R4:OA→Nat→Nat→List UInt8→OA→Nat→Nat→OA→Nat→Nat→Int→Int→OA→Nat→Nat→Int→Int→Heap→Prop):Tup qbe.j5.l→Heap→Prop:=fun x h=>qbe.j5 K R2 R4 x.1.1 x.1.2.1 x.1.2.2 x.2.1 x.2.2.1.1 x.2.2.1.2.1 x.2.2.1.2.2 x.2.2.2.1.1 x.2.2.2.1.2.1 x.2.2.2.1.2.2 x.2.2.2.2.1 x.2.2.2.2.2.1 x.2.2.2.2.2.2.1.1 x.2.2.2.2.2.2.1.2.1 x.2.2.2.2.2.2.1.2.2 x.2.2.2.2.2.2.2.1 x.2.2.2.2.2.2.2.2.1 h
def qbe.j6 (K:KT) (R2:OA→Nat→Nat→OA→Nat→Nat→OA→Nat→Nat→Int→Int→Heap→Prop) (R4:OA→Nat→Nat→List UInt8→OA→Nat→Nat→OA→Nat→Nat→Int→Int→OA→Nat→Nat→Int→Int→Heap→Prop) (q:OA) (w:Nat) (y:Nat) (z:List UInt8) (f:OA) (m:Nat) (aa:Nat) (p:Int) (ab:OA) (ac:Nat) (ad:Nat) (t22:Int) (t23:Int) (ae:OA) (af:Nat) (ag:Nat) (ah:Int) (ai:Int) (aj:Bool) (h:Heap):Prop :=
  (aj=true→∃ ak,f=some ak∧(0:Int)≤(IntKind.i64.wrap (p+1))∧(IntKind.i64.wrap (p+1))<((m:Nat):Int)∧∃ am,stC h (Addr.add ak (Int.toNat (IntKind.i64.wrap (p+1)) * 1)) 0 [.bool true]=some am∧qbe.j5 K R2 R4 q w y z f m aa ab ac ad t22 t23 ae af ag ah ai am)∧(aj=false→qbe.j5 K R2 R4 q w y z f m aa ab ac ad t22 t23 ae af ag ah ai h)
def qbe.j6.l:Live:=[(5,.slice),(8,.str),(9,.slice),(10,.int .i64),(21,.slice),(22,.int .i64),(23,.int .i64),(31,.slice),(32,.int .i64),(33,.int .i64),(56,.bool)]
def qbe.j6.j (K:KT) (R2:OA→Nat→Nat→OA→Nat→Nat→OA→Nat→Nat→Int→Int→Heap→Prop) (R4:OA→Nat→Nat→List UInt8→OA→Nat→Nat→OA→Nat→Nat→Int→Int→OA→Nat→Nat→Int→Int→Heap→Prop):Tup qbe.j6.l→Heap→Prop:=fun x h=>qbe.j6 K R2 R4 x.1.1 x.1.2.1 x.1.2.2 x.2.1 x.2.2.1.1 x.2.2.1.2.1 x.2.2.1.2.2 x.2.2.2.1 x.2.2.2.2.1.1 x.2.2.2.2.1.2.1 x.2.2.2.2.1.2.2 x.2.2.2.2.2.1 x.2.2.2.2.2.2.1 x.2.2.2.2.2.2.2.1.1 x.2.2.2.2.2.2.2.1.2.1 x.2.2.2.2.2.2.2.1.2.2 x.2.2.2.2.2.2.2.2.1 x.2.2.2.2.2.2.2.2.2.1 x.2.2.2.2.2.2.2.2.2.2.1 h
def qbe.L4 (K:KT) (R2:OA→Nat→Nat→OA→Nat→Nat→OA→Nat→Nat→Int→Int→Heap→Prop):Nat→OA→Nat→Nat→List UInt8→OA→Nat→Nat→OA→Nat→Nat→Int→Int→OA→Nat→Nat→Int→Int→Heap→Prop
  | 0,_,_,_,_,_,_,_,_,_,_,_,_,_,_,_,_,_,_=>False
  | fuel+1,y,q,aa,w,m,p,ab,ac,ad,ae,t22,t23,af,ag,ah,z,f,h=>((decide (f<z))=true→∃ aj,af=some aj∧(0:Int)≤f∧f<((ag:Nat):Int)∧∃ ai,hcell h (Addr.add aj (Int.toNat f * 1))=some (.bool ai)∧bd ((w==([35]:List UInt8)):Bool) fun ak=>(ak=true→(ai=false→((decide (f > 0))=true→∃ am,m=some am∧(0:Int)≤(IntKind.i64.wrap (f - 1))∧(IntKind.i64.wrap (f - 1))<((p:Nat):Int)∧∃ an,hcell h (Addr.add am (Int.toNat (IntKind.i64.wrap (f - 1)) * 1))=some (.bool an)∧∃ ao,m=some ao∧(0:Int)≤f∧f<((p:Nat):Int)∧∃ aq,stC h (Addr.add ao (Int.toNat f * 1)) 0 [.bool an]=some aq∧qbe.j5 K R2 (qbe.L4 K R2 fuel) y q aa w m p ab ac ad ae t22 t23 af ag ah z f aq)∧((decide (f > 0))=false→∃ ar,m=some ar∧(0:Int)≤f∧f<((p:Nat):Int)∧∃ au,stC h (Addr.add ar (Int.toNat f * 1)) 0 [.bool false]=some au∧qbe.j5 K R2 (qbe.L4 K R2 fuel) y q aa w m p ab ac ad ae t22 t23 af ag ah z f au))∧(ai=true→∃ av,m=some av∧(0:Int)≤f∧f<((p:Nat):Int)∧∃ aw,stC h (Addr.add av (Int.toNat f * 1)) 0 [.bool true]=some aw∧qbe.j5 K R2 (qbe.L4 K R2 fuel) y q aa w m p ab ac ad ae t22 t23 af ag ah z f aw))∧(ak=false→(ai=true→((decide (f<((q:Nat):Int)))=true→((w==([42]:List UInt8))=false→∃ ax,y=some ax∧(0:Int)≤f∧f<((q:Nat):Int)∧∃ ay,hcell h (Addr.add ax (Int.toNat f * 1))=some (.string (mkS ay))∧bd ((w==ay):Bool) fun az=>qbe.j6 K R2 (qbe.L4 K R2 fuel) y q aa w m p ab f ac ad ae t22 t23 af ag ah z f az h)∧((w==([42]:List UInt8))=true→qbe.j6 K R2 (qbe.L4 K R2 fuel) y q aa w m p ab f ac ad ae t22 t23 af ag ah z f true h))∧((decide (f<((q:Nat):Int)))=false→qbe.j6 K R2 (qbe.L4 K R2 fuel) y q aa w m p ab f ac ad ae t22 t23 af ag ah z f false h))∧(ai=false→qbe.j6 K R2 (qbe.L4 K R2 fuel) y q aa w m p ab f ac ad ae t22 t23 af ag ah z f false h)))∧((decide (f<z))=false→qbe.j3 K R2 y q aa m p ab ac ad ae t22 t23 h)
termination_by structural n=>n
def qbe.L4.l:Live:=[(5,.slice),(8,.str),(9,.slice),(21,.slice),(22,.int .i64),(23,.int .i64),(31,.slice),(32,.int .i64),(33,.int .i64)]
def qbe.L4.j (K:KT) (R2:OA→Nat→Nat→OA→Nat→Nat→OA→Nat→Nat→Int→Int→Heap→Prop):Nat→Tup qbe.L4.l→Heap→Prop:=fun n x h=>qbe.L4 K R2 n x.1.1 x.1.2.1 x.1.2.2 x.2.1 x.2.2.1.1 x.2.2.1.2.1 x.2.2.1.2.2 x.2.2.2.1.1 x.2.2.2.1.2.1 x.2.2.2.1.2.2 x.2.2.2.2.1 x.2.2.2.2.2.1 x.2.2.2.2.2.2.1.1 x.2.2.2.2.2.2.1.2.1 x.2.2.2.2.2.2.1.2.2 x.2.2.2.2.2.2.2.1 x.2.2.2.2.2.2.2.2.1 h
def qbe.L2 (K:KT):Nat→OA→Nat→Nat→OA→Nat→Nat→OA→Nat→Nat→Int→Int→Heap→Prop
  | 0,_,_,_,_,_,_,_,_,_,_,_,_=>False
  | fuel+1,p,f,q,t6,m,w,y,z,ae,t22,t23,h=>((decide (t23<t22))=true→∃ aa,y=some aa∧(0:Int)≤t23∧t23<((z:Nat):Int)∧∃ s15,hcell h (Addr.add aa (Int.toNat t23 * 1))=some (.string (mkS s15))∧SemH P (Instr.makeSlice T.sl_bool (.int .i64 (IntKind.i64.wrap (((f:Nat):Int)+1))) (.int .i64 (IntKind.i64.wrap (((f:Nat):Int)+1)))) (fun af ag=>∃ ab ac ad,af=.slice ab ac ad∧∃ fuel35,qbe.L4 K (qbe.L2 K fuel) fuel35 p f q s15 ab ac ad y z ae t22 t23 t6 m w ((m:Nat):Int) 0 ag) h)∧((decide (t23<t22))=false→qbe.j1 K p f q t6 m w h)
termination_by structural n=>n
def qbe.L2.l:Live:=[(5,.slice),(6,.slice),(21,.slice),(22,.int .i64),(23,.int .i64)]
def qbe.L2.j (K:KT):Nat→Tup qbe.L2.l→Heap→Prop:=fun n x h=>qbe.L2 K n x.1.1 x.1.2.1 x.1.2.2 x.2.1.1 x.2.1.2.1 x.2.1.2.2 x.2.2.1.1 x.2.2.1.2.1 x.2.2.1.2.2 x.2.2.2.1 x.2.2.2.2.1 h
def qbe.p0 (K:KT) (aa:List UInt8) (ab:List UInt8) (h:Heap):Prop :=
  CallsH P F.qea [.string (mkS ab)] (fun v1 h2=>∃ a3 f q,v1=.slice a3 f q∧SemH P (Instr.makeSlice T.sl_bool (.int .i64 (IntKind.i64.wrap (((f:Nat):Int)+1))) (.int .i64 (IntKind.i64.wrap (((f:Nat):Int)+1)))) (fun v4 h5=>∃ a6 m w,v4=.slice a6 m w∧∃ p7,a6=some p7∧(0:Int)≤0∧0<((m:Nat):Int)∧∃ h8,stC h5 (Addr.add p7 (Int.toNat 0 * 1)) 0 [.bool true]=some h8∧CallsH P F.qea [.string (mkS aa)] (fun ac ad=>∃ y p z,ac=.slice y p z∧∃ fuel36,qbe.L2 K fuel36 a3 f q a6 m w y p z ((p:Nat):Int) 0 ad) h8) h2) h
def qbe.plan (K:KT):Plan:=(.seq .go (.seq .go (.seq .go (.seq .go (.cut qbe.j1.l (qbe.j1.j K) (.seq .go (.block (.loop qbe.L2.l (qbe.L2.j K) (fun n2=>(.seq .go (.seq .go (.seq (.block (.seq .go (.seq .go (.cut qbe.j3.l (qbe.j3.j K (qbe.L2 K n2)) (.seq .go (.block (.loop qbe.L4.l (qbe.L4.j K (qbe.L2 K n2)) (fun n4=>(.seq .go (.seq .go (.cut qbe.j5.l (qbe.j5.j K (qbe.L2 K n2) (qbe.L4 K (qbe.L2 K n2) n4)) (.block (.seq .go (.block (.seq .go (.cond .go (.cut qbe.j6.l (qbe.j6.j K (qbe.L2 K n2) (qbe.L4 K (qbe.L2 K n2) n4)) .go .go)))))) .go))))))) .go)))) .go))))))) .go)))))
theorem qbe.ev_eq:qbe.p0=fun K f m h=>Ev P Tryz.f232 (qbe.plan K) K [.string (mkS f),.string (mkS m)] h:=by kernel_rfl
theorem qbe.obl (K:KT):Obl P Tryz.f232 (qbe.plan K) K :=
  obl_of (R:=(∀ x h,¬ (qbe.L2.j K) 0 x h)∧ImpN (qbe.L2.j K)∧(∀ (n2:Nat),(∀ x h,¬ (qbe.L4.j K (qbe.L2 K n2)) 0 x h)∧ImpN (qbe.L4.j K (qbe.L2 K n2))∧(∀ (n4:Nat),Imp (qbe.j6.j K (qbe.L2 K n2) (qbe.L4 K (qbe.L2 K n2) n4))∧Imp (qbe.j5.j K (qbe.L2 K n2) (qbe.L4 K (qbe.L2 K n2) n4))∧True)∧Imp (qbe.j3.j K (qbe.L2 K n2))∧True)∧Imp (qbe.j1.j K)∧True) (by kernel_rfl) ⟨fun _ _ H=>H,impN _,fun _=>⟨fun _ _ H=>H,impN _,fun _=>⟨imp _,⟨imp _,trivial⟩⟩,⟨imp _,trivial⟩⟩,⟨imp _,trivial⟩⟩
theorem qbe.ok {K:KT}{f:List UInt8}{m:List UInt8}{h:Heap} (H:qbe.p0 K f m h):CallsH P F.qbe [.string (mkS f),.string (mkS m)] K h :=
  calls_of_Ev (qbe.plan K) Tryz.func232 (by kernel_rfl) (qbe.obl K) (by rw [qbe.ev_eq] at H; exact H)
end Go.Proofs.YtofpbcakppjgcaaGreatDoor.Pr
end
section
set_option linter.unusedVariables false
set_option maxRecDepth 100000
namespace Go.Proofs.YtofpbcakppjgcaaGreatDoor.Pr
open Go Go.Lift Go.Proofs
def qbp.p0 (K:KT) (f:Option Nat) (h:Heap):Prop :=
  bd (al h #[.map f] T.map_uint64_api_Entry) fun h1=>K (.func (.func F.maps_Keys_map_uint64_api_Entry_uint64_api_Entry_1) #[] #[.pointer (some (top h))]) h1
def qbp.plan (K:KT):Plan:=.go
theorem qbp.ev_eq:qbp.p0=fun K f h=>Ev P Tryz.f131 (qbp.plan K) K [.map f] h:=by kernel_rfl
theorem qbp.obl (K:KT):Obl P Tryz.f131 (qbp.plan K) K :=
  obl_true (by kernel_rfl)
theorem qbp.ok {K:KT}{f:Option Nat}{h:Heap} (H:qbp.p0 K f h):CallsH P F.qbp [.map f] K h :=
  calls_of_Ev (qbp.plan K) Tryz.func131 (by kernel_rfl) (qbp.obl K) (by rw [qbp.ev_eq] at H; exact H)
end Go.Proofs.YtofpbcakppjgcaaGreatDoor.Pr
end
section
set_option linter.unusedVariables false
set_option maxRecDepth 100000
namespace Go.Proofs.YtofpbcakppjgcaaGreatDoor.Pr
open Go Go.Lift Go.Proofs
def qcp.p0 (K:KT) (p:Value) (h:Heap):Prop :=
  CallsH P F.slices_AppendSeq_uint64_uint64 [.slice none 0 0,p] (fun v1 h2=>∃ a3 f m,v1=.slice a3 f m∧K (.slice a3 f m) h2) h
def qcp.plan (K:KT):Plan:=.go
theorem qcp.ev_eq:qcp.p0=fun K f h=>Ev P Tryz.f204 (qcp.plan K) K [f] h:=by kernel_rfl
theorem qcp.obl (K:KT):Obl P Tryz.f204 (qcp.plan K) K :=
  obl_true (by kernel_rfl)
theorem qcp.ok {K:KT}{f:Value}{h:Heap} (H:qcp.p0 K f h):CallsH P F.qcp [f] K h :=
  calls_of_Ev (qcp.plan K) Tryz.func204 (by kernel_rfl) (qcp.obl K) (by rw [qcp.ev_eq] at H; exact H)
def qao.j2 (K:KT) (R1:OA→Nat→Nat→Int→Int→Int→Heap→Prop) (f:OA) (m:Nat) (p:Nat) (q:Int) (w:Int) (y:Int) (h:Heap):Prop :=
  bd ((IntKind.i64.wrap (y+1)):Int) fun z=>R1 f m p q w z h
def qao.j2.l:Live:=[(0,.slice),(1,.int .i64),(2,.int .i64),(6,.int .i64)]
def qao.j2.j (K:KT) (R1:OA→Nat→Nat→Int→Int→Int→Heap→Prop):Tup qao.j2.l→Heap→Prop:=fun x h=>qao.j2 K R1 x.1.1 x.1.2.1 x.1.2.2 x.2.1 x.2.2.1 x.2.2.2.1 h
def qao.j4 (K:KT) (R1:OA→Nat→Nat→Int→Int→Int→Heap→Prop) (R3:OA→Nat→Nat→Int→Int→Int→Int→Heap→Prop) (m:OA) (p:Nat) (q:Nat) (w:Int) (y:Int) (z:Int) (f:Int) (aa:Bool) (h:Heap):Prop :=
  (aa=true→∃ p3,m=some p3∧(0:Int)≤(IntKind.i64.wrap (f - 1))∧(IntKind.i64.wrap (f - 1))<((p:Nat):Int)∧∃ p4,m=some p4∧(0:Int)≤f∧f<((p:Nat):Int)∧∃ n5,hcell h (Addr.add p3 (Int.toNat (IntKind.i64.wrap (f - 1)) * 1))=some (.int .u64 n5)∧∃ n6,hcell h (Addr.add p4 (Int.toNat f * 1))=some (.int .u64 n6)∧∃ p7,m=some p7∧(0:Int)≤f∧f<((p:Nat):Int)∧∃ h8,stC h (Addr.add p7 (Int.toNat f * 1)) 0 [.int .u64 n5]=some h8∧∃ p9,m=some p9∧(0:Int)≤(IntKind.i64.wrap (f - 1))∧(IntKind.i64.wrap (f - 1))<((p:Nat):Int)∧∃ ab,stC h8 (Addr.add p9 (Int.toNat (IntKind.i64.wrap (f - 1)) * 1)) 0 [.int .u64 n6]=some ab∧bd ((IntKind.i64.wrap (f - 1)):Int) fun ac=>R3 m p q w y z ac ab)∧(aa=false→qao.j2 K R1 m p q w y z h)
def qao.j4.l:Live:=[(0,.slice),(1,.int .i64),(2,.int .i64),(6,.int .i64),(7,.int .i64),(30,.bool)]
def qao.j4.j (K:KT) (R1:OA→Nat→Nat→Int→Int→Int→Heap→Prop) (R3:OA→Nat→Nat→Int→Int→Int→Int→Heap→Prop):Tup qao.j4.l→Heap→Prop:=fun x h=>qao.j4 K R1 R3 x.1.1 x.1.2.1 x.1.2.2 x.2.1 x.2.2.1 x.2.2.2.1 x.2.2.2.2.1 x.2.2.2.2.2.1 h
def qao.L3 (K:KT) (R1:OA→Nat→Nat→Int→Int→Int→Heap→Prop):Nat→OA→Nat→Nat→Int→Int→Int→Int→Heap→Prop
  | 0,_,_,_,_,_,_,_,_=>False
  | fuel+1,m,p,w,q,y,z,f,h=>((decide (f > q))=true→∃ aa,m=some aa∧(0:Int)≤f∧f<((p:Nat):Int)∧∃ ab,m=some ab∧(0:Int)≤(IntKind.i64.wrap (f - 1))∧(IntKind.i64.wrap (f - 1))<((p:Nat):Int)∧∃ ac,hcell h (Addr.add aa (Int.toNat f * 1))=some (.int .u64 ac)∧∃ ad,hcell h (Addr.add ab (Int.toNat (IntKind.i64.wrap (f - 1)) * 1))=some (.int .u64 ad)∧CallsH P F.qdm [.int .u64 ac,.int .u64 ad] (fun af ag=>∃ ae,af=.bool ae∧qao.j4 K R1 (qao.L3 K R1 fuel) m p w q y z f ae ag) h)∧((decide (f > q))=false→qao.j4 K R1 (qao.L3 K R1 fuel) m p w q y z f false h)
termination_by structural n=>n
def qao.L3.l:Live:=[(0,.slice),(1,.int .i64),(2,.int .i64),(6,.int .i64),(7,.int .i64)]
def qao.L3.j (K:KT) (R1:OA→Nat→Nat→Int→Int→Int→Heap→Prop):Nat→Tup qao.L3.l→Heap→Prop:=fun n x h=>qao.L3 K R1 n x.1.1 x.1.2.1 x.1.2.2 x.2.1 x.2.2.1 x.2.2.2.1 x.2.2.2.2.1 h
def qao.L1 (K:KT):Nat→OA→Nat→Nat→Int→Int→Int→Heap→Prop
  | 0,_,_,_,_,_,_,_=>False
  | fuel+1,p,q,w,y,m,f,h=>((decide (f<m))=true→∃ fuel19,qao.L3 K (qao.L1 K fuel) fuel19 p q w y m f f h)∧((decide (f<m))=false→K (.tuple #[]) h)
termination_by structural n=>n
def qao.L1.l:Live:=[(0,.slice),(1,.int .i64),(2,.int .i64),(6,.int .i64)]
def qao.L1.j (K:KT):Nat→Tup qao.L1.l→Heap→Prop:=fun n x h=>qao.L1 K n x.1.1 x.1.2.1 x.1.2.2 x.2.1 x.2.2.1 x.2.2.2.1 h
def qao.p0 (K:KT) (m:OA) (p:Nat) (q:Nat) (f:Int) (w:Int) (h:Heap):Prop :=
  bd ((IntKind.i64.wrap (f+1)):Int) fun y=>∃ fuel20,qao.L1 K fuel20 m p q f w y h
def qao.plan (K:KT):Plan:=(.seq .go (.block (.loop qao.L1.l (qao.L1.j K) (fun n1=>(.seq .go (.cut qao.j2.l (qao.j2.j K (qao.L1 K n1)) (.block (.seq .go (.block (.loop qao.L3.l (qao.L3.j K (qao.L1 K n1)) (fun n3=>(.seq (.cut qao.j4.l (qao.j4.j K (qao.L1 K n1) (qao.L3 K (qao.L1 K n1) n3)) (.orders (.op 0 (.op 1 (.op 2 (.op 3 (.op 4 (.op 5 (.op 6 (.op 8 (.op 9 (.op 10 (.op 11 (.op 7 (.op 12 (.op 13 (.op 14 .nil)))))))))))))))) .go) (.seq (.block (.orders (.op 0 (.op 1 (.op 2 (.op 3 (.op 4 (.op 5 (.op 6 (.op 7 (.op 8 (.op 10 (.op 11 (.op 12 (.op 9 (.op 13 (.op 14 (.op 15 (.op 16 (.op 17 .nil)))))))))))))))))))) .go))))))) .go))))))
theorem qao.ev_eq:qao.p0=fun K f m p q w h=>Ev P Tryz.f264 (qao.plan K) K [.slice f m p,.int .i64 q,.int .i64 w] h:=by kernel_rfl
theorem qao.obl (K:KT):Obl P Tryz.f264 (qao.plan K) K :=
  obl_of (R:=(∀ x h,¬ (qao.L1.j K) 0 x h)∧ImpN (qao.L1.j K)∧(∀ (n1:Nat),(∀ x h,¬ (qao.L3.j K (qao.L1 K n1)) 0 x h)∧ImpN (qao.L3.j K (qao.L1 K n1))∧(∀ (n3:Nat),DrawOK P Tryz.f264.ntmps (opsAt 4 (bodyOf Tryz.f264)) (.op 0 (.op 1 (.op 2 (.op 3 (.op 4 (.op 5 (.op 6 (.op 8 (.op 9 (.op 10 (.op 11 (.op 7 (.op 12 (.op 13 (.op 14 .nil)))))))))))))))∧Imp (qao.j4.j K (qao.L1 K n1) (qao.L3 K (qao.L1 K n1) n3))∧DrawOK P Tryz.f264.ntmps (opsAt 6 (bodyOf Tryz.f264)) (.op 0 (.op 1 (.op 2 (.op 3 (.op 4 (.op 5 (.op 6 (.op 7 (.op 8 (.op 10 (.op 11 (.op 12 (.op 9 (.op 13 (.op 14 (.op 15 (.op 16 (.op 17 .nil))))))))))))))))))∧True)∧Imp (qao.j2.j K (qao.L1 K n1))∧True)∧True) (by kernel_rfl) ⟨fun _ _ H=>H,impN _,fun _=>⟨fun _ _ H=>H,impN _,fun _=>⟨draw_ok (by kernel_rfl),⟨imp _,⟨draw_ok (by kernel_rfl),trivial⟩⟩⟩,⟨imp _,trivial⟩⟩,trivial⟩
theorem qao.ok {K:KT}{f:OA}{m:Nat}{p:Nat}{q:Int}{w:Int}{h:Heap} (H:qao.p0 K f m p q w h):CallsH P F.qao [.slice f m p,.int .i64 q,.int .i64 w] K h :=
  calls_of_Ev (qao.plan K) Tryz.func264 (by kernel_rfl) (qao.obl K) (by rw [qao.ev_eq] at H; exact H)
def qav.j2 (K:KT) (R1:OA→Nat→Nat→Int→Int→Int→Heap→Prop) (q:OA) (w:Nat) (af:Nat) (ag:Int) (f:Int) (p:Int) (m:Int) (h:Heap):Prop :=
  ∃ p2,q=some p2∧(0:Int)≤(IntKind.i64.wrap (f+p))∧(IntKind.i64.wrap (f+p))<((w:Nat):Int)∧∃ p3,q=some p3∧(0:Int)≤(IntKind.i64.wrap (f+m))∧(IntKind.i64.wrap (f+m))<((w:Nat):Int)∧∃ n4,hcell h (Addr.add p2 (Int.toNat (IntKind.i64.wrap (f+p)) * 1))=some (.int .u64 n4)∧∃ n5,hcell h (Addr.add p3 (Int.toNat (IntKind.i64.wrap (f+m)) * 1))=some (.int .u64 n5)∧CallsH P F.qdm [.int .u64 n4,.int .u64 n5] (fun v6 h7=>∃ b8,v6=.bool b8∧((!b8)=true→K (.tuple #[]) h7)∧((!b8)=false→∃ p9,q=some p9∧(0:Int)≤(IntKind.i64.wrap (f+m))∧(IntKind.i64.wrap (f+m))<((w:Nat):Int)∧∃ y,q=some y∧(0:Int)≤(IntKind.i64.wrap (f+p))∧(IntKind.i64.wrap (f+p))<((w:Nat):Int)∧∃ z,hcell h7 (Addr.add p9 (Int.toNat (IntKind.i64.wrap (f+m)) * 1))=some (.int .u64 z)∧∃ aa,hcell h7 (Addr.add y (Int.toNat (IntKind.i64.wrap (f+p)) * 1))=some (.int .u64 aa)∧∃ ab,q=some ab∧(0:Int)≤(IntKind.i64.wrap (f+p))∧(IntKind.i64.wrap (f+p))<((w:Nat):Int)∧∃ ac,stC h7 (Addr.add ab (Int.toNat (IntKind.i64.wrap (f+p)) * 1)) 0 [.int .u64 z]=some ac∧∃ ad,q=some ad∧(0:Int)≤(IntKind.i64.wrap (f+m))∧(IntKind.i64.wrap (f+m))<((w:Nat):Int)∧∃ ae,stC ac (Addr.add ad (Int.toNat (IntKind.i64.wrap (f+m)) * 1)) 0 [.int .u64 aa]=some ae∧R1 q w af ag f m ae)) h
def qav.j2.l:Live:=[(0,.slice),(2,.int .i64),(3,.int .i64),(8,.int .i64),(9,.int .i64)]
def qav.j2.j (K:KT) (R1:OA→Nat→Nat→Int→Int→Int→Heap→Prop):Tup qav.j2.l→Heap→Prop:=fun x h=>qav.j2 K R1 x.1.1 x.1.2.1 x.1.2.2 x.2.1 x.2.2.1 x.2.2.2.1 x.2.2.2.2.1 h
def qav.j3 (K:KT) (R1:OA→Nat→Nat→Int→Int→Int→Heap→Prop) (f:OA) (m:Nat) (p:Nat) (q:Int) (w:Int) (y:Int) (z:Int) (aa:Bool) (h:Heap):Prop :=
  (aa=true→bd ((IntKind.i64.wrap (z+1)):Int) fun ab=>qav.j2 K R1 f m p q w y ab h)∧(aa=false→qav.j2 K R1 f m p q w y z h)
def qav.j3.l:Live:=[(0,.slice),(2,.int .i64),(3,.int .i64),(8,.int .i64),(9,.int .i64),(36,.bool)]
def qav.j3.j (K:KT) (R1:OA→Nat→Nat→Int→Int→Int→Heap→Prop):Tup qav.j3.l→Heap→Prop:=fun x h=>qav.j3 K R1 x.1.1 x.1.2.1 x.1.2.2 x.2.1 x.2.2.1 x.2.2.2.1 x.2.2.2.2.1 x.2.2.2.2.2.1 h
def qav.L1 (K:KT):Nat→OA→Nat→Nat→Int→Int→Int→Heap→Prop
  | 0,_,_,_,_,_,_,_=>False
  | fuel+1,q,w,z,p,m,y,h=>bd ((IntKind.i64.wrap ((IntKind.i64.wrap ((2:Int) * y))+1)):Int) fun f=>((decide (f ≥ p))=true→K (.tuple #[]) h)∧((decide (f ≥ p))=false→((decide ((IntKind.i64.wrap (f+1))<p))=true→∃ aa,q=some aa∧(0:Int)≤(IntKind.i64.wrap (m+f))∧(IntKind.i64.wrap (m+f))<((w:Nat):Int)∧∃ ab,q=some ab∧(0:Int)≤(IntKind.i64.wrap ((IntKind.i64.wrap (m+f))+1))∧(IntKind.i64.wrap ((IntKind.i64.wrap (m+f))+1))<((w:Nat):Int)∧∃ ac,hcell h (Addr.add aa (Int.toNat (IntKind.i64.wrap (m+f)) * 1))=some (.int .u64 ac)∧∃ ad,hcell h (Addr.add ab (Int.toNat (IntKind.i64.wrap ((IntKind.i64.wrap (m+f))+1)) * 1))=some (.int .u64 ad)∧CallsH P F.qdm [.int .u64 ac,.int .u64 ad] (fun af ag=>∃ ae,af=.bool ae∧qav.j3 K (qav.L1 K fuel) q w z p m y f ae ag) h)∧((decide ((IntKind.i64.wrap (f+1))<p))=false→qav.j3 K (qav.L1 K fuel) q w z p m y f false h))
termination_by structural n=>n
def qav.L1.l:Live:=[(0,.slice),(2,.int .i64),(3,.int .i64),(8,.int .i64)]
def qav.L1.j (K:KT):Nat→Tup qav.L1.l→Heap→Prop:=fun n x h=>qav.L1 K n x.1.1 x.1.2.1 x.1.2.2 x.2.1 x.2.2.1 x.2.2.2.1 h
def qav.p0 (K:KT) (f:OA) (m:Nat) (p:Nat) (q:Int) (w:Int) (y:Int) (h:Heap):Prop :=
  ∃ fuel25,qav.L1 K fuel25 f m p w y q h
def qav.plan (K:KT):Plan:=(.seq .go (.block (.loop qav.L1.l (qav.L1.j K) (fun n1=>(.block (.seq .go (.seq .go (.cut qav.j2.l (qav.j2.j K (qav.L1 K n1)) (.cut qav.j3.l (qav.j3.j K (qav.L1 K n1)) (.orders (.op 0 (.op 1 (.op 2 (.op 3 (.op 4 (.op 5 (.op 6 (.op 7 (.op 8 (.op 9 (.op 11 (.op 12 (.op 13 (.op 14 (.op 15 (.op 16 (.op 10 (.op 17 (.op 18 (.op 19 .nil))))))))))))))))))))) .go) (.seq (.seq (.orders (.op 0 (.op 1 (.op 2 (.op 3 (.op 4 (.op 6 (.op 7 (.op 8 (.op 9 (.op 10 (.op 5 (.op 11 (.op 12 (.op 13 .nil))))))))))))))) .go) (.seq (.orders (.op 0 (.op 1 (.op 2 (.op 3 (.op 4 (.op 5 (.op 6 (.op 7 (.op 8 (.op 9 (.op 10 (.op 11 (.op 12 (.op 14 (.op 15 (.op 16 (.op 17 (.op 18 (.op 13 (.op 19 (.op 20 (.op 21 (.op 22 (.op 23 .nil))))))))))))))))))))))))) .go))))))))))
theorem qav.ev_eq:qav.p0=fun K f m p q w y h=>Ev P Tryz.f281 (qav.plan K) K [.slice f m p,.int .i64 q,.int .i64 w,.int .i64 y] h:=by kernel_rfl
theorem qav.obl (K:KT):Obl P Tryz.f281 (qav.plan K) K :=
  obl_of (R:=(∀ x h,¬ (qav.L1.j K) 0 x h)∧ImpN (qav.L1.j K)∧(∀ (n1:Nat),DrawOK P Tryz.f281.ntmps (opsAt 3 (bodyOf Tryz.f281)) (.op 0 (.op 1 (.op 2 (.op 3 (.op 4 (.op 5 (.op 6 (.op 7 (.op 8 (.op 9 (.op 11 (.op 12 (.op 13 (.op 14 (.op 15 (.op 16 (.op 10 (.op 17 (.op 18 (.op 19 .nil))))))))))))))))))))∧Imp (qav.j3.j K (qav.L1 K n1))∧Imp (qav.j2.j K (qav.L1 K n1))∧DrawOK P Tryz.f281.ntmps (opsAt 5 (bodyOf Tryz.f281)) (.op 0 (.op 1 (.op 2 (.op 3 (.op 4 (.op 6 (.op 7 (.op 8 (.op 9 (.op 10 (.op 5 (.op 11 (.op 12 (.op 13 .nil))))))))))))))∧DrawOK P Tryz.f281.ntmps (opsAt 6 (bodyOf Tryz.f281)) (.op 0 (.op 1 (.op 2 (.op 3 (.op 4 (.op 5 (.op 6 (.op 7 (.op 8 (.op 9 (.op 10 (.op 11 (.op 12 (.op 14 (.op 15 (.op 16 (.op 17 (.op 18 (.op 13 (.op 19 (.op 20 (.op 21 (.op 22 (.op 23 .nil))))))))))))))))))))))))∧True)∧True) (by kernel_rfl) ⟨fun _ _ H=>H,impN _,fun _=>⟨draw_ok (by kernel_rfl),⟨imp _,⟨imp _,⟨draw_ok (by kernel_rfl),⟨draw_ok (by kernel_rfl),trivial⟩⟩⟩⟩⟩,trivial⟩
theorem qav.ok {K:KT}{f:OA}{m:Nat}{p:Nat}{q:Int}{w:Int}{y:Int}{h:Heap} (H:qav.p0 K f m p q w y h):CallsH P F.qav [.slice f m p,.int .i64 q,.int .i64 w,.int .i64 y] K h :=
  calls_of_Ev (qav.plan K) Tryz.func281 (by kernel_rfl) (qav.obl K) (by rw [qav.ev_eq] at H; exact H)
def qaz.L2 (K:KT):Nat→OA→Nat→Nat→Int→Int→Int→Heap→Prop
  | 0,_,_,_,_,_,_,_=>False
  | fuel+1,p,q,w,f,y,m,h=>((decide (m ≥ 0))=true→∃ p3,p=some p3∧(0:Int)≤(IntKind.i64.wrap (f+m))∧(IntKind.i64.wrap (f+m))<((q:Nat):Int)∧∃ p4,p=some p4∧(0:Int)≤f∧f<((q:Nat):Int)∧∃ n5,hcell h (Addr.add p3 (Int.toNat (IntKind.i64.wrap (f+m)) * 1))=some (.int .u64 n5)∧∃ n6,hcell h (Addr.add p4 (Int.toNat f * 1))=some (.int .u64 n6)∧∃ p7,p=some p7∧(0:Int)≤f∧f<((q:Nat):Int)∧∃ h8,stC h (Addr.add p7 (Int.toNat f * 1)) 0 [.int .u64 n5]=some h8∧∃ p9,p=some p9∧(0:Int)≤(IntKind.i64.wrap (f+m))∧(IntKind.i64.wrap (f+m))<((q:Nat):Int)∧∃ z,stC h8 (Addr.add p9 (Int.toNat (IntKind.i64.wrap (f+m)) * 1)) 0 [.int .u64 n6]=some z∧CallsH P F.qav [.slice p q w,.int .i64 y,.int .i64 m,.int .i64 f] (fun aa ab=>aa=.tuple #[]∧bd ((IntKind.i64.wrap (m - 1)):Int) fun ac=>(qaz.L2 K fuel) p q w f y ac ab) z)∧((decide (m ≥ 0))=false→K (.tuple #[]) h)
termination_by structural n=>n
def qaz.L2.l:Live:=[(0,.slice),(6,.int .i64),(7,.int .i64),(10,.int .i64)]
def qaz.L2.j (K:KT):Nat→Tup qaz.L2.l→Heap→Prop:=fun n x h=>qaz.L2 K n x.1.1 x.1.2.1 x.1.2.2 x.2.1 x.2.2.1 x.2.2.2.1 h
def qaz.j1 (K:KT) (f:OA) (m:Nat) (p:Nat) (q:Int) (w:Int) (y:Int) (h:Heap):Prop :=
  bd ((IntKind.i64.wrap (y - 1)):Int) fun z=>∃ fuel14,qaz.L2 K fuel14 f m p q w z h
def qaz.j1.l:Live:=[(0,.slice),(6,.int .i64),(7,.int .i64),(8,.int .i64)]
def qaz.j1.j (K:KT):Tup qaz.j1.l→Heap→Prop:=fun x h=>qaz.j1 K x.1.1 x.1.2.1 x.1.2.2 x.2.1 x.2.2.1 x.2.2.2.1 h
def qaz.L3 (K:KT):Nat→OA→Nat→Nat→Int→Int→Int→Int→Heap→Prop
  | 0,_,_,_,_,_,_,_,_=>False
  | fuel+1,m,p,q,w,z,y,f,h=>((decide (f ≥ 0))=true→CallsH P F.qav [.slice m p q,.int .i64 f,.int .i64 y,.int .i64 w] (fun aa ab=>aa=.tuple #[]∧bd ((IntKind.i64.wrap (f - 1)):Int) fun ac=>(qaz.L3 K fuel) m p q w z y ac ab) h)∧((decide (f ≥ 0))=false→qaz.j1 K m p q w z y h)
termination_by structural n=>n
def qaz.L3.l:Live:=[(0,.slice),(6,.int .i64),(7,.int .i64),(8,.int .i64),(9,.int .i64)]
def qaz.L3.j (K:KT):Nat→Tup qaz.L3.l→Heap→Prop:=fun n x h=>qaz.L3 K n x.1.1 x.1.2.1 x.1.2.2 x.2.1 x.2.2.1 x.2.2.2.1 x.2.2.2.2.1 h
def qaz.p0 (K:KT) (p:OA) (q:Nat) (w:Nat) (f:Int) (y:Int) (h:Heap):Prop :=
  bd ((IntKind.i64.wrap (y - f)):Int) fun m=>(2:Int)≠0∧bd ((IntKind.i64.wrap (Int.tdiv (IntKind.i64.wrap (m - 1)) 2)):Int) fun z=>∃ fuel19,qaz.L3 K fuel19 p q w f 0 m z h
def qaz.plan (K:KT):Plan:=(.seq .go (.seq .go (.seq .go (.cut qaz.j1.l (qaz.j1.j K) (.seq .go (.block (.loop qaz.L3.l (qaz.L3.j K) (fun n3=>.go)))) (.seq .go (.block (.loop qaz.L2.l (qaz.L2.j K) (fun n2=>(.seq .go (.seq (.block (.seq (.orders (.op 0 (.op 1 (.op 2 (.op 3 (.op 4 (.op 5 (.op 6 (.op 7 (.op 8 (.op 9 (.op 10 (.op 12 (.op 13 (.op 14 (.op 11 (.op 15 (.op 16 (.op 17 (.op 18 (.op 19 .nil))))))))))))))))))))) .go)) .go))))))))))
theorem qaz.ev_eq:qaz.p0=fun K f m p q w h=>Ev P Tryz.f265 (qaz.plan K) K [.slice f m p,.int .i64 q,.int .i64 w] h:=by kernel_rfl
theorem qaz.obl (K:KT):Obl P Tryz.f265 (qaz.plan K) K :=
  obl_of (R:=(∀ x h,¬ (qaz.L3.j K) 0 x h)∧ImpN (qaz.L3.j K)∧(∀ (n3:Nat),True)∧Imp (qaz.j1.j K)∧(∀ x h,¬ (qaz.L2.j K) 0 x h)∧ImpN (qaz.L2.j K)∧(∀ (n2:Nat),DrawOK P Tryz.f265.ntmps (opsAt 10 (bodyOf Tryz.f265)) (.op 0 (.op 1 (.op 2 (.op 3 (.op 4 (.op 5 (.op 6 (.op 7 (.op 8 (.op 9 (.op 10 (.op 12 (.op 13 (.op 14 (.op 11 (.op 15 (.op 16 (.op 17 (.op 18 (.op 19 .nil))))))))))))))))))))∧True)∧True) (by kernel_rfl) ⟨fun _ _ H=>H,impN _,fun _=>trivial,⟨imp _,⟨fun _ _ H=>H,impN _,fun _=>⟨draw_ok (by kernel_rfl),trivial⟩,trivial⟩⟩⟩
theorem qaz.ok {K:KT}{f:OA}{m:Nat}{p:Nat}{q:Int}{w:Int}{h:Heap} (H:qaz.p0 K f m p q w h):CallsH P F.qaz [.slice f m p,.int .i64 q,.int .i64 w] K h :=
  calls_of_Ev (qaz.plan K) Tryz.func265 (by kernel_rfl) (qaz.obl K) (by rw [qaz.ev_eq] at H; exact H)
def qaw.j2 (K:KT) (R1:OA→Nat→Nat→Int→Int→Addr→Int→Int→Heap→Prop) (q:OA) (w:Nat) (ag:Nat) (f:Int) (ah:Int) (ai:Addr) (aj:Int) (m:Int) (p:Int) (h:Heap):Prop :=
  ∃ y,q=some y∧(0:Int)≤(IntKind.i64.wrap (f+p))∧(IntKind.i64.wrap (f+p))<((w:Nat):Int)∧∃ z,q=some z∧(0:Int)≤m∧m<((w:Nat):Int)∧∃ aa,hcell h (Addr.add y (Int.toNat (IntKind.i64.wrap (f+p)) * 1))=some (.int .u64 aa)∧∃ ab,hcell h (Addr.add z (Int.toNat m * 1))=some (.int .u64 ab)∧∃ ac,q=some ac∧(0:Int)≤m∧m<((w:Nat):Int)∧∃ ad,stC h (Addr.add ac (Int.toNat m * 1)) 0 [.int .u64 aa]=some ad∧∃ ae,q=some ae∧(0:Int)≤(IntKind.i64.wrap (f+p))∧(IntKind.i64.wrap (f+p))<((w:Nat):Int)∧∃ af,stC ad (Addr.add ae (Int.toNat (IntKind.i64.wrap (f+p)) * 1)) 0 [.int .u64 ab]=some af∧bd ((IntKind.i64.wrap (m+1)):Int) fun ak=>R1 q w ag f ah ai aj ak af
def qaw.j2.l:Live:=[(0,.slice),(1,.int .i64),(6,.int .i64),(7,.addr),(8,.int .u64),(9,.int .i64),(10,.int .i64)]
def qaw.j2.j (K:KT) (R1:OA→Nat→Nat→Int→Int→Addr→Int→Int→Heap→Prop):Tup qaw.j2.l→Heap→Prop:=fun x h=>qaw.j2 K R1 x.1.1 x.1.2.1 x.1.2.2 x.2.1 x.2.2.1 x.2.2.2.1 x.2.2.2.2.1 x.2.2.2.2.2.1 x.2.2.2.2.2.2.1 h
def qaw.L1 (K:KT):Nat→OA→Nat→Nat→Int→Int→Addr→Int→Int→Heap→Prop
  | 0,_,_,_,_,_,_,_,_,_=>False
  | fuel+1,z,aa,ab,m,f,w,y,p,h=>(4:Int)≠0∧((decide (p≤(IntKind.i64.wrap ((IntKind.i64.wrap (m+(IntKind.i64.wrap ((IntKind.i64.wrap (Int.tdiv f 4)) * 2))))+1))))=true→CallsH P F.qcy [.pointer (some w)] (fun v8 h9=>∃ ac,v8=.int .u64 ac∧bd ((IntKind.i64.wrap (bitsI .and .u64 ac (IntKind.u64.wrap (y - 1)))):Int) fun q=>((decide (q ≥ f))=true→bd ((IntKind.i64.wrap (q - f)):Int) fun ad=>qaw.j2 K (qaw.L1 K fuel) z aa ab m f w y p ad h9)∧((decide (q ≥ f))=false→qaw.j2 K (qaw.L1 K fuel) z aa ab m f w y p q h9)) h)∧((decide (p≤(IntKind.i64.wrap ((IntKind.i64.wrap (m+(IntKind.i64.wrap ((IntKind.i64.wrap (Int.tdiv f 4)) * 2))))+1))))=false→K (.tuple #[]) h)
termination_by structural n=>n
def qaw.L1.l:Live:=[(0,.slice),(1,.int .i64),(6,.int .i64),(7,.addr),(8,.int .u64),(9,.int .i64)]
def qaw.L1.j (K:KT):Nat→Tup qaw.L1.l→Heap→Prop:=fun n x h=>qaw.L1 K n x.1.1 x.1.2.1 x.1.2.2 x.2.1 x.2.2.1 x.2.2.2.1 x.2.2.2.2.1 x.2.2.2.2.2.1 h
def qaw.p0 (K:KT) (p:OA) (q:Nat) (w:Nat) (m:Int) (y:Int) (h:Heap):Prop :=
  bd ((IntKind.i64.wrap (y - m)):Int) fun f=>((decide (f ≥ 8))=true→bd (al h #[.int .u64 0] T.slices_xorshift) fun h2=>∃ h3,stC h2 (top h) 0 [.int .u64 (IntKind.u64.wrap f)]=some h3∧CallsH P F.qcw [.int .i64 f] (fun v4 h5=>∃ n6,v4=.int .u64 n6∧(4:Int)≠0∧bd ((IntKind.i64.wrap ((IntKind.i64.wrap (m+(IntKind.i64.wrap ((IntKind.i64.wrap (Int.tdiv f 4)) * 2)))) - 1)):Int) fun z=>∃ fuel22,qaw.L1 K fuel22 p q w m f (top h) n6 z h5) h3)∧((decide (f ≥ 8))=false→K (.tuple #[]) h)
def qaw.plan (K:KT):Plan:=(.seq .go (.seq .go (.cond (.seq .go (.seq .go (.seq .go (.block (.loop qaw.L1.l (qaw.L1.j K) (fun n1=>(.seq .go (.seq (.block (.seq .go (.cut qaw.j2.l (qaw.j2.j K (qaw.L1 K n1)) .go (.orders (.op 0 (.op 1 (.op 2 (.op 3 (.op 4 (.op 5 (.op 6 (.op 7 (.op 8 (.op 9 (.op 10 (.op 12 (.op 13 (.op 14 (.op 11 (.op 15 (.op 16 (.op 17 (.op 18 (.op 19 .nil)))))))))))))))))))))))) .go)))))))) .go)))
theorem qaw.ev_eq:qaw.p0=fun K f m p q w h=>Ev P Tryz.f266 (qaw.plan K) K [.slice f m p,.int .i64 q,.int .i64 w] h:=by kernel_rfl
theorem qaw.obl (K:KT):Obl P Tryz.f266 (qaw.plan K) K :=
  obl_of (R:=(∀ x h,¬ (qaw.L1.j K) 0 x h)∧ImpN (qaw.L1.j K)∧(∀ (n1:Nat),Imp (qaw.j2.j K (qaw.L1 K n1))∧DrawOK P Tryz.f266.ntmps (opsAt 10 (bodyOf Tryz.f266)) (.op 0 (.op 1 (.op 2 (.op 3 (.op 4 (.op 5 (.op 6 (.op 7 (.op 8 (.op 9 (.op 10 (.op 12 (.op 13 (.op 14 (.op 11 (.op 15 (.op 16 (.op 17 (.op 18 (.op 19 .nil))))))))))))))))))))∧True)∧True) (by kernel_rfl) ⟨fun _ _ H=>H,impN _,fun _=>⟨imp _,⟨draw_ok (by kernel_rfl),trivial⟩⟩,trivial⟩
theorem qaw.ok {K:KT}{f:OA}{m:Nat}{p:Nat}{q:Int}{w:Int}{h:Heap} (H:qaw.p0 K f m p q w h):CallsH P F.qaw [.slice f m p,.int .i64 q,.int .i64 w] K h :=
  calls_of_Ev (qaw.plan K) Tryz.func266 (by kernel_rfl) (qaw.obl K) (by rw [qaw.ev_eq] at H; exact H)
def qch.p0 (K:KT) (p:OA) (q:Nat) (aa:Nat) (f:Int) (m:Int) (w:OA) (h:Heap):Prop :=
  ∃ p1,p=some p1∧(0:Int)≤m∧m<((q:Nat):Int)∧∃ p2,p=some p2∧(0:Int)≤f∧f<((q:Nat):Int)∧∃ n3,hcell h (Addr.add p1 (Int.toNat m * 1))=some (.int .u64 n3)∧∃ n4,hcell h (Addr.add p2 (Int.toNat f * 1))=some (.int .u64 n4)∧CallsH P F.qdm [.int .u64 n3,.int .u64 n4] (fun v5 h6=>∃ b7,v5=.bool b7∧(b7=true→∃ p8,w=some p8∧∃ n9,hcell h6 p8=some (.int .i64 n9)∧∃ y,w=some y∧∃ z,stC h6 y 0 [.int .i64 (IntKind.i64.wrap (n9+1))]=some z∧K (.tuple #[.int .i64 m,.int .i64 f]) z)∧(b7=false→K (.tuple #[.int .i64 f,.int .i64 m]) h6)) h
def qch.plan (K:KT):Plan:=(.seq .go (.seq (.seq (.orders (.op 0 (.op 1 (.op 2 (.op 4 (.op 5 (.op 6 (.op 3 (.op 7 (.op 8 .nil)))))))))) .go) .go))
theorem qch.ev_eq:qch.p0=fun K f m p q w y h=>Ev P Tryz.f288 (qch.plan K) K [.slice f m p,.int .i64 q,.int .i64 w,.pointer y] h:=by kernel_rfl
theorem qch.obl (K:KT):Obl P Tryz.f288 (qch.plan K) K :=
  obl_of (R:=DrawOK P Tryz.f288.ntmps (opsAt 1 (bodyOf Tryz.f288)) (.op 0 (.op 1 (.op 2 (.op 4 (.op 5 (.op 6 (.op 3 (.op 7 (.op 8 .nil)))))))))∧True) (by kernel_rfl) ⟨draw_ok (by kernel_rfl),trivial⟩
theorem qch.ok {K:KT}{f:OA}{m:Nat}{p:Nat}{q:Int}{w:Int}{y:OA}{h:Heap} (H:qch.p0 K f m p q w y h):CallsH P F.qch [.slice f m p,.int .i64 q,.int .i64 w,.pointer y] K h :=
  calls_of_Ev (qch.plan K) Tryz.func288 (by kernel_rfl) (qch.obl K) (by rw [qch.ev_eq] at H; exact H)
def qcj.p0 (K:KT) (f:OA) (m:Nat) (p:Nat) (y:Int) (z:Int) (aa:Int) (q:OA) (h:Heap):Prop :=
  CallsH P F.qch [.slice f m p,.int .i64 y,.int .i64 z,.pointer q] (fun v1 h2=>∃ n3 n4,v1=.tuple #[.int .i64 n3,.int .i64 n4]∧CallsH P F.qch [.slice f m p,.int .i64 n4,.int .i64 aa,.pointer q] (fun v5 h6=>∃ n7 n8,v5=.tuple #[.int .i64 n7,.int .i64 n8]∧CallsH P F.qch [.slice f m p,.int .i64 n3,.int .i64 n7,.pointer q] (fun v9 ab=>∃ ac w,v9=.tuple #[.int .i64 ac,.int .i64 w]∧K (.int .i64 w) ab) h6) h2) h
def qcj.plan (K:KT):Plan:=.go
theorem qcj.ev_eq:qcj.p0=fun K f m p q w y z h=>Ev P Tryz.f283 (qcj.plan K) K [.slice f m p,.int .i64 q,.int .i64 w,.int .i64 y,.pointer z] h:=by kernel_rfl
theorem qcj.obl (K:KT):Obl P Tryz.f283 (qcj.plan K) K :=
  obl_true (by kernel_rfl)
theorem qcj.ok {K:KT}{f:OA}{m:Nat}{p:Nat}{q:Int}{w:Int}{y:Int}{z:OA}{h:Heap} (H:qcj.p0 K f m p q w y z h):CallsH P F.qcj [.slice f m p,.int .i64 q,.int .i64 w,.int .i64 y,.pointer z] K h :=
  calls_of_Ev (qcj.plan K) Tryz.func283 (by kernel_rfl) (qcj.obl K) (by rw [qcj.ev_eq] at H; exact H)
def qbw.p0 (K:KT) (m:OA) (p:Nat) (q:Nat) (f:Int) (w:OA) (h:Heap):Prop :=
  CallsH P F.qcj [.slice m p q,.int .i64 (IntKind.i64.wrap (f - 1)),.int .i64 f,.int .i64 (IntKind.i64.wrap (f+1)),.pointer w] (fun v1 h2=>∃ n3,v1=.int .i64 n3∧K (.int .i64 n3) h2) h
def qbw.plan (K:KT):Plan:=.go
theorem qbw.ev_eq:qbw.p0=fun K f m p q w h=>Ev P Tryz.f282 (qbw.plan K) K [.slice f m p,.int .i64 q,.pointer w] h:=by kernel_rfl
theorem qbw.obl (K:KT):Obl P Tryz.f282 (qbw.plan K) K :=
  obl_true (by kernel_rfl)
theorem qbw.ok {K:KT}{f:OA}{m:Nat}{p:Nat}{q:Int}{w:OA}{h:Heap} (H:qbw.p0 K f m p q w h):CallsH P F.qbw [.slice f m p,.int .i64 q,.pointer w] K h :=
  calls_of_Ev (qbw.plan K) Tryz.func282 (by kernel_rfl) (qbw.obl K) (by rw [qbw.ev_eq] at H; exact H)
def qbc.j1 (K:KT) (m:Addr) (f:Int) (h:Heap):Prop :=
  ∃ n6,hcell h m=some (.int .i64 n6)∧bd ((n6==0):Bool) fun b7=>(b7=true→K (.tuple #[.int .i64 f,.int .i64 1]) h)∧(b7=false→bd ((n6==12):Bool) fun b8=>(b8=true→K (.tuple #[.int .i64 f,.int .i64 2]) h)∧(b8=false→K (.tuple #[.int .i64 f,.int .i64 0]) h))
def qbc.j1.l:Live:=[(9,.addr),(11,.int .i64)]
def qbc.j1.j (K:KT):Tup qbc.j1.l→Heap→Prop:=fun x h=>qbc.j1 K x.1 x.2.1 h
def qbc.j2 (K:KT) (p:OA) (q:Nat) (w:Nat) (f:Addr) (y:Int) (z:Int) (aa:Int) (h:Heap):Prop :=
  CallsH P F.qcj [.slice p q w,.int .i64 y,.int .i64 z,.int .i64 aa,.pointer (some f)] (fun v9 ab=>∃ m,v9=.int .i64 m∧qbc.j1 K f m ab) h
def qbc.j2.l:Live:=[(0,.slice),(9,.addr),(10,.int .i64),(11,.int .i64),(12,.int .i64)]
def qbc.j2.j (K:KT):Tup qbc.j2.l→Heap→Prop:=fun x h=>qbc.j2 K x.1.1 x.1.2.1 x.1.2.2 x.2.1 x.2.2.1 x.2.2.2.1 x.2.2.2.2.1 h
def qbc.p0 (K:KT) (m:OA) (p:Nat) (q:Nat) (w:Int) (ae:Int) (h:Heap):Prop :=
  bd ((IntKind.i64.wrap (ae - w)):Int) fun f=>bd (al h #[.int .i64 0] T.int) fun h2=>(4:Int)≠0∧bd ((IntKind.i64.wrap (w+(IntKind.i64.wrap ((IntKind.i64.wrap (Int.tdiv f 4)) * 1)))):Int) fun z=>(4:Int)≠0∧bd ((IntKind.i64.wrap (w+(IntKind.i64.wrap ((IntKind.i64.wrap (Int.tdiv f 4)) * 2)))):Int) fun y=>(4:Int)≠0∧bd ((IntKind.i64.wrap (w+(IntKind.i64.wrap ((IntKind.i64.wrap (Int.tdiv f 4)) * 3)))):Int) fun aa=>((decide (f ≥ 8))=true→((decide (f ≥ 50))=true→CallsH P F.qbw [.slice m p q,.int .i64 z,.pointer (some (top h))] (fun af ag=>∃ ab,af=.int .i64 ab∧CallsH P F.qbw [.slice m p q,.int .i64 y,.pointer (some (top h))] (fun ah ai=>∃ ac,ah=.int .i64 ac∧CallsH P F.qbw [.slice m p q,.int .i64 aa,.pointer (some (top h))] (fun aj ak=>∃ ad,aj=.int .i64 ad∧qbc.j2 K m p q (top h) ab ac ad ak) ai) ag) h2)∧((decide (f ≥ 50))=false→qbc.j2 K m p q (top h) z y aa h2))∧((decide (f ≥ 8))=false→qbc.j1 K (top h) y h2)
def qbc.plan (K:KT):Plan:=(.seq .go (.seq .go (.seq .go (.seq .go (.seq .go (.seq .go (.cut qbc.j1.l (qbc.j1.j K) (.seq .go (.cond (.cut qbc.j2.l (qbc.j2.j K) .go .go) .go)) .go)))))))
theorem qbc.ev_eq:qbc.p0=fun K f m p q w h=>Ev P Tryz.f267 (qbc.plan K) K [.slice f m p,.int .i64 q,.int .i64 w] h:=by kernel_rfl
theorem qbc.obl (K:KT):Obl P Tryz.f267 (qbc.plan K) K :=
  obl_of (R:=Imp (qbc.j2.j K)∧Imp (qbc.j1.j K)∧True) (by kernel_rfl) ⟨imp _,⟨imp _,trivial⟩⟩
theorem qbc.ok {K:KT}{f:OA}{m:Nat}{p:Nat}{q:Int}{w:Int}{h:Heap} (H:qbc.p0 K f m p q w h):CallsH P F.qbc [.slice f m p,.int .i64 q,.int .i64 w] K h :=
  calls_of_Ev (qbc.plan K) Tryz.func267 (by kernel_rfl) (qbc.obl K) (by rw [qbc.ev_eq] at H; exact H)
def qbk.L1 (K:KT):Nat→OA→Nat→Nat→Int→Int→Heap→Prop
  | 0,_,_,_,_,_,_=>False
  | fuel+1,p,q,w,f,m,h=>((decide (f<m))=true→∃ p2,p=some p2∧(0:Int)≤m∧m<((q:Nat):Int)∧∃ p3,p=some p3∧(0:Int)≤f∧f<((q:Nat):Int)∧∃ n4,hcell h (Addr.add p2 (Int.toNat m * 1))=some (.int .u64 n4)∧∃ n5,hcell h (Addr.add p3 (Int.toNat f * 1))=some (.int .u64 n5)∧∃ p6,p=some p6∧(0:Int)≤f∧f<((q:Nat):Int)∧∃ h7,stC h (Addr.add p6 (Int.toNat f * 1)) 0 [.int .u64 n4]=some h7∧∃ p8,p=some p8∧(0:Int)≤m∧m<((q:Nat):Int)∧∃ h9,stC h7 (Addr.add p8 (Int.toNat m * 1)) 0 [.int .u64 n5]=some h9∧bd ((IntKind.i64.wrap (f+1)):Int) fun y=>bd ((IntKind.i64.wrap (m - 1)):Int) fun z=>(qbk.L1 K fuel) p q w y z h9)∧((decide (f<m))=false→K (.tuple #[]) h)
termination_by structural n=>n
def qbk.L1.l:Live:=[(0,.slice),(6,.int .i64),(7,.int .i64)]
def qbk.L1.j (K:KT):Nat→Tup qbk.L1.l→Heap→Prop:=fun n x h=>qbk.L1 K n x.1.1 x.1.2.1 x.1.2.2 x.2.1 x.2.2.1 h
def qbk.p0 (K:KT) (f:OA) (m:Nat) (p:Nat) (q:Int) (w:Int) (h:Heap):Prop :=
  bd ((IntKind.i64.wrap (w - 1)):Int) fun y=>∃ fuel12,qbk.L1 K fuel12 f m p q y h
def qbk.plan (K:KT):Plan:=(.seq .go (.seq .go (.block (.loop qbk.L1.l (qbk.L1.j K) (fun n1=>(.seq .go (.block (.seq (.orders (.op 0 (.op 1 (.op 2 (.op 3 (.op 4 (.op 5 (.op 6 (.op 8 (.op 9 (.op 10 (.op 7 (.op 11 (.op 12 (.op 13 (.op 14 (.op 15 .nil))))))))))))))))) .go))))))))
theorem qbk.ev_eq:qbk.p0=fun K f m p q w h=>Ev P Tryz.f268 (qbk.plan K) K [.slice f m p,.int .i64 q,.int .i64 w] h:=by kernel_rfl
theorem qbk.obl (K:KT):Obl P Tryz.f268 (qbk.plan K) K :=
  obl_of (R:=(∀ x h,¬ (qbk.L1.j K) 0 x h)∧ImpN (qbk.L1.j K)∧(∀ (n1:Nat),DrawOK P Tryz.f268.ntmps (opsAt 3 (bodyOf Tryz.f268)) (.op 0 (.op 1 (.op 2 (.op 3 (.op 4 (.op 5 (.op 6 (.op 8 (.op 9 (.op 10 (.op 7 (.op 11 (.op 12 (.op 13 (.op 14 (.op 15 .nil))))))))))))))))∧True)∧True) (by kernel_rfl) ⟨fun _ _ H=>H,impN _,fun _=>⟨draw_ok (by kernel_rfl),trivial⟩,trivial⟩
theorem qbk.ok {K:KT}{f:OA}{m:Nat}{p:Nat}{q:Int}{w:Int}{h:Heap} (H:qbk.p0 K f m p q w h):CallsH P F.qbk [.slice f m p,.int .i64 q,.int .i64 w] K h :=
  calls_of_Ev (qbk.plan K) Tryz.func268 (by kernel_rfl) (qbk.obl K) (by rw [qbk.ev_eq] at H; exact H)
def qad.j2 (K:KT) (R1:OA→Nat→Nat→Int→Int→Int→Int→Heap→Prop) (f:OA) (m:Nat) (p:Nat) (q:Int) (w:Int) (y:Int) (z:Int) (h:Heap):Prop :=
  bd ((IntKind.i64.wrap (z+1)):Int) fun aa=>R1 f m p q w y aa h
def qad.j2.l:Live:=[(0,.slice),(1,.int .i64),(2,.int .i64),(7,.int .i64),(8,.int .i64)]
def qad.j2.j (K:KT) (R1:OA→Nat→Nat→Int→Int→Int→Int→Heap→Prop):Tup qad.j2.l→Heap→Prop:=fun x h=>qad.j2 K R1 x.1.1 x.1.2.1 x.1.2.2 x.2.1 x.2.2.1 x.2.2.2.1 x.2.2.2.2.1 h
def qad.L5 (K:KT) (R1:OA→Nat→Nat→Int→Int→Int→Int→Heap→Prop):Nat→OA→Nat→Nat→Int→Int→Int→Int→Int→Heap→Prop
  | 0,_,_,_,_,_,_,_,_,_=>False
  | fuel+1,m,p,y,z,q,aa,ab,f,h=>((decide (f<q))=true→∃ ad,m=some ad∧(0:Int)≤f∧f<((p:Nat):Int)∧∃ ae,m=some ae∧(0:Int)≤(IntKind.i64.wrap (f - 1))∧(IntKind.i64.wrap (f - 1))<((p:Nat):Int)∧∃ af,hcell h (Addr.add ad (Int.toNat f * 1))=some (.int .u64 af)∧∃ ag,hcell h (Addr.add ae (Int.toNat (IntKind.i64.wrap (f - 1)) * 1))=some (.int .u64 ag)∧CallsH P F.qdm [.int .u64 af,.int .u64 ag] (fun ar w=>∃ ac,ar=.bool ac∧((!ac)=true→qad.j2 K R1 m p y z q aa ab w)∧((!ac)=false→∃ ah,m=some ah∧(0:Int)≤(IntKind.i64.wrap (f - 1))∧(IntKind.i64.wrap (f - 1))<((p:Nat):Int)∧∃ ai,m=some ai∧(0:Int)≤f∧f<((p:Nat):Int)∧∃ aj,hcell w (Addr.add ah (Int.toNat (IntKind.i64.wrap (f - 1)) * 1))=some (.int .u64 aj)∧∃ ak,hcell w (Addr.add ai (Int.toNat f * 1))=some (.int .u64 ak)∧∃ am,m=some am∧(0:Int)≤f∧f<((p:Nat):Int)∧∃ an,stC w (Addr.add am (Int.toNat f * 1)) 0 [.int .u64 aj]=some an∧∃ ao,m=some ao∧(0:Int)≤(IntKind.i64.wrap (f - 1))∧(IntKind.i64.wrap (f - 1))<((p:Nat):Int)∧∃ aq,stC an (Addr.add ao (Int.toNat (IntKind.i64.wrap (f - 1)) * 1)) 0 [.int .u64 ak]=some aq∧bd ((IntKind.i64.wrap (f+1)):Int) fun au=>(qad.L5 K R1 fuel) m p y z q aa ab au aq)) h)∧((decide (f<q))=false→qad.j2 K R1 m p y z q aa ab h)
termination_by structural n=>n
def qad.L5.l:Live:=[(0,.slice),(1,.int .i64),(2,.int .i64),(7,.int .i64),(8,.int .i64),(10,.int .i64)]
def qad.L5.j (K:KT) (R1:OA→Nat→Nat→Int→Int→Int→Int→Heap→Prop):Nat→Tup qad.L5.l→Heap→Prop:=fun n x h=>qad.L5 K R1 n x.1.1 x.1.2.1 x.1.2.2 x.2.1 x.2.2.1 x.2.2.2.1 x.2.2.2.2.1 x.2.2.2.2.2.1 h
def qad.j4 (K:KT) (R1:OA→Nat→Nat→Int→Int→Int→Int→Heap→Prop) (p:OA) (q:Nat) (w:Nat) (y:Int) (m:Int) (f:Int) (z:Int) (h:Heap):Prop :=
  ((decide ((IntKind.i64.wrap (m - f)) ≥ 2))=true→bd ((IntKind.i64.wrap (f+1)):Int) fun aa=>∃ fuel28,qad.L5 K R1 fuel28 p q w y m f z aa h)∧((decide ((IntKind.i64.wrap (m - f)) ≥ 2))=false→qad.j2 K R1 p q w y m f z h)
def qad.j4.l:Live:=[(0,.slice),(1,.int .i64),(2,.int .i64),(7,.int .i64),(8,.int .i64)]
def qad.j4.j (K:KT) (R1:OA→Nat→Nat→Int→Int→Int→Int→Heap→Prop):Tup qad.j4.l→Heap→Prop:=fun x h=>qad.j4 K R1 x.1.1 x.1.2.1 x.1.2.2 x.2.1 x.2.2.1 x.2.2.2.1 x.2.2.2.2.1 h
def qad.L6 (K:KT) (R1:OA→Nat→Nat→Int→Int→Int→Int→Heap→Prop):Nat→OA→Nat→Nat→Int→Int→Int→Int→Int→Heap→Prop
  | 0,_,_,_,_,_,_,_,_,_=>False
  | fuel+1,m,p,w,y,z,aa,ab,f,h=>((decide (f ≥ 1))=true→∃ ad,m=some ad∧(0:Int)≤f∧f<((p:Nat):Int)∧∃ ae,m=some ae∧(0:Int)≤(IntKind.i64.wrap (f - 1))∧(IntKind.i64.wrap (f - 1))<((p:Nat):Int)∧∃ af,hcell h (Addr.add ad (Int.toNat f * 1))=some (.int .u64 af)∧∃ ag,hcell h (Addr.add ae (Int.toNat (IntKind.i64.wrap (f - 1)) * 1))=some (.int .u64 ag)∧CallsH P F.qdm [.int .u64 af,.int .u64 ag] (fun ao q=>∃ ac,ao=.bool ac∧((!ac)=true→qad.j4 K R1 m p w y z aa ab q)∧((!ac)=false→∃ p37,m=some p37∧(0:Int)≤(IntKind.i64.wrap (f - 1))∧(IntKind.i64.wrap (f - 1))<((p:Nat):Int)∧∃ ah,m=some ah∧(0:Int)≤f∧f<((p:Nat):Int)∧∃ n39,hcell q (Addr.add p37 (Int.toNat (IntKind.i64.wrap (f - 1)) * 1))=some (.int .u64 n39)∧∃ ai,hcell q (Addr.add ah (Int.toNat f * 1))=some (.int .u64 ai)∧∃ aj,m=some aj∧(0:Int)≤f∧f<((p:Nat):Int)∧∃ ak,stC q (Addr.add aj (Int.toNat f * 1)) 0 [.int .u64 n39]=some ak∧∃ am,m=some am∧(0:Int)≤(IntKind.i64.wrap (f - 1))∧(IntKind.i64.wrap (f - 1))<((p:Nat):Int)∧∃ an,stC ak (Addr.add am (Int.toNat (IntKind.i64.wrap (f - 1)) * 1)) 0 [.int .u64 ai]=some an∧bd ((IntKind.i64.wrap (f - 1)):Int) fun aq=>(qad.L6 K R1 fuel) m p w y z aa ab aq an)) h)∧((decide (f ≥ 1))=false→qad.j4 K R1 m p w y z aa ab h)
termination_by structural n=>n
def qad.L6.l:Live:=[(0,.slice),(1,.int .i64),(2,.int .i64),(7,.int .i64),(8,.int .i64),(9,.int .i64)]
def qad.L6.j (K:KT) (R1:OA→Nat→Nat→Int→Int→Int→Int→Heap→Prop):Nat→Tup qad.L6.l→Heap→Prop:=fun n x h=>qad.L6 K R1 n x.1.1 x.1.2.1 x.1.2.2 x.2.1 x.2.2.1 x.2.2.2.1 x.2.2.2.2.1 x.2.2.2.2.2.1 h
def qad.j3 (K:KT) (R1:OA→Nat→Nat→Int→Int→Int→Int→Heap→Prop) (m:OA) (p:Nat) (z:Nat) (q:Int) (w:Int) (f:Int) (aa:Int) (h:Heap):Prop :=
  ((f==w)=true→K (.bool true) h)∧((f==w)=false→((decide ((IntKind.i64.wrap (w - q))<50))=true→K (.bool false) h)∧((decide ((IntKind.i64.wrap (w - q))<50))=false→∃ p3,m=some p3∧(0:Int)≤(IntKind.i64.wrap (f - 1))∧(IntKind.i64.wrap (f - 1))<((p:Nat):Int)∧∃ p4,m=some p4∧(0:Int)≤f∧f<((p:Nat):Int)∧∃ n5,hcell h (Addr.add p3 (Int.toNat (IntKind.i64.wrap (f - 1)) * 1))=some (.int .u64 n5)∧∃ n6,hcell h (Addr.add p4 (Int.toNat f * 1))=some (.int .u64 n6)∧∃ p7,m=some p7∧(0:Int)≤f∧f<((p:Nat):Int)∧∃ h8,stC h (Addr.add p7 (Int.toNat f * 1)) 0 [.int .u64 n5]=some h8∧∃ p9,m=some p9∧(0:Int)≤(IntKind.i64.wrap (f - 1))∧(IntKind.i64.wrap (f - 1))<((p:Nat):Int)∧∃ y,stC h8 (Addr.add p9 (Int.toNat (IntKind.i64.wrap (f - 1)) * 1)) 0 [.int .u64 n6]=some y∧((decide ((IntKind.i64.wrap (f - q)) ≥ 2))=true→bd ((IntKind.i64.wrap (f - 1)):Int) fun ab=>∃ fuel46,qad.L6 K R1 fuel46 m p z q w f aa ab y)∧((decide ((IntKind.i64.wrap (f - q)) ≥ 2))=false→qad.j4 K R1 m p z q w f aa y)))
def qad.j3.l:Live:=[(0,.slice),(1,.int .i64),(2,.int .i64),(7,.int .i64),(8,.int .i64)]
def qad.j3.j (K:KT) (R1:OA→Nat→Nat→Int→Int→Int→Int→Heap→Prop):Tup qad.j3.l→Heap→Prop:=fun x h=>qad.j3 K R1 x.1.1 x.1.2.1 x.1.2.2 x.2.1 x.2.2.1 x.2.2.2.1 x.2.2.2.2.1 h
def qad.j8 (K:KT) (R1:OA→Nat→Nat→Int→Int→Int→Int→Heap→Prop) (R7:OA→Nat→Nat→Int→Int→Int→Int→Heap→Prop) (f:OA) (m:Nat) (p:Nat) (q:Int) (w:Int) (y:Int) (z:Int) (aa:Bool) (h:Heap):Prop :=
  (aa=true→bd ((IntKind.i64.wrap (y+1)):Int) fun ab=>R7 f m p q w ab z h)∧(aa=false→qad.j3 K R1 f m p q w y z h)
def qad.j8.l:Live:=[(0,.slice),(1,.int .i64),(2,.int .i64),(7,.int .i64),(8,.int .i64),(32,.bool)]
def qad.j8.j (K:KT) (R1:OA→Nat→Nat→Int→Int→Int→Int→Heap→Prop) (R7:OA→Nat→Nat→Int→Int→Int→Int→Heap→Prop):Tup qad.j8.l→Heap→Prop:=fun x h=>qad.j8 K R1 R7 x.1.1 x.1.2.1 x.1.2.2 x.2.1 x.2.2.1 x.2.2.2.1 x.2.2.2.2.1 x.2.2.2.2.2.1 h
def qad.L7 (K:KT) (R1:OA→Nat→Nat→Int→Int→Int→Int→Heap→Prop):Nat→OA→Nat→Nat→Int→Int→Int→Int→Heap→Prop
  | 0,_,_,_,_,_,_,_,_=>False
  | fuel+1,m,p,w,y,q,f,z,h=>((decide (f<q))=true→∃ aa,m=some aa∧(0:Int)≤f∧f<((p:Nat):Int)∧∃ ab,m=some ab∧(0:Int)≤(IntKind.i64.wrap (f - 1))∧(IntKind.i64.wrap (f - 1))<((p:Nat):Int)∧∃ ac,hcell h (Addr.add aa (Int.toNat f * 1))=some (.int .u64 ac)∧∃ ad,hcell h (Addr.add ab (Int.toNat (IntKind.i64.wrap (f - 1)) * 1))=some (.int .u64 ad)∧CallsH P F.qdm [.int .u64 ac,.int .u64 ad] (fun af ag=>∃ ae,af=.bool ae∧qad.j8 K R1 (qad.L7 K R1 fuel) m p w y q f z (!ae) ag) h)∧((decide (f<q))=false→qad.j8 K R1 (qad.L7 K R1 fuel) m p w y q f z false h)
termination_by structural n=>n
def qad.L7.l:Live:=[(0,.slice),(1,.int .i64),(2,.int .i64),(7,.int .i64),(8,.int .i64)]
def qad.L7.j (K:KT) (R1:OA→Nat→Nat→Int→Int→Int→Int→Heap→Prop):Nat→Tup qad.L7.l→Heap→Prop:=fun n x h=>qad.L7 K R1 n x.1.1 x.1.2.1 x.1.2.2 x.2.1 x.2.2.1 x.2.2.2.1 x.2.2.2.2.1 h
def qad.L1 (K:KT):Nat→OA→Nat→Nat→Int→Int→Int→Int→Heap→Prop
  | 0,_,_,_,_,_,_,_,_=>False
  | fuel+1,m,p,q,w,y,z,f,h=>((decide (f<5))=true→∃ fuel55,qad.L7 K (qad.L1 K fuel) fuel55 m p q w y z f h)∧((decide (f<5))=false→K (.bool false) h)
termination_by structural n=>n
def qad.L1.l:Live:=[(0,.slice),(1,.int .i64),(2,.int .i64),(7,.int .i64),(8,.int .i64)]
def qad.L1.j (K:KT):Nat→Tup qad.L1.l→Heap→Prop:=fun n x h=>qad.L1 K n x.1.1 x.1.2.1 x.1.2.2 x.2.1 x.2.2.1 x.2.2.2.1 x.2.2.2.2.1 h
def qad.p0 (K:KT) (m:OA) (p:Nat) (q:Nat) (f:Int) (w:Int) (h:Heap):Prop :=
  bd ((IntKind.i64.wrap (f+1)):Int) fun y=>∃ fuel56,qad.L1 K fuel56 m p q f w y 0 h
def qad.plan (K:KT):Plan:=(.seq .go (.seq .go (.seq (.seq .go (.block (.loop qad.L1.l (qad.L1.j K) (fun n1=>(.seq .go (.cut qad.j2.l (qad.j2.j K (qad.L1 K n1)) (.block (.cut qad.j3.l (qad.j3.j K (qad.L1 K n1)) (.block (.loop qad.L7.l (qad.L7.j K (qad.L1 K n1)) (fun n7=>(.seq (.cut qad.j8.l (qad.j8.j K (qad.L1 K n1) (qad.L7 K (qad.L1 K n1) n7)) (.orders (.op 0 (.op 1 (.op 2 (.op 3 (.op 4 (.op 5 (.op 6 (.op 8 (.op 9 (.op 10 (.op 11 (.op 7 (.op 12 (.op 13 (.op 14 (.op 15 .nil))))))))))))))))) .go) .go)))) (.seq .go (.seq .go (.seq (.orders (.op 0 (.op 1 (.op 2 (.op 3 (.op 4 (.op 5 (.op 6 (.op 7 (.op 8 (.op 10 (.op 11 (.op 12 (.op 9 (.op 13 (.op 14 (.op 15 (.op 16 (.op 17 .nil))))))))))))))))))) (.cut qad.j4.l (qad.j4.j K (qad.L1 K n1)) (.seq .go (.cond (.seq .go (.block (.loop qad.L6.l (qad.L6.j K (qad.L1 K n1)) (fun n6=>(.seq .go (.seq (.block (.seq (.seq (.orders (.op 0 (.op 1 (.op 2 (.op 4 (.op 5 (.op 6 (.op 7 (.op 3 (.op 8 (.op 9 (.op 10 .nil)))))))))))) .go) (.orders (.op 0 (.op 1 (.op 2 (.op 3 (.op 4 (.op 5 (.op 6 (.op 7 (.op 8 (.op 10 (.op 11 (.op 12 (.op 9 (.op 13 (.op 14 (.op 15 (.op 16 (.op 17 .nil))))))))))))))))))))) .go)))))) .go)) (.seq .go (.cond (.seq .go (.block (.loop qad.L5.l (qad.L5.j K (qad.L1 K n1)) (fun n5=>(.seq .go (.seq (.block (.seq (.seq (.orders (.op 0 (.op 1 (.op 2 (.op 4 (.op 5 (.op 6 (.op 7 (.op 3 (.op 8 (.op 9 (.op 10 .nil)))))))))))) .go) (.orders (.op 0 (.op 1 (.op 2 (.op 3 (.op 4 (.op 5 (.op 6 (.op 7 (.op 8 (.op 10 (.op 11 (.op 12 (.op 9 (.op 13 (.op 14 (.op 15 (.op 16 (.op 17 .nil))))))))))))))))))))) .go)))))) .go)))))))) .go)))))) .go)))
theorem qad.ev_eq:qad.p0=fun K f m p q w h=>Ev P Tryz.f269 (qad.plan K) K [.slice f m p,.int .i64 q,.int .i64 w] h:=by kernel_rfl
theorem qad.obl (K:KT):Obl P Tryz.f269 (qad.plan K) K :=
  obl_of (R:=(∀ x h,¬ (qad.L1.j K) 0 x h)∧ImpN (qad.L1.j K)∧(∀ (n1:Nat),(∀ x h,¬ (qad.L7.j K (qad.L1 K n1)) 0 x h)∧ImpN (qad.L7.j K (qad.L1 K n1))∧(∀ (n7:Nat),DrawOK P Tryz.f269.ntmps (opsAt 5 (bodyOf Tryz.f269)) (.op 0 (.op 1 (.op 2 (.op 3 (.op 4 (.op 5 (.op 6 (.op 8 (.op 9 (.op 10 (.op 11 (.op 7 (.op 12 (.op 13 (.op 14 (.op 15 .nil))))))))))))))))∧Imp (qad.j8.j K (qad.L1 K n1) (qad.L7 K (qad.L1 K n1) n7))∧True)∧Imp (qad.j3.j K (qad.L1 K n1))∧DrawOK P Tryz.f269.ntmps (opsAt 11 (bodyOf Tryz.f269)) (.op 0 (.op 1 (.op 2 (.op 3 (.op 4 (.op 5 (.op 6 (.op 7 (.op 8 (.op 10 (.op 11 (.op 12 (.op 9 (.op 13 (.op 14 (.op 15 (.op 16 (.op 17 .nil))))))))))))))))))∧(∀ x h,¬ (qad.L6.j K (qad.L1 K n1)) 0 x h)∧ImpN (qad.L6.j K (qad.L1 K n1))∧(∀ (n6:Nat),DrawOK P Tryz.f269.ntmps (opsAt 16 (bodyOf Tryz.f269)) (.op 0 (.op 1 (.op 2 (.op 4 (.op 5 (.op 6 (.op 7 (.op 3 (.op 8 (.op 9 (.op 10 .nil)))))))))))∧DrawOK P Tryz.f269.ntmps (opsAt 17 (bodyOf Tryz.f269)) (.op 0 (.op 1 (.op 2 (.op 3 (.op 4 (.op 5 (.op 6 (.op 7 (.op 8 (.op 10 (.op 11 (.op 12 (.op 9 (.op 13 (.op 14 (.op 15 (.op 16 (.op 17 .nil))))))))))))))))))∧True)∧Imp (qad.j4.j K (qad.L1 K n1))∧(∀ x h,¬ (qad.L5.j K (qad.L1 K n1)) 0 x h)∧ImpN (qad.L5.j K (qad.L1 K n1))∧(∀ (n5:Nat),DrawOK P Tryz.f269.ntmps (opsAt 22 (bodyOf Tryz.f269)) (.op 0 (.op 1 (.op 2 (.op 4 (.op 5 (.op 6 (.op 7 (.op 3 (.op 8 (.op 9 (.op 10 .nil)))))))))))∧DrawOK P Tryz.f269.ntmps (opsAt 23 (bodyOf Tryz.f269)) (.op 0 (.op 1 (.op 2 (.op 3 (.op 4 (.op 5 (.op 6 (.op 7 (.op 8 (.op 10 (.op 11 (.op 12 (.op 9 (.op 13 (.op 14 (.op 15 (.op 16 (.op 17 .nil))))))))))))))))))∧True)∧Imp (qad.j2.j K (qad.L1 K n1))∧True)∧True) (by kernel_rfl) ⟨fun _ _ H=>H,impN _,fun _=>⟨fun _ _ H=>H,impN _,fun _=>⟨draw_ok (by kernel_rfl),⟨imp _,trivial⟩⟩,⟨imp _,⟨draw_ok (by kernel_rfl),⟨fun _ _ H=>H,impN _,fun _=>⟨draw_ok (by kernel_rfl),⟨draw_ok (by kernel_rfl),trivial⟩⟩,⟨imp _,⟨fun _ _ H=>H,impN _,fun _=>⟨draw_ok (by kernel_rfl),⟨draw_ok (by kernel_rfl),trivial⟩⟩,⟨imp _,trivial⟩⟩⟩⟩⟩⟩⟩,trivial⟩
theorem qad.ok {K:KT}{f:OA}{m:Nat}{p:Nat}{q:Int}{w:Int}{h:Heap} (H:qad.p0 K f m p q w h):CallsH P F.qad [.slice f m p,.int .i64 q,.int .i64 w] K h :=
  calls_of_Ev (qad.plan K) Tryz.func269 (by kernel_rfl) (qad.obl K) (by rw [qad.ev_eq] at H; exact H)
def qae.j3 (K:KT) (R1:OA→Nat→Nat→Int→Int→Int→Heap→Prop) (p:OA) (q:Nat) (af:Nat) (ag:Int) (f:Int) (m:Int) (h:Heap):Prop :=
  ((decide (f > m))=true→K (.int .i64 f) h)∧((decide (f > m))=false→∃ w,p=some w∧(0:Int)≤m∧m<((q:Nat):Int)∧∃ y,p=some y∧(0:Int)≤f∧f<((q:Nat):Int)∧∃ z,hcell h (Addr.add w (Int.toNat m * 1))=some (.int .u64 z)∧∃ aa,hcell h (Addr.add y (Int.toNat f * 1))=some (.int .u64 aa)∧∃ ab,p=some ab∧(0:Int)≤f∧f<((q:Nat):Int)∧∃ ac,stC h (Addr.add ab (Int.toNat f * 1)) 0 [.int .u64 z]=some ac∧∃ ad,p=some ad∧(0:Int)≤m∧m<((q:Nat):Int)∧∃ ae,stC ac (Addr.add ad (Int.toNat m * 1)) 0 [.int .u64 aa]=some ae∧bd ((IntKind.i64.wrap (f+1)):Int) fun ah=>bd ((IntKind.i64.wrap (m - 1)):Int) fun ai=>R1 p q af ag ah ai ae)
def qae.j3.l:Live:=[(0,.slice),(1,.int .i64),(9,.int .i64),(10,.int .i64)]
def qae.j3.j (K:KT) (R1:OA→Nat→Nat→Int→Int→Int→Heap→Prop):Tup qae.j3.l→Heap→Prop:=fun x h=>qae.j3 K R1 x.1.1 x.1.2.1 x.1.2.2 x.2.1 x.2.2.1 x.2.2.2.1 h
def qae.j5 (K:KT) (R1:OA→Nat→Nat→Int→Int→Int→Heap→Prop) (R4:OA→Nat→Nat→Int→Int→Int→Heap→Prop) (f:OA) (m:Nat) (p:Nat) (q:Int) (w:Int) (y:Int) (z:Bool) (h:Heap):Prop :=
  (z=true→bd ((IntKind.i64.wrap (y - 1)):Int) fun aa=>R4 f m p q w aa h)∧(z=false→qae.j3 K R1 f m p q w y h)
def qae.j5.l:Live:=[(0,.slice),(1,.int .i64),(9,.int .i64),(10,.int .i64),(59,.bool)]
def qae.j5.j (K:KT) (R1:OA→Nat→Nat→Int→Int→Int→Heap→Prop) (R4:OA→Nat→Nat→Int→Int→Int→Heap→Prop):Tup qae.j5.l→Heap→Prop:=fun x h=>qae.j5 K R1 R4 x.1.1 x.1.2.1 x.1.2.2 x.2.1 x.2.2.1 x.2.2.2.1 x.2.2.2.2.1 h
def qae.L4 (K:KT) (R1:OA→Nat→Nat→Int→Int→Int→Heap→Prop):Nat→OA→Nat→Nat→Int→Int→Int→Heap→Prop
  | 0,_,_,_,_,_,_,_=>False
  | fuel+1,p,q,y,m,w,f,h=>((decide (w≤f))=true→∃ z,p=some z∧(0:Int)≤m∧m<((q:Nat):Int)∧∃ aa,p=some aa∧(0:Int)≤f∧f<((q:Nat):Int)∧∃ ab,hcell h (Addr.add z (Int.toNat m * 1))=some (.int .u64 ab)∧∃ ac,hcell h (Addr.add aa (Int.toNat f * 1))=some (.int .u64 ac)∧CallsH P F.qdm [.int .u64 ab,.int .u64 ac] (fun ae af=>∃ ad,ae=.bool ad∧qae.j5 K R1 (qae.L4 K R1 fuel) p q y m w f ad af) h)∧((decide (w≤f))=false→qae.j5 K R1 (qae.L4 K R1 fuel) p q y m w f false h)
termination_by structural n=>n
def qae.L4.l:Live:=[(0,.slice),(1,.int .i64),(9,.int .i64),(10,.int .i64)]
def qae.L4.j (K:KT) (R1:OA→Nat→Nat→Int→Int→Int→Heap→Prop):Nat→Tup qae.L4.l→Heap→Prop:=fun n x h=>qae.L4 K R1 n x.1.1 x.1.2.1 x.1.2.2 x.2.1 x.2.2.1 x.2.2.2.1 h
def qae.j2 (K:KT) (R1:OA→Nat→Nat→Int→Int→Int→Heap→Prop) (f:OA) (m:Nat) (p:Nat) (q:Int) (w:Int) (y:Int) (h:Heap):Prop :=
  ∃ fuel29,qae.L4 K R1 fuel29 f m p q w y h
def qae.j2.l:Live:=[(0,.slice),(1,.int .i64),(9,.int .i64),(10,.int .i64)]
def qae.j2.j (K:KT) (R1:OA→Nat→Nat→Int→Int→Int→Heap→Prop):Tup qae.j2.l→Heap→Prop:=fun x h=>qae.j2 K R1 x.1.1 x.1.2.1 x.1.2.2 x.2.1 x.2.2.1 x.2.2.2.1 h
def qae.j7 (K:KT) (R1:OA→Nat→Nat→Int→Int→Int→Heap→Prop) (R6:OA→Nat→Nat→Int→Int→Int→Heap→Prop) (f:OA) (m:Nat) (p:Nat) (q:Int) (w:Int) (y:Int) (z:Bool) (h:Heap):Prop :=
  (z=true→bd ((IntKind.i64.wrap (w+1)):Int) fun aa=>R6 f m p q aa y h)∧(z=false→qae.j2 K R1 f m p q w y h)
def qae.j7.l:Live:=[(0,.slice),(1,.int .i64),(9,.int .i64),(10,.int .i64),(43,.bool)]
def qae.j7.j (K:KT) (R1:OA→Nat→Nat→Int→Int→Int→Heap→Prop) (R6:OA→Nat→Nat→Int→Int→Int→Heap→Prop):Tup qae.j7.l→Heap→Prop:=fun x h=>qae.j7 K R1 R6 x.1.1 x.1.2.1 x.1.2.2 x.2.1 x.2.2.1 x.2.2.2.1 x.2.2.2.2.1 h
def qae.L6 (K:KT) (R1:OA→Nat→Nat→Int→Int→Int→Heap→Prop):Nat→OA→Nat→Nat→Int→Int→Int→Heap→Prop
  | 0,_,_,_,_,_,_,_=>False
  | fuel+1,p,q,y,m,f,w,h=>((decide (f≤w))=true→∃ z,p=some z∧(0:Int)≤m∧m<((q:Nat):Int)∧∃ aa,p=some aa∧(0:Int)≤f∧f<((q:Nat):Int)∧∃ ab,hcell h (Addr.add z (Int.toNat m * 1))=some (.int .u64 ab)∧∃ ac,hcell h (Addr.add aa (Int.toNat f * 1))=some (.int .u64 ac)∧CallsH P F.qdm [.int .u64 ab,.int .u64 ac] (fun ae af=>∃ ad,ae=.bool ad∧qae.j7 K R1 (qae.L6 K R1 fuel) p q y m f w (!ad) af) h)∧((decide (f≤w))=false→qae.j7 K R1 (qae.L6 K R1 fuel) p q y m f w false h)
termination_by structural n=>n
def qae.L6.l:Live:=[(0,.slice),(1,.int .i64),(9,.int .i64),(10,.int .i64)]
def qae.L6.j (K:KT) (R1:OA→Nat→Nat→Int→Int→Int→Heap→Prop):Nat→Tup qae.L6.l→Heap→Prop:=fun n x h=>qae.L6 K R1 n x.1.1 x.1.2.1 x.1.2.2 x.2.1 x.2.2.1 x.2.2.2.1 h
def qae.L1 (K:KT):Nat→OA→Nat→Nat→Int→Int→Int→Heap→Prop
  | 0,_,_,_,_,_,_,_=>False
  | fuel+1,f,m,p,q,w,y,h=>∃ fuel38,qae.L6 K (qae.L1 K fuel) fuel38 f m p q w y h
termination_by structural n=>n
def qae.L1.l:Live:=[(0,.slice),(1,.int .i64),(9,.int .i64),(10,.int .i64)]
def qae.L1.j (K:KT):Nat→Tup qae.L1.l→Heap→Prop:=fun n x h=>qae.L1 K n x.1.1 x.1.2.1 x.1.2.2 x.2.1 x.2.2.1 x.2.2.2.1 h
def qae.p0 (K:KT) (p:OA) (q:Nat) (w:Nat) (f:Int) (y:Int) (m:Int) (h:Heap):Prop :=
  ∃ p1,p=some p1∧(0:Int)≤m∧m<((q:Nat):Int)∧∃ p2,p=some p2∧(0:Int)≤f∧f<((q:Nat):Int)∧∃ n3,hcell h (Addr.add p1 (Int.toNat m * 1))=some (.int .u64 n3)∧∃ n4,hcell h (Addr.add p2 (Int.toNat f * 1))=some (.int .u64 n4)∧∃ p5,p=some p5∧(0:Int)≤f∧f<((q:Nat):Int)∧∃ h6,stC h (Addr.add p5 (Int.toNat f * 1)) 0 [.int .u64 n3]=some h6∧∃ p7,p=some p7∧(0:Int)≤m∧m<((q:Nat):Int)∧∃ h8,stC h6 (Addr.add p7 (Int.toNat m * 1)) 0 [.int .u64 n4]=some h8∧bd ((IntKind.i64.wrap (f+1)):Int) fun z=>bd ((IntKind.i64.wrap (y - 1)):Int) fun aa=>∃ fuel39,qae.L1 K fuel39 p q w f z aa h8
def qae.plan (K:KT):Plan:=(.seq .go (.seq (.orders (.op 0 (.op 1 (.op 2 (.op 3 (.op 4 (.op 5 (.op 6 (.op 8 (.op 9 (.op 10 (.op 7 (.op 11 (.op 12 (.op 13 (.op 14 (.op 15 .nil))))))))))))))))) (.seq .go (.seq (.block (.loop qae.L1.l (qae.L1.j K) (fun n1=>(.block (.cut qae.j2.l (qae.j2.j K (qae.L1 K n1)) (.block (.loop qae.L6.l (qae.L6.j K (qae.L1 K n1)) (fun n6=>(.seq (.cut qae.j7.l (qae.j7.j K (qae.L1 K n1) (qae.L6 K (qae.L1 K n1) n6)) (.orders (.op 0 (.op 1 (.op 2 (.op 3 (.op 4 (.op 5 (.op 6 (.op 8 (.op 9 (.op 10 (.op 7 (.op 11 (.op 12 (.op 13 (.op 14 .nil)))))))))))))))) .go) .go)))) (.cut qae.j3.l (qae.j3.j K (qae.L1 K n1)) (.block (.loop qae.L4.l (qae.L4.j K (qae.L1 K n1)) (fun n4=>(.seq (.cut qae.j5.l (qae.j5.j K (qae.L1 K n1) (qae.L4 K (qae.L1 K n1) n4)) (.orders (.op 0 (.op 1 (.op 2 (.op 3 (.op 4 (.op 5 (.op 6 (.op 8 (.op 9 (.op 10 (.op 7 (.op 11 (.op 12 (.op 13 .nil))))))))))))))) .go) .go)))) (.seq .go (.seq (.orders (.op 0 (.op 1 (.op 2 (.op 3 (.op 4 (.op 5 (.op 6 (.op 8 (.op 9 (.op 10 (.op 7 (.op 11 (.op 12 (.op 13 (.op 14 (.op 15 .nil))))))))))))))))) .go)))))))) .go))))
theorem qae.ev_eq:qae.p0=fun K f m p q w y h=>Ev P Tryz.f271 (qae.plan K) K [.slice f m p,.int .i64 q,.int .i64 w,.int .i64 y] h:=by kernel_rfl
theorem qae.obl (K:KT):Obl P Tryz.f271 (qae.plan K) K :=
  obl_of (R:=DrawOK P Tryz.f271.ntmps (opsAt 1 (bodyOf Tryz.f271)) (.op 0 (.op 1 (.op 2 (.op 3 (.op 4 (.op 5 (.op 6 (.op 8 (.op 9 (.op 10 (.op 7 (.op 11 (.op 12 (.op 13 (.op 14 (.op 15 .nil))))))))))))))))∧(∀ x h,¬ (qae.L1.j K) 0 x h)∧ImpN (qae.L1.j K)∧(∀ (n1:Nat),(∀ x h,¬ (qae.L6.j K (qae.L1 K n1)) 0 x h)∧ImpN (qae.L6.j K (qae.L1 K n1))∧(∀ (n6:Nat),DrawOK P Tryz.f271.ntmps (opsAt 3 (bodyOf Tryz.f271)) (.op 0 (.op 1 (.op 2 (.op 3 (.op 4 (.op 5 (.op 6 (.op 8 (.op 9 (.op 10 (.op 7 (.op 11 (.op 12 (.op 13 (.op 14 .nil)))))))))))))))∧Imp (qae.j7.j K (qae.L1 K n1) (qae.L6 K (qae.L1 K n1) n6))∧True)∧Imp (qae.j2.j K (qae.L1 K n1))∧(∀ x h,¬ (qae.L4.j K (qae.L1 K n1)) 0 x h)∧ImpN (qae.L4.j K (qae.L1 K n1))∧(∀ (n4:Nat),DrawOK P Tryz.f271.ntmps (opsAt 5 (bodyOf Tryz.f271)) (.op 0 (.op 1 (.op 2 (.op 3 (.op 4 (.op 5 (.op 6 (.op 8 (.op 9 (.op 10 (.op 7 (.op 11 (.op 12 (.op 13 .nil))))))))))))))∧Imp (qae.j5.j K (qae.L1 K n1) (qae.L4 K (qae.L1 K n1) n4))∧True)∧Imp (qae.j3.j K (qae.L1 K n1))∧DrawOK P Tryz.f271.ntmps (opsAt 8 (bodyOf Tryz.f271)) (.op 0 (.op 1 (.op 2 (.op 3 (.op 4 (.op 5 (.op 6 (.op 8 (.op 9 (.op 10 (.op 7 (.op 11 (.op 12 (.op 13 (.op 14 (.op 15 .nil))))))))))))))))∧True)∧True) (by kernel_rfl) ⟨draw_ok (by kernel_rfl),⟨fun _ _ H=>H,impN _,fun _=>⟨fun _ _ H=>H,impN _,fun _=>⟨draw_ok (by kernel_rfl),⟨imp _,trivial⟩⟩,⟨imp _,⟨fun _ _ H=>H,impN _,fun _=>⟨draw_ok (by kernel_rfl),⟨imp _,trivial⟩⟩,⟨imp _,⟨draw_ok (by kernel_rfl),trivial⟩⟩⟩⟩⟩,trivial⟩⟩
theorem qae.ok {K:KT}{f:OA}{m:Nat}{p:Nat}{q:Int}{w:Int}{y:Int}{h:Heap} (H:qae.p0 K f m p q w y h):CallsH P F.qae [.slice f m p,.int .i64 q,.int .i64 w,.int .i64 y] K h :=
  calls_of_Ev (qae.plan K) Tryz.func271 (by kernel_rfl) (qae.obl K) (by rw [qae.ev_eq] at H; exact H)
def qab.j3 (K:KT) (p:OA) (q:Nat) (af:Nat) (m:Int) (f:Int) (h:Heap):Prop :=
  ∃ w,p=some w∧(0:Int)≤m∧m<((q:Nat):Int)∧∃ y,p=some y∧(0:Int)≤f∧f<((q:Nat):Int)∧∃ z,hcell h (Addr.add w (Int.toNat m * 1))=some (.int .u64 z)∧∃ aa,hcell h (Addr.add y (Int.toNat f * 1))=some (.int .u64 aa)∧∃ ab,p=some ab∧(0:Int)≤f∧f<((q:Nat):Int)∧∃ ac,stC h (Addr.add ab (Int.toNat f * 1)) 0 [.int .u64 z]=some ac∧∃ ad,p=some ad∧(0:Int)≤m∧m<((q:Nat):Int)∧∃ ae,stC ac (Addr.add ad (Int.toNat m * 1)) 0 [.int .u64 aa]=some ae∧K (.tuple #[.int .i64 f,.bool false]) ae
def qab.j3.l:Live:=[(0,.slice),(1,.int .i64),(11,.int .i64)]
def qab.j3.j (K:KT):Tup qab.j3.l→Heap→Prop:=fun x h=>qab.j3 K x.1.1 x.1.2.1 x.1.2.2 x.2.1 x.2.2.1 h
def qab.j6 (K:KT) (R4:OA→Nat→Nat→Int→Int→Int→Heap→Prop) (p:OA) (q:Nat) (w:Nat) (y:Int) (m:Int) (f:Int) (h:Heap):Prop :=
  ((decide (m > f))=true→qab.j3 K p q w y f h)∧((decide (m > f))=false→∃ p37,p=some p37∧(0:Int)≤f∧f<((q:Nat):Int)∧∃ z,p=some z∧(0:Int)≤m∧m<((q:Nat):Int)∧∃ n39,hcell h (Addr.add p37 (Int.toNat f * 1))=some (.int .u64 n39)∧∃ aa,hcell h (Addr.add z (Int.toNat m * 1))=some (.int .u64 aa)∧∃ ab,p=some ab∧(0:Int)≤m∧m<((q:Nat):Int)∧∃ ac,stC h (Addr.add ab (Int.toNat m * 1)) 0 [.int .u64 n39]=some ac∧∃ ad,p=some ad∧(0:Int)≤f∧f<((q:Nat):Int)∧∃ ae,stC ac (Addr.add ad (Int.toNat f * 1)) 0 [.int .u64 aa]=some ae∧bd ((IntKind.i64.wrap (m+1)):Int) fun af=>bd ((IntKind.i64.wrap (f - 1)):Int) fun ag=>R4 p q w y af ag ae)
def qab.j6.l:Live:=[(0,.slice),(1,.int .i64),(10,.int .i64),(11,.int .i64)]
def qab.j6.j (K:KT) (R4:OA→Nat→Nat→Int→Int→Int→Heap→Prop):Tup qab.j6.l→Heap→Prop:=fun x h=>qab.j6 K R4 x.1.1 x.1.2.1 x.1.2.2 x.2.1 x.2.2.1 x.2.2.2.1 h
def qab.j8 (K:KT) (R4:OA→Nat→Nat→Int→Int→Int→Heap→Prop) (R7:OA→Nat→Nat→Int→Int→Int→Heap→Prop) (f:OA) (m:Nat) (p:Nat) (q:Int) (w:Int) (y:Int) (z:Bool) (h:Heap):Prop :=
  (z=true→bd ((IntKind.i64.wrap (y - 1)):Int) fun aa=>R7 f m p q w aa h)∧(z=false→qab.j6 K R4 f m p q w y h)
def qab.j8.l:Live:=[(0,.slice),(1,.int .i64),(10,.int .i64),(11,.int .i64),(129,.bool)]
def qab.j8.j (K:KT) (R4:OA→Nat→Nat→Int→Int→Int→Heap→Prop) (R7:OA→Nat→Nat→Int→Int→Int→Heap→Prop):Tup qab.j8.l→Heap→Prop:=fun x h=>qab.j8 K R4 R7 x.1.1 x.1.2.1 x.1.2.2 x.2.1 x.2.2.1 x.2.2.2.1 x.2.2.2.2.1 h
def qab.L7 (K:KT) (R4:OA→Nat→Nat→Int→Int→Int→Heap→Prop):Nat→OA→Nat→Nat→Int→Int→Int→Heap→Prop
  | 0,_,_,_,_,_,_,_=>False
  | fuel+1,p,q,y,m,w,f,h=>((decide (w≤f))=true→∃ z,p=some z∧(0:Int)≤f∧f<((q:Nat):Int)∧∃ aa,p=some aa∧(0:Int)≤m∧m<((q:Nat):Int)∧∃ ab,hcell h (Addr.add z (Int.toNat f * 1))=some (.int .u64 ab)∧∃ ac,hcell h (Addr.add aa (Int.toNat m * 1))=some (.int .u64 ac)∧CallsH P F.qdm [.int .u64 ab,.int .u64 ac] (fun ae af=>∃ ad,ae=.bool ad∧qab.j8 K R4 (qab.L7 K R4 fuel) p q y m w f (!ad) af) h)∧((decide (w≤f))=false→qab.j8 K R4 (qab.L7 K R4 fuel) p q y m w f false h)
termination_by structural n=>n
def qab.L7.l:Live:=[(0,.slice),(1,.int .i64),(10,.int .i64),(11,.int .i64)]
def qab.L7.j (K:KT) (R4:OA→Nat→Nat→Int→Int→Int→Heap→Prop):Nat→Tup qab.L7.l→Heap→Prop:=fun n x h=>qab.L7 K R4 n x.1.1 x.1.2.1 x.1.2.2 x.2.1 x.2.2.1 x.2.2.2.1 h
def qab.j5 (K:KT) (R4:OA→Nat→Nat→Int→Int→Int→Heap→Prop) (f:OA) (m:Nat) (p:Nat) (q:Int) (w:Int) (y:Int) (h:Heap):Prop :=
  ∃ fuel55,qab.L7 K R4 fuel55 f m p q w y h
def qab.j5.l:Live:=[(0,.slice),(1,.int .i64),(10,.int .i64),(11,.int .i64)]
def qab.j5.j (K:KT) (R4:OA→Nat→Nat→Int→Int→Int→Heap→Prop):Tup qab.j5.l→Heap→Prop:=fun x h=>qab.j5 K R4 x.1.1 x.1.2.1 x.1.2.2 x.2.1 x.2.2.1 x.2.2.2.1 h
def qab.j10 (K:KT) (R4:OA→Nat→Nat→Int→Int→Int→Heap→Prop) (R9:OA→Nat→Nat→Int→Int→Int→Heap→Prop) (f:OA) (m:Nat) (p:Nat) (q:Int) (w:Int) (y:Int) (z:Bool) (h:Heap):Prop :=
  (z=true→bd ((IntKind.i64.wrap (w+1)):Int) fun aa=>R9 f m p q aa y h)∧(z=false→qab.j5 K R4 f m p q w y h)
def qab.j10.l:Live:=[(0,.slice),(1,.int .i64),(10,.int .i64),(11,.int .i64),(112,.bool)]
def qab.j10.j (K:KT) (R4:OA→Nat→Nat→Int→Int→Int→Heap→Prop) (R9:OA→Nat→Nat→Int→Int→Int→Heap→Prop):Tup qab.j10.l→Heap→Prop:=fun x h=>qab.j10 K R4 R9 x.1.1 x.1.2.1 x.1.2.2 x.2.1 x.2.2.1 x.2.2.2.1 x.2.2.2.2.1 h
def qab.L9 (K:KT) (R4:OA→Nat→Nat→Int→Int→Int→Heap→Prop):Nat→OA→Nat→Nat→Int→Int→Int→Heap→Prop
  | 0,_,_,_,_,_,_,_=>False
  | fuel+1,p,q,y,m,f,w,h=>((decide (f≤w))=true→∃ z,p=some z∧(0:Int)≤f∧f<((q:Nat):Int)∧∃ aa,p=some aa∧(0:Int)≤m∧m<((q:Nat):Int)∧∃ ab,hcell h (Addr.add z (Int.toNat f * 1))=some (.int .u64 ab)∧∃ ac,hcell h (Addr.add aa (Int.toNat m * 1))=some (.int .u64 ac)∧CallsH P F.qdm [.int .u64 ab,.int .u64 ac] (fun ae af=>∃ ad,ae=.bool ad∧qab.j10 K R4 (qab.L9 K R4 fuel) p q y m f w ad af) h)∧((decide (f≤w))=false→qab.j10 K R4 (qab.L9 K R4 fuel) p q y m f w false h)
termination_by structural n=>n
def qab.L9.l:Live:=[(0,.slice),(1,.int .i64),(10,.int .i64),(11,.int .i64)]
def qab.L9.j (K:KT) (R4:OA→Nat→Nat→Int→Int→Int→Heap→Prop):Nat→Tup qab.L9.l→Heap→Prop:=fun n x h=>qab.L9 K R4 n x.1.1 x.1.2.1 x.1.2.2 x.2.1 x.2.2.1 x.2.2.2.1 h
def qab.L4 (K:KT):Nat→OA→Nat→Nat→Int→Int→Int→Heap→Prop
  | 0,_,_,_,_,_,_,_=>False
  | fuel+1,f,m,p,q,w,y,h=>∃ fuel64,qab.L9 K (qab.L4 K fuel) fuel64 f m p q w y h
termination_by structural n=>n
def qab.L4.l:Live:=[(0,.slice),(1,.int .i64),(10,.int .i64),(11,.int .i64)]
def qab.L4.j (K:KT):Nat→Tup qab.L4.l→Heap→Prop:=fun n x h=>qab.L4 K n x.1.1 x.1.2.1 x.1.2.2 x.2.1 x.2.2.1 x.2.2.2.1 h
def qab.j2 (K:KT) (m:OA) (p:Nat) (aq:Nat) (w:Int) (q:Int) (f:Int) (h:Heap):Prop :=
  ((decide (q > f))=true→∃ y,m=some y∧(0:Int)≤w∧w<((p:Nat):Int)∧∃ z,m=some z∧(0:Int)≤f∧f<((p:Nat):Int)∧∃ aa,hcell h (Addr.add y (Int.toNat w * 1))=some (.int .u64 aa)∧∃ ab,hcell h (Addr.add z (Int.toNat f * 1))=some (.int .u64 ab)∧∃ ac,m=some ac∧(0:Int)≤f∧f<((p:Nat):Int)∧∃ ad,stC h (Addr.add ac (Int.toNat f * 1)) 0 [.int .u64 aa]=some ad∧∃ ae,m=some ae∧(0:Int)≤w∧w<((p:Nat):Int)∧∃ af,stC ad (Addr.add ae (Int.toNat w * 1)) 0 [.int .u64 ab]=some af∧K (.tuple #[.int .i64 f,.bool true]) af)∧((decide (q > f))=false→∃ ag,m=some ag∧(0:Int)≤f∧f<((p:Nat):Int)∧∃ ah,m=some ah∧(0:Int)≤q∧q<((p:Nat):Int)∧∃ ai,hcell h (Addr.add ag (Int.toNat f * 1))=some (.int .u64 ai)∧∃ aj,hcell h (Addr.add ah (Int.toNat q * 1))=some (.int .u64 aj)∧∃ ak,m=some ak∧(0:Int)≤q∧q<((p:Nat):Int)∧∃ am,stC h (Addr.add ak (Int.toNat q * 1)) 0 [.int .u64 ai]=some am∧∃ an,m=some an∧(0:Int)≤f∧f<((p:Nat):Int)∧∃ ao,stC am (Addr.add an (Int.toNat f * 1)) 0 [.int .u64 aj]=some ao∧bd ((IntKind.i64.wrap (q+1)):Int) fun ar=>bd ((IntKind.i64.wrap (f - 1)):Int) fun au=>∃ fuel65,qab.L4 K fuel65 m p aq w ar au ao)
def qab.j2.l:Live:=[(0,.slice),(1,.int .i64),(10,.int .i64),(11,.int .i64)]
def qab.j2.j (K:KT):Tup qab.j2.l→Heap→Prop:=fun x h=>qab.j2 K x.1.1 x.1.2.1 x.1.2.2 x.2.1 x.2.2.1 x.2.2.2.1 h
def qab.j12 (K:KT) (R11:OA→Nat→Nat→Int→Int→Int→Heap→Prop) (f:OA) (m:Nat) (p:Nat) (q:Int) (w:Int) (y:Int) (z:Bool) (h:Heap):Prop :=
  (z=true→bd ((IntKind.i64.wrap (y - 1)):Int) fun aa=>R11 f m p q w aa h)∧(z=false→qab.j2 K f m p q w y h)
def qab.j12.l:Live:=[(0,.slice),(1,.int .i64),(10,.int .i64),(11,.int .i64),(60,.bool)]
def qab.j12.j (K:KT) (R11:OA→Nat→Nat→Int→Int→Int→Heap→Prop):Tup qab.j12.l→Heap→Prop:=fun x h=>qab.j12 K R11 x.1.1 x.1.2.1 x.1.2.2 x.2.1 x.2.2.1 x.2.2.2.1 x.2.2.2.2.1 h
def qab.L11 (K:KT):Nat→OA→Nat→Nat→Int→Int→Int→Heap→Prop
  | 0,_,_,_,_,_,_,_=>False
  | fuel+1,p,q,y,m,w,f,h=>((decide (w≤f))=true→∃ z,p=some z∧(0:Int)≤f∧f<((q:Nat):Int)∧∃ aa,p=some aa∧(0:Int)≤m∧m<((q:Nat):Int)∧∃ ab,hcell h (Addr.add z (Int.toNat f * 1))=some (.int .u64 ab)∧∃ ac,hcell h (Addr.add aa (Int.toNat m * 1))=some (.int .u64 ac)∧CallsH P F.qdm [.int .u64 ab,.int .u64 ac] (fun ae af=>∃ ad,ae=.bool ad∧qab.j12 K (qab.L11 K fuel) p q y m w f (!ad) af) h)∧((decide (w≤f))=false→qab.j12 K (qab.L11 K fuel) p q y m w f false h)
termination_by structural n=>n
def qab.L11.l:Live:=[(0,.slice),(1,.int .i64),(10,.int .i64),(11,.int .i64)]
def qab.L11.j (K:KT):Nat→Tup qab.L11.l→Heap→Prop:=fun n x h=>qab.L11 K n x.1.1 x.1.2.1 x.1.2.2 x.2.1 x.2.2.1 x.2.2.2.1 h
def qab.j1 (K:KT) (f:OA) (m:Nat) (p:Nat) (q:Int) (w:Int) (y:Int) (h:Heap):Prop :=
  ∃ fuel74,qab.L11 K fuel74 f m p q w y h
def qab.j1.l:Live:=[(0,.slice),(1,.int .i64),(10,.int .i64),(11,.int .i64)]
def qab.j1.j (K:KT):Tup qab.j1.l→Heap→Prop:=fun x h=>qab.j1 K x.1.1 x.1.2.1 x.1.2.2 x.2.1 x.2.2.1 x.2.2.2.1 h
def qab.j14 (K:KT) (R13:OA→Nat→Nat→Int→Int→Int→Heap→Prop) (f:OA) (m:Nat) (p:Nat) (q:Int) (w:Int) (y:Int) (z:Bool) (h:Heap):Prop :=
  (z=true→bd ((IntKind.i64.wrap (w+1)):Int) fun aa=>R13 f m p q aa y h)∧(z=false→qab.j1 K f m p q w y h)
def qab.j14.l:Live:=[(0,.slice),(1,.int .i64),(10,.int .i64),(11,.int .i64),(43,.bool)]
def qab.j14.j (K:KT) (R13:OA→Nat→Nat→Int→Int→Int→Heap→Prop):Tup qab.j14.l→Heap→Prop:=fun x h=>qab.j14 K R13 x.1.1 x.1.2.1 x.1.2.2 x.2.1 x.2.2.1 x.2.2.2.1 x.2.2.2.2.1 h
def qab.L13 (K:KT):Nat→OA→Nat→Nat→Int→Int→Int→Heap→Prop
  | 0,_,_,_,_,_,_,_=>False
  | fuel+1,p,q,y,m,f,w,h=>((decide (f≤w))=true→∃ z,p=some z∧(0:Int)≤f∧f<((q:Nat):Int)∧∃ aa,p=some aa∧(0:Int)≤m∧m<((q:Nat):Int)∧∃ ab,hcell h (Addr.add z (Int.toNat f * 1))=some (.int .u64 ab)∧∃ ac,hcell h (Addr.add aa (Int.toNat m * 1))=some (.int .u64 ac)∧CallsH P F.qdm [.int .u64 ab,.int .u64 ac] (fun ae af=>∃ ad,ae=.bool ad∧qab.j14 K (qab.L13 K fuel) p q y m f w ad af) h)∧((decide (f≤w))=false→qab.j14 K (qab.L13 K fuel) p q y m f w false h)
termination_by structural n=>n
def qab.L13.l:Live:=[(0,.slice),(1,.int .i64),(10,.int .i64),(11,.int .i64)]
def qab.L13.j (K:KT):Nat→Tup qab.L13.l→Heap→Prop:=fun n x h=>qab.L13 K n x.1.1 x.1.2.1 x.1.2.2 x.2.1 x.2.2.1 x.2.2.2.1 h
def qab.p0 (K:KT) (p:OA) (q:Nat) (w:Nat) (f:Int) (y:Int) (m:Int) (h:Heap):Prop :=
  ∃ p1,p=some p1∧(0:Int)≤m∧m<((q:Nat):Int)∧∃ p2,p=some p2∧(0:Int)≤f∧f<((q:Nat):Int)∧∃ n3,hcell h (Addr.add p1 (Int.toNat m * 1))=some (.int .u64 n3)∧∃ n4,hcell h (Addr.add p2 (Int.toNat f * 1))=some (.int .u64 n4)∧∃ p5,p=some p5∧(0:Int)≤f∧f<((q:Nat):Int)∧∃ h6,stC h (Addr.add p5 (Int.toNat f * 1)) 0 [.int .u64 n3]=some h6∧∃ p7,p=some p7∧(0:Int)≤m∧m<((q:Nat):Int)∧∃ h8,stC h6 (Addr.add p7 (Int.toNat m * 1)) 0 [.int .u64 n4]=some h8∧bd ((IntKind.i64.wrap (f+1)):Int) fun z=>bd ((IntKind.i64.wrap (y - 1)):Int) fun aa=>∃ fuel83,qab.L13 K fuel83 p q w f z aa h8
def qab.plan (K:KT):Plan:=(.seq .go (.seq (.orders (.op 0 (.op 1 (.op 2 (.op 3 (.op 4 (.op 5 (.op 6 (.op 8 (.op 9 (.op 10 (.op 7 (.op 11 (.op 12 (.op 13 (.op 14 (.op 15 .nil))))))))))))))))) (.seq .go (.cut qab.j1.l (qab.j1.j K) (.block (.loop qab.L13.l (qab.L13.j K) (fun f=>(.seq (.cut qab.j14.l (qab.j14.j K (qab.L13 K f)) (.orders (.op 0 (.op 1 (.op 2 (.op 3 (.op 4 (.op 5 (.op 6 (.op 8 (.op 9 (.op 10 (.op 7 (.op 11 (.op 12 (.op 13 .nil))))))))))))))) .go) .go)))) (.cut qab.j2.l (qab.j2.j K) (.block (.loop qab.L11.l (qab.L11.j K) (fun m=>(.seq (.cut qab.j12.l (qab.j12.j K (qab.L11 K m)) (.orders (.op 0 (.op 1 (.op 2 (.op 3 (.op 4 (.op 5 (.op 6 (.op 8 (.op 9 (.op 10 (.op 7 (.op 11 (.op 12 (.op 13 (.op 14 .nil)))))))))))))))) .go) .go)))) (.seq (.seq .go (.cond (.seq (.orders (.op 0 (.op 1 (.op 2 (.op 3 (.op 4 (.op 5 (.op 6 (.op 8 (.op 9 (.op 10 (.op 7 (.op 11 (.op 12 (.op 13 (.op 14 (.op 15 .nil))))))))))))))))) .go) .go)) (.seq (.orders (.op 0 (.op 1 (.op 2 (.op 3 (.op 4 (.op 5 (.op 6 (.op 8 (.op 9 (.op 10 (.op 7 (.op 11 (.op 12 (.op 13 (.op 14 (.op 15 .nil))))))))))))))))) (.seq .go (.seq .go (.cut qab.j3.l (qab.j3.j K) (.block (.loop qab.L4.l (qab.L4.j K) (fun n4=>(.block (.cut qab.j5.l (qab.j5.j K (qab.L4 K n4)) (.block (.loop qab.L9.l (qab.L9.j K (qab.L4 K n4)) (fun n9=>(.seq (.cut qab.j10.l (qab.j10.j K (qab.L4 K n4) (qab.L9 K (qab.L4 K n4) n9)) (.orders (.op 0 (.op 1 (.op 2 (.op 3 (.op 4 (.op 5 (.op 6 (.op 8 (.op 9 (.op 10 (.op 7 (.op 11 (.op 12 (.op 13 .nil))))))))))))))) .go) .go)))) (.cut qab.j6.l (qab.j6.j K (qab.L4 K n4)) (.block (.loop qab.L7.l (qab.L7.j K (qab.L4 K n4)) (fun n7=>(.seq (.cut qab.j8.l (qab.j8.j K (qab.L4 K n4) (qab.L7 K (qab.L4 K n4) n7)) (.orders (.op 0 (.op 1 (.op 2 (.op 3 (.op 4 (.op 5 (.op 6 (.op 8 (.op 9 (.op 10 (.op 7 (.op 11 (.op 12 (.op 13 (.op 14 .nil)))))))))))))))) .go) .go)))) (.seq .go (.seq (.orders (.op 0 (.op 1 (.op 2 (.op 3 (.op 4 (.op 5 (.op 6 (.op 8 (.op 9 (.op 10 (.op 7 (.op 11 (.op 12 (.op 13 (.op 14 (.op 15 .nil))))))))))))))))) .go)))))))) (.seq (.orders (.op 0 (.op 1 (.op 2 (.op 3 (.op 4 (.op 5 (.op 6 (.op 8 (.op 9 (.op 10 (.op 7 (.op 11 (.op 12 (.op 13 (.op 14 (.op 15 .nil))))))))))))))))) .go)))))))))))
theorem qab.ev_eq:qab.p0=fun K f m p q w y h=>Ev P Tryz.f272 (qab.plan K) K [.slice f m p,.int .i64 q,.int .i64 w,.int .i64 y] h:=by kernel_rfl
theorem qab.obl (K:KT):Obl P Tryz.f272 (qab.plan K) K :=
  obl_of (R:=DrawOK P Tryz.f272.ntmps (opsAt 1 (bodyOf Tryz.f272)) (.op 0 (.op 1 (.op 2 (.op 3 (.op 4 (.op 5 (.op 6 (.op 8 (.op 9 (.op 10 (.op 7 (.op 11 (.op 12 (.op 13 (.op 14 (.op 15 .nil))))))))))))))))∧(∀ x h,¬ (qab.L13.j K) 0 x h)∧ImpN (qab.L13.j K)∧(∀ (f:Nat),DrawOK P Tryz.f272.ntmps (opsAt 3 (bodyOf Tryz.f272)) (.op 0 (.op 1 (.op 2 (.op 3 (.op 4 (.op 5 (.op 6 (.op 8 (.op 9 (.op 10 (.op 7 (.op 11 (.op 12 (.op 13 .nil))))))))))))))∧Imp (qab.j14.j K (qab.L13 K f))∧True)∧Imp (qab.j1.j K)∧(∀ x h,¬ (qab.L11.j K) 0 x h)∧ImpN (qab.L11.j K)∧(∀ (m:Nat),DrawOK P Tryz.f272.ntmps (opsAt 5 (bodyOf Tryz.f272)) (.op 0 (.op 1 (.op 2 (.op 3 (.op 4 (.op 5 (.op 6 (.op 8 (.op 9 (.op 10 (.op 7 (.op 11 (.op 12 (.op 13 (.op 14 .nil)))))))))))))))∧Imp (qab.j12.j K (qab.L11 K m))∧True)∧Imp (qab.j2.j K)∧DrawOK P Tryz.f272.ntmps (opsAt 8 (bodyOf Tryz.f272)) (.op 0 (.op 1 (.op 2 (.op 3 (.op 4 (.op 5 (.op 6 (.op 8 (.op 9 (.op 10 (.op 7 (.op 11 (.op 12 (.op 13 (.op 14 (.op 15 .nil))))))))))))))))∧DrawOK P Tryz.f272.ntmps (opsAt 10 (bodyOf Tryz.f272)) (.op 0 (.op 1 (.op 2 (.op 3 (.op 4 (.op 5 (.op 6 (.op 8 (.op 9 (.op 10 (.op 7 (.op 11 (.op 12 (.op 13 (.op 14 (.op 15 .nil))))))))))))))))∧(∀ x h,¬ (qab.L4.j K) 0 x h)∧ImpN (qab.L4.j K)∧(∀ (n4:Nat),(∀ x h,¬ (qab.L9.j K (qab.L4 K n4)) 0 x h)∧ImpN (qab.L9.j K (qab.L4 K n4))∧(∀ (n9:Nat),DrawOK P Tryz.f272.ntmps (opsAt 13 (bodyOf Tryz.f272)) (.op 0 (.op 1 (.op 2 (.op 3 (.op 4 (.op 5 (.op 6 (.op 8 (.op 9 (.op 10 (.op 7 (.op 11 (.op 12 (.op 13 .nil))))))))))))))∧Imp (qab.j10.j K (qab.L4 K n4) (qab.L9 K (qab.L4 K n4) n9))∧True)∧Imp (qab.j5.j K (qab.L4 K n4))∧(∀ x h,¬ (qab.L7.j K (qab.L4 K n4)) 0 x h)∧ImpN (qab.L7.j K (qab.L4 K n4))∧(∀ (n7:Nat),DrawOK P Tryz.f272.ntmps (opsAt 15 (bodyOf Tryz.f272)) (.op 0 (.op 1 (.op 2 (.op 3 (.op 4 (.op 5 (.op 6 (.op 8 (.op 9 (.op 10 (.op 7 (.op 11 (.op 12 (.op 13 (.op 14 .nil)))))))))))))))∧Imp (qab.j8.j K (qab.L4 K n4) (qab.L7 K (qab.L4 K n4) n7))∧True)∧Imp (qab.j6.j K (qab.L4 K n4))∧DrawOK P Tryz.f272.ntmps (opsAt 18 (bodyOf Tryz.f272)) (.op 0 (.op 1 (.op 2 (.op 3 (.op 4 (.op 5 (.op 6 (.op 8 (.op 9 (.op 10 (.op 7 (.op 11 (.op 12 (.op 13 (.op 14 (.op 15 .nil))))))))))))))))∧True)∧Imp (qab.j3.j K)∧DrawOK P Tryz.f272.ntmps (opsAt 21 (bodyOf Tryz.f272)) (.op 0 (.op 1 (.op 2 (.op 3 (.op 4 (.op 5 (.op 6 (.op 8 (.op 9 (.op 10 (.op 7 (.op 11 (.op 12 (.op 13 (.op 14 (.op 15 .nil))))))))))))))))∧True) (by kernel_rfl) ⟨draw_ok (by kernel_rfl),⟨fun _ _ H=>H,impN _,fun _=>⟨draw_ok (by kernel_rfl),⟨imp _,trivial⟩⟩,⟨imp _,⟨fun _ _ H=>H,impN _,fun _=>⟨draw_ok (by kernel_rfl),⟨imp _,trivial⟩⟩,⟨imp _,⟨draw_ok (by kernel_rfl),⟨draw_ok (by kernel_rfl),⟨fun _ _ H=>H,impN _,fun _=>⟨fun _ _ H=>H,impN _,fun _=>⟨draw_ok (by kernel_rfl),⟨imp _,trivial⟩⟩,⟨imp _,⟨fun _ _ H=>H,impN _,fun _=>⟨draw_ok (by kernel_rfl),⟨imp _,trivial⟩⟩,⟨imp _,⟨draw_ok (by kernel_rfl),trivial⟩⟩⟩⟩⟩,⟨imp _,⟨draw_ok (by kernel_rfl),trivial⟩⟩⟩⟩⟩⟩⟩⟩⟩⟩
theorem qab.ok {K:KT}{f:OA}{m:Nat}{p:Nat}{q:Int}{w:Int}{y:Int}{h:Heap} (H:qab.p0 K f m p q w y h):CallsH P F.qab [.slice f m p,.int .i64 q,.int .i64 w,.int .i64 y] K h :=
  calls_of_Ev (qab.plan K) Tryz.func272 (by kernel_rfl) (qab.obl K) (by rw [qab.ev_eq] at H; exact H)
def qaj.j5 (K:KT) (R1:OA→Nat→Nat→Int→Int→Int→Bool→Bool→Heap→Prop) (f:OA) (m:Nat) (p:Nat) (y:Int) (w:Int) (z:Int) (ai:Bool) (aj:Bool) (ak:Int) (ad:Int) (ae:Bool) (h:Heap):Prop :=
  (ae=true→CallsH P F.qae [.slice f m p,.int .i64 y,.int .i64 w,.int .i64 ad] (fun am an=>∃ af,am=.int .i64 af∧R1 f m p af w z ai aj an) h)∧(ae=false→CallsH P F.qab [.slice f m p,.int .i64 y,.int .i64 w,.int .i64 ad] (fun ao ag=>∃ q aa,ao=.tuple #[.int .i64 q,.bool aa]∧bd ((IntKind.i64.wrap (q - y)):Int) fun ab=>bd ((IntKind.i64.wrap (w - q)):Int) fun ac=>(8:Int)≠0∧bd ((IntKind.i64.wrap (Int.tdiv ak 8)):Int) fun ah=>((decide (ab<ac))=true→bd ((decide (ab ≥ ah)):Bool) fun aq=>CallsH P F.qaj [.slice f m p,.int .i64 y,.int .i64 q,.int .i64 z] (fun ar au=>ar=.tuple #[]∧bd ((IntKind.i64.wrap (q+1)):Int) fun av=>R1 f m p av w z aq aa au) ag)∧((decide (ab<ac))=false→bd ((decide (ac ≥ ah)):Bool) fun aw=>CallsH P F.qaj [.slice f m p,.int .i64 (IntKind.i64.wrap (q+1)),.int .i64 w,.int .i64 z] (fun ax ay=>ax=.tuple #[]∧R1 f m p y q z aw aa ay) ag)) h)
def qaj.j5.l:Live:=[(0,.slice),(1,.int .i64),(2,.int .i64),(3,.int .i64),(8,.bool),(9,.bool),(10,.int .i64),(11,.int .i64),(87,.bool)]
def qaj.j5.j (K:KT) (R1:OA→Nat→Nat→Int→Int→Int→Bool→Bool→Heap→Prop):Tup qaj.j5.l→Heap→Prop:=fun x h=>qaj.j5 K R1 x.1.1 x.1.2.1 x.1.2.2 x.2.1 x.2.2.1 x.2.2.2.1 x.2.2.2.2.1 x.2.2.2.2.2.1 x.2.2.2.2.2.2.1 x.2.2.2.2.2.2.2.1 x.2.2.2.2.2.2.2.2.1 h
def qaj.j4 (K:KT) (R1:OA→Nat→Nat→Int→Int→Int→Bool→Bool→Heap→Prop) (p:OA) (q:Nat) (w:Nat) (f:Int) (y:Int) (z:Int) (aa:Bool) (ab:Bool) (ac:Int) (m:Int) (h:Heap):Prop :=
  ((decide (f > 0))=true→∃ p27,p=some p27∧(0:Int)≤(IntKind.i64.wrap (f - 1))∧(IntKind.i64.wrap (f - 1))<((q:Nat):Int)∧∃ ad,p=some ad∧(0:Int)≤m∧m<((q:Nat):Int)∧∃ ae,hcell h (Addr.add p27 (Int.toNat (IntKind.i64.wrap (f - 1)) * 1))=some (.int .u64 ae)∧∃ af,hcell h (Addr.add ad (Int.toNat m * 1))=some (.int .u64 af)∧CallsH P F.qdm [.int .u64 ae,.int .u64 af] (fun ah ai=>∃ ag,ah=.bool ag∧qaj.j5 K R1 p q w f y z aa ab ac m (!ag) ai) h)∧((decide (f > 0))=false→qaj.j5 K R1 p q w f y z aa ab ac m false h)
def qaj.j4.l:Live:=[(0,.slice),(1,.int .i64),(2,.int .i64),(3,.int .i64),(8,.bool),(9,.bool),(10,.int .i64),(11,.int .i64)]
def qaj.j4.j (K:KT) (R1:OA→Nat→Nat→Int→Int→Int→Bool→Bool→Heap→Prop):Tup qaj.j4.l→Heap→Prop:=fun x h=>qaj.j4 K R1 x.1.1 x.1.2.1 x.1.2.2 x.2.1 x.2.2.1 x.2.2.2.1 x.2.2.2.2.1 x.2.2.2.2.2.1 x.2.2.2.2.2.2.1 x.2.2.2.2.2.2.2.1 h
def qaj.j6 (K:KT) (R1:OA→Nat→Nat→Int→Int→Int→Bool→Bool→Heap→Prop) (f:OA) (m:Nat) (p:Nat) (q:Int) (w:Int) (z:Int) (aa:Bool) (ab:Bool) (ac:Int) (ad:Int) (ae:Bool) (h:Heap):Prop :=
  (ae=true→CallsH P F.qad [.slice f m p,.int .i64 q,.int .i64 w] (fun ag af=>∃ y,ag=.bool y∧(y=true→K (.tuple #[]) af)∧(y=false→qaj.j4 K R1 f m p q w z aa ab ac ad af)) h)∧(ae=false→qaj.j4 K R1 f m p q w z aa ab ac ad h)
def qaj.j6.l:Live:=[(0,.slice),(1,.int .i64),(2,.int .i64),(3,.int .i64),(8,.bool),(9,.bool),(10,.int .i64),(11,.int .i64),(68,.bool)]
def qaj.j6.j (K:KT) (R1:OA→Nat→Nat→Int→Int→Int→Bool→Bool→Heap→Prop):Tup qaj.j6.l→Heap→Prop:=fun x h=>qaj.j6 K R1 x.1.1 x.1.2.1 x.1.2.2 x.2.1 x.2.2.1 x.2.2.2.1 x.2.2.2.2.1 x.2.2.2.2.2.1 x.2.2.2.2.2.2.1 x.2.2.2.2.2.2.2.1 x.2.2.2.2.2.2.2.2.1 h
def qaj.j3 (K:KT) (R1:OA→Nat→Nat→Int→Int→Int→Bool→Bool→Heap→Prop) (p:OA) (q:Nat) (w:Nat) (y:Int) (z:Int) (aa:Int) (f:Bool) (m:Bool) (ab:Int) (ac:Int) (ad:Int) (h:Heap):Prop :=
  (f=true→(m=true→qaj.j6 K R1 p q w y z aa f m ab ac (ad==1) h)∧(m=false→qaj.j6 K R1 p q w y z aa f m ab ac false h))∧(f=false→qaj.j6 K R1 p q w y z aa f m ab ac false h)
def qaj.j3.l:Live:=[(0,.slice),(1,.int .i64),(2,.int .i64),(3,.int .i64),(8,.bool),(9,.bool),(10,.int .i64),(11,.int .i64),(12,.int .i64)]
def qaj.j3.j (K:KT) (R1:OA→Nat→Nat→Int→Int→Int→Bool→Bool→Heap→Prop):Tup qaj.j3.l→Heap→Prop:=fun x h=>qaj.j3 K R1 x.1.1 x.1.2.1 x.1.2.2 x.2.1 x.2.2.1 x.2.2.2.1 x.2.2.2.2.1 x.2.2.2.2.2.1 x.2.2.2.2.2.2.1 x.2.2.2.2.2.2.2.1 x.2.2.2.2.2.2.2.2.1 h
def qaj.j2 (K:KT) (R1:OA→Nat→Nat→Int→Int→Int→Bool→Bool→Heap→Prop) (p:OA) (q:Nat) (w:Nat) (f:Int) (m:Int) (y:Int) (z:Bool) (aa:Bool) (ab:Int) (h:Heap):Prop :=
  CallsH P F.qbc [.slice p q w,.int .i64 f,.int .i64 m] (fun v6 h7=>∃ n8 n9,v6=.tuple #[.int .i64 n8,.int .i64 n9]∧((n9==2)=true→CallsH P F.qbk [.slice p q w,.int .i64 f,.int .i64 m] (fun ac ad=>ac=.tuple #[]∧bd ((IntKind.i64.wrap ((IntKind.i64.wrap (m - 1)) - (IntKind.i64.wrap (n8 - f)))):Int) fun ae=>qaj.j3 K R1 p q w f m y z aa ab ae 1 ad) h7)∧((n9==2)=false→qaj.j3 K R1 p q w f m y z aa ab n8 n9 h7)) h
def qaj.j2.l:Live:=[(0,.slice),(1,.int .i64),(2,.int .i64),(3,.int .i64),(8,.bool),(9,.bool),(10,.int .i64)]
def qaj.j2.j (K:KT) (R1:OA→Nat→Nat→Int→Int→Int→Bool→Bool→Heap→Prop):Tup qaj.j2.l→Heap→Prop:=fun x h=>qaj.j2 K R1 x.1.1 x.1.2.1 x.1.2.2 x.2.1 x.2.2.1 x.2.2.2.1 x.2.2.2.2.1 x.2.2.2.2.2.1 x.2.2.2.2.2.2.1 h
def qaj.L1 (K:KT):Nat→OA→Nat→Nat→Int→Int→Int→Bool→Bool→Heap→Prop
  | 0,_,_,_,_,_,_,_,_,_=>False
  | fuel+1,p,q,w,f,m,y,z,ab,h=>bd ((IntKind.i64.wrap (m - f)):Int) fun aa=>((decide (aa≤12))=true→CallsH P F.qao [.slice p q w,.int .i64 f,.int .i64 m] (fun v2 h3=>v2=.tuple #[]∧K (.tuple #[]) h3) h)∧((decide (aa≤12))=false→((y==0)=true→CallsH P F.qaz [.slice p q w,.int .i64 f,.int .i64 m] (fun v4 h5=>v4=.tuple #[]∧K (.tuple #[]) h5) h)∧((y==0)=false→((!z)=true→CallsH P F.qaw [.slice p q w,.int .i64 f,.int .i64 m] (fun ac ad=>ac=.tuple #[]∧bd ((IntKind.i64.wrap (y - 1)):Int) fun ae=>qaj.j2 K (qaj.L1 K fuel) p q w f m ae z ab aa ad) h)∧((!z)=false→qaj.j2 K (qaj.L1 K fuel) p q w f m y z ab aa h)))
termination_by structural n=>n
def qaj.L1.l:Live:=[(0,.slice),(1,.int .i64),(2,.int .i64),(3,.int .i64),(8,.bool),(9,.bool)]
def qaj.L1.j (K:KT):Nat→Tup qaj.L1.l→Heap→Prop:=fun n x h=>qaj.L1 K n x.1.1 x.1.2.1 x.1.2.2 x.2.1 x.2.2.1 x.2.2.2.1 x.2.2.2.2.1 x.2.2.2.2.2.1 h
def qaj.p0 (K:KT) (f:OA) (m:Nat) (p:Nat) (q:Int) (w:Int) (y:Int) (h:Heap):Prop :=
  ∃ fuel43,qaj.L1 K fuel43 f m p q w y true true h
def qaj.plan (K:KT):Plan:=(.seq .go (.seq .go (.block (.loop qaj.L1.l (qaj.L1.j K) (fun n1=>(.block (.seq .go (.seq .go (.seq .go (.cut qaj.j2.l (qaj.j2.j K (qaj.L1 K n1)) .go (.seq .go (.cut qaj.j3.l (qaj.j3.j K (qaj.L1 K n1)) .go (.cut qaj.j4.l (qaj.j4.j K (qaj.L1 K n1)) (.cut qaj.j6.l (qaj.j6.j K (qaj.L1 K n1)) .go .go) (.seq (.cut qaj.j5.l (qaj.j5.j K (qaj.L1 K n1)) (.orders (.op 0 (.op 1 (.op 2 (.op 3 (.op 4 (.op 5 (.op 6 (.op 8 (.op 9 (.op 10 (.op 7 (.op 11 (.op 12 (.op 13 (.op 14 .nil)))))))))))))))) .go) .go))))))))))))))
theorem qaj.ev_eq:qaj.p0=fun K f m p q w y h=>Ev P Tryz.f231 (qaj.plan K) K [.slice f m p,.int .i64 q,.int .i64 w,.int .i64 y] h:=by kernel_rfl
theorem qaj.obl (K:KT):Obl P Tryz.f231 (qaj.plan K) K :=
  obl_of (R:=(∀ x h,¬ (qaj.L1.j K) 0 x h)∧ImpN (qaj.L1.j K)∧(∀ (n1:Nat),Imp (qaj.j2.j K (qaj.L1 K n1))∧Imp (qaj.j3.j K (qaj.L1 K n1))∧Imp (qaj.j6.j K (qaj.L1 K n1))∧Imp (qaj.j4.j K (qaj.L1 K n1))∧DrawOK P Tryz.f231.ntmps (opsAt 17 (bodyOf Tryz.f231)) (.op 0 (.op 1 (.op 2 (.op 3 (.op 4 (.op 5 (.op 6 (.op 8 (.op 9 (.op 10 (.op 7 (.op 11 (.op 12 (.op 13 (.op 14 .nil)))))))))))))))∧Imp (qaj.j5.j K (qaj.L1 K n1))∧True)∧True) (by kernel_rfl) ⟨fun _ _ H=>H,impN _,fun _=>⟨imp _,⟨imp _,⟨imp _,⟨imp _,⟨draw_ok (by kernel_rfl),⟨imp _,trivial⟩⟩⟩⟩⟩⟩,trivial⟩
theorem qaj.ok {K:KT}{f:OA}{m:Nat}{p:Nat}{q:Int}{w:Int}{y:Int}{h:Heap} (H:qaj.p0 K f m p q w y h):CallsH P F.qaj [.slice f m p,.int .i64 q,.int .i64 w,.int .i64 y] K h :=
  calls_of_Ev (qaj.plan K) Tryz.func231 (by kernel_rfl) (qaj.obl K) (by rw [qaj.ev_eq] at H; exact H)
def qcn.p0 (K:KT) (t0:OA) (f:Nat) (p:Nat) (h:Heap):Prop :=
  bd (((f:Nat):Int):Int) fun m=>CallsH P F.math_bits_Len [.int .u64 (IntKind.u64.wrap m)] (fun v2 h3=>∃ n4,v2=.int .i64 n4∧CallsH P F.qaj [.slice t0 f p,.int .i64 0,.int .i64 m,.int .i64 n4] (fun v5 h6=>v5=.tuple #[]∧K (.tuple #[]) h6) h3) h
def qcn.plan (K:KT):Plan:=.go
theorem qcn.ev_eq:qcn.p0=fun K t0 f m h=>Ev P Tryz.f185 (qcn.plan K) K [.slice t0 f m] h:=by kernel_rfl
theorem qcn.obl (K:KT):Obl P Tryz.f185 (qcn.plan K) K :=
  obl_true (by kernel_rfl)
theorem qcn.ok {K:KT}{t0:OA}{f:Nat}{m:Nat}{h:Heap} (H:qcn.p0 K t0 f m h):CallsH P F.qcn [.slice t0 f m] K h :=
  calls_of_Ev (qcn.plan K) Tryz.func185 (by kernel_rfl) (qcn.obl K) (by rw [qcn.ev_eq] at H; exact H)
def qct.p0 (K:KT) (p:Value) (h:Heap):Prop :=
  CallsH P F.qcp [p] (fun v1 h2=>∃ a3 f m,v1=.slice a3 f m∧CallsH P F.qcn [.slice a3 f m] (fun v4 h5=>v4=.tuple #[]∧K (.slice a3 f m) h5) h2) h
def qct.plan (K:KT):Plan:=.go
theorem qct.ev_eq:qct.p0=fun K f h=>Ev P Tryz.f130 (qct.plan K) K [f] h:=by kernel_rfl
theorem qct.obl (K:KT):Obl P Tryz.f130 (qct.plan K) K :=
  obl_true (by kernel_rfl)
theorem qct.ok {K:KT}{f:Value}{h:Heap} (H:qct.p0 K f h):CallsH P F.qct [f] K h :=
  calls_of_Ev (qct.plan K) Tryz.func130 (by kernel_rfl) (qct.obl K) (by rw [qct.ev_eq] at H; exact H)
def qbn.L1 (K:KT):Nat→OA→Nat→Nat→Int→Int→Int→Heap→Prop
  | 0,_,_,_,_,_,_,_=>False
  | fuel+1,m,p,q,f,t7,t8,h=>((decide (t8<t7))=true→∃ p1,m=some p1∧(0:Int)≤t8∧t8<((p:Nat):Int)∧∃ n2,hcell h (Addr.add p1 (Int.toNat t8 * 1))=some (.int .u64 n2)∧((f==n2)=true→K (.int .i64 t8) h)∧((f==n2)=false→(qbn.L1 K fuel) m p q f t7 (IntKind.i64.wrap (t8+1)) h))∧((decide (t8<t7))=false→K (.int .i64 (-1)) h)
termination_by structural n=>n
def qbn.L1.l:Live:=[(0,.slice),(1,.int .u64),(7,.int .i64),(8,.int .i64)]
def qbn.L1.j (K:KT):Nat→Tup qbn.L1.l→Heap→Prop:=fun n x h=>qbn.L1 K n x.1.1 x.1.2.1 x.1.2.2 x.2.1 x.2.2.1 x.2.2.2.1 h
def qbn.p0 (K:KT) (m:OA) (f:Nat) (p:Nat) (q:Int) (h:Heap):Prop :=
  ∃ fuel3,qbn.L1 K fuel3 m f p q ((f:Nat):Int) 0 h
def qbn.plan (K:KT):Plan:=(.seq .go (.seq (.seq .go (.block (.loop qbn.L1.l (qbn.L1.j K) (fun n1=>.go)))) .go))
theorem qbn.ev_eq:qbn.p0=fun K f m p q h=>Ev P Tryz.f233 (qbn.plan K) K [.slice f m p,.int .u64 q] h:=by kernel_rfl
theorem qbn.obl (K:KT):Obl P Tryz.f233 (qbn.plan K) K :=
  obl_of (R:=(∀ x h,¬ (qbn.L1.j K) 0 x h)∧ImpN (qbn.L1.j K)∧(∀ (n1:Nat),True)∧True) (by kernel_rfl) ⟨fun _ _ H=>H,impN _,fun _=>trivial,trivial⟩
theorem qbn.ok {K:KT}{f:OA}{m:Nat}{p:Nat}{q:Int}{h:Heap} (H:qbn.p0 K f m p q h):CallsH P F.qbn [.slice f m p,.int .u64 q] K h :=
  calls_of_Ev (qbn.plan K) Tryz.func233 (by kernel_rfl) (qbn.obl K) (by rw [qbn.ev_eq] at H; exact H)
def qcc.p0 (K:KT) (f:OA) (m:Nat) (p:Nat) (q:Int) (h:Heap):Prop :=
  CallsH P F.qbn [.slice f m p,.int .u64 q] (fun v1 h2=>∃ n3,v1=.int .i64 n3∧bd ((decide (n3 ≥ 0)):Bool) fun b4=>K (.bool b4) h2) h
def qcc.plan (K:KT):Plan:=.go
theorem qcc.ev_eq:qcc.p0=fun K f m p q h=>Ev P Tryz.f189 (qcc.plan K) K [.slice f m p,.int .u64 q] h:=by kernel_rfl
theorem qcc.obl (K:KT):Obl P Tryz.f189 (qcc.plan K) K :=
  obl_true (by kernel_rfl)
theorem qcc.ok {K:KT}{f:OA}{m:Nat}{p:Nat}{q:Int}{h:Heap} (H:qcc.p0 K f m p q h):CallsH P F.qcc [.slice f m p,.int .u64 q] K h :=
  calls_of_Ev (qcc.plan K) Tryz.func189 (by kernel_rfl) (qcc.obl K) (by rw [qcc.ev_eq] at H; exact H)
end Go.Proofs.YtofpbcakppjgcaaGreatDoor.Pr
end
section
set_option linter.unusedVariables false
set_option maxRecDepth 100000
namespace Go.Proofs.YtofpbcakppjgcaaGreatDoor.Pr
open Go Go.Lift Go.Proofs
def qdi.p0 (K:KT) (t0:Int) (h:Heap):Prop :=
  bd ((t0 != t0):Bool) fun b1=>K (.bool b1) h
def qdi.plan (K:KT):Plan:=.go
theorem qdi.ev_eq:qdi.p0=fun K t0 h=>Ev P Tryz.f284 (qdi.plan K) K [.int .u64 t0] h:=by kernel_rfl
theorem qdi.obl (K:KT):Obl P Tryz.f284 (qdi.plan K) K :=
  obl_true (by kernel_rfl)
theorem qdi.ok {K:KT}{t0:Int}{h:Heap} (H:qdi.p0 K t0 h):CallsH P F.qdi [.int .u64 t0] K h :=
  calls_of_Ev (qdi.plan K) Tryz.func284 (by kernel_rfl) (qdi.obl K) (by rw [qdi.ev_eq] at H; exact H)
def qdm.p0 (K:KT) (t0:Int) (f:Int) (h:Heap):Prop :=
  CallsH P F.qdi [.int .u64 t0] (fun v1 h2=>∃ b3,v1=.bool b3∧(b3=true→CallsH P F.qdi [.int .u64 f] (fun v4 h5=>∃ b6,v4=.bool b6∧((!b6)=false→bd ((decide (t0<f)):Bool) fun b7=>K (.bool b7) h5)∧((!b6)=true→K (.bool true) h5)) h2)∧(b3=false→bd ((decide (t0<f)):Bool) fun b8=>K (.bool b8) h2)) h
def qdm.plan (K:KT):Plan:=.go
theorem qdm.ev_eq:qdm.p0=fun K t0 f h=>Ev P Tryz.f270 (qdm.plan K) K [.int .u64 t0,.int .u64 f] h:=by kernel_rfl
theorem qdm.obl (K:KT):Obl P Tryz.f270 (qdm.plan K) K :=
  obl_true (by kernel_rfl)
theorem qdm.ok {K:KT}{t0:Int}{f:Int}{h:Heap} (H:qdm.p0 K t0 f h):CallsH P F.qdm [.int .u64 t0,.int .u64 f] K h :=
  calls_of_Ev (qdm.plan K) Tryz.func270 (by kernel_rfl) (qdm.obl K) (by rw [qdm.ev_eq] at H; exact H)
end Go.Proofs.YtofpbcakppjgcaaGreatDoor.Pr
end
section
set_option linter.unusedVariables false
set_option maxRecDepth 100000
namespace Go.Proofs.YtofpbcakppjgcaaGreatDoor.Pr
open Go Go.Lift Go.Proofs
def qce.L1 (K:KT):Nat→OA→OA→Nat→Nat→OA→Nat→Nat→Int→Int→Heap→Prop
  | 0,_,_,_,_,_,_,_,_,_,_=>False
  | fuel+1,p,q,w,y,z,aa,aj,m,f,h=>((decide (f<m))=true→∃ p8,z=some p8∧(0:Int)≤f∧f<((aa:Nat):Int)∧∃ n9,hcell h (Addr.add p8 (Int.toNat f * 1))=some (.int .u64 n9)∧∃ ab,p=some ab∧∃ ac,hcell h (Addr.add ab 0)=some (.map ac)∧SemH P (Instr.lookup T.map_uint64_api_Entry (.map ac) (.int .u64 n9) false) (fun ak ad=>∃ ae,ak=.agg (List.toArray ae)∧∃ af,bldS P T.sl_api_Entry T.api_Entry 1 [(0,.agg (List.toArray ae))] af∧bd (al ad (List.toArray af) T.api_Entry) fun am=>SemH P (Builtin.append_ #[T.sl_api_Entry,T.sl_api_Entry] T.sl_api_Entry #[.slice q w y,.slice (some (top ad)) 1 1]) (fun an ao=>∃ ag ah ai,an=.slice ag ah ai∧(qce.L1 K fuel) p ag ah ai z aa aj m (IntKind.i64.wrap (f+1)) ao) am) h)∧((decide (f<m))=false→K (.slice q w y) h)
termination_by structural n=>n
def qce.L1.l:Live:=[(0,.ptr),(3,.slice),(11,.slice),(12,.int .i64),(13,.int .i64)]
def qce.L1.j (K:KT):Nat→Tup qce.L1.l→Heap→Prop:=fun n x h=>qce.L1 K n x.1 x.2.1.1 x.2.1.2.1 x.2.1.2.2 x.2.2.1.1 x.2.2.1.2.1 x.2.2.1.2.2 x.2.2.2.1 x.2.2.2.2.1 h
def qce.p0 (K:KT) (m:OA) (h:Heap):Prop :=
  ∃ p1,m=some p1∧∃ m2,hcell h (Addr.add p1 0)=some (.map m2)∧CallsH P F.qbp [.map m2] (fun v3 h4=>CallsH P F.qct [v3] (fun v5 h6=>∃ a7 f p,v5=.slice a7 f p∧∃ fuel20,qce.L1 K fuel20 m none 0 0 a7 f p ((f:Nat):Int) 0 h6) h4) h
def qce.plan (K:KT):Plan:=(.seq .go (.seq .go (.seq (.seq .go (.block (.loop qce.L1.l (qce.L1.j K) (fun n1=>.go)))) .go)))
theorem qce.ev_eq:qce.p0=fun K f h=>Ev P Tryz.f61 (qce.plan K) K [.pointer f] h:=by kernel_rfl
theorem qce.obl (K:KT):Obl P Tryz.f61 (qce.plan K) K :=
  obl_of (R:=(∀ x h,¬ (qce.L1.j K) 0 x h)∧ImpN (qce.L1.j K)∧(∀ (n1:Nat),True)∧True) (by kernel_rfl) ⟨fun _ _ H=>H,impN _,fun _=>trivial,trivial⟩
theorem qce.ok {K:KT}{f:OA}{h:Heap} (H:qce.p0 K f h):CallsH P F.qce [.pointer f] K h :=
  calls_of_Ev (qce.plan K) Tryz.func61 (by kernel_rfl) (qce.obl K) (by rw [qce.ev_eq] at H; exact H)
def qef.p0 (K:KT)  (h:Heap):Prop :=
  bd (Array.push h (.map #[] 0)) fun h1=>bd (Array.push h1 (.map #[] 0)) fun h2=>bd (al h2 #[.map (some (Array.size h)),.map (some (Array.size h1))] T.line_Line) fun h3=>K (.pointer (some (top h2))) h3
def qef.plan (K:KT):Plan:=.go
theorem qef.ev_eq:qef.p0=fun K  h=>Ev P Tryz.f110 (qef.plan K) K [] h:=by kernel_rfl
theorem qef.obl (K:KT):Obl P Tryz.f110 (qef.plan K) K :=
  obl_true (by kernel_rfl)
theorem qef.ok {K:KT}  {h:Heap} (H:qef.p0 K  h):CallsH P F.qef [] K h :=
  calls_of_Ev (qef.plan K) Tryz.func110 (by kernel_rfl) (qef.obl K) (by rw [qef.ev_eq] at H; exact H)
def qdr.p0 (K:KT) (p:OA) (h:Heap):Prop :=
  ∃ p1,p=some p1∧∃ m2,hcell h (Addr.add p1 1)=some (.map m2)∧CallsH P F.qbv [.map m2] (fun v3 h4=>CallsH P F.qct [v3] (fun v5 h6=>∃ a7 f m,v5=.slice a7 f m∧K (.slice a7 f m) h6) h4) h
def qdr.plan (K:KT):Plan:=.go
theorem qdr.ev_eq:qdr.p0=fun K f h=>Ev P Tryz.f67 (qdr.plan K) K [.pointer f] h:=by kernel_rfl
theorem qdr.obl (K:KT):Obl P Tryz.f67 (qdr.plan K) K :=
  obl_true (by kernel_rfl)
theorem qdr.ok {K:KT}{f:OA}{h:Heap} (H:qdr.p0 K f h):CallsH P F.qdr [.pointer f] K h :=
  calls_of_Ev (qdr.plan K) Tryz.func67 (by kernel_rfl) (qdr.obl K) (by rw [qdr.ev_eq] at H; exact H)
def qck.j1 (K:KT) (f:OA) (m:Int) (z:Bool) (h:Heap):Prop :=
  ∃ p9,f=some p9∧∃ p,hcell h (Addr.add p9 0)=some (.map p)∧SemH P (Builtin.delete_ #[T.map_uint64_api_Entry,T.uint64] T.unit #[.map p,.int .u64 m]) (fun ab q=>∃ w,f=some w∧∃ y,hcell q (Addr.add w 1)=some (.map y)∧SemH P (Builtin.delete_ #[T.map_uint64_int,T.uint64] T.unit #[.map y,.int .u64 m]) (fun ac aa=>K (.bool z) aa) q) h
def qck.j1.l:Live:=[(0,.ptr),(1,.int .u64),(6,.bool)]
def qck.j1.j (K:KT):Tup qck.j1.l→Heap→Prop:=fun x h=>qck.j1 K x.1 x.2.1 x.2.2.1 h
def qck.p0 (K:KT) (f:OA) (m:Int) (h:Heap):Prop :=
  ∃ p1,f=some p1∧∃ m2,hcell h (Addr.add p1 0)=some (.map m2)∧SemH P (Instr.lookup T.map_uint64_api_Entry (.map m2) (.int .u64 m) true) (fun v3 h4=>∃ p b6,v3=.tuple #[.agg (List.toArray p),.bool b6]∧bd (al h4 #[.int .u64 0,.bool false] T.api_Entry) fun h7=>p.length=2∧∃ h8,stC h7 (top h4) 0 p=some h8∧(b6=false→∃ q,f=some q∧∃ w,hcell h8 (Addr.add q 1)=some (.map w)∧SemH P (Instr.lookup T.map_uint64_int (.map w) (.int .u64 m) false) (fun z aa=>∃ y,z=.int .i64 y∧bd ((decide (y > 0)):Bool) fun ab=>qck.j1 K f m ab aa) h8)∧(b6=true→qck.j1 K f m true h8)) h
def qck.plan (K:KT):Plan:=(.seq .go (.seq .go (.cut qck.j1.l (qck.j1.j K) .go .go)))
theorem qck.ev_eq:qck.p0=fun K f m h=>Ev P Tryz.f186 (qck.plan K) K [.pointer f,.int .u64 m] h:=by kernel_rfl
theorem qck.obl (K:KT):Obl P Tryz.f186 (qck.plan K) K :=
  obl_of (R:=Imp (qck.j1.j K)∧True) (by kernel_rfl) ⟨imp _,trivial⟩
theorem qck.ok {K:KT}{f:OA}{m:Int}{h:Heap} (H:qck.p0 K f m h):CallsH P F.qck [.pointer f,.int .u64 m] K h :=
  calls_of_Ev (qck.plan K) Tryz.func186 (by kernel_rfl) (qck.obl K) (by rw [qck.ev_eq] at H; exact H)
def qcm.j1 (K:KT) (q:OA) (f:Int) (w:Bool) (m:Bool) (h:Heap):Prop :=
  (m=true→K (.bool false) h)∧(m=false→∃ p9,q=some p9∧∃ p,hcell h (Addr.add p9 0)=some (.map p)∧SemH P (unit (Instr.mapUpdate T.map_uint64_api_Entry (.map p) (.int .u64 f) (.agg #[.int .u64 f,.bool w]))) (fun z y=>K (.bool true) y) h)
def qcm.j1.l:Live:=[(0,.ptr),(1,.int .u64),(2,.bool),(31,.bool)]
def qcm.j1.j (K:KT):Tup qcm.j1.l→Heap→Prop:=fun x h=>qcm.j1 K x.1 x.2.1 x.2.2.1 x.2.2.2.1 h
def qcm.p0 (K:KT) (m:OA) (f:Int) (p:Bool) (h:Heap):Prop :=
  ∃ p1,m=some p1∧∃ m2,hcell h (Addr.add p1 0)=some (.map m2)∧SemH P (Instr.lookup T.map_uint64_api_Entry (.map m2) (.int .u64 f) true) (fun v3 h4=>∃ q b6,v3=.tuple #[.agg (List.toArray q),.bool b6]∧bd (al h4 #[.int .u64 0,.bool false] T.api_Entry) fun h7=>q.length=2∧∃ h8,stC h7 (top h4) 0 q=some h8∧(b6=false→((f==0)=false→∃ w,m=some w∧∃ y,hcell h8 (Addr.add w 1)=some (.map y)∧SemH P (Instr.lookup T.map_uint64_int (.map y) (.int .u64 f) false) (fun aa ab=>∃ z,aa=.int .i64 z∧qcm.j1 K m f p (decide (z > 0)) ab) h8)∧((f==0)=true→qcm.j1 K m f p true h8))∧(b6=true→qcm.j1 K m f p true h8)) h
def qcm.plan (K:KT):Plan:=(.seq .go (.seq (.seq .go (.cut qcm.j1.l (qcm.j1.j K) .go .go)) .go))
theorem qcm.ev_eq:qcm.p0=fun K f m p h=>Ev P Tryz.f118 (qcm.plan K) K [.pointer f,.int .u64 m,.bool p] h:=by kernel_rfl
theorem qcm.obl (K:KT):Obl P Tryz.f118 (qcm.plan K) K :=
  obl_of (R:=Imp (qcm.j1.j K)∧True) (by kernel_rfl) ⟨imp _,trivial⟩
theorem qcm.ok {K:KT}{f:OA}{m:Int}{p:Bool}{h:Heap} (H:qcm.p0 K f m p h):CallsH P F.qcm [.pointer f,.int .u64 m,.bool p] K h :=
  calls_of_Ev (qcm.plan K) Tryz.func118 (by kernel_rfl) (qcm.obl K) (by rw [qcm.ev_eq] at H; exact H)
def qbh.j2 (K:KT) (t2:Addr) (q:Addr) (w:Bool) (h:Heap):Prop :=
  ∃ f,rdC h q 0 2=some f∧f.length=2∧∃ m,stC h t2 0 f=some m∧∃ p,rdC m t2 0 2=some p∧K (.tuple #[.agg (List.toArray p),.bool w]) m
def qbh.j2.l:Live:=[(2,.addr),(6,.addr),(7,.bool)]
def qbh.j2.j (K:KT):Tup qbh.j2.l→Heap→Prop:=fun x h=>qbh.j2 K x.1 x.2.1 x.2.2.1 h
def qbh.j1 (K:KT) (f:OA) (t2:Addr) (m:Int) (h:Heap):Prop :=
  ∃ p2,f=some p2∧∃ m3,hcell h (Addr.add p2 0)=some (.map m3)∧SemH P (Instr.lookup T.map_uint64_api_Entry (.map m3) (.int .u64 m) true) (fun v4 h5=>∃ p b7,v4=.tuple #[.agg (List.toArray p),.bool b7]∧bd (al h5 #[.int .u64 0,.bool false] T.api_Entry) fun h8=>p.length=2∧∃ h9,stC h8 (top h5) 0 p=some h9∧(b7=true→∃ q,f=some q∧∃ w,hcell h9 (Addr.add q 0)=some (.map w)∧SemH P (Builtin.delete_ #[T.map_uint64_api_Entry,T.uint64] T.unit #[.map w,.int .u64 m]) (fun ac y=>∃ z,f=some z∧∃ aa,hcell y (Addr.add z 1)=some (.map aa)∧SemH P (unit (Instr.mapUpdate T.map_uint64_int (.map aa) (.int .u64 m) (.int .i64 1))) (fun ad ab=>qbh.j2 K t2 (top h5) b7 ab) y) h9)∧(b7=false→qbh.j2 K t2 (top h5) b7 h9)) h
def qbh.j1.l:Live:=[(0,.ptr),(2,.addr),(4,.int .u64)]
def qbh.j1.j (K:KT):Tup qbh.j1.l→Heap→Prop:=fun x h=>qbh.j1 K x.1 x.2.1 x.2.2.1 h
def qbh.j4 (K:KT) (R3:OA→Addr→Int→Addr→Heap→Prop) (f:OA) (t2:Addr) (p:Int) (q:Int) (m:Addr) (t23:Bool) (h:Heap):Prop :=
  (t23=true→R3 f t2 q m h)∧(t23=false→R3 f t2 p m h)
def qbh.j4.l:Live:=[(0,.ptr),(2,.addr),(4,.int .u64),(5,.int .u64),(12,.addr),(23,.bool)]
def qbh.j4.j (K:KT) (R3:OA→Addr→Int→Addr→Heap→Prop):Tup qbh.j4.l→Heap→Prop:=fun x h=>qbh.j4 K R3 x.1 x.2.1 x.2.2.1 x.2.2.2.1 x.2.2.2.2.1 x.2.2.2.2.2.1 h
def qbh.L3 (K:KT):Nat→OA→Addr→Int→Addr→Heap→Prop
  | 0,_,_,_,_,_=>False
  | fuel+1,p,t2,f,m,h=>SemH P (Instr.next (.pointer (some m)) false T.unit) (fun y q=>(y=.tuple #[.bool false]∧(false=true→SemH P (Instr.entry (.pointer (some m))) (fun ad z=>∃ aa ae:Value,ad=.tuple #[aa,ae]∧∃ w,aa=.int .u64 w∧((f==0)=false→qbh.j4 K (qbh.L3 K fuel) p t2 f w m (decide (w<f)) z)∧((f==0)=true→qbh.j4 K (qbh.L3 K fuel) p t2 f w m true z)) q)∧(false=false→qbh.j1 K p t2 f q))∨(∃ af ag:Value,y=.tuple #[.bool true,af,ag]∧(true=true→SemH P (Instr.entry (.pointer (some m))) (fun ah ab=>∃ ac ai:Value,ah=.tuple #[ac,ai]∧∃ n39,ac=.int .u64 n39∧((f==0)=false→qbh.j4 K (qbh.L3 K fuel) p t2 f n39 m (decide (n39<f)) ab)∧((f==0)=true→qbh.j4 K (qbh.L3 K fuel) p t2 f n39 m true ab)) q)∧(true=false→qbh.j1 K p t2 f q))) h
termination_by structural n=>n
def qbh.L3.l:Live:=[(0,.ptr),(2,.addr),(4,.int .u64),(12,.addr)]
def qbh.L3.j (K:KT):Nat→Tup qbh.L3.l→Heap→Prop:=fun n x h=>qbh.L3 K n x.1 x.2.1 x.2.2.1 x.2.2.2.1 h
def qbh.p0 (K:KT) (f:OA) (h:Heap):Prop :=
  bd (al h #[.int .u64 0,.bool false] T.api_Entry) fun h1=>∃ p21,f=some p21∧∃ m,hcell h1 (Addr.add p21 0)=some (.map m)∧SemH P (Instr.range T.map_uint64_api_Entry (.map m)) (fun q w=>∃ p:Addr,q=.pointer (some p)∧∃ fuel40,qbh.L3 K fuel40 f (top h) 0 p w) h1
def qbh.plan (K:KT):Plan:=(.seq .go (.seq .go (.cut qbh.j1.l (qbh.j1.j K) (.seq .go (.block (.loop qbh.L3.l (qbh.L3.j K) (fun n3=>(.seq .go (.seq .go (.block (.seq .go (.cut qbh.j4.l (qbh.j4.j K (qbh.L3 K n3)) .go .go))))))))) (.seq .go (.cut qbh.j2.l (qbh.j2.j K) .go .go)))))
theorem qbh.ev_eq:qbh.p0=fun K f h=>Ev P Tryz.f119 (qbh.plan K) K [.pointer f] h:=by kernel_rfl
theorem qbh.obl (K:KT):Obl P Tryz.f119 (qbh.plan K) K :=
  obl_of (R:=(∀ x h,¬ (qbh.L3.j K) 0 x h)∧ImpN (qbh.L3.j K)∧(∀ (n3:Nat),Imp (qbh.j4.j K (qbh.L3 K n3))∧True)∧Imp (qbh.j1.j K)∧Imp (qbh.j2.j K)∧True) (by kernel_rfl) ⟨fun _ _ H=>H,impN _,fun _=>⟨imp _,trivial⟩,⟨imp _,⟨imp _,trivial⟩⟩⟩
theorem qbh.ok {K:KT}{f:OA}{h:Heap} (H:qbh.p0 K f h):CallsH P F.qbh [.pointer f] K h :=
  calls_of_Ev (qbh.plan K) Tryz.func119 (by kernel_rfl) (qbh.obl K) (by rw [qbh.ev_eq] at H; exact H)
def qdq.p0 (K:KT) (m:OA) (f:Int) (h:Heap):Prop :=
  ∃ p1,m=some p1∧∃ m2,hcell h (Addr.add p1 1)=some (.map m2)∧SemH P (Instr.lookup T.map_uint64_int (.map m2) (.int .u64 f) false) (fun v3 h4=>∃ n5,v3=.int .i64 n5∧((n5==0)=true→K (.bool false) h4)∧((n5==0)=false→∃ p6,m=some p6∧∃ m7,hcell h4 (Addr.add p6 1)=some (.map m7)∧SemH P (Builtin.delete_ #[T.map_uint64_int,T.uint64] T.unit #[.map m7,.int .u64 f]) (fun v8 h9=>∃ p,m=some p∧∃ q,hcell h9 (Addr.add p 0)=some (.map q)∧SemH P (unit (Instr.mapUpdate T.map_uint64_api_Entry (.map q) (.int .u64 f) (.agg #[.int .u64 f,.bool true]))) (fun y w=>K (.bool true) w) h9) h4)) h
def qdq.plan (K:KT):Plan:=.go
theorem qdq.ev_eq:qdq.p0=fun K f m h=>Ev P Tryz.f121 (qdq.plan K) K [.pointer f,.int .u64 m] h:=by kernel_rfl
theorem qdq.obl (K:KT):Obl P Tryz.f121 (qdq.plan K) K :=
  obl_true (by kernel_rfl)
theorem qdq.ok {K:KT}{f:OA}{m:Int}{h:Heap} (H:qdq.p0 K f m h):CallsH P F.qdq [.pointer f,.int .u64 m] K h :=
  calls_of_Ev (qdq.plan K) Tryz.func121 (by kernel_rfl) (qdq.obl K) (by rw [qdq.ev_eq] at H; exact H)
end Go.Proofs.YtofpbcakppjgcaaGreatDoor.Pr
end
section
set_option linter.unusedVariables false
set_option maxRecDepth 100000
namespace Go.Proofs.YtofpbcakppjgcaaGreatDoor.Pr
open Go Go.Lift Go.Proofs
def qdy.p0 (K:KT) (t0:Int) (h:Heap):Prop :=
  bd ((if (8:Int)<(if (1:Int) > t0 then 1 else t0) then 8 else (if (1:Int) > t0 then 1 else t0)):Int) fun n1=>K (.int .i64 n1) h
def qdy.plan (K:KT):Plan:=.go
theorem qdy.ev_eq:qdy.p0=fun K t0 h=>Ev P Tryz.f191 (qdy.plan K) K [.int .i64 t0] h:=by kernel_rfl
theorem qdy.obl (K:KT):Obl P Tryz.f191 (qdy.plan K) K :=
  obl_true (by kernel_rfl)
theorem qdy.ok {K:KT}{t0:Int}{h:Heap} (H:qdy.p0 K t0 h):CallsH P F.qdy [.int .i64 t0] K h :=
  calls_of_Ev (qdy.plan K) Tryz.func191 (by kernel_rfl) (qdy.obl K) (by rw [qdy.ev_eq] at H; exact H)
def qdj.L1 (K:KT):Nat→OA→Nat→Nat→Int→Int→Heap→Prop
  | 0,_,_,_,_,_,_=>False
  | fuel+1,m,p,q,w,f,h=>((decide (f ≥ 0))=true→(0:Int)≤3∧(0:Int)≤(IntKind.u64.wrap (shlI .i64 f 3))∧bd (al h #[.int .u8 (IntKind.u8.wrap (shrI .u64 w (IntKind.u64.wrap (shlI .i64 f 3))))] T.uint8) fun h8=>SemH P (Builtin.append_ #[T.sl_uint8,T.sl_uint8] T.sl_uint8 #[.slice m p q,.slice (some (top h)) 1 1]) (fun v9 ab=>∃ y z aa,v9=.slice y z aa∧bd ((IntKind.i64.wrap (f - 1)):Int) fun ac=>(qdj.L1 K fuel) y z aa w ac ab) h8)∧((decide (f ≥ 0))=false→K (.slice m p q) h)
termination_by structural n=>n
def qdj.L1.l:Live:=[(0,.slice),(2,.int .u64),(7,.int .i64)]
def qdj.L1.j (K:KT):Nat→Tup qdj.L1.l→Heap→Prop:=fun n x h=>qdj.L1 K n x.1.1 x.1.2.1 x.1.2.2 x.2.1 x.2.2.1 h
def qdj.p0 (K:KT) (p:OA) (q:Nat) (w:Nat) (t1:Int) (y:Int) (h:Heap):Prop :=
  CallsH P F.qcv [.slice p q w] (fun v1 h2=>∃ a3 f m,v1=.slice a3 f m∧CallsH P F.qdy [.int .i64 t1] (fun v4 h5=>∃ n6,v4=.int .i64 n6∧bd ((IntKind.i64.wrap (n6 - 1)):Int) fun z=>∃ fuel13,qdj.L1 K fuel13 a3 f m y z h5) h2) h
def qdj.plan (K:KT):Plan:=(.seq .go (.seq .go (.seq (.seq .go (.block (.loop qdj.L1.l (qdj.L1.j K) (fun n1=>.go)))) .go)))
theorem qdj.ev_eq:qdj.p0=fun K f m p t1 q h=>Ev P Tryz.f125 (qdj.plan K) K [.slice f m p,.int .i64 t1,.int .u64 q] h:=by kernel_rfl
theorem qdj.obl (K:KT):Obl P Tryz.f125 (qdj.plan K) K :=
  obl_of (R:=(∀ x h,¬ (qdj.L1.j K) 0 x h)∧ImpN (qdj.L1.j K)∧(∀ (n1:Nat),True)∧True) (by kernel_rfl) ⟨fun _ _ H=>H,impN _,fun _=>trivial,trivial⟩
theorem qdj.ok {K:KT}{f:OA}{m:Nat}{p:Nat}{t1:Int}{q:Int}{h:Heap} (H:qdj.p0 K f m p t1 q h):CallsH P F.qdj [.slice f m p,.int .i64 t1,.int .u64 q] K h :=
  calls_of_Ev (qdj.plan K) Tryz.func125 (by kernel_rfl) (qdj.obl K) (by rw [qdj.ev_eq] at H; exact H)
def qdx.p0 (K:KT) (m:OA) (p:Nat) (q:Nat) (f:List UInt8) (h:Heap):Prop :=
  ((decide (((List.length f:Nat):Int) > 255))=true→CallsH P F.qcv [.slice m p q] (fun v1 h2=>∃ a3 w y,v1=.slice a3 w y∧K (.tuple #[.slice a3 w y,.bool false]) h2) h)∧((decide (((List.length f:Nat):Int) > 255))=false→CallsH P F.qdj [.slice m p q,.int .i64 1,.int .u64 (IntKind.u64.wrap ((List.length f:Nat):Int))] (fun v4 h5=>∃ a6 z aa,v4=.slice a6 z aa∧SemH P (Builtin.append_ #[T.sl_uint8,T.string] T.sl_uint8 #[.slice a6 z aa,.string (mkS f)]) (fun v7 h8=>∃ a9 ab ac,v7=.slice a9 ab ac∧K (.tuple #[.slice a9 ab ac,.bool true]) h8) h5) h)
def qdx.plan (K:KT):Plan:=.go
theorem qdx.ev_eq:qdx.p0=fun K f m p q h=>Ev P Tryz.f124 (qdx.plan K) K [.slice f m p,.string (mkS q)] h:=by kernel_rfl
theorem qdx.obl (K:KT):Obl P Tryz.f124 (qdx.plan K) K :=
  obl_true (by kernel_rfl)
theorem qdx.ok {K:KT}{f:OA}{m:Nat}{p:Nat}{q:List UInt8}{h:Heap} (H:qdx.p0 K f m p q h):CallsH P F.qdx [.slice f m p,.string (mkS q)] K h :=
  calls_of_Ev (qdx.plan K) Tryz.func124 (by kernel_rfl) (qdx.obl K) (by rw [qdx.ev_eq] at H; exact H)
end Go.Proofs.YtofpbcakppjgcaaGreatDoor.Pr
end
section
set_option linter.unusedVariables false
set_option maxRecDepth 100000
namespace Go.Proofs.YtofpbcakppjgcaaGreatDoor.Pr
open Go Go.Lift Go.Proofs
def qcv.p0 (K:KT) (f:OA) (q:Nat) (w:Nat) (h:Heap):Prop :=
  ((Option.isNone f)=true→K (.slice none 0 0) h)∧((Option.isNone f)=false→bd (al h #[] T.uint8) fun h1=>SemH P (Builtin.append_ #[T.sl_uint8,T.sl_uint8] T.sl_uint8 #[.slice (some (top h)) 0 0,.slice f q w]) (fun v2 h3=>∃ a4 m p,v2=.slice a4 m p∧K (.slice a4 m p) h3) h1)
def qcv.plan (K:KT):Plan:=.go
theorem qcv.ev_eq:qcv.p0=fun K f m p h=>Ev P Tryz.f141 (qcv.plan K) K [.slice f m p] h:=by kernel_rfl
theorem qcv.obl (K:KT):Obl P Tryz.f141 (qcv.plan K) K :=
  obl_true (by kernel_rfl)
theorem qcv.ok {K:KT}{f:OA}{m:Nat}{p:Nat}{h:Heap} (H:qcv.p0 K f m p h):CallsH P F.qcv [.slice f m p] K h :=
  calls_of_Ev (qcv.plan K) Tryz.func141 (by kernel_rfl) (qcv.obl K) (by rw [qcv.ev_eq] at H; exact H)
end Go.Proofs.YtofpbcakppjgcaaGreatDoor.Pr
end
section
set_option linter.unusedVariables false
set_option maxRecDepth 100000
namespace Go.Proofs.YtofpbcakppjgcaaGreatDoor.Pr
open Go Go.Lift Go.Proofs
def qdp.j1 (K:KT) (t3:Int) (t4:Bool) (h:Heap):Prop :=
  (t4=true→K (.int .i64 1) h)∧(t4=false→bd ((t3==3):Bool) fun b1=>(b1=true→K (.int .i64 7) h)∧(b1=false→bd ((t3==4):Bool) fun b2=>(b2=true→K (.int .i64 8) h)∧(b2=false→bd ((t3==5):Bool) fun b3=>(b3=true→K (.int .i64 9) h)∧(b3=false→K (.int .i64 0) h))))
def qdp.j1.l:Live:=[(3,.int .i64),(4,.bool)]
def qdp.j1.j (K:KT):Tup qdp.j1.l→Heap→Prop:=fun x h=>qdp.j1 K x.1 x.2.1 h
def qdp.p0 (K:KT) (f:Int) (h:Heap):Prop :=
  bd ((f==1):Bool) fun b4=>(b4=true→qdp.j1 K f b4 h)∧(b4=false→bd ((f==2):Bool) fun b5=>qdp.j1 K f b5 h)
def qdp.plan (K:KT):Plan:=(.seq .go (.seq (.seq .go (.block (.cut qdp.j1.l (qdp.j1.j K) .go .go))) .go))
theorem qdp.ev_eq:qdp.p0=fun K f h=>Ev P Tryz.f221 (qdp.plan K) K [.int .i64 f] h:=by kernel_rfl
theorem qdp.obl (K:KT):Obl P Tryz.f221 (qdp.plan K) K :=
  obl_of (R:=Imp (qdp.j1.j K)∧True) (by kernel_rfl) ⟨imp _,trivial⟩
theorem qdp.ok {K:KT}{f:Int}{h:Heap} (H:qdp.p0 K f h):CallsH P F.qdp [.int .i64 f] K h :=
  calls_of_Ev (qdp.plan K) Tryz.func221 (by kernel_rfl) (qdp.obl K) (by rw [qdp.ev_eq] at H; exact H)
def qeb.p0 (K:KT) (f:List UInt8) (m:Bool) (h:Heap):Prop :=
  ((!m)=true→bd ((f==([]:List UInt8)):Bool) fun b1=>K (.bool b1) h)∧((!m)=false→((!(f==([]:List UInt8)))=true→bd ((decide (((List.length f:Nat):Int)≤30)):Bool) fun b2=>K (.bool b2) h)∧((!(f==([]:List UInt8)))=false→K (.bool false) h))
def qeb.plan (K:KT):Plan:=.go
theorem qeb.ev_eq:qeb.p0=fun K f m h=>Ev P Tryz.f263 (qeb.plan K) K [.string (mkS f),.bool m] h:=by kernel_rfl
theorem qeb.obl (K:KT):Obl P Tryz.f263 (qeb.plan K) K :=
  obl_true (by kernel_rfl)
theorem qeb.ok {K:KT}{f:List UInt8}{m:Bool}{h:Heap} (H:qeb.p0 K f m h):CallsH P F.qeb [.string (mkS f),.bool m] K h :=
  calls_of_Ev (qeb.plan K) Tryz.func263 (by kernel_rfl) (qeb.obl K) (by rw [qeb.ev_eq] at H; exact H)
def qcf.j2 (K:KT) (m:Addr) (t3:Int) (f:Bool) (h:Heap):Prop :=
  (f=true→K (.bool false) h)∧(f=false→∃ n6,hcell h (Addr.add m 4)=some (.int .u64 n6)∧bd (((decide (n6 > 0))==((bitsI .and .i64 t3 8) != 0)):Bool) fun b7=>K (.bool b7) h)
def qcf.j2.l:Live:=[(1,.addr),(3,.int .i64),(40,.bool)]
def qcf.j2.j (K:KT):Tup qcf.j2.l→Heap→Prop:=fun x h=>qcf.j2 K x.1 x.2.1 x.2.2.1 h
def qcf.j1 (K:KT) (f:Addr) (t3:Int) (m:Bool) (h:Heap):Prop :=
  (m=true→K (.bool false) h)∧(m=false→∃ s8,hcell h (Addr.add f 3)=some (.string (mkS s8))∧((!(s8==([]:List UInt8)))=true→(((bitsI .and .i64 t3 4)==0)=false→∃ s9,hcell h (Addr.add f 3)=some (.string (mkS s9))∧qcf.j2 K f t3 (decide (((List.length s9:Nat):Int) > 60)) h)∧(((bitsI .and .i64 t3 4)==0)=true→qcf.j2 K f t3 true h))∧((!(s8==([]:List UInt8)))=false→∃ s10,hcell h (Addr.add f 3)=some (.string (mkS s10))∧qcf.j2 K f t3 (decide (((List.length s10:Nat):Int) > 60)) h))
def qcf.j1.l:Live:=[(1,.addr),(3,.int .i64),(26,.bool)]
def qcf.j1.j (K:KT):Tup qcf.j1.l→Heap→Prop:=fun x h=>qcf.j1 K x.1 x.2.1 x.2.2.1 h
def qcf.p0 (K:KT) (q:List Value) (h:Heap):Prop :=
  bd (al h (List.toArray q) T.api_Key) fun h1=>∃ n2,hcell h1 (Addr.add (top h) 0)=some (.int .i64 n2)∧CallsH P F.qdp [.int .i64 n2] (fun v3 h4=>∃ n5,v3=.int .i64 n5∧((n5==0)=false→∃ s11,hcell h4 (Addr.add (top h) 1)=some (.string (mkS s11))∧CallsH P F.qeb [.string (mkS s11),.bool ((bitsI .and .i64 n5 1) != 0)] (fun w f=>∃ m,w=.bool m∧((!m)=false→∃ s15,hcell f (Addr.add (top h) 2)=some (.string (mkS s15))∧CallsH P F.qeb [.string (mkS s15),.bool ((bitsI .and .i64 n5 2) != 0)] (fun y z=>∃ p,y=.bool p∧qcf.j1 K (top h) n5 (!p) z) f)∧((!m)=true→qcf.j1 K (top h) n5 true f)) h4)∧((n5==0)=true→qcf.j1 K (top h) n5 true h4)) h1
def qcf.plan (K:KT):Plan:=(.seq .go (.seq .go (.seq (.cut qcf.j1.l (qcf.j1.j K) .go .go) (.seq (.cut qcf.j2.l (qcf.j2.j K) .go .go) .go))))
theorem qcf.ev_eq:qcf.p0=fun K f h=>Ev P Tryz.f225 (qcf.plan K) K [.agg (List.toArray f)] h:=by kernel_rfl
theorem qcf.obl (K:KT):Obl P Tryz.f225 (qcf.plan K) K :=
  obl_of (R:=Imp (qcf.j1.j K)∧Imp (qcf.j2.j K)∧True) (by kernel_rfl) ⟨imp _,⟨imp _,trivial⟩⟩
theorem qcf.ok {K:KT}{f:List Value}{h:Heap} (H:qcf.p0 K f h):CallsH P F.qcf [.agg (List.toArray f)] K h :=
  calls_of_Ev (qcf.plan K) Tryz.func225 (by kernel_rfl) (qcf.obl K) (by rw [qcf.ev_eq] at H; exact H)
def qbr.j2 (K:KT) (f:OA) (m:Nat) (p:Nat) (h:Heap):Prop :=
  SemH P (Go.convert T.sl_uint8 T.string (.slice f m p)) (fun q w=>∃ s15,q=.string (mkS s15)∧K (.tuple #[.string (mkS s15),.bool true]) w) h
def qbr.j2.l:Live:=[(5,.slice)]
def qbr.j2.j (K:KT):Tup qbr.j2.l→Heap→Prop:=fun x h=>qbr.j2 K x.1.1 x.1.2.1 x.1.2.2 h
def qbr.j1 (K:KT) (aa:Addr) (t4:Int) (f:OA) (m:Nat) (p:Nat) (h:Heap):Prop :=
  (((bitsI .and .i64 t4 8) != 0)=true→∃ q,hcell h (Addr.add aa 4)=some (.int .u64 q)∧CallsH P F.qdj [.slice f m p,.int .i64 8,.int .u64 q] (fun ab ac=>∃ w y z,ab=.slice w y z∧qbr.j2 K w y z ac) h)∧(((bitsI .and .i64 t4 8) != 0)=false→qbr.j2 K f m p h)
def qbr.j1.l:Live:=[(1,.addr),(4,.int .i64),(5,.slice)]
def qbr.j1.j (K:KT):Tup qbr.j1.l→Heap→Prop:=fun x h=>qbr.j1 K x.1 x.2.1 x.2.2.1.1 x.2.2.1.2.1 x.2.2.1.2.2 h
def qbr.j4 (K:KT) (R3:Addr→Int→OA→Nat→Nat→OA→Nat→Nat→Int→Int→Heap→Prop) (f:Addr) (t4:Int) (m:OA) (p:Nat) (q:Nat) (w:OA) (y:Nat) (z:Nat) (aa:Int) (ab:Int) (h:Heap):Prop :=
  R3 f t4 m p q w y z aa (IntKind.i64.wrap (ab+1)) h
def qbr.j4.l:Live:=[(1,.addr),(4,.int .i64),(5,.slice),(24,.slice),(25,.int .i64),(26,.int .i64)]
def qbr.j4.j (K:KT) (R3:Addr→Int→OA→Nat→Nat→OA→Nat→Nat→Int→Int→Heap→Prop):Tup qbr.j4.l→Heap→Prop:=fun x h=>qbr.j4 K R3 x.1 x.2.1 x.2.2.1.1 x.2.2.1.2.1 x.2.2.1.2.2 x.2.2.2.1.1 x.2.2.2.1.2.1 x.2.2.2.1.2.2 x.2.2.2.2.1 x.2.2.2.2.2.1 h
def qbr.L3 (K:KT):Nat→Addr→Int→OA→Nat→Nat→OA→Nat→Nat→Int→Int→Heap→Prop
  | 0,_,_,_,_,_,_,_,_,_,_,_=>False
  | fuel+1,p,t4,q,w,y,z,aa,ab,m,f,h=>((decide (f<m))=true→∃ ac,z=some ac∧(0:Int)≤f∧f<((aa:Nat):Int)∧∃ ad,hcell h (Addr.add ac (Int.toNat f * 1))=some (.string (mkS ad))∧(0:Int)≤(IntKind.u64.wrap f)∧(((bitsI .and .i64 (shrI .i64 t4 (IntKind.u64.wrap f)) 1)==1)=true→CallsH P F.qdx [.slice q w y,.string (mkS ad)] (fun ah ai=>∃ ae af ag aj,ah=.tuple #[.slice ae af ag,.bool aj]∧qbr.j4 K (qbr.L3 K fuel) p t4 ae af ag z aa ab m f ai) h)∧(((bitsI .and .i64 (shrI .i64 t4 (IntKind.u64.wrap f)) 1)==1)=false→qbr.j4 K (qbr.L3 K fuel) p t4 q w y z aa ab m f h))∧((decide (f<m))=false→qbr.j1 K p t4 q w y h)
termination_by structural n=>n
def qbr.L3.l:Live:=[(1,.addr),(4,.int .i64),(5,.slice),(24,.slice),(25,.int .i64),(26,.int .i64)]
def qbr.L3.j (K:KT):Nat→Tup qbr.L3.l→Heap→Prop:=fun n x h=>qbr.L3 K n x.1 x.2.1 x.2.2.1.1 x.2.2.1.2.1 x.2.2.1.2.2 x.2.2.2.1.1 x.2.2.2.1.2.1 x.2.2.2.1.2.2 x.2.2.2.2.1 x.2.2.2.2.2.1 h
def qbr.p0 (K:KT) (z:List Value) (h:Heap):Prop :=
  bd (al h (List.toArray z) T.api_Key) fun h1=>∃ m,rdC h1 (top h) 0 5=some m∧CallsH P F.qcf [.agg (List.toArray m)] (fun v3 h4=>∃ b5,v3=.bool b5∧((!b5)=true→K (.tuple #[.string (mkS ([]:List UInt8)),.bool false]) h4)∧((!b5)=false→∃ n6,hcell h4 (Addr.add (top h) 0)=some (.int .i64 n6)∧CallsH P F.qdp [.int .i64 n6] (fun v7 h8=>∃ n9,v7=.int .i64 n9∧∃ p,hcell h8 (Addr.add (top h) 0)=some (.int .i64 p)∧bd (al h8 #[.int .u8 (IntKind.u8.wrap p)] T.uint8) fun f=>bd ((some (top h8)):OA) fun aa=>bd (1:Nat) fun ab=>bd (1:Nat) fun ac=>∃ q,hcell f (Addr.add (top h) 1)=some (.string (mkS q))∧∃ w,hcell f (Addr.add (top h) 2)=some (.string (mkS w))∧∃ y,hcell f (Addr.add (top h) 3)=some (.string (mkS y))∧bd (al f #[.string (mkS q),.string (mkS w),.string (mkS y)] T.string) fun ad=>∃ fuel30,qbr.L3 K fuel30 (top h) n9 aa ab ac (some (top f)) 3 3 ((3:Nat):Int) 0 ad) h4)) h1
def qbr.plan (K:KT):Plan:=(.seq .go (.seq .go (.seq .go (.seq .go (.cut qbr.j1.l (qbr.j1.j K) (.seq .go (.block (.loop qbr.L3.l (qbr.L3.j K) (fun n3=>(.seq .go (.seq .go (.cut qbr.j4.l (qbr.j4.j K (qbr.L3 K n3)) .go .go))))))) (.cut qbr.j2.l (qbr.j2.j K) .go .go))))))
theorem qbr.ev_eq:qbr.p0=fun K f h=>Ev P Tryz.f192 (qbr.plan K) K [.agg (List.toArray f)] h:=by kernel_rfl
theorem qbr.obl (K:KT):Obl P Tryz.f192 (qbr.plan K) K :=
  obl_of (R:=(∀ x h,¬ (qbr.L3.j K) 0 x h)∧ImpN (qbr.L3.j K)∧(∀ (n3:Nat),Imp (qbr.j4.j K (qbr.L3 K n3))∧True)∧Imp (qbr.j1.j K)∧Imp (qbr.j2.j K)∧True) (by kernel_rfl) ⟨fun _ _ H=>H,impN _,fun _=>⟨imp _,trivial⟩,⟨imp _,⟨imp _,trivial⟩⟩⟩
theorem qbr.ok {K:KT}{f:List Value}{h:Heap} (H:qbr.p0 K f h):CallsH P F.qbr [.agg (List.toArray f)] K h :=
  calls_of_Ev (qbr.plan K) Tryz.func192 (by kernel_rfl) (qbr.obl K) (by rw [qbr.ev_eq] at H; exact H)
def qdt.p0 (K:KT) (m:List Value) (h:Heap):Prop :=
  bd (al h (List.toArray m) T.api_Msg) fun h1=>∃ s2,hcell h1 (Addr.add (top h) 0)=some (.string (mkS s2))∧((decide (((List.length s2:Nat):Int)≤30))=true→∃ s3,hcell h1 (Addr.add (top h) 1)=some (.string (mkS s3))∧((decide (((List.length s3:Nat):Int)≤60))=true→∃ s4,hcell h1 (Addr.add (top h) 2)=some (.string (mkS s4))∧((decide (((List.length s4:Nat):Int)≤60))=true→∃ n5,hcell h1 (Addr.add (top h) 3)=some (.int .i64 n5)∧((decide (n5 ≥ 0))=true→∃ n6,hcell h1 (Addr.add (top h) 3)=some (.int .i64 n6)∧((decide (n6≤2))=true→∃ a7 f p,hcell h1 (Addr.add (top h) 4)=some (.slice a7 f p)∧bd ((decide (((f:Nat):Int)≤10000)):Bool) fun b8=>K (.bool b8) h1)∧((decide (n6≤2))=false→K (.bool false) h1))∧((decide (n5 ≥ 0))=false→K (.bool false) h1))∧((decide (((List.length s4:Nat):Int)≤60))=false→K (.bool false) h1))∧((decide (((List.length s3:Nat):Int)≤60))=false→K (.bool false) h1))∧((decide (((List.length s2:Nat):Int)≤30))=false→K (.bool false) h1)
def qdt.plan (K:KT):Plan:=.go
theorem qdt.ev_eq:qdt.p0=fun K f h=>Ev P Tryz.f123 (qdt.plan K) K [.agg (List.toArray f)] h:=by kernel_rfl
theorem qdt.obl (K:KT):Obl P Tryz.f123 (qdt.plan K) K :=
  obl_true (by kernel_rfl)
theorem qdt.ok {K:KT}{f:List Value}{h:Heap} (H:qdt.p0 K f h):CallsH P F.qdt [.agg (List.toArray f)] K h :=
  calls_of_Ev (qdt.plan K) Tryz.func123 (by kernel_rfl) (qdt.obl K) (by rw [qdt.ev_eq] at H; exact H)
def qcu.j1 (K:KT) (f:Addr) (m:OA) (p:Nat) (q:Nat) (h:Heap):Prop :=
  ∃ n6,hcell h (Addr.add f 3)=some (.int .i64 n6)∧(CallsH P F.qdj [.slice m p q,.int .i64 1,.int .u64 (IntKind.u64.wrap n6)] (fun v7 h8=>∃ a9 w y,v7=.slice a9 w y∧∃ z aa ab,hcell h8 (Addr.add f 4)=some (.slice z aa ab)∧SemH P (Builtin.append_ #[T.sl_uint8,T.sl_uint8] T.sl_uint8 #[.slice a9 w y,.slice z aa ab]) (fun aq ar=>∃ ac ad ae,aq=.slice ac ad ae∧K (.tuple #[.slice ac ad ae,.bool true]) ar) h8) h)∧(∃ af ag ah,hcell h (Addr.add f 4)=some (.slice af ag ah)∧CallsH P F.qdj [.slice m p q,.int .i64 1,.int .u64 (IntKind.u64.wrap n6)] (fun au av=>∃ ai aj ak,au=.slice ai aj ak∧SemH P (Builtin.append_ #[T.sl_uint8,T.sl_uint8] T.sl_uint8 #[.slice ai aj ak,.slice af ag ah]) (fun aw ax=>∃ am an ao,aw=.slice am an ao∧K (.tuple #[.slice am an ao,.bool true]) ax) av) h)
def qcu.j1.l:Live:=[(1,.addr),(4,.slice)]
def qcu.j1.j (K:KT):Tup qcu.j1.l→Heap→Prop:=fun x h=>qcu.j1 K x.1 x.2.1.1 x.2.1.2.1 x.2.1.2.2 h
def qcu.L2 (K:KT):Nat→Addr→OA→Nat→Nat→OA→Nat→Nat→Int→Int→Heap→Prop
  | 0,_,_,_,_,_,_,_,_,_,_=>False
  | fuel+1,p,q,w,y,z,aa,ag,m,f,h=>((decide (f<m))=true→∃ ab,z=some ab∧(0:Int)≤f∧f<((aa:Nat):Int)∧∃ ac,hcell h (Addr.add ab (Int.toNat f * 1))=some (.string (mkS ac))∧CallsH P F.qdx [.slice q w y,.string (mkS ac)] (fun ah ai=>∃ ad ae af aj,ah=.tuple #[.slice ad ae af,.bool aj]∧(qcu.L2 K fuel) p ad ae af z aa ag m (IntKind.i64.wrap (f+1)) ai) h)∧((decide (f<m))=false→qcu.j1 K p q w y h)
termination_by structural n=>n
def qcu.L2.l:Live:=[(1,.addr),(4,.slice),(16,.slice),(17,.int .i64),(18,.int .i64)]
def qcu.L2.j (K:KT):Nat→Tup qcu.L2.l→Heap→Prop:=fun n x h=>qcu.L2 K n x.1 x.2.1.1 x.2.1.2.1 x.2.1.2.2 x.2.2.1.1 x.2.2.1.2.1 x.2.2.1.2.2 x.2.2.2.1 x.2.2.2.2.1 h
def qcu.p0 (K:KT) (w:List Value) (h:Heap):Prop :=
  bd (al h (List.toArray w) T.api_Msg) fun h1=>∃ f,rdC h1 (top h) 0 5=some f∧CallsH P F.qdt [.agg (List.toArray f)] (fun v3 h4=>∃ b5,v3=.bool b5∧((!b5)=true→K (.tuple #[.slice none 0 0,.bool false]) h4)∧((!b5)=false→∃ m,hcell h4 (Addr.add (top h) 0)=some (.string (mkS m))∧∃ p,hcell h4 (Addr.add (top h) 1)=some (.string (mkS p))∧∃ q,hcell h4 (Addr.add (top h) 2)=some (.string (mkS q))∧bd (al h4 #[.string (mkS m),.string (mkS p),.string (mkS q)] T.string) fun y=>∃ fuel31,qcu.L2 K fuel31 (top h) none 0 0 (some (top h4)) 3 3 ((3:Nat):Int) 0 y)) h1
def qcu.plan (K:KT):Plan:=(.seq .go (.seq .go (.seq .go (.cut qcu.j1.l (qcu.j1.j K) (.seq .go (.block (.loop qcu.L2.l (qcu.L2.j K) (fun n2=>.go)))) (.seq (.orders (.op 0 (.op 1 (.op 5 (.op 2 (.op 3 (.both (.op 4 (.op 6 (.op 7 (.op 8 (.op 9 .nil))))) (.op 6 (.op 4 (.op 7 (.op 8 (.op 9 .nil)))))))))))) .go)))))
theorem qcu.ev_eq:qcu.p0=fun K f h=>Ev P Tryz.f56 (qcu.plan K) K [.agg (List.toArray f)] h:=by kernel_rfl
theorem qcu.obl (K:KT):Obl P Tryz.f56 (qcu.plan K) K :=
  obl_of (R:=(∀ x h,¬ (qcu.L2.j K) 0 x h)∧ImpN (qcu.L2.j K)∧(∀ (n2:Nat),True)∧Imp (qcu.j1.j K)∧DrawOK P Tryz.f56.ntmps (opsAt 9 (bodyOf Tryz.f56)) (.op 0 (.op 1 (.op 5 (.op 2 (.op 3 (.both (.op 4 (.op 6 (.op 7 (.op 8 (.op 9 .nil))))) (.op 6 (.op 4 (.op 7 (.op 8 (.op 9 .nil)))))))))))∧True) (by kernel_rfl) ⟨fun _ _ H=>H,impN _,fun _=>trivial,⟨imp _,⟨draw_ok (by kernel_rfl),trivial⟩⟩⟩
theorem qcu.ok {K:KT}{f:List Value}{h:Heap} (H:qcu.p0 K f h):CallsH P F.qcu [.agg (List.toArray f)] K h :=
  calls_of_Ev (qcu.plan K) Tryz.func56 (by kernel_rfl) (qcu.obl K) (by rw [qcu.ev_eq] at H; exact H)
end Go.Proofs.YtofpbcakppjgcaaGreatDoor.Pr
end
section
set_option linter.unusedVariables false
set_option maxRecDepth 100000
namespace Go.Proofs.YtofpbcakppjgcaaGreatDoor.Pr
open Go Go.Lift Go.Proofs
def qdd.p0 (K:KT) (f:List UInt8) (t1:List UInt8) (h:Heap):Prop :=
  CallsH P F.qcb [.string (mkS f),.string (mkS t1)] (fun v1 h2=>∃ b3,v1=.bool b3∧K (.bool b3) h2) h
def qdd.plan (K:KT):Plan:=.go
theorem qdd.ev_eq:qdd.p0=fun K f t1 h=>Ev P Tryz.f179 (qdd.plan K) K [.string (mkS f),.string (mkS t1)] h:=by kernel_rfl
theorem qdd.obl (K:KT):Obl P Tryz.f179 (qdd.plan K) K :=
  obl_true (by kernel_rfl)
theorem qdd.ok {K:KT}{f:List UInt8}{t1:List UInt8}{h:Heap} (H:qdd.p0 K f t1 h):CallsH P F.qdd [.string (mkS f),.string (mkS t1)] K h :=
  calls_of_Ev (qdd.plan K) Tryz.func179 (by kernel_rfl) (qdd.obl K) (by rw [qdd.ev_eq] at H; exact H)
end Go.Proofs.YtofpbcakppjgcaaGreatDoor.Pr
end
