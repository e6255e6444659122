/- connsBegins_holds: all that the theorem needs, in a few texts (bundle.py; made of the texts that NOTES.md names). -/
import Derived.Below
import Derived.KernelRfl
import Derived.Laws.Sem
import Derived.Laws.Strings
import Derived.LoopN
import Derived.Orders
import Derived.Test.YtjapglfpjhljpaaGreatChecked
import Derived.Test.YtjapglfpjhljpaaGreatBConnsBegins1
import Derived.Test.YtjapglfpjhljpaaGreatBConnsBegins2
section
namespace Go.Proofs.YtjapglfpjhljpaaGreat.Pr
open Go Go.Lift Go.Proofs
noncomputable abbrev P : Program := Tryz.prog
abbrev F.qad : Nat := 5
abbrev F.qdu : Nat := 8
abbrev F.qag : Nat := 9
abbrev F.qce : Nat := 10
abbrev F.qbi : Nat := 12
abbrev F.qba : Nat := 13
abbrev F.qco : Nat := 15
abbrev F.qcl : Nat := 17
abbrev F.qap : Nat := 20
abbrev F.qbr : Nat := 21
abbrev F.qab : Nat := 22
abbrev F.qci : Nat := 23
abbrev F.qau : Nat := 24
abbrev F.qdl : Nat := 25
abbrev F.qca : Nat := 27
abbrev F.qav : Nat := 28
abbrev F.qcg : Nat := 30
abbrev F.qaw : Nat := 31
abbrev F.qdg : Nat := 32
abbrev F.qcz : Nat := 33
abbrev F.qcc : Nat := 38
abbrev F.qax : Nat := 39
abbrev F.qas : Nat := 40
abbrev F.qae : Nat := 41
abbrev F.qbh : Nat := 42
abbrev F.qcj : Nat := 43
abbrev F.qck : Nat := 44
abbrev F.qaj : Nat := 45
abbrev F.qai : Nat := 46
abbrev F.qbd : Nat := 47
abbrev F.qbx : Nat := 48
abbrev F.qdp : Nat := 49
abbrev F.qdx : Nat := 50
abbrev F.qdj : Nat := 51
abbrev F.qbu : Nat := 52
abbrev F.qcn : Nat := 55
abbrev F.qcs : Nat := 56
abbrev F.qcq : Nat := 57
abbrev F.qbm : Nat := 58
abbrev F.qcb : Nat := 60
abbrev F.qby : Nat := 61
abbrev F.maps_Keys_map_int_chans_Asm_int_chans_Asm_1 : Nat := 62
abbrev F.qam : Nat := 63
abbrev F.qbt : Nat := 64
abbrev F.qdv : Nat := 65
abbrev F.qbz : Nat := 67
abbrev F.qaq : Nat := 68
abbrev F.qbv : Nat := 69
abbrev F.qbs : Nat := 70
abbrev F.qdn : Nat := 71
abbrev F.qch : Nat := 73
abbrev F.qcv : Nat := 74
abbrev F.qct : Nat := 75
abbrev F.qbe : Nat := 76
abbrev F.qbk : Nat := 77
abbrev F.qan : Nat := 78
abbrev F.slices_AppendSeq_int_int : Nat := 80
abbrev F.qac : Nat := 81
abbrev F.math_bits_Len : Nat := 82
abbrev F.qdq : Nat := 83
abbrev F.qcp : Nat := 84
abbrev F.qbj : Nat := 85
abbrev F.qal : Nat := 86
abbrev F.qbq : Nat := 87
abbrev F.qdr : Nat := 88
abbrev F.qah : Nat := 89
abbrev F.qaf : Nat := 90
abbrev F.qbl : Nat := 91
abbrev F.qat : Nat := 92
abbrev F.qea : Nat := 93
abbrev F.qdh : Nat := 94
abbrev F.qak : Nat := 95
abbrev F.qbn : Nat := 96
abbrev F.qds : Nat := 97
abbrev F.qao : Nat := 98
abbrev F.qaa : Nat := 99
abbrev F.slices_heapSortOrdered_int : Nat := 100
abbrev F.slices_breakPatternsOrdered_int : Nat := 101
abbrev F.slices_choosePivotOrdered_int : Nat := 102
abbrev F.slices_reverseRangeOrdered_int : Nat := 103
abbrev F.slices_partialInsertionSortOrdered_int : Nat := 104
abbrev F.qde : Nat := 105
abbrev F.slices_partitionEqualOrdered_int : Nat := 106
abbrev F.slices_partitionOrdered_int : Nat := 107
abbrev F.math_bits_Len64 : Nat := 109
abbrev F.qdz : Nat := 110
abbrev F.qbw : Nat := 111
abbrev F.qcm : Nat := 112
abbrev F.qcf : Nat := 113
abbrev F.qcd : Nat := 114
abbrev F.qbb : Nat := 115
abbrev F.qdk : Nat := 116
abbrev F.qbc : Nat := 117
abbrev F.qdy : Nat := 118
abbrev F.qdd : Nat := 119
abbrev F.qdf : Nat := 120
abbrev F.qcu : Nat := 121
abbrev F.qdw : Nat := 122
abbrev F.qda : Nat := 128
abbrev F.qdo : Nat := 129
abbrev F.qdi : Nat := 130
abbrev F.qdb : Nat := 131
abbrev F.qdc : Nat := 132
abbrev F.qdm : Nat := 133
abbrev F.qbg : Nat := 134
abbrev F.qcx : Nat := 135
abbrev F.qcy : Nat := 136
abbrev F.qbp : Nat := 137
abbrev F.qay : Nat := 139
abbrev F.qbf : Nat := 140
abbrev F.qaz : Nat := 141
abbrev F.qeb : Nat := 142
abbrev F.qcw : Nat := 143
abbrev F.qcr : Nat := 144
abbrev F.qar : Nat := 145
abbrev F.qbo : Nat := 146
abbrev F.qdt : Nat := 147
abbrev T.unit : Nat := 0
abbrev T.int : Nat := 3
abbrev T.bool : Nat := 4
abbrev T.uint8 : Nat := 5
abbrev T.string : Nat := 9
abbrev T.sl_uint8 : Nat := 23
abbrev T.sl_uint64 : Nat := 31
abbrev T.sl_string : Nat := 32
abbrev T.sl_bool : Nat := 33
abbrev T.sl_api_Field : Nat := 34
abbrev T.api_Method : Nat := 36
abbrev T.uint64 : Nat := 37
abbrev T.api_Head : Nat := 39
abbrev T.api_Ask : Nat := 41
abbrev T.api_Event : Nat := 43
abbrev T.api_Frame : Nat := 57
abbrev T.struct_b_sl_uint8_code_int_class_int_id_int : Nat := 64
abbrev T.sl_struct_b_sl_uint8_code_int_class_int_id_int : Nat := 65
abbrev T.map_int_p_chans_Asm : Nat := 75
abbrev T.map_int_int : Nat := 76
abbrev T.sl_api_Event : Nat := 77
abbrev T.conns_Conn : Nat := 79
abbrev T.p_chans_Asm : Nat := 86
abbrev T.t2_int : Nat := 121
abbrev T.api_Field : Nat := 126
abbrev T.octs_In : Nat := 128
abbrev T.meth_writer : Nat := 141
abbrev T.sl_meth_known : Nat := 164
abbrev T.map_2_int_int : Nat := 166
abbrev T.meth_known : Nat := 169
abbrev T.chans_Asm : Nat := 177
abbrev T.map_string_int : Nat := 199
end Go.Proofs.YtjapglfpjhljpaaGreat.Pr
end
section
set_option linter.unusedVariables false
set_option maxRecDepth 100000
namespace Go.Proofs.YtjapglfpjhljpaaGreat.Pr
open Go Go.Lift Go.Proofs
def qdn.p0 (K : KT) (t0 : Int) (h : Heap) : Prop :=
  bd ((if (8 : Int) < (if (1 : Int) > t0 then 1 else t0) then 8 else (if (1 : Int) > t0 then 1 else t0)) : Int) fun n1 => K (.int .i64 n1) h
def qdn.plan (K : KT) : Plan := .go
theorem qdn.ev_eq : qdn.p0 = fun K t0 h => Ev P Tryz.f71 (qdn.plan K) K [.int .i64 t0] h := by kernel_rfl
theorem qdn.obl (K : KT) : Obl P Tryz.f71 (qdn.plan K) K :=
  obl_true (by kernel_rfl)
theorem qdn.ok {K : KT} {t0 : Int} {h : Heap} (H : qdn.p0 K t0 h) : CallsH P F.qdn [.int .i64 t0] K h :=
  calls_of_Ev (qdn.plan K) Tryz.func71 (by kernel_rfl) (qdn.obl K) (by rw [qdn.ev_eq] at H; exact H)
def qcp.L1 (K : KT) : Nat → OA → Nat → Nat → Int → Int → Heap → Prop
  | 0, _, _, _, _, _, _ => False
  | fuel + 1, b_0, b_0l, b_0c, v_2, i_7, h => ((decide (i_7 ≥ 0)) = true → (0 : Int) ≤ 3 ∧ (0 : Int) ≤ (IntKind.u64.wrap (shlI .i64 i_7 3)) ∧ bd (al h #[.int .u8 (IntKind.u8.wrap (shrI .u64 v_2 (IntKind.u64.wrap (shlI .i64 i_7 3))))] T.uint8) fun h8 => SemH P (Builtin.append_ #[T.sl_uint8, T.sl_uint8] T.sl_uint8 #[.slice b_0 b_0l b_0c, .slice (some (top h)) 1 1]) (fun v9 x => ∃ p q r, v9 = .slice p q r ∧ bd ((IntKind.i64.wrap (i_7 - 1)) : Int) fun i_12 => (qcp.L1 K fuel) p q r v_2 i_12 x) h8) ∧ ((decide (i_7 ≥ 0)) = false → K (.slice b_0 b_0l b_0c) h)
termination_by structural n => n
def qcp.L1.l : Live := [(0, .slice), (2, .int .u64), (7, .int .i64)]
def qcp.L1.j (K : KT) : Nat → Tup qcp.L1.l → Heap → Prop := fun n x h => qcp.L1 K n x.1.1 x.1.2.1 x.1.2.2 x.2.1 x.2.2.1 h
def qcp.p0 (K : KT) (b_0 : OA) (b_0l : Nat) (b_0c : Nat) (t1 : Int) (v_2 : Int) (h : Heap) : Prop :=
  CallsH P F.qbu [.slice b_0 b_0l b_0c] (fun v1 h2 => ∃ a3 p q, v1 = .slice a3 p q ∧ CallsH P F.qdn [.int .i64 t1] (fun v4 h5 => ∃ n6, v4 = .int .i64 n6 ∧ bd ((IntKind.i64.wrap (n6 - 1)) : Int) fun i_7 => ∃ fuel13, qcp.L1 K fuel13 a3 p q v_2 i_7 h5) h2) h
def qcp.plan (K : KT) : Plan := (.seq .go (.seq .go (.seq (.seq .go (.block (.loop qcp.L1.l (qcp.L1.j K) (fun n1 => .go)))) .go)))
theorem qcp.ev_eq : qcp.p0 = fun K b_0 b_0l b_0c t1 v_2 h => Ev P Tryz.f84 (qcp.plan K) K [.slice b_0 b_0l b_0c, .int .i64 t1, .int .u64 v_2] h := by kernel_rfl
theorem qcp.obl (K : KT) : Obl P Tryz.f84 (qcp.plan K) K :=
  obl_of (R := (∀ x h, ¬ (qcp.L1.j K) 0 x h) ∧ ImpN (qcp.L1.j K) ∧ (∀ (n1 : Nat), True) ∧ True) (by kernel_rfl) ⟨fun _ _ H => H, impN _, fun _ => trivial, trivial⟩
theorem qcp.ok {K : KT} {b_0 : OA} {b_0l : Nat} {b_0c : Nat} {t1 : Int} {v_2 : Int} {h : Heap} (H : qcp.p0 K b_0 b_0l b_0c t1 v_2 h) : CallsH P F.qcp [.slice b_0 b_0l b_0c, .int .i64 t1, .int .u64 v_2] K h :=
  calls_of_Ev (qcp.plan K) Tryz.func84 (by kernel_rfl) (qcp.obl K) (by rw [qcp.ev_eq] at H; exact H)
def qdr.p0 (K : KT) (b_0 : OA) (b_0l : Nat) (b_0c : Nat) (s_1 : OA) (s_1l : Nat) (s_1c : Nat) (h : Heap) : Prop :=
  CallsH P F.qcp [.slice b_0 b_0l b_0c, .int .i64 4, .int .u64 (IntKind.u64.wrap ((s_1l : Nat) : Int))] (fun v1 h2 => ∃ a3 p q, v1 = .slice a3 p q ∧ SemH P (Builtin.append_ #[T.sl_uint8, T.sl_uint8] T.sl_uint8 #[.slice a3 p q, .slice s_1 s_1l s_1c]) (fun v4 h5 => ∃ a6 r x, v4 = .slice a6 r x ∧ K (.slice a6 r x) h5) h2) h
def qdr.plan (K : KT) : Plan := .go
theorem qdr.ev_eq : qdr.p0 = fun K b_0 b_0l b_0c s_1 s_1l s_1c h => Ev P Tryz.f88 (qdr.plan K) K [.slice b_0 b_0l b_0c, .slice s_1 s_1l s_1c] h := by kernel_rfl
theorem qdr.obl (K : KT) : Obl P Tryz.f88 (qdr.plan K) K :=
  obl_true (by kernel_rfl)
theorem qdr.ok {K : KT} {b_0 : OA} {b_0l : Nat} {b_0c : Nat} {s_1 : OA} {s_1l : Nat} {s_1c : Nat} {h : Heap} (H : qdr.p0 K b_0 b_0l b_0c s_1 s_1l s_1c h) : CallsH P F.qdr [.slice b_0 b_0l b_0c, .slice s_1 s_1l s_1c] K h :=
  calls_of_Ev (qdr.plan K) Tryz.func88 (by kernel_rfl) (qdr.obl K) (by rw [qdr.ev_eq] at H; exact H)
def qdo.p0 (K : KT) (b_0 : OA) (b_0l : Nat) (b_0c : Nat) (s_1 : List UInt8) (h : Heap) : Prop :=
  ((decide (((List.length s_1 : Nat) : Int) > 255)) = true → CallsH P F.qbu [.slice b_0 b_0l b_0c] (fun v1 h2 => ∃ a3 p q, v1 = .slice a3 p q ∧ K (.tuple #[.slice a3 p q, .bool false]) h2) h) ∧ ((decide (((List.length s_1 : Nat) : Int) > 255)) = false → CallsH P F.qcp [.slice b_0 b_0l b_0c, .int .i64 1, .int .u64 (IntKind.u64.wrap ((List.length s_1 : Nat) : Int))] (fun v4 h5 => ∃ a6 r x, v4 = .slice a6 r x ∧ SemH P (Builtin.append_ #[T.sl_uint8, T.string] T.sl_uint8 #[.slice a6 r x, .string (mkS s_1)]) (fun v7 h8 => ∃ a9 z aa, v7 = .slice a9 z aa ∧ K (.tuple #[.slice a9 z aa, .bool true]) h8) h5) h)
def qdo.plan (K : KT) : Plan := .go
theorem qdo.ev_eq : qdo.p0 = fun K b_0 b_0l b_0c s_1 h => Ev P Tryz.f129 (qdo.plan K) K [.slice b_0 b_0l b_0c, .string (mkS s_1)] h := by kernel_rfl
theorem qdo.obl (K : KT) : Obl P Tryz.f129 (qdo.plan K) K :=
  obl_true (by kernel_rfl)
theorem qdo.ok {K : KT} {b_0 : OA} {b_0l : Nat} {b_0c : Nat} {s_1 : List UInt8} {h : Heap} (H : qdo.p0 K b_0 b_0l b_0c s_1 h) : CallsH P F.qdo [.slice b_0 b_0l b_0c, .string (mkS s_1)] K h :=
  calls_of_Ev (qdo.plan K) Tryz.func129 (by kernel_rfl) (qdo.obl K) (by rw [qdo.ev_eq] at H; exact H)
def qdx.p0 (K : KT) (b_0 : OA) (b_0l : Nat) (b_0c : Nat) (h : Heap) : Prop :=
  bd (al h #[.slice b_0 b_0l b_0c, .bool false] T.octs_In) fun h1 => K (.pointer (some (top h))) h1
def qdx.plan (K : KT) : Plan := .go
theorem qdx.ev_eq : qdx.p0 = fun K b_0 b_0l b_0c h => Ev P Tryz.f50 (qdx.plan K) K [.slice b_0 b_0l b_0c] h := by kernel_rfl
theorem qdx.obl (K : KT) : Obl P Tryz.f50 (qdx.plan K) K :=
  obl_true (by kernel_rfl)
theorem qdx.ok {K : KT} {b_0 : OA} {b_0l : Nat} {b_0c : Nat} {h : Heap} (H : qdx.p0 K b_0 b_0l b_0c h) : CallsH P F.qdx [.slice b_0 b_0l b_0c] K h :=
  calls_of_Ev (qdx.plan K) Tryz.func50 (by kernel_rfl) (qdx.obl K) (by rw [qdx.ev_eq] at H; exact H)
def qbs.j1 (K : KT) (r_0 : OA) (t1 : Int) (x : Bool) (h : Heap) : Prop :=
  (x = true → ∃ p1, r_0 = some p1 ∧ ∃ h2, stC h (Addr.add p1 0) 0 [.slice none 0 0] = some h2 ∧ ∃ p3, r_0 = some p3 ∧ ∃ h4, stC h2 (Addr.add p3 1) 0 [.bool true] = some h4 ∧ K (.slice none 0 0) h4) ∧ (x = false → ∃ p5, r_0 = some p5 ∧ ∃ a6 af p, hcell h (Addr.add p5 0) = some (.slice a6 af p) ∧ inB t1 p ∧ CallsH P F.qbu [.slice (slA a6 0 p 1) (Int.toNat t1) p] (fun v7 h8 => ∃ a9 z aa, v7 = .slice a9 z aa ∧ ∃ ab, r_0 = some ab ∧ ∃ ac q r, hcell h8 (Addr.add ab 0) = some (.slice ac q r) ∧ inB t1 q ∧ ∃ ad, r_0 = some ad ∧ ∃ ae, stC h8 (Addr.add ad 0) 0 [.slice (slA ac (Int.toNat t1) r 1) (q - Int.toNat t1) (r - Int.toNat t1)] = some ae ∧ K (.slice a9 z aa) ae) h)
def qbs.j1.l : Live := [(0, .ptr), (1, .int .u64), (19, .bool)]
def qbs.j1.j (K : KT) : Tup qbs.j1.l → Heap → Prop := fun x h => qbs.j1 K x.1 x.2.1 x.2.2.1 h
def qbs.p0 (K : KT) (r_0 : OA) (t1 : Int) (h : Heap) : Prop :=
  ∃ q, r_0 = some q ∧ ∃ p, hcell h (Addr.add q 1) = some (.bool p) ∧ (p = false → ∃ r, r_0 = some r ∧ ∃ z x aa, hcell h (Addr.add r 0) = some (.slice z x aa) ∧ qbs.j1 K r_0 t1 (decide (t1 > (IntKind.u64.wrap ((x : Nat) : Int)))) h) ∧ (p = true → qbs.j1 K r_0 t1 true h)
def qbs.plan (K : KT) : Plan := (.seq .go (.seq (.cut qbs.j1.l (qbs.j1.j K) .go .go) .go))
theorem qbs.ev_eq : qbs.p0 = fun K r_0 t1 h => Ev P Tryz.f70 (qbs.plan K) K [.pointer r_0, .int .u64 t1] h := by kernel_rfl
theorem qbs.obl (K : KT) : Obl P Tryz.f70 (qbs.plan K) K :=
  obl_of (R := Imp (qbs.j1.j K) ∧ True) (by kernel_rfl) ⟨imp _, trivial⟩
theorem qbs.ok {K : KT} {r_0 : OA} {t1 : Int} {h : Heap} (H : qbs.p0 K r_0 t1 h) : CallsH P F.qbs [.pointer r_0, .int .u64 t1] K h :=
  calls_of_Ev (qbs.plan K) Tryz.func70 (by kernel_rfl) (qbs.obl K) (by rw [qbs.ev_eq] at H; exact H)
def qbv.L1 (K : KT) : Nat → Int → OA → Nat → Nat → Int → Int → Heap → Prop
  | 0, _, _, _, _, _, _, _ => False
  | fuel + 1, v_3, t6, p, q, t7, t8, h => ((decide (t8 < t7)) = true → ∃ p1, t6 = some p1 ∧ (0 : Int) ≤ t8 ∧ t8 < ((p : Nat) : Int) ∧ ∃ n2, hcell h (Addr.add p1 (Int.toNat t8 * 1)) = some (.int .u8 n2) ∧ (0 : Int) ≤ 8 ∧ bd ((bitsI .or .u64 (shlI .u64 v_3 8) (IntKind.u64.wrap n2)) : Int) fun v_3 => (qbv.L1 K fuel) v_3 t6 p q t7 (IntKind.i64.wrap (t8 + 1)) h) ∧ ((decide (t8 < t7)) = false → K (.int .u64 v_3) h)
termination_by structural n => n
def qbv.L1.l : Live := [(3, .int .u64), (6, .slice), (7, .int .i64), (8, .int .i64)]
def qbv.L1.j (K : KT) : Nat → Tup qbv.L1.l → Heap → Prop := fun n x h => qbv.L1 K n x.1 x.2.1.1 x.2.1.2.1 x.2.1.2.2 x.2.2.1 x.2.2.2.1 h
def qbv.p0 (K : KT) (b_0 : OA) (b_0l : Nat) (b_0c : Nat) (h : Heap) : Prop :=
  ∃ fuel4, qbv.L1 K fuel4 0 b_0 b_0l b_0c ((b_0l : Nat) : Int) 0 h
def qbv.plan (K : KT) : Plan := (.seq .go (.seq .go (.seq (.seq .go (.block (.loop qbv.L1.l (qbv.L1.j K) (fun n1 => .go)))) .go)))
theorem qbv.ev_eq : qbv.p0 = fun K b_0 b_0l b_0c h => Ev P Tryz.f69 (qbv.plan K) K [.slice b_0 b_0l b_0c] h := by kernel_rfl
theorem qbv.obl (K : KT) : Obl P Tryz.f69 (qbv.plan K) K :=
  obl_of (R := (∀ x h, ¬ (qbv.L1.j K) 0 x h) ∧ ImpN (qbv.L1.j K) ∧ (∀ (n1 : Nat), True) ∧ True) (by kernel_rfl) ⟨fun _ _ H => H, impN _, fun _ => trivial, trivial⟩
theorem qbv.ok {K : KT} {b_0 : OA} {b_0l : Nat} {b_0c : Nat} {h : Heap} (H : qbv.p0 K b_0 b_0l b_0c h) : CallsH P F.qbv [.slice b_0 b_0l b_0c] K h :=
  calls_of_Ev (qbv.plan K) Tryz.func69 (by kernel_rfl) (qbv.obl K) (by rw [qbv.ev_eq] at H; exact H)
def qdj.p0 (K : KT) (r_0 : OA) (t1 : Int) (h : Heap) : Prop :=
  CallsH P F.qdn [.int .i64 t1] (fun v1 h2 => ∃ n3, v1 = .int .i64 n3 ∧ CallsH P F.qbs [.pointer r_0, .int .u64 (IntKind.u64.wrap n3)] (fun v4 h5 => ∃ a6 p q, v4 = .slice a6 p q ∧ CallsH P F.qbv [.slice a6 p q] (fun v7 h8 => ∃ n9, v7 = .int .u64 n9 ∧ K (.int .u64 n9) h8) h5) h2) h
def qdj.plan (K : KT) : Plan := .go
theorem qdj.ev_eq : qdj.p0 = fun K r_0 t1 h => Ev P Tryz.f51 (qdj.plan K) K [.pointer r_0, .int .i64 t1] h := by kernel_rfl
theorem qdj.obl (K : KT) : Obl P Tryz.f51 (qdj.plan K) K :=
  obl_true (by kernel_rfl)
theorem qdj.ok {K : KT} {r_0 : OA} {t1 : Int} {h : Heap} (H : qdj.p0 K r_0 t1 h) : CallsH P F.qdj [.pointer r_0, .int .i64 t1] K h :=
  calls_of_Ev (qdj.plan K) Tryz.func51 (by kernel_rfl) (qdj.obl K) (by rw [qdj.ev_eq] at H; exact H)
def qdk.p0 (K : KT) (r_0 : OA) (h : Heap) : Prop :=
  ∃ p1, r_0 = some p1 ∧ ∃ b2, hcell h (Addr.add p1 1) = some (.bool b2) ∧ bd ((!b2) : Bool) fun b3 => K (.bool b3) h
def qdk.plan (K : KT) : Plan := .go
theorem qdk.ev_eq : qdk.p0 = fun K r_0 h => Ev P Tryz.f116 (qdk.plan K) K [.pointer r_0] h := by kernel_rfl
theorem qdk.obl (K : KT) : Obl P Tryz.f116 (qdk.plan K) K :=
  obl_true (by kernel_rfl)
theorem qdk.ok {K : KT} {r_0 : OA} {h : Heap} (H : qdk.p0 K r_0 h) : CallsH P F.qdk [.pointer r_0] K h :=
  calls_of_Ev (qdk.plan K) Tryz.func116 (by kernel_rfl) (qdk.obl K) (by rw [qdk.ev_eq] at H; exact H)
def qbf.j1 (K : KT) (r_0 : OA) (t1 : Int) (z : Bool) (h : Heap) : Prop :=
  (z = true → CallsH P F.qbs [.pointer r_0, .int .u64 (IntKind.u64.wrap t1)] (fun v1 h2 => ∃ a3 aa ab, v1 = .slice a3 aa ab ∧ K (.slice a3 aa ab) h2) h) ∧ (z = false → ∃ p4, r_0 = some p4 ∧ ∃ a5 ao p, hcell h (Addr.add p4 0) = some (.slice a5 ao p) ∧ inB t1 p ∧ CallsH P F.qbv [.slice (slA a5 0 p 1) (Int.toNat t1) p] (fun v6 h7 => ∃ n8, v6 = .int .u64 n8 ∧ ∃ p9, r_0 = some p9 ∧ ∃ aq q ar, hcell h7 (Addr.add p9 0) = some (.slice aq q ar) ∧ ((decide (n8 > (IntKind.u64.wrap (IntKind.i64.wrap (((q : Nat) : Int) - t1))))) = true → ∃ ac, r_0 = some ac ∧ ∃ ad, stC h7 (Addr.add ac 0) 0 [.slice none 0 0] = some ad ∧ ∃ ae, r_0 = some ae ∧ ∃ af, stC ad (Addr.add ae 1) 0 [.bool true] = some af ∧ K (.slice none 0 0) af) ∧ ((decide (n8 > (IntKind.u64.wrap (IntKind.i64.wrap (((q : Nat) : Int) - t1))))) = false → ∃ ag, r_0 = some ag ∧ ∃ ah r x, hcell h7 (Addr.add ag 0) = some (.slice ah r x) ∧ inB t1 r ∧ ∃ ai, r_0 = some ai ∧ ∃ aj, stC h7 (Addr.add ai 0) 0 [.slice (slA ah (Int.toNat t1) x 1) (r - Int.toNat t1) (x - Int.toNat t1)] = some aj ∧ CallsH P F.qbs [.pointer r_0, .int .u64 n8] (fun au aw => ∃ ak am an, au = .slice ak am an ∧ K (.slice ak am an) aw) aj)) h)
def qbf.j1.l : Live := [(0, .ptr), (1, .int .i64), (18, .bool)]
def qbf.j1.j (K : KT) : Tup qbf.j1.l → Heap → Prop := fun x h => qbf.j1 K x.1 x.2.1 x.2.2.1 h
def qbf.p0 (K : KT) (r_0 : OA) (t1 : Int) (h : Heap) : Prop :=
  ∃ q, r_0 = some q ∧ ∃ p, hcell h (Addr.add q 1) = some (.bool p) ∧ (p = false → ∃ r, r_0 = some r ∧ ∃ z x aa, hcell h (Addr.add r 0) = some (.slice z x aa) ∧ qbf.j1 K r_0 t1 (decide (((x : Nat) : Int) < t1)) h) ∧ (p = true → qbf.j1 K r_0 t1 true h)
def qbf.plan (K : KT) : Plan := (.seq .go (.seq (.cut qbf.j1.l (qbf.j1.j K) .go .go) .go))
theorem qbf.ev_eq : qbf.p0 = fun K r_0 t1 h => Ev P Tryz.f140 (qbf.plan K) K [.pointer r_0, .int .i64 t1] h := by kernel_rfl
theorem qbf.obl (K : KT) : Obl P Tryz.f140 (qbf.plan K) K :=
  obl_of (R := Imp (qbf.j1.j K) ∧ True) (by kernel_rfl) ⟨imp _, trivial⟩
theorem qbf.ok {K : KT} {r_0 : OA} {t1 : Int} {h : Heap} (H : qbf.p0 K r_0 t1 h) : CallsH P F.qbf [.pointer r_0, .int .i64 t1] K h :=
  calls_of_Ev (qbf.plan K) Tryz.func140 (by kernel_rfl) (qbf.obl K) (by rw [qbf.ev_eq] at H; exact H)
def qdb.p0 (K : KT) (r_0 : OA) (h : Heap) : Prop :=
  CallsH P F.qbf [.pointer r_0, .int .i64 1] (fun v1 h2 => ∃ a3 p q, v1 = .slice a3 p q ∧ SemH P (Go.convert T.sl_uint8 T.string (.slice a3 p q)) (fun v4 h5 => ∃ s6, v4 = .string (mkS s6) ∧ K (.string (mkS s6)) h5) h2) h
def qdb.plan (K : KT) : Plan := .go
theorem qdb.ev_eq : qdb.p0 = fun K r_0 h => Ev P Tryz.f131 (qdb.plan K) K [.pointer r_0] h := by kernel_rfl
theorem qdb.obl (K : KT) : Obl P Tryz.f131 (qdb.plan K) K :=
  obl_true (by kernel_rfl)
theorem qdb.ok {K : KT} {r_0 : OA} {h : Heap} (H : qdb.p0 K r_0 h) : CallsH P F.qdb [.pointer r_0] K h :=
  calls_of_Ev (qdb.plan K) Tryz.func131 (by kernel_rfl) (qdb.obl K) (by rw [qdb.ev_eq] at H; exact H)
def qdc.p0 (K : KT) (r_0 : OA) (h : Heap) : Prop :=
  CallsH P F.qbf [.pointer r_0, .int .i64 4] (fun v1 h2 => ∃ a3 p q, v1 = .slice a3 p q ∧ K (.slice a3 p q) h2) h
def qdc.plan (K : KT) : Plan := .go
theorem qdc.ev_eq : qdc.p0 = fun K r_0 h => Ev P Tryz.f132 (qdc.plan K) K [.pointer r_0] h := by kernel_rfl
theorem qdc.obl (K : KT) : Obl P Tryz.f132 (qdc.plan K) K :=
  obl_true (by kernel_rfl)
theorem qdc.ok {K : KT} {r_0 : OA} {h : Heap} (H : qdc.p0 K r_0 h) : CallsH P F.qdc [.pointer r_0] K h :=
  calls_of_Ev (qdc.plan K) Tryz.func132 (by kernel_rfl) (qdc.obl K) (by rw [qdc.ev_eq] at H; exact H)
def qdd.p0 (K : KT) (r_0 : OA) (h : Heap) : Prop :=
  ∃ p1, r_0 = some p1 ∧ ∃ a2 p q, hcell h (Addr.add p1 0) = some (.slice a2 p q) ∧ bd (((p : Nat) : Int) : Int) fun n3 => K (.int .i64 n3) h
def qdd.plan (K : KT) : Plan := .go
theorem qdd.ev_eq : qdd.p0 = fun K r_0 h => Ev P Tryz.f119 (qdd.plan K) K [.pointer r_0] h := by kernel_rfl
theorem qdd.obl (K : KT) : Obl P Tryz.f119 (qdd.plan K) K :=
  obl_true (by kernel_rfl)
theorem qdd.ok {K : KT} {r_0 : OA} {h : Heap} (H : qdd.p0 K r_0 h) : CallsH P F.qdd [.pointer r_0] K h :=
  calls_of_Ev (qdd.plan K) Tryz.func119 (by kernel_rfl) (qdd.obl K) (by rw [qdd.ev_eq] at H; exact H)
end Go.Proofs.YtjapglfpjhljpaaGreat.Pr
end
section
set_option linter.unusedVariables false
set_option maxRecDepth 100000
namespace Go.Proofs.YtjapglfpjhljpaaGreat.Pr
open Go Go.Lift Go.Proofs
def qbu.p0 (K : KT) (s_0 : OA) (s_0l : Nat) (s_0c : Nat) (h : Heap) : Prop :=
  ((Option.isNone s_0) = true → K (.slice none 0 0) h) ∧ ((Option.isNone s_0) = false → bd (al h #[] T.uint8) fun h1 => SemH P (Builtin.append_ #[T.sl_uint8, T.sl_uint8] T.sl_uint8 #[.slice (some (top h)) 0 0, .slice s_0 s_0l s_0c]) (fun v2 h3 => ∃ a4 p q, v2 = .slice a4 p q ∧ K (.slice a4 p q) h3) h1)
def qbu.plan (K : KT) : Plan := .go
theorem qbu.ev_eq : qbu.p0 = fun K s_0 s_0l s_0c h => Ev P Tryz.f52 (qbu.plan K) K [.slice s_0 s_0l s_0c] h := by kernel_rfl
theorem qbu.obl (K : KT) : Obl P Tryz.f52 (qbu.plan K) K :=
  obl_true (by kernel_rfl)
theorem qbu.ok {K : KT} {s_0 : OA} {s_0l : Nat} {s_0c : Nat} {h : Heap} (H : qbu.p0 K s_0 s_0l s_0c h) : CallsH P F.qbu [.slice s_0 s_0l s_0c] K h :=
  calls_of_Ev (qbu.plan K) Tryz.func52 (by kernel_rfl) (qbu.obl K) (by rw [qbu.ev_eq] at H; exact H)
end Go.Proofs.YtjapglfpjhljpaaGreat.Pr
end
section
set_option linter.unusedVariables false
set_option maxRecDepth 100000
namespace Go.Proofs.YtjapglfpjhljpaaGreat.Pr
open Go Go.Lift Go.Proofs
def qdz.p0 (K : KT)  (h : Heap) : Prop :=
  ∃ p, bldS P T.sl_meth_known T.meth_known 49 [(0, .agg #[.int .i64 10, .int .i64 10, .string (mkS ([49, 49, 116, 108, 108] : List UInt8))]), (1, .agg #[.int .i64 10, .int .i64 11, .string (mkS ([116, 115, 108, 115] : List UInt8))]), (2, .agg #[.int .i64 10, .int .i64 30, .string (mkS ([50, 52, 50] : List UInt8))]), (3, .agg #[.int .i64 10, .int .i64 31, .string (mkS ([50, 52, 50] : List UInt8))]), (4, .agg #[.int .i64 10, .int .i64 40, .string (mkS ([115, 115, 102] : List UInt8))]), (5, .agg #[.int .i64 10, .int .i64 41, .string (mkS ([115] : List UInt8))]), (6, .agg #[.int .i64 10, .int .i64 50, .string (mkS ([50, 115, 50, 50] : List UInt8))]), (7, .agg #[.int .i64 10, .int .i64 51, .string (mkS ([] : List UInt8))]), (8, .agg #[.int .i64 20, .int .i64 10, .string (mkS ([115] : List UInt8))]), (9, .agg #[.int .i64 20, .int .i64 11, .string (mkS ([108] : List UInt8))]), (10, .agg #[.int .i64 20, .int .i64 40, .string (mkS ([50, 115, 50, 50] : List UInt8))]), (11, .agg #[.int .i64 20, .int .i64 41, .string (mkS ([] : List UInt8))]), (12, .agg #[.int .i64 40, .int .i64 10, .string (mkS ([50, 115, 115, 102, 102, 102, 102, 102, 116] : List UInt8))]), (13, .agg #[.int .i64 40, .int .i64 11, .string (mkS ([] : List UInt8))]), (14, .agg #[.int .i64 40, .int .i64 20, .string (mkS ([50, 115, 102, 102] : List UInt8))]), (15, .agg #[.int .i64 40, .int .i64 21, .string (mkS ([] : List UInt8))]), (16, .agg #[.int .i64 50, .int .i64 10, .string (mkS ([50, 115, 102, 102, 102, 102, 102, 116] : List UInt8))]), (17, .agg #[.int .i64 50, .int .i64 11, .string (mkS ([115, 52, 52] : List UInt8))]), (18, .agg #[.int .i64 50, .int .i64 20, .string (mkS ([50, 115, 115, 115, 102, 116] : List UInt8))]), (19, .agg #[.int .i64 50, .int .i64 21, .string (mkS ([] : List UInt8))]), (20, .agg #[.int .i64 50, .int .i64 30, .string (mkS ([50, 115, 102] : List UInt8))]), (21, .agg #[.int .i64 50, .int .i64 31, .string (mkS ([52] : List UInt8))]), (22, .agg #[.int .i64 50, .int .i64 40, .string (mkS ([50, 115, 102, 102, 102] : List UInt8))]), (23, .agg #[.int .i64 50, .int .i64 41, .string (mkS ([52] : List UInt8))]), (24, .agg #[.int .i64 50, .int .i64 50, .string (mkS ([50, 115, 115, 115, 116] : List UInt8))]), (25, .agg #[.int .i64 50, .int .i64 51, .string (mkS ([] : List UInt8))]), (26, .agg #[.int .i64 60, .int .i64 10, .string (mkS ([52, 50, 102] : List UInt8))]), (27, .agg #[.int .i64 60, .int .i64 11, .string (mkS ([] : List UInt8))]), (28, .agg #[.int .i64 60, .int .i64 20, .string (mkS ([50, 115, 115, 102, 102, 102, 102, 116] : List UInt8))]), (29, .agg #[.int .i64 60, .int .i64 21, .string (mkS ([115] : List UInt8))]), (30, .agg #[.int .i64 60, .int .i64 30, .string (mkS ([115, 102] : List UInt8))]), (31, .agg #[.int .i64 60, .int .i64 31, .string (mkS ([115] : List UInt8))]), (32, .agg #[.int .i64 60, .int .i64 40, .string (mkS ([50, 115, 115, 102, 102] : List UInt8))]), (33, .agg #[.int .i64 60, .int .i64 50, .string (mkS ([50, 115, 115, 115] : List UInt8))]), (34, .agg #[.int .i64 60, .int .i64 60, .string (mkS ([115, 56, 102, 115, 115] : List UInt8))]), (35, .agg #[.int .i64 60, .int .i64 70, .string (mkS ([50, 115, 102] : List UInt8))]), (36, .agg #[.int .i64 60, .int .i64 71, .string (mkS ([56, 102, 115, 115, 52] : List UInt8))]), (37, .agg #[.int .i64 60, .int .i64 72, .string (mkS ([115] : List UInt8))]), (38, .agg #[.int .i64 60, .int .i64 80, .string (mkS ([56, 102] : List UInt8))]), (39, .agg #[.int .i64 60, .int .i64 90, .string (mkS ([56, 102] : List UInt8))]), (40, .agg #[.int .i64 60, .int .i64 110, .string (mkS ([102] : List UInt8))]), (41, .agg #[.int .i64 60, .int .i64 111, .string (mkS ([] : List UInt8))]), (42, .agg #[.int .i64 60, .int .i64 120, .string (mkS ([56, 102, 102] : List UInt8))]), (43, .agg #[.int .i64 90, .int .i64 10, .string (mkS ([] : List UInt8))]), (44, .agg #[.int .i64 90, .int .i64 11, .string (mkS ([] : List UInt8))]), (45, .agg #[.int .i64 90, .int .i64 20, .string (mkS ([] : List UInt8))]), (46, .agg #[.int .i64 90, .int .i64 21, .string (mkS ([] : List UInt8))]), (47, .agg #[.int .i64 90, .int .i64 30, .string (mkS ([] : List UInt8))]), (48, .agg #[.int .i64 90, .int .i64 31, .string (mkS ([] : List UInt8))])] p ∧ bd (al h (List.toArray p) T.meth_known) fun h2 => bd ((some (top h)) : OA) fun a3 => bd (49 : Nat) fun q => bd (49 : Nat) fun r => K (.slice a3 q r) h2
def qdz.plan (K : KT) : Plan := .go
theorem qdz.ev_eq : qdz.p0 = fun K  h => Ev P Tryz.f110 (qdz.plan K) K [] h := by kernel_rfl
theorem qdz.obl (K : KT) : Obl P Tryz.f110 (qdz.plan K) K :=
  obl_true (by kernel_rfl)
theorem qdz.ok {K : KT}  {h : Heap} (H : qdz.p0 K  h) : CallsH P F.qdz [] K h :=
  calls_of_Ev (qdz.plan K) Tryz.func110 (by kernel_rfl) (qdz.obl K) (by rw [qdz.ev_eq] at H; exact H)
def qbw.L1 (K : KT) : Nat → Option Nat → OA → Nat → Nat → Int → Int → Heap → Prop
  | 0, _, _, _, _, _, _, _ => False
  | fuel + 1, out_3, t7, q, r, t8, t9, h => ((decide (t9 < t8)) = true → ∃ p2, t7 = some p2 ∧ (0 : Int) ≤ t9 ∧ t9 < ((q : Nat) : Int) ∧ ∃ p, rdC h (Addr.add p2 (Int.toNat t9 * 3)) 0 3 = some p ∧ bd (al h #[.int .i64 0, .int .i64 0, .string (mkS ([] : List UInt8))] T.meth_known) fun h4 => p.length = 3 ∧ ∃ h5, stC h4 (top h) 0 p = some h5 ∧ ∃ n6, hcell h5 (Addr.add (top h) 0) = some (.int .i64 n6) ∧ ∃ n7, hcell h5 (Addr.add (top h) 1) = some (.int .i64 n7) ∧ SemH P (unit (Instr.mapUpdate T.map_2_int_int (.map out_3) (.agg #[.int .i64 n6, .int .i64 n7]) (.int .i64 t9))) (fun v8 h9 => (qbw.L1 K fuel) out_3 t7 q r t8 (IntKind.i64.wrap (t9 + 1)) h9) h5) ∧ ((decide (t9 < t8)) = false → K (.map out_3) h)
termination_by structural n => n
def qbw.L1.l : Live := [(3, .map), (7, .slice), (8, .int .i64), (9, .int .i64)]
def qbw.L1.j (K : KT) : Nat → Tup qbw.L1.l → Heap → Prop := fun n x h => qbw.L1 K n x.1 x.2.1.1 x.2.1.2.1 x.2.1.2.2 x.2.2.1 x.2.2.2.1 h
def qbw.p0 (K : KT) (l_0 : OA) (l_0l : Nat) (l_0c : Nat) (h : Heap) : Prop :=
  bd (Array.push h (.map #[] 0)) fun h1 => ∃ fuel10, qbw.L1 K fuel10 (some (Array.size h)) l_0 l_0l l_0c ((l_0l : Nat) : Int) 0 h1
def qbw.plan (K : KT) : Plan := (.seq .go (.seq .go (.seq (.seq .go (.block (.loop qbw.L1.l (qbw.L1.j K) (fun n1 => .go)))) .go)))
theorem qbw.ev_eq : qbw.p0 = fun K l_0 l_0l l_0c h => Ev P Tryz.f111 (qbw.plan K) K [.slice l_0 l_0l l_0c] h := by kernel_rfl
theorem qbw.obl (K : KT) : Obl P Tryz.f111 (qbw.plan K) K :=
  obl_of (R := (∀ x h, ¬ (qbw.L1.j K) 0 x h) ∧ ImpN (qbw.L1.j K) ∧ (∀ (n1 : Nat), True) ∧ True) (by kernel_rfl) ⟨fun _ _ H => H, impN _, fun _ => trivial, trivial⟩
theorem qbw.ok {K : KT} {l_0 : OA} {l_0l : Nat} {l_0c : Nat} {h : Heap} (H : qbw.p0 K l_0 l_0l l_0c h) : CallsH P F.qbw [.slice l_0 l_0l l_0c] K h :=
  calls_of_Ev (qbw.plan K) Tryz.func111 (by kernel_rfl) (qbw.obl K) (by rw [qbw.ev_eq] at H; exact H)
def qdq.p0 (K : KT) (t0 : Int) (id_1 : Int) (h : Heap) : Prop :=
  CallsH P F.qdz [] (fun v1 h2 => ∃ a3 p r, v1 = .slice a3 p r ∧ CallsH P F.qbw [.slice a3 p r] (fun v4 h5 => ∃ m6, v4 = .map m6 ∧ SemH P (Instr.lookup T.map_2_int_int (.map m6) (.agg #[.int .i64 t0, .int .i64 id_1]) true) (fun v7 h8 => ∃ n9 q, v7 = .tuple #[.int .i64 n9, .bool q] ∧ ((!q) = true → K (.tuple #[.string (mkS ([] : List UInt8)), .bool false]) h8) ∧ ((!q) = false → ∃ x, a3 = some x ∧ (0 : Int) ≤ n9 ∧ n9 < ((p : Nat) : Int) ∧ ∃ s12, hcell h8 (Addr.add (Addr.add x (Int.toNat n9 * 3)) 2) = some (.string (mkS s12)) ∧ K (.tuple #[.string (mkS s12), .bool true]) h8)) h5) h2) h
def qdq.plan (K : KT) : Plan := .go
theorem qdq.ev_eq : qdq.p0 = fun K t0 id_1 h => Ev P Tryz.f83 (qdq.plan K) K [.int .i64 t0, .int .i64 id_1] h := by kernel_rfl
theorem qdq.obl (K : KT) : Obl P Tryz.f83 (qdq.plan K) K :=
  obl_true (by kernel_rfl)
theorem qdq.ok {K : KT} {t0 : Int} {id_1 : Int} {h : Heap} (H : qdq.p0 K t0 id_1 h) : CallsH P F.qdq [.int .i64 t0, .int .i64 id_1] K h :=
  calls_of_Ev (qdq.plan K) Tryz.func83 (by kernel_rfl) (qdq.obl K) (by rw [qdq.ev_eq] at H; exact H)
def qbj.j2 (K : KT) (R1 : List UInt8 → Int → Heap → Prop) (form_0 : List UInt8) (t3 : Int) (p : Bool) (h : Heap) : Prop :=
  (p = true → bd ((IntKind.i64.wrap (t3 + 1)) : Int) fun n_1 => R1 form_0 n_1 h) ∧ (p = false → K (.int .i64 t3) h)
def qbj.j2.l : Live := [(0, .str), (3, .int .i64), (13, .bool)]
def qbj.j2.j (K : KT) (R1 : List UInt8 → Int → Heap → Prop) : Tup qbj.j2.l → Heap → Prop := fun x h => qbj.j2 K R1 x.1 x.2.1 x.2.2.1 h
def qbj.L1 (K : KT) : Nat → List UInt8 → Int → Heap → Prop
  | 0, _, _, _ => False
  | fuel + 1, form_0, t3, h => ((decide (t3 < ((List.length form_0 : Nat) : Int))) = true → (0 : Int) ≤ t3 ∧ t3 < ((List.length form_0 : Nat) : Int) ∧ qbj.j2 K (qbj.L1 K fuel) form_0 t3 ((lb form_0 t3) == 102) h) ∧ ((decide (t3 < ((List.length form_0 : Nat) : Int))) = false → qbj.j2 K (qbj.L1 K fuel) form_0 t3 false h)
termination_by structural n => n
def qbj.L1.l : Live := [(0, .str), (3, .int .i64)]
def qbj.L1.j (K : KT) : Nat → Tup qbj.L1.l → Heap → Prop := fun n x h => qbj.L1 K n x.1 x.2.1 h
def qbj.p0 (K : KT) (form_0 : List UInt8) (h : Heap) : Prop :=
  ∃ fuel2, qbj.L1 K fuel2 form_0 0 h
def qbj.plan (K : KT) : Plan := (.seq .go (.seq .go (.seq (.block (.loop qbj.L1.l (qbj.L1.j K) (fun n1 => (.seq (.cut qbj.j2.l (qbj.j2.j K (qbj.L1 K n1)) .go .go) .go)))) .go)))
theorem qbj.ev_eq : qbj.p0 = fun K form_0 h => Ev P Tryz.f85 (qbj.plan K) K [.string (mkS form_0)] h := by kernel_rfl
theorem qbj.obl (K : KT) : Obl P Tryz.f85 (qbj.plan K) K :=
  obl_of (R := (∀ x h, ¬ (qbj.L1.j K) 0 x h) ∧ ImpN (qbj.L1.j K) ∧ (∀ (n1 : Nat), Imp (qbj.j2.j K (qbj.L1 K n1)) ∧ True) ∧ True) (by kernel_rfl) ⟨fun _ _ H => H, impN _, fun _ => ⟨imp _, trivial⟩, trivial⟩
theorem qbj.ok {K : KT} {form_0 : List UInt8} {h : Heap} (H : qbj.p0 K form_0 h) : CallsH P F.qbj [.string (mkS form_0)] K h :=
  calls_of_Ev (qbj.plan K) Tryz.func85 (by kernel_rfl) (qbj.obl K) (by rw [qbj.ev_eq] at H; exact H)
def qal.j1 (K : KT) (t0 : OA) (t1 : Int) (h : Heap) : Prop :=
  ∃ p3, t0 = some p3 ∧ ∃ a4 p q, hcell h (Addr.add (Addr.add p3 1) 4) = some (.slice a4 p q) ∧ inB t1 p ∧ ∃ p5, t0 = some p5 ∧ ∃ h6, stC h (Addr.add (Addr.add p5 1) 4) 0 [.slice (slA a4 (Int.toNat t1) q 1) (p - Int.toNat t1) (q - Int.toNat t1)] = some h6 ∧ K (.bool true) h6
def qal.j1.l : Live := [(0, .ptr), (1, .int .i64)]
def qal.j1.j (K : KT) : Tup qal.j1.l → Heap → Prop := fun x h => qal.j1 K x.1 x.2.1 h
def qal.j3 (K : KT) (R2 : OA → Int → OA → Nat → Nat → Int → Int → Heap → Prop) (t0 : OA) (t1 : Int) (p : OA) (q : Nat) (r : Nat) (x : Int) (z : Int) (h : Heap) : Prop :=
  R2 t0 t1 p q r x (IntKind.i64.wrap (z + 1)) h
def qal.j3.l : Live := [(0, .ptr), (1, .int .i64), (21, .slice), (22, .int .i64), (23, .int .i64)]
def qal.j3.j (K : KT) (R2 : OA → Int → OA → Nat → Nat → Int → Int → Heap → Prop) : Tup qal.j3.l → Heap → Prop := fun x h => qal.j3 K R2 x.1 x.2.1 x.2.2.1.1 x.2.2.1.2.1 x.2.2.1.2.2 x.2.2.2.1 x.2.2.2.2.1 h
def qal.j4 (K : KT) (R2 : OA → Int → OA → Nat → Nat → Int → Int → Heap → Prop) (t0 : OA) (t1 : Int) (t5 : Int) (t6 : Bool) (x : OA) (z : Nat) (aa : Nat) (ab : Int) (ac : Int) (h : Heap) : Prop :=
  (t6 = true → ∃ ad, t0 = some ad ∧ ∃ ae, t0 = some ae ∧ (8 : Int) ≠ 0 ∧ (0 : Int) ≤ (IntKind.u64.wrap (Int.tmod t5 8)) ∧ ∃ aj p ak, hcell h (Addr.add ae 0) = some (.slice aj p ak) ∧ ∃ q r am, hcell h (Addr.add ad 0) = some (.slice q r am) ∧ ∃ af, q = some af ∧ (0 : Int) ≤ (IntKind.i64.wrap (((p : Nat) : Int) - 1)) ∧ (IntKind.i64.wrap (((p : Nat) : Int) - 1)) < ((r : Nat) : Int) ∧ ∃ ag, hcell h (Addr.add af (Int.toNat (IntKind.i64.wrap (((p : Nat) : Int) - 1)) * 1)) = some (.int .u8 ag) ∧ ∃ ah, q = some ah ∧ (0 : Int) ≤ (IntKind.i64.wrap (((p : Nat) : Int) - 1)) ∧ (IntKind.i64.wrap (((p : Nat) : Int) - 1)) < ((r : Nat) : Int) ∧ ∃ ai, stC h (Addr.add ah (Int.toNat (IntKind.i64.wrap (((p : Nat) : Int) - 1)) * 1)) 0 [.int .u8 (bitsI .or .u8 ag (shlI .u8 1 (IntKind.u64.wrap (Int.tmod t5 8))))] = some ai ∧ qal.j3 K R2 t0 t1 x z aa ab ac ai) ∧ (t6 = false → qal.j3 K R2 t0 t1 x z aa ab ac h)
def qal.j4.l : Live := [(0, .ptr), (1, .int .i64), (5, .int .i64), (6, .bool), (21, .slice), (22, .int .i64), (23, .int .i64)]
def qal.j4.j (K : KT) (R2 : OA → Int → OA → Nat → Nat → Int → Int → Heap → Prop) : Tup qal.j4.l → Heap → Prop := fun x h => qal.j4 K R2 x.1 x.2.1 x.2.2.1 x.2.2.2.1 x.2.2.2.2.1.1 x.2.2.2.2.1.2.1 x.2.2.2.2.1.2.2 x.2.2.2.2.2.1 x.2.2.2.2.2.2.1 h
def qal.L2 (K : KT) : Nat → OA → Int → OA → Nat → Nat → Int → Int → Heap → Prop
  | 0, _, _, _, _, _, _, _, _ => False
  | fuel + 1, t0, t1, r, x, aa, q, p, h => ((decide (p < q)) = true → ∃ p9, r = some p9 ∧ (0 : Int) ≤ p ∧ p < ((x : Nat) : Int) ∧ ∃ z, hcell h (Addr.add p9 (Int.toNat p * 1)) = some (.bool z) ∧ (8 : Int) ≠ 0 ∧ (((Int.tmod p 8) == 0) = true → ∃ ab, t0 = some ab ∧ ∃ ac ad ae, hcell h (Addr.add ab 0) = some (.slice ac ad ae) ∧ bd (al h #[.int .u8 0] T.uint8) fun ak => SemH P (Builtin.append_ #[T.sl_uint8, T.sl_uint8] T.sl_uint8 #[.slice ac ad ae, .slice (some (top h)) 1 1]) (fun am an => ∃ af ag ah, am = .slice af ag ah ∧ ∃ ai, t0 = some ai ∧ ∃ aj, stC an (Addr.add ai 0) 0 [.slice af ag ah] = some aj ∧ qal.j4 K (qal.L2 K fuel) t0 t1 p z r x aa q p aj) ak) ∧ (((Int.tmod p 8) == 0) = false → qal.j4 K (qal.L2 K fuel) t0 t1 p z r x aa q p h)) ∧ ((decide (p < q)) = false → qal.j1 K t0 t1 h)
termination_by structural n => n
def qal.L2.l : Live := [(0, .ptr), (1, .int .i64), (21, .slice), (22, .int .i64), (23, .int .i64)]
def qal.L2.j (K : KT) : Nat → Tup qal.L2.l → Heap → Prop := fun n x h => qal.L2 K n x.1 x.2.1 x.2.2.1.1 x.2.2.1.2.1 x.2.2.1.2.2 x.2.2.2.1 x.2.2.2.2.1 h
def qal.p0 (K : KT) (t0 : OA) (t1 : Int) (h : Heap) : Prop :=
  ∃ p1, t0 = some p1 ∧ ∃ a2 q r, hcell h (Addr.add (Addr.add p1 1) 4) = some (.slice a2 q r) ∧ ((decide (((q : Nat) : Int) < t1)) = true → K (.bool false) h) ∧ ((decide (((q : Nat) : Int) < t1)) = false → ∃ p7, t0 = some p7 ∧ ∃ a8 x p, hcell h (Addr.add (Addr.add p7 1) 4) = some (.slice a8 x p) ∧ inB t1 p ∧ ∃ fuel27, qal.L2 K fuel27 t0 t1 (slA a8 0 p 1) (Int.toNat t1) p (((Int.toNat t1) : Nat) : Int) 0 h)
def qal.plan (K : KT) : Plan := (.seq .go (.seq .go (.cut qal.j1.l (qal.j1.j K) (.seq .go (.block (.loop qal.L2.l (qal.L2.j K) (fun n2 => (.seq .go (.seq .go (.cut qal.j3.l (qal.j3.j K (qal.L2 K n2)) (.block (.seq .go (.cut qal.j4.l (qal.j4.j K (qal.L2 K n2)) .go (.seq .go (.cond (.orders (.op 0 (.op 1 (.op 2 (.op 4 (.op 5 (.op 6 (.op 12 (.op 13 (.op 14 (.op 15 (.op 7 (.op 8 (.op 9 (.op 3 (.op 10 (.op 11 (.op 16 (.op 17 (.op 18 .nil)))))))))))))))))))) .go))))) .go))))))) .go)))
theorem qal.ev_eq : qal.p0 = fun K t0 t1 h => Ev P Tryz.f86 (qal.plan K) K [.pointer t0, .int .i64 t1] h := by kernel_rfl
theorem qal.obl (K : KT) : Obl P Tryz.f86 (qal.plan K) K :=
  obl_of (R := (∀ x h, ¬ (qal.L2.j K) 0 x h) ∧ ImpN (qal.L2.j K) ∧ (∀ (n2 : Nat), Imp (qal.j4.j K (qal.L2 K n2)) ∧ DrawOK P Tryz.f86.ntmps (opsAt 9 (bodyOf Tryz.f86)) (.op 0 (.op 1 (.op 2 (.op 4 (.op 5 (.op 6 (.op 12 (.op 13 (.op 14 (.op 15 (.op 7 (.op 8 (.op 9 (.op 3 (.op 10 (.op 11 (.op 16 (.op 17 (.op 18 .nil))))))))))))))))))) ∧ Imp (qal.j3.j K (qal.L2 K n2)) ∧ True) ∧ Imp (qal.j1.j K) ∧ True) (by kernel_rfl) ⟨fun _ _ H => H, impN _, fun _ => ⟨imp _, ⟨draw_ok (by kernel_rfl), ⟨imp _, trivial⟩⟩⟩, ⟨imp _, trivial⟩⟩
theorem qal.ok {K : KT} {t0 : OA} {t1 : Int} {h : Heap} (H : qal.p0 K t0 t1 h) : CallsH P F.qal [.pointer t0, .int .i64 t1] K h :=
  calls_of_Ev (qal.plan K) Tryz.func86 (by kernel_rfl) (qal.obl K) (by rw [qal.ev_eq] at H; exact H)
def qcm.p0 (K : KT) (w_0 : OA) (long_1 : Bool) (h : Heap) : Prop :=
  ∃ p1, w_0 = some p1 ∧ ∃ a2 q bb, hcell h (Addr.add (Addr.add p1 1) 3) = some (.slice a2 q bb) ∧ ((((q : Nat) : Int) == 0) = true → K (.bool false) h) ∧ ((((q : Nat) : Int) == 0) = false → ∃ p3, w_0 = some p3 ∧ ∃ a4 z bc, hcell h (Addr.add (Addr.add p3 1) 3) = some (.slice a4 z bc) ∧ ∃ p5, a4 = some p5 ∧ (0 : Int) ≤ 0 ∧ 0 < ((z : Nat) : Int) ∧ ∃ s6, hcell h (Addr.add p5 (Int.toNat 0 * 1)) = some (.string (mkS s6)) ∧ ∃ p7, w_0 = some p7 ∧ ∃ a8 r x, hcell h (Addr.add (Addr.add p7 1) 3) = some (.slice a8 r x) ∧ inB 1 r ∧ ∃ p9, w_0 = some p9 ∧ ∃ p, stC h (Addr.add (Addr.add p9 1) 3) 0 [.slice (slA a8 (Int.toNat 1) x 1) (r - Int.toNat 1) (x - Int.toNat 1)] = some p ∧ (long_1 = true → ∃ aa, w_0 = some aa ∧ ∃ ab ac ad, hcell p (Addr.add aa 0) = some (.slice ab ac ad) ∧ SemH P (Go.convert T.string T.sl_uint8 (.string (mkS s6))) (fun be bf => ∃ ae af ag, be = .slice ae af ag ∧ CallsH P F.qdr [.slice ab ac ad, .slice ae af ag] (fun bg bh => ∃ ah ai aj, bg = .slice ah ai aj ∧ ∃ ak, w_0 = some ak ∧ ∃ am, stC bh (Addr.add ak 0) 0 [.slice ah ai aj] = some am ∧ K (.bool true) am) bf) p) ∧ (long_1 = false → ∃ an, w_0 = some an ∧ ∃ ao aq ar, hcell p (Addr.add an 0) = some (.slice ao aq ar) ∧ CallsH P F.qdo [.slice ao aq ar, .string (mkS s6)] (fun bi bj => ∃ au aw ax ay, bi = .tuple #[.slice au aw ax, .bool ay] ∧ ∃ az, w_0 = some az ∧ ∃ ba, stC bj (Addr.add az 0) 0 [.slice au aw ax] = some ba ∧ K (.bool ay) ba) p))
def qcm.plan (K : KT) : Plan := .go
theorem qcm.ev_eq : qcm.p0 = fun K w_0 long_1 h => Ev P Tryz.f112 (qcm.plan K) K [.pointer w_0, .bool long_1] h := by kernel_rfl
theorem qcm.obl (K : KT) : Obl P Tryz.f112 (qcm.plan K) K :=
  obl_true (by kernel_rfl)
theorem qcm.ok {K : KT} {w_0 : OA} {long_1 : Bool} {h : Heap} (H : qcm.p0 K w_0 long_1 h) : CallsH P F.qcm [.pointer w_0, .bool long_1] K h :=
  calls_of_Ev (qcm.plan K) Tryz.func112 (by kernel_rfl) (qcm.obl K) (by rw [qcm.ev_eq] at H; exact H)
def qcf.p0 (K : KT) (w_0 : OA) (h : Heap) : Prop :=
  ∃ p1, w_0 = some p1 ∧ ∃ a2 p q, hcell h (Addr.add (Addr.add p1 1) 5) = some (.slice a2 p q) ∧ CallsH P F.qdi [.slice none 0 0, .slice a2 p q] (fun v3 h4 => ∃ a5 r x b6, v3 = .tuple #[.slice a5 r x, .bool b6] ∧ ∃ p7, w_0 = some p7 ∧ ∃ a8 z aa, hcell h4 (Addr.add p7 0) = some (.slice a8 z aa) ∧ CallsH P F.qdr [.slice a8 z aa, .slice a5 r x] (fun v9 ai => ∃ ab ac ad, v9 = .slice ab ac ad ∧ ∃ ae, w_0 = some ae ∧ ∃ af, stC ai (Addr.add ae 0) 0 [.slice ab ac ad] = some af ∧ ∃ ag, w_0 = some ag ∧ ∃ ah, stC af (Addr.add (Addr.add ag 1) 5) 0 [.slice none 0 0] = some ah ∧ K (.bool b6) ah) h4) h
def qcf.plan (K : KT) : Plan := .go
theorem qcf.ev_eq : qcf.p0 = fun K w_0 h => Ev P Tryz.f113 (qcf.plan K) K [.pointer w_0] h := by kernel_rfl
theorem qcf.obl (K : KT) : Obl P Tryz.f113 (qcf.plan K) K :=
  obl_true (by kernel_rfl)
theorem qcf.ok {K : KT} {w_0 : OA} {h : Heap} (H : qcf.p0 K w_0 h) : CallsH P F.qcf [.pointer w_0] K h :=
  calls_of_Ev (qcf.plan K) Tryz.func113 (by kernel_rfl) (qcf.obl K) (by rw [qcf.ev_eq] at H; exact H)
def qcd.p0 (K : KT) (w_0 : OA) (t1 : Int) (h : Heap) : Prop :=
  ∃ p1, w_0 = some p1 ∧ ∃ a2 p aj, hcell h (Addr.add (Addr.add p1 1) 2) = some (.slice a2 p aj) ∧ ((((p : Nat) : Int) == 0) = true → K (.bool false) h) ∧ ((((p : Nat) : Int) == 0) = false → ∃ p3, w_0 = some p3 ∧ ∃ a4 aa ak, hcell h (Addr.add (Addr.add p3 1) 2) = some (.slice a4 aa ak) ∧ ∃ p5, a4 = some p5 ∧ (0 : Int) ≤ 0 ∧ 0 < ((aa : Nat) : Int) ∧ ∃ n6, hcell h (Addr.add p5 (Int.toNat 0 * 1)) = some (.int .u64 n6) ∧ ∃ p7, w_0 = some p7 ∧ ∃ a8 q r, hcell h (Addr.add (Addr.add p7 1) 2) = some (.slice a8 q r) ∧ inB 1 q ∧ ∃ p9, w_0 = some p9 ∧ ∃ x, stC h (Addr.add (Addr.add p9 1) 2) 0 [.slice (slA a8 (Int.toNat 1) r 1) (q - Int.toNat 1) (r - Int.toNat 1)] = some x ∧ ∃ ab, w_0 = some ab ∧ ∃ ac ad ae, hcell x (Addr.add ab 0) = some (.slice ac ad ae) ∧ CallsH P F.qcp [.slice ac ad ae, .int .i64 t1, .int .u64 n6] (fun am an => ∃ af ag ah, am = .slice af ag ah ∧ ∃ ai, w_0 = some ai ∧ ∃ z, stC an (Addr.add ai 0) 0 [.slice af ag ah] = some z ∧ ((t1 == 8) = false → (0 : Int) ≤ 3 ∧ (0 : Int) ≤ (IntKind.u64.wrap (shlI .i64 t1 3)) ∧ bd (((shrI .u64 n6 (IntKind.u64.wrap (shlI .i64 t1 3))) == 0) : Bool) fun ao => K (.bool ao) z) ∧ ((t1 == 8) = true → K (.bool true) z)) x)
def qcd.plan (K : KT) : Plan := .go
theorem qcd.ev_eq : qcd.p0 = fun K w_0 t1 h => Ev P Tryz.f114 (qcd.plan K) K [.pointer w_0, .int .i64 t1] h := by kernel_rfl
theorem qcd.obl (K : KT) : Obl P Tryz.f114 (qcd.plan K) K :=
  obl_true (by kernel_rfl)
theorem qcd.ok {K : KT} {w_0 : OA} {t1 : Int} {h : Heap} (H : qcd.p0 K w_0 t1 h) : CallsH P F.qcd [.pointer w_0, .int .i64 t1] K h :=
  calls_of_Ev (qcd.plan K) Tryz.func114 (by kernel_rfl) (qcd.obl K) (by rw [qcd.ev_eq] at H; exact H)
def qbq.j1 (K : KT) (w_0 : OA) (c_1 : Int) (t5 : Int) (t6 : Bool) (h : Heap) : Prop :=
  (t6 = true → CallsH P F.qcm [.pointer w_0, .bool (c_1 == 108)] (fun v1 h2 => ∃ b3, v1 = .bool b3 ∧ K (.bool b3) h2) h) ∧ (t6 = false → bd ((t5 == 116) : Bool) fun b4 => (b4 = true → CallsH P F.qcf [.pointer w_0] (fun v5 h6 => ∃ b7, v5 = .bool b7 ∧ K (.bool b7) h6) h) ∧ (b4 = false → CallsH P F.qcd [.pointer w_0, .int .i64 (IntKind.i64.wrap (IntKind.u8.wrap (c_1 - 48)))] (fun v8 h9 => ∃ p, v8 = .bool p ∧ K (.bool p) h9) h))
def qbq.j1.l : Live := [(0, .ptr), (1, .int .u8), (5, .int .u8), (6, .bool)]
def qbq.j1.j (K : KT) : Tup qbq.j1.l → Heap → Prop := fun x h => qbq.j1 K x.1 x.2.1 x.2.2.1 x.2.2.2.1 h
def qbq.p0 (K : KT) (w_0 : OA) (c_1 : Int) (h : Heap) : Prop :=
  bd ((c_1 == 115) : Bool) fun p => (p = true → qbq.j1 K w_0 c_1 c_1 p h) ∧ (p = false → bd ((c_1 == 108) : Bool) fun q => qbq.j1 K w_0 c_1 c_1 q h)
def qbq.plan (K : KT) : Plan := (.seq .go (.seq (.seq .go (.block (.cut qbq.j1.l (qbq.j1.j K) .go .go))) .go))
theorem qbq.ev_eq : qbq.p0 = fun K w_0 c_1 h => Ev P Tryz.f87 (qbq.plan K) K [.pointer w_0, .int .u8 c_1] h := by kernel_rfl
theorem qbq.obl (K : KT) : Obl P Tryz.f87 (qbq.plan K) K :=
  obl_of (R := Imp (qbq.j1.j K) ∧ True) (by kernel_rfl) ⟨imp _, trivial⟩
theorem qbq.ok {K : KT} {w_0 : OA} {c_1 : Int} {h : Heap} (H : qbq.p0 K w_0 c_1 h) : CallsH P F.qbq [.pointer w_0, .int .u8 c_1] K h :=
  calls_of_Ev (qbq.plan K) Tryz.func87 (by kernel_rfl) (qbq.obl K) (by rw [qbq.ev_eq] at H; exact H)
def qam.j3 (K : KT) (t0 : OA) (p : Nat) (q : Nat) (t8 : OA) (x : Bool) (h : Heap) : Prop :=
  (x = true → CallsH P F.qbu [.slice t0 p q] (fun ba bb => ∃ z aa ab, ba = .slice z aa ab ∧ K (.tuple #[.slice z aa ab, .bool false]) bb) h) ∧ (x = false → ∃ r, t8 = some r ∧ (CallsH P F.qbu [.slice t0 p q] (fun bc ac => ∃ ad ae af, bc = .slice ad ae af ∧ ∃ ag ah ai, hcell ac (Addr.add r 0) = some (.slice ag ah ai) ∧ SemH P (Builtin.append_ #[T.sl_uint8, T.sl_uint8] T.sl_uint8 #[.slice ad ae af, .slice ag ah ai]) (fun be bf => ∃ aj ak am, be = .slice aj ak am ∧ K (.tuple #[.slice aj ak am, .bool true]) bf) ac) h) ∧ (∃ an ao aq, hcell h (Addr.add r 0) = some (.slice an ao aq) ∧ CallsH P F.qbu [.slice t0 p q] (fun bg bh => ∃ ar au aw, bg = .slice ar au aw ∧ SemH P (Builtin.append_ #[T.sl_uint8, T.sl_uint8] T.sl_uint8 #[.slice ar au aw, .slice an ao aq]) (fun bi bj => ∃ ax ay az, bi = .slice ax ay az ∧ K (.tuple #[.slice ax ay az, .bool true]) bj) bh) h))
def qam.j3.l : Live := [(0, .slice), (8, .ptr), (86, .bool)]
def qam.j3.j (K : KT) : Tup qam.j3.l → Heap → Prop := fun x h => qam.j3 K x.1.1 x.1.2.1 x.1.2.2 x.2.1 x.2.2.1 h
def qam.j2 (K : KT) (t0 : OA) (p : Nat) (q : Nat) (t7 : Bool) (t8 : OA) (h : Heap) : Prop :=
  ((!t7) = false → ∃ r, t8 = some r ∧ ∃ x, t8 = some x ∧ ∃ z, t8 = some z ∧ ∃ aa, t8 = some aa ∧ ∃ af ab ag, hcell h (Addr.add (Addr.add r 1) 2) = some (.slice af ab ag) ∧ ∃ ah ac ai, hcell h (Addr.add (Addr.add x 1) 3) = some (.slice ah ac ai) ∧ ∃ aj ad ak, hcell h (Addr.add (Addr.add z 1) 4) = some (.slice aj ad ak) ∧ ∃ am ae an, hcell h (Addr.add (Addr.add aa 1) 5) = some (.slice am ae an) ∧ qam.j3 K t0 p q t8 (decide ((IntKind.i64.wrap ((IntKind.i64.wrap ((IntKind.i64.wrap (((ab : Nat) : Int) + ((ac : Nat) : Int))) + ((ad : Nat) : Int))) + ((ae : Nat) : Int))) > 0)) h) ∧ ((!t7) = true → qam.j3 K t0 p q t8 true h)
def qam.j2.l : Live := [(0, .slice), (7, .bool), (8, .ptr)]
def qam.j2.j (K : KT) : Tup qam.j2.l → Heap → Prop := fun x h => qam.j2 K x.1.1 x.1.2.1 x.1.2.2 x.2.1 x.2.2.1 h
def qam.j6 (K : KT) (R4 : OA → Nat → Nat → List UInt8 → Bool → OA → Heap → Prop) (t0 : OA) (p : Nat) (q : Nat) (t6 : List UInt8) (t7 : Bool) (t8 : OA) (t9 : Int) (h : Heap) : Prop :=
  inB t9 (List.length t6) ∧ bd ((List.drop (Int.toNat t9) t6) : List UInt8) fun r => R4 t0 p q r t7 t8 h
def qam.j6.l : Live := [(0, .slice), (6, .str), (7, .bool), (8, .ptr), (9, .int .i64)]
def qam.j6.j (K : KT) (R4 : OA → Nat → Nat → List UInt8 → Bool → OA → Heap → Prop) : Tup qam.j6.l → Heap → Prop := fun x h => qam.j6 K R4 x.1.1 x.1.2.1 x.1.2.2 x.2.1 x.2.2.1 x.2.2.2.1 x.2.2.2.2.1 h
def qam.j5 (K : KT) (R4 : OA → Nat → Nat → List UInt8 → Bool → OA → Heap → Prop) (t0 : OA) (q : Nat) (r : Nat) (t6 : List UInt8) (t7 : Bool) (t8 : OA) (x : Bool) (h : Heap) : Prop :=
  (x = true → CallsH P F.qbj [.string (mkS t6)] (fun ac z => ∃ p, ac = .int .i64 p ∧ ((decide (p > 0)) = true → CallsH P F.qal [.pointer t8, .int .i64 p] (fun ad ae => ∃ aa, ad = .bool aa ∧ qam.j6 K R4 t0 q r t6 aa t8 p ae) z) ∧ ((decide (p > 0)) = false → (0 : Int) ≤ 0 ∧ 0 < ((List.length t6 : Nat) : Int) ∧ CallsH P F.qbq [.pointer t8, .int .u8 (lb t6 0)] (fun af ag => ∃ ab, af = .bool ab ∧ qam.j6 K R4 t0 q r t6 ab t8 1 ag) z)) h) ∧ (x = false → qam.j2 K t0 q r t7 t8 h)
def qam.j5.l : Live := [(0, .slice), (6, .str), (7, .bool), (8, .ptr), (40, .bool)]
def qam.j5.j (K : KT) (R4 : OA → Nat → Nat → List UInt8 → Bool → OA → Heap → Prop) : Tup qam.j5.l → Heap → Prop := fun x h => qam.j5 K R4 x.1.1 x.1.2.1 x.1.2.2 x.2.1 x.2.2.1 x.2.2.2.1 x.2.2.2.2.1 h
def qam.L4 (K : KT) : Nat → OA → Nat → Nat → List UInt8 → Bool → OA → Heap → Prop
  | 0, _, _, _, _, _, _, _ => False
  | fuel + 1, t0, p, q, t6, t7, t8, h => ((!(t6 == ([] : List UInt8))) = true → qam.j5 K (qam.L4 K fuel) t0 p q t6 t7 t8 t7 h) ∧ ((!(t6 == ([] : List UInt8))) = false → qam.j5 K (qam.L4 K fuel) t0 p q t6 t7 t8 false h)
termination_by structural n => n
def qam.L4.l : Live := [(0, .slice), (6, .str), (7, .bool), (8, .ptr)]
def qam.L4.j (K : KT) : Nat → Tup qam.L4.l → Heap → Prop := fun n x h => qam.L4 K n x.1.1 x.1.2.1 x.1.2.2 x.2.1 x.2.2.1 x.2.2.2.1 h
def qam.j1 (K : KT) (t0 : OA) (p : Nat) (q : Nat) (t6 : List UInt8) (t7 : Bool) (t8 : OA) (h : Heap) : Prop :=
  ∃ fuel50, qam.L4 K fuel50 t0 p q t6 t7 t8 h
def qam.j1.l : Live := [(0, .slice), (6, .str), (7, .bool), (8, .ptr)]
def qam.j1.j (K : KT) : Tup qam.j1.l → Heap → Prop := fun x h => qam.j1 K x.1.1 x.1.2.1 x.1.2.2 x.2.1 x.2.2.1 x.2.2.2.1 h
def qam.p0 (K : KT) (t0 : OA) (q : Nat) (r : Nat) (t1 : List Value) (h : Heap) : Prop :=
  bd (al h (List.toArray t1) T.api_Method) fun h1 => ∃ n2, hcell h1 (Addr.add (top h) 0) = some (.int .i64 n2) ∧ ∃ n3, hcell h1 (Addr.add (top h) 1) = some (.int .i64 n3) ∧ CallsH P F.qdq [.int .i64 n2, .int .i64 n3] (fun v4 h5 => ∃ s6 b7, v4 = .tuple #[.string (mkS s6), .bool b7] ∧ ((!b7) = true → CallsH P F.qbu [.slice t0 q r] (fun v8 h9 => ∃ z aa ab, v8 = .slice z aa ab ∧ K (.tuple #[.slice z aa ab, .bool false]) h9) h5) ∧ ((!b7) = false → ∃ ac, rdC h5 (top h) 0 6 = some ac ∧ ∃ ad, bld P T.meth_writer [(1, .agg (List.toArray ac))] ad ∧ bd (al h5 (List.toArray ad) T.meth_writer) fun p => (∃ x, hcell p (Addr.add (top h) 0) = some (.int .i64 x) ∧ (CallsH P F.qcp [.slice none 0 0, .int .i64 2, .int .u64 (IntKind.u64.wrap x)] (fun bp ae => ∃ af ag ah, bp = .slice af ag ah ∧ ∃ ai, hcell ae (Addr.add (top h) 1) = some (.int .i64 ai) ∧ CallsH P F.qcp [.slice af ag ah, .int .i64 2, .int .u64 (IntKind.u64.wrap ai)] (fun bq br => ∃ aj ak am, bq = .slice aj ak am ∧ ∃ an, (some (top h5)) = some an ∧ ∃ ao, stC br (Addr.add an 0) 0 [.slice aj ak am] = some ao ∧ qam.j1 K t0 q r s6 b7 (some (top h5)) ao) ae) p) ∧ (∃ aq, hcell p (Addr.add (top h) 1) = some (.int .i64 aq) ∧ CallsH P F.qcp [.slice none 0 0, .int .i64 2, .int .u64 (IntKind.u64.wrap x)] (fun bs bt => ∃ ar au aw, bs = .slice ar au aw ∧ CallsH P F.qcp [.slice ar au aw, .int .i64 2, .int .u64 (IntKind.u64.wrap aq)] (fun bu bw => ∃ ax ay az, bu = .slice ax ay az ∧ ∃ ba, (some (top h5)) = some ba ∧ ∃ bb, stC bw (Addr.add ba 0) 0 [.slice ax ay az] = some bb ∧ qam.j1 K t0 q r s6 b7 (some (top h5)) bb) bt) p)) ∧ (∃ bc, hcell p (Addr.add (top h) 1) = some (.int .i64 bc) ∧ ∃ be, hcell p (Addr.add (top h) 0) = some (.int .i64 be) ∧ CallsH P F.qcp [.slice none 0 0, .int .i64 2, .int .u64 (IntKind.u64.wrap be)] (fun bx bz => ∃ bf bg bh, bx = .slice bf bg bh ∧ CallsH P F.qcp [.slice bf bg bh, .int .i64 2, .int .u64 (IntKind.u64.wrap bc)] (fun ca cb => ∃ bi bj bk, ca = .slice bi bj bk ∧ ∃ bl, (some (top h5)) = some bl ∧ ∃ bm, stC cb (Addr.add bl 0) 0 [.slice bi bj bk] = some bm ∧ qam.j1 K t0 q r s6 b7 (some (top h5)) bm) bz) p))) h1
def qam.plan (K : KT) : Plan := (.seq .go (.seq .go (.seq .go (.seq .go (.cut qam.j1.l (qam.j1.j K) (.orders (.op 0 (.op 1 (.op 5 (.both (.op 2 (.op 3 (.both (.op 4 (.op 6 (.op 7 (.op 8 (.op 9 (.op 10 (.op 11 .nil))))))) (.op 6 (.op 7 (.op 4 (.op 8 (.op 9 (.op 10 (.op 11 .nil)))))))))) (.op 6 (.op 7 (.op 2 (.op 3 (.op 4 (.op 8 (.op 9 (.op 10 (.op 11 .nil)))))))))))))) (.cut qam.j2.l (qam.j2.j K) (.block (.loop qam.L4.l (qam.L4.j K) (fun n4 => (.seq (.cut qam.j5.l (qam.j5.j K (qam.L4 K n4)) .go .go) (.block (.seq .go (.cut qam.j6.l (qam.j6.j K (qam.L4 K n4)) .go .go))))))) (.seq (.cut qam.j3.l (qam.j3.j K) (.orders (.op 0 (.op 1 (.op 2 (.op 3 (.op 4 (.op 5 (.op 6 (.op 9 (.op 10 (.op 11 (.op 12 (.op 16 (.op 17 (.op 18 (.op 19 (.op 23 (.op 24 (.op 25 (.op 26 (.op 7 (.op 8 (.op 13 (.op 14 (.op 15 (.op 20 (.op 21 (.op 22 (.op 27 (.op 28 (.op 29 (.op 30 (.op 31 .nil))))))))))))))))))))))))))))))))) .go) (.seq (.orders (.op 0 (.op 2 (.op 3 (.op 4 (.both (.op 1 (.op 5 (.op 6 (.op 7 (.op 8 .nil))))) (.op 5 (.op 1 (.op 6 (.op 7 (.op 8 .nil))))))))))) .go))))))))
theorem qam.ev_eq : qam.p0 = fun K t0 p q t1 h => Ev P Tryz.f63 (qam.plan K) K [.slice t0 p q, .agg (List.toArray t1)] h := by kernel_rfl
theorem qam.obl (K : KT) : Obl P Tryz.f63 (qam.plan K) K :=
  obl_of (R := DrawOK P Tryz.f63.ntmps (opsAt 5 (bodyOf Tryz.f63)) (.op 0 (.op 1 (.op 5 (.both (.op 2 (.op 3 (.both (.op 4 (.op 6 (.op 7 (.op 8 (.op 9 (.op 10 (.op 11 .nil))))))) (.op 6 (.op 7 (.op 4 (.op 8 (.op 9 (.op 10 (.op 11 .nil)))))))))) (.op 6 (.op 7 (.op 2 (.op 3 (.op 4 (.op 8 (.op 9 (.op 10 (.op 11 .nil))))))))))))) ∧ Imp (qam.j1.j K) ∧ (∀ x h, ¬ (qam.L4.j K) 0 x h) ∧ ImpN (qam.L4.j K) ∧ (∀ (n4 : Nat), Imp (qam.j5.j K (qam.L4 K n4)) ∧ Imp (qam.j6.j K (qam.L4 K n4)) ∧ True) ∧ Imp (qam.j2.j K) ∧ DrawOK P Tryz.f63.ntmps (opsAt 13 (bodyOf Tryz.f63)) (.op 0 (.op 1 (.op 2 (.op 3 (.op 4 (.op 5 (.op 6 (.op 9 (.op 10 (.op 11 (.op 12 (.op 16 (.op 17 (.op 18 (.op 19 (.op 23 (.op 24 (.op 25 (.op 26 (.op 7 (.op 8 (.op 13 (.op 14 (.op 15 (.op 20 (.op 21 (.op 22 (.op 27 (.op 28 (.op 29 (.op 30 (.op 31 .nil)))))))))))))))))))))))))))))))) ∧ Imp (qam.j3.j K) ∧ DrawOK P Tryz.f63.ntmps (opsAt 15 (bodyOf Tryz.f63)) (.op 0 (.op 2 (.op 3 (.op 4 (.both (.op 1 (.op 5 (.op 6 (.op 7 (.op 8 .nil))))) (.op 5 (.op 1 (.op 6 (.op 7 (.op 8 .nil)))))))))) ∧ True) (by kernel_rfl) ⟨draw_ok (by kernel_rfl), ⟨imp _, ⟨fun _ _ H => H, impN _, fun _ => ⟨imp _, ⟨imp _, trivial⟩⟩, ⟨imp _, ⟨draw_ok (by kernel_rfl), ⟨imp _, ⟨draw_ok (by kernel_rfl), trivial⟩⟩⟩⟩⟩⟩⟩
theorem qam.ok {K : KT} {t0 : OA} {p : Nat} {q : Nat} {t1 : List Value} {h : Heap} (H : qam.p0 K t0 p q t1 h) : CallsH P F.qam [.slice t0 p q, .agg (List.toArray t1)] K h :=
  calls_of_Ev (qam.plan K) Tryz.func63 (by kernel_rfl) (qam.obl K) (by rw [qam.ev_eq] at H; exact H)
def qbc.j2 (K : KT) (R1 : OA → OA → Nat → Nat → Int → Int → Int → Heap → Prop) (r_0 : OA) (out_5 : OA) (out_5l : Nat) (out_5c : Nat) (c_6 : Int) (i_7 : Int) (t8 : Int) (t9 : Int) (h : Heap) : Prop :=
  (8 : Int) ≠ 0 ∧ (0 : Int) ≤ (IntKind.u64.wrap (Int.tmod i_7 8)) ∧ bd (al h #[.bool ((bitsI .and .u64 (shrI .u64 c_6 (IntKind.u64.wrap (Int.tmod i_7 8))) 1) == 1)] T.bool) fun h1 => SemH P (Builtin.append_ #[T.sl_bool, T.sl_bool] T.sl_bool #[.slice out_5 out_5l out_5c, .slice (some (top h)) 1 1]) (fun v2 h3 => ∃ a4 p q, v2 = .slice a4 p q ∧ R1 r_0 a4 p q c_6 t8 (IntKind.i64.wrap (t9 + 1)) h3) h1
def qbc.j2.l : Live := [(0, .ptr), (5, .slice), (6, .int .u64), (7, .int .i64), (8, .int .i64), (9, .int .i64)]
def qbc.j2.j (K : KT) (R1 : OA → OA → Nat → Nat → Int → Int → Int → Heap → Prop) : Tup qbc.j2.l → Heap → Prop := fun x h => qbc.j2 K R1 x.1 x.2.1.1 x.2.1.2.1 x.2.1.2.2 x.2.2.1 x.2.2.2.1 x.2.2.2.2.1 x.2.2.2.2.2.1 h
def qbc.L1 (K : KT) : Nat → OA → OA → Nat → Nat → Int → Int → Int → Heap → Prop
  | 0, _, _, _, _, _, _, _, _ => False
  | fuel + 1, r_0, out_5, out_5l, out_5c, c_6, t8, t9, h => ((decide (t9 < t8)) = true → (8 : Int) ≠ 0 ∧ (((Int.tmod t9 8) == 0) = true → CallsH P F.qdj [.pointer r_0, .int .i64 1] (fun v5 h6 => ∃ n7, v5 = .int .u64 n7 ∧ qbc.j2 K (qbc.L1 K fuel) r_0 out_5 out_5l out_5c n7 t9 t8 t9 h6) h) ∧ (((Int.tmod t9 8) == 0) = false → qbc.j2 K (qbc.L1 K fuel) r_0 out_5 out_5l out_5c c_6 t9 t8 t9 h)) ∧ ((decide (t9 < t8)) = false → K (.slice out_5 out_5l out_5c) h)
termination_by structural n => n
def qbc.L1.l : Live := [(0, .ptr), (5, .slice), (6, .int .u64), (8, .int .i64), (9, .int .i64)]
def qbc.L1.j (K : KT) : Nat → Tup qbc.L1.l → Heap → Prop := fun n x h => qbc.L1 K n x.1 x.2.1.1 x.2.1.2.1 x.2.1.2.2 x.2.2.1 x.2.2.2.1 x.2.2.2.2.1 h
def qbc.p0 (K : KT) (r_0 : OA) (t1 : Int) (h : Heap) : Prop :=
  ∃ fuel8, qbc.L1 K fuel8 r_0 none 0 0 0 t1 0 h
def qbc.plan (K : KT) : Plan := (.seq .go (.seq .go (.seq .go (.seq (.seq .go (.block (.loop qbc.L1.l (qbc.L1.j K) (fun n1 => (.seq .go (.seq .go (.seq (.block (.seq .go (.cut qbc.j2.l (qbc.j2.j K (qbc.L1 K n1)) .go .go))) .go))))))) .go))))
theorem qbc.ev_eq : qbc.p0 = fun K r_0 t1 h => Ev P Tryz.f117 (qbc.plan K) K [.pointer r_0, .int .i64 t1] h := by kernel_rfl
theorem qbc.obl (K : KT) : Obl P Tryz.f117 (qbc.plan K) K :=
  obl_of (R := (∀ x h, ¬ (qbc.L1.j K) 0 x h) ∧ ImpN (qbc.L1.j K) ∧ (∀ (n1 : Nat), Imp (qbc.j2.j K (qbc.L1 K n1)) ∧ True) ∧ True) (by kernel_rfl) ⟨fun _ _ H => H, impN _, fun _ => ⟨imp _, trivial⟩, trivial⟩
theorem qbc.ok {K : KT} {r_0 : OA} {t1 : Int} {h : Heap} (H : qbc.p0 K r_0 t1 h) : CallsH P F.qbc [.pointer r_0, .int .i64 t1] K h :=
  calls_of_Ev (qbc.plan K) Tryz.func117 (by kernel_rfl) (qbc.obl K) (by rw [qbc.ev_eq] at H; exact H)
def qdy.p0 (K : KT) (r_0 : OA) (m_1 : OA) (c_2 : Int) (h : Heap) : Prop :=
  bd ((c_2 == 115) : Bool) fun b1 => (b1 = true → ∃ p2, m_1 = some p2 ∧ (∃ a3 ah ai, hcell h (Addr.add p2 3) = some (.slice a3 ah ai) ∧ CallsH P F.qdb [.pointer r_0] (fun v4 h5 => ∃ s6, v4 = .string (mkS s6) ∧ bd (al h5 #[.string (mkS s6)] T.string) fun h7 => SemH P (Builtin.append_ #[T.sl_string, T.sl_string] T.sl_string #[.slice a3 ah ai, .slice (some (top h5)) 1 1]) (fun v8 h9 => ∃ aj ak am, v8 = .slice aj ak am ∧ ∃ an, m_1 = some an ∧ ∃ ao, stC h9 (Addr.add an 3) 0 [.slice aj ak am] = some ao ∧ K (.bool true) ao) h7) h) ∧ (CallsH P F.qdb [.pointer r_0] (fun ey p => ∃ aa, ey = .string (mkS aa) ∧ (∃ aq ar au, hcell p (Addr.add p2 3) = some (.slice aq ar au) ∧ bd (al p #[.string (mkS aa)] T.string) fun ez => SemH P (Builtin.append_ #[T.sl_string, T.sl_string] T.sl_string #[.slice aq ar au, .slice (some (top p)) 1 1]) (fun fa fb => ∃ aw ax ay, fa = .slice aw ax ay ∧ ∃ az, m_1 = some az ∧ ∃ ba, stC fb (Addr.add az 3) 0 [.slice aw ax ay] = some ba ∧ K (.bool true) ba) ez) ∧ (bd (al p #[.string (mkS aa)] T.string) fun bb => ∃ bc be bf, hcell bb (Addr.add p2 3) = some (.slice bc be bf) ∧ SemH P (Builtin.append_ #[T.sl_string, T.sl_string] T.sl_string #[.slice bc be bf, .slice (some (top p)) 1 1]) (fun fc fd => ∃ bg bh bi, fc = .slice bg bh bi ∧ ∃ bj, m_1 = some bj ∧ ∃ bk, stC fd (Addr.add bj 3) 0 [.slice bg bh bi] = some bk ∧ K (.bool true) bk) bb)) h)) ∧ (b1 = false → bd ((c_2 == 108) : Bool) fun bl => (bl = true → ∃ q, m_1 = some q ∧ (∃ bm bp bq, hcell h (Addr.add q 3) = some (.slice bm bp bq) ∧ CallsH P F.qdc [.pointer r_0] (fun fe ff => ∃ br bs bt, fe = .slice br bs bt ∧ SemH P (Go.convert T.sl_uint8 T.string (.slice br bs bt)) (fun fg bu => ∃ bw, fg = .string (mkS bw) ∧ bd (al bu #[.string (mkS bw)] T.string) fun fh => SemH P (Builtin.append_ #[T.sl_string, T.sl_string] T.sl_string #[.slice bm bp bq, .slice (some (top bu)) 1 1]) (fun fi fj => ∃ bx bz ca, fi = .slice bx bz ca ∧ ∃ cb, m_1 = some cb ∧ ∃ cd, stC fj (Addr.add cb 3) 0 [.slice bx bz ca] = some cd ∧ K (.bool true) cd) fh) ff) h) ∧ (CallsH P F.qdc [.pointer r_0] (fun fk ab => ∃ ac ad ae, fk = .slice ac ad ae ∧ (∃ ce cf cg, hcell ab (Addr.add q 3) = some (.slice ce cf cg) ∧ SemH P (Go.convert T.sl_uint8 T.string (.slice ac ad ae)) (fun fl ci => ∃ cj, fl = .string (mkS cj) ∧ bd (al ci #[.string (mkS cj)] T.string) fun fm => SemH P (Builtin.append_ #[T.sl_string, T.sl_string] T.sl_string #[.slice ce cf cg, .slice (some (top ci)) 1 1]) (fun fn fo => ∃ ck cm co, fn = .slice ck cm co ∧ ∃ cp, m_1 = some cp ∧ ∃ cq, stC fo (Addr.add cp 3) 0 [.slice ck cm co] = some cq ∧ K (.bool true) cq) fm) ab) ∧ (SemH P (Go.convert T.sl_uint8 T.string (.slice ac ad ae)) (fun fp r => ∃ af, fp = .string (mkS af) ∧ (∃ cr cs ct, hcell r (Addr.add q 3) = some (.slice cr cs ct) ∧ bd (al r #[.string (mkS af)] T.string) fun fq => SemH P (Builtin.append_ #[T.sl_string, T.sl_string] T.sl_string #[.slice cr cs ct, .slice (some (top r)) 1 1]) (fun fr fs => ∃ cu cv cw, fr = .slice cu cv cw ∧ ∃ cx, m_1 = some cx ∧ ∃ cy, stC fs (Addr.add cx 3) 0 [.slice cu cv cw] = some cy ∧ K (.bool true) cy) fq) ∧ (bd (al r #[.string (mkS af)] T.string) fun cz => ∃ da db dc, hcell cz (Addr.add q 3) = some (.slice da db dc) ∧ SemH P (Builtin.append_ #[T.sl_string, T.sl_string] T.sl_string #[.slice da db dc, .slice (some (top r)) 1 1]) (fun ft fu => ∃ dd de df, ft = .slice dd de df ∧ ∃ dg, m_1 = some dg ∧ ∃ dh, stC fu (Addr.add dg 3) 0 [.slice dd de df] = some dh ∧ K (.bool true) dh) cz)) ab)) h)) ∧ (bl = false → bd ((c_2 == 116) : Bool) fun di => (di = true → CallsH P F.qdc [.pointer r_0] (fun fv fw => ∃ dj dk dl, fv = .slice dj dk dl ∧ CallsH P F.qdm [.slice dj dk dl] (fun fx fy => ∃ dm dn dp dq, fx = .tuple #[.slice dm dn dp, .bool dq] ∧ ∃ dr, m_1 = some dr ∧ ∃ ds, stC fy (Addr.add dr 5) 0 [.slice dm dn dp] = some ds ∧ K (.bool dq) ds) fw) h) ∧ (di = false → ∃ z, m_1 = some z ∧ (∃ dt du dv, hcell h (Addr.add z 2) = some (.slice dt du dv) ∧ CallsH P F.qdj [.pointer r_0, .int .i64 (IntKind.i64.wrap (IntKind.u8.wrap (c_2 - 48)))] (fun ga dw => ∃ dx, ga = .int .u64 dx ∧ bd (al dw #[.int .u64 dx] T.uint64) fun gb => SemH P (Builtin.append_ #[T.sl_uint64, T.sl_uint64] T.sl_uint64 #[.slice dt du dv, .slice (some (top dw)) 1 1]) (fun gc gd => ∃ dy dz ea, gc = .slice dy dz ea ∧ ∃ eb, m_1 = some eb ∧ ∃ ec, stC gd (Addr.add eb 2) 0 [.slice dy dz ea] = some ec ∧ K (.bool true) ec) gb) h) ∧ (CallsH P F.qdj [.pointer r_0, .int .i64 (IntKind.i64.wrap (IntKind.u8.wrap (c_2 - 48)))] (fun ge x => ∃ ag, ge = .int .u64 ag ∧ (∃ ed ee ef, hcell x (Addr.add z 2) = some (.slice ed ee ef) ∧ bd (al x #[.int .u64 ag] T.uint64) fun gf => SemH P (Builtin.append_ #[T.sl_uint64, T.sl_uint64] T.sl_uint64 #[.slice ed ee ef, .slice (some (top x)) 1 1]) (fun gg gh => ∃ eg eh ei, gg = .slice eg eh ei ∧ ∃ ej, m_1 = some ej ∧ ∃ ek, stC gh (Addr.add ej 2) 0 [.slice eg eh ei] = some ek ∧ K (.bool true) ek) gf) ∧ (bd (al x #[.int .u64 ag] T.uint64) fun el => ∃ em en eo, hcell el (Addr.add z 2) = some (.slice em en eo) ∧ SemH P (Builtin.append_ #[T.sl_uint64, T.sl_uint64] T.sl_uint64 #[.slice em en eo, .slice (some (top x)) 1 1]) (fun gi gj => ∃ ep es et, gi = .slice ep es et ∧ ∃ eu, m_1 = some eu ∧ ∃ ew, stC gj (Addr.add eu 2) 0 [.slice ep es et] = some ew ∧ K (.bool true) ew) el)) h))))
def qdy.plan (K : KT) : Plan := (.seq .go (.seq (.seq .go (.block (.seq .go (.cond (.orders (.op 0 (.op 1 (.op 2 (.op 3 (.op 5 (.both (.op 4 (.op 6 (.op 7 (.op 8 (.op 9 (.op 10 (.op 11 .nil))))))) (.op 6 (.both (.op 4 (.op 7 (.op 8 (.op 9 (.op 10 (.op 11 .nil)))))) (.op 7 (.op 4 (.op 8 (.op 9 (.op 10 (.op 11 .nil))))))))))))))) (.seq .go (.cond (.orders (.op 0 (.op 1 (.op 2 (.op 3 (.op 5 (.both (.op 4 (.op 6 (.op 7 (.op 8 (.op 9 (.op 10 (.op 11 (.op 12 .nil)))))))) (.op 6 (.both (.op 4 (.op 7 (.op 8 (.op 9 (.op 10 (.op 11 (.op 12 .nil))))))) (.op 7 (.both (.op 4 (.op 8 (.op 9 (.op 10 (.op 11 (.op 12 .nil)))))) (.op 8 (.op 4 (.op 9 (.op 10 (.op 11 (.op 12 .nil))))))))))))))))) (.seq .go (.cond .go (.orders (.op 0 (.op 1 (.op 2 (.op 3 (.op 5 (.op 6 (.op 7 (.op 8 (.both (.op 4 (.op 9 (.op 10 (.op 11 (.op 12 (.op 13 (.op 14 .nil))))))) (.op 9 (.both (.op 4 (.op 10 (.op 11 (.op 12 (.op 13 (.op 14 .nil)))))) (.op 10 (.op 4 (.op 11 (.op 12 (.op 13 (.op 14 .nil)))))))))))))))))))))))))) .go))
theorem qdy.ev_eq : qdy.p0 = fun K r_0 m_1 c_2 h => Ev P Tryz.f118 (qdy.plan K) K [.pointer r_0, .pointer m_1, .int .u8 c_2] h := by kernel_rfl
theorem qdy.obl (K : KT) : Obl P Tryz.f118 (qdy.plan K) K :=
  obl_of (R := DrawOK P Tryz.f118.ntmps (opsAt 4 (bodyOf Tryz.f118)) (.op 0 (.op 1 (.op 2 (.op 3 (.op 5 (.both (.op 4 (.op 6 (.op 7 (.op 8 (.op 9 (.op 10 (.op 11 .nil))))))) (.op 6 (.both (.op 4 (.op 7 (.op 8 (.op 9 (.op 10 (.op 11 .nil)))))) (.op 7 (.op 4 (.op 8 (.op 9 (.op 10 (.op 11 .nil)))))))))))))) ∧ DrawOK P Tryz.f118.ntmps (opsAt 6 (bodyOf Tryz.f118)) (.op 0 (.op 1 (.op 2 (.op 3 (.op 5 (.both (.op 4 (.op 6 (.op 7 (.op 8 (.op 9 (.op 10 (.op 11 (.op 12 .nil)))))))) (.op 6 (.both (.op 4 (.op 7 (.op 8 (.op 9 (.op 10 (.op 11 (.op 12 .nil))))))) (.op 7 (.both (.op 4 (.op 8 (.op 9 (.op 10 (.op 11 (.op 12 .nil)))))) (.op 8 (.op 4 (.op 9 (.op 10 (.op 11 (.op 12 .nil)))))))))))))))) ∧ DrawOK P Tryz.f118.ntmps (opsAt 2 (bodyOf Tryz.f118)) (.op 0 (.op 1 (.op 2 (.op 3 (.op 5 (.op 6 (.op 7 (.op 8 (.both (.op 4 (.op 9 (.op 10 (.op 11 (.op 12 (.op 13 (.op 14 .nil))))))) (.op 9 (.both (.op 4 (.op 10 (.op 11 (.op 12 (.op 13 (.op 14 .nil)))))) (.op 10 (.op 4 (.op 11 (.op 12 (.op 13 (.op 14 .nil))))))))))))))))) ∧ True) (by kernel_rfl) ⟨draw_ok (by kernel_rfl), ⟨draw_ok (by kernel_rfl), ⟨draw_ok (by kernel_rfl), trivial⟩⟩⟩
theorem qdy.ok {K : KT} {r_0 : OA} {m_1 : OA} {c_2 : Int} {h : Heap} (H : qdy.p0 K r_0 m_1 c_2 h) : CallsH P F.qdy [.pointer r_0, .pointer m_1, .int .u8 c_2] K h :=
  calls_of_Ev (qdy.plan K) Tryz.func118 (by kernel_rfl) (qdy.obl K) (by rw [qdy.ev_eq] at H; exact H)
def qat.j2 (K : KT) (t2 : Addr) (t5 : Addr) (x : Bool) (h : Heap) : Prop :=
  (x = true → ([.int .i64 0, .int .i64 0, .slice none 0 0, .slice none 0 0, .slice none 0 0, .slice none 0 0] : List Value).length = 6 ∧ ∃ p, stC h t2 0 [.int .i64 0, .int .i64 0, .slice none 0 0, .slice none 0 0, .slice none 0 0, .slice none 0 0] = some p ∧ ∃ z, rdC p t2 0 6 = some z ∧ K (.tuple #[.agg (List.toArray z), .int .i64 4]) p) ∧ (x = false → ∃ q, rdC h t5 0 6 = some q ∧ q.length = 6 ∧ ∃ r, stC h t2 0 q = some r ∧ ∃ aa, rdC r t2 0 6 = some aa ∧ K (.tuple #[.agg (List.toArray aa), .int .i64 0]) r)
def qat.j2.l : Live := [(2, .addr), (5, .addr), (67, .bool)]
def qat.j2.j (K : KT) : Tup qat.j2.l → Heap → Prop := fun x h => qat.j2 K x.1 x.2.1 x.2.2.1 h
def qat.j1 (K : KT) (t2 : Addr) (t4 : OA) (t5 : Addr) (t7 : Bool) (h : Heap) : Prop :=
  ((!t7) = false → CallsH P F.qdk [.pointer t4] (fun x q => ∃ p, x = .bool p ∧ ((!p) = false → CallsH P F.qdd [.pointer t4] (fun z aa => ∃ r, z = .int .i64 r ∧ qat.j2 K t2 t5 (decide (r > 0)) aa) q) ∧ ((!p) = true → qat.j2 K t2 t5 true q)) h) ∧ ((!t7) = true → qat.j2 K t2 t5 true h)
def qat.j1.l : Live := [(2, .addr), (4, .ptr), (5, .addr), (7, .bool)]
def qat.j1.j (K : KT) : Tup qat.j1.l → Heap → Prop := fun x h => qat.j1 K x.1 x.2.1 x.2.2.1 x.2.2.2.1 h
def qat.j4 (K : KT) (R3 : Addr → OA → Addr → List UInt8 → Bool → Heap → Prop) (t2 : Addr) (t4 : OA) (t5 : Addr) (t6 : List UInt8) (t7 : Bool) (t8 : Int) (h : Heap) : Prop :=
  inB t8 (List.length t6) ∧ bd ((List.drop (Int.toNat t8) t6) : List UInt8) fun p => R3 t2 t4 t5 p t7 h
def qat.j4.l : Live := [(2, .addr), (4, .ptr), (5, .addr), (6, .str), (7, .bool), (8, .int .i64)]
def qat.j4.j (K : KT) (R3 : Addr → OA → Addr → List UInt8 → Bool → Heap → Prop) : Tup qat.j4.l → Heap → Prop := fun x h => qat.j4 K R3 x.1 x.2.1 x.2.2.1 x.2.2.2.1 x.2.2.2.2.1 x.2.2.2.2.2.1 h
def qat.L3 (K : KT) : Nat → Addr → OA → Addr → List UInt8 → Bool → Heap → Prop
  | 0, _, _, _, _, _, _ => False
  | fuel + 1, t2, t4, t5, t6, t7, h => ((!(t6 == ([] : List UInt8))) = true → CallsH P F.qbj [.string (mkS t6)] (fun az q => ∃ p, az = .int .i64 p ∧ ((decide (p > 0)) = true → (∃ x z aa, hcell q (Addr.add t5 4) = some (.slice x z aa) ∧ CallsH P F.qbc [.pointer t4, .int .i64 p] (fun ba bb => ∃ ab ac ad, ba = .slice ab ac ad ∧ SemH P (Builtin.append_ #[T.sl_bool, T.sl_bool] T.sl_bool #[.slice x z aa, .slice ab ac ad]) (fun bc be => ∃ ae af ag, bc = .slice ae af ag ∧ ∃ ah, stC be (Addr.add t5 4) 0 [.slice ae af ag] = some ah ∧ qat.j4 K (qat.L3 K fuel) t2 t4 t5 t6 t7 p ah) bb) q) ∧ (CallsH P F.qbc [.pointer t4, .int .i64 p] (fun bf ai => ∃ aj ak am, bf = .slice aj ak am ∧ ∃ an ao aq, hcell ai (Addr.add t5 4) = some (.slice an ao aq) ∧ SemH P (Builtin.append_ #[T.sl_bool, T.sl_bool] T.sl_bool #[.slice an ao aq, .slice aj ak am]) (fun bg bh => ∃ ar au aw, bg = .slice ar au aw ∧ ∃ ax, stC bh (Addr.add t5 4) 0 [.slice ar au aw] = some ax ∧ qat.j4 K (qat.L3 K fuel) t2 t4 t5 t6 t7 p ax) ai) q)) ∧ ((decide (p > 0)) = false → (0 : Int) ≤ 0 ∧ 0 < ((List.length t6 : Nat) : Int) ∧ CallsH P F.qdy [.pointer t4, .pointer (some t5), .int .u8 (lb t6 0)] (fun bi ay => ∃ r, bi = .bool r ∧ (r = true → qat.j4 K (qat.L3 K fuel) t2 t4 t5 t6 t7 1 ay) ∧ (r = false → qat.j4 K (qat.L3 K fuel) t2 t4 t5 t6 false 1 ay)) q)) h) ∧ ((!(t6 == ([] : List UInt8))) = false → qat.j1 K t2 t4 t5 t7 h)
termination_by structural n => n
def qat.L3.l : Live := [(2, .addr), (4, .ptr), (5, .addr), (6, .str), (7, .bool)]
def qat.L3.j (K : KT) : Nat → Tup qat.L3.l → Heap → Prop := fun n x h => qat.L3 K n x.1 x.2.1 x.2.2.1 x.2.2.2.1 x.2.2.2.2.1 h
def qat.p0 (K : KT) (t0 : OA) (ah : Nat) (ai : Nat) (h : Heap) : Prop :=
  bd (al h #[.int .i64 0, .int .i64 0, .slice none 0 0, .slice none 0 0, .slice none 0 0, .slice none 0 0] T.api_Method) fun h1 => CallsH P F.qdx [.slice t0 ah ai] (fun v2 h3 => ∃ p4, v2 = .pointer p4 ∧ CallsH P F.qdj [.pointer p4, .int .i64 2] (fun v5 h6 => ∃ n7, v5 = .int .u64 n7 ∧ CallsH P F.qdj [.pointer p4, .int .i64 2] (fun v8 h9 => ∃ r, v8 = .int .u64 r ∧ bd (al h9 #[.int .i64 0, .int .i64 0, .slice none 0 0, .slice none 0 0, .slice none 0 0, .slice none 0 0] T.api_Method) fun aj => ([.int .i64 (IntKind.i64.wrap n7), .int .i64 (IntKind.i64.wrap r), .slice none 0 0, .slice none 0 0, .slice none 0 0, .slice none 0 0] : List Value).length = 6 ∧ ∃ ab, stC aj (top h9) 0 [.int .i64 (IntKind.i64.wrap n7), .int .i64 (IntKind.i64.wrap r), .slice none 0 0, .slice none 0 0, .slice none 0 0, .slice none 0 0] = some ab ∧ CallsH P F.qdk [.pointer p4] (fun ak p => ∃ x, ak = .bool x ∧ ((!x) = true → ([.int .i64 0, .int .i64 0, .slice none 0 0, .slice none 0 0, .slice none 0 0, .slice none 0 0] : List Value).length = 6 ∧ ∃ z, stC p (top h) 0 [.int .i64 0, .int .i64 0, .slice none 0 0, .slice none 0 0, .slice none 0 0, .slice none 0 0] = some z ∧ ∃ ac, rdC z (top h) 0 6 = some ac ∧ K (.tuple #[.agg (List.toArray ac), .int .i64 4]) z) ∧ ((!x) = false → ∃ ad, hcell p (Addr.add (top h9) 0) = some (.int .i64 ad) ∧ ∃ ae, hcell p (Addr.add (top h9) 1) = some (.int .i64 ae) ∧ CallsH P F.qdq [.int .i64 ad, .int .i64 ae] (fun am af => ∃ s22 q, am = .tuple #[.string (mkS s22), .bool q] ∧ ((!q) = true → ([.int .i64 0, .int .i64 0, .slice none 0 0, .slice none 0 0, .slice none 0 0, .slice none 0 0] : List Value).length = 6 ∧ ∃ aa, stC af (top h) 0 [.int .i64 0, .int .i64 0, .slice none 0 0, .slice none 0 0, .slice none 0 0, .slice none 0 0] = some aa ∧ ∃ ag, rdC aa (top h) 0 6 = some ag ∧ K (.tuple #[.agg (List.toArray ag), .int .i64 5]) aa) ∧ ((!q) = false → ∃ fuel60, qat.L3 K fuel60 (top h) p4 (top h9) s22 q af)) p)) ab) h6) h3) h1
def qat.plan (K : KT) : Plan := (.seq .go (.seq .go (.seq .go (.seq .go (.seq .go (.seq .go (.cut qat.j1.l (qat.j1.j K) (.block (.loop qat.L3.l (qat.L3.j K) (fun n3 => (.seq .go (.block (.seq .go (.cut qat.j4.l (qat.j4.j K (qat.L3 K n3)) (.seq .go (.cond (.orders (.op 0 (.op 2 (.op 3 (.both (.op 1 (.op 4 (.op 5 (.op 6 (.op 7 .nil))))) (.op 4 (.op 1 (.op 5 (.op 6 (.op 7 .nil)))))))))) .go)) .go))))))) (.seq (.cut qat.j2.l (qat.j2.j K) .go .go) .go))))))))
theorem qat.ev_eq : qat.p0 = fun K t0 p q h => Ev P Tryz.f92 (qat.plan K) K [.slice t0 p q] h := by kernel_rfl
theorem qat.obl (K : KT) : Obl P Tryz.f92 (qat.plan K) K :=
  obl_of (R := (∀ x h, ¬ (qat.L3.j K) 0 x h) ∧ ImpN (qat.L3.j K) ∧ (∀ (n3 : Nat), DrawOK P Tryz.f92.ntmps (opsAt 11 (bodyOf Tryz.f92)) (.op 0 (.op 2 (.op 3 (.both (.op 1 (.op 4 (.op 5 (.op 6 (.op 7 .nil))))) (.op 4 (.op 1 (.op 5 (.op 6 (.op 7 .nil))))))))) ∧ Imp (qat.j4.j K (qat.L3 K n3)) ∧ True) ∧ Imp (qat.j1.j K) ∧ Imp (qat.j2.j K) ∧ True) (by kernel_rfl) ⟨fun _ _ H => H, impN _, fun _ => ⟨draw_ok (by kernel_rfl), ⟨imp _, trivial⟩⟩, ⟨imp _, ⟨imp _, trivial⟩⟩⟩
theorem qat.ok {K : KT} {t0 : OA} {p : Nat} {q : Nat} {h : Heap} (H : qat.p0 K t0 p q h) : CallsH P F.qat [.slice t0 p q] K h :=
  calls_of_Ev (qat.plan K) Tryz.func92 (by kernel_rfl) (qat.obl K) (by rw [qat.ev_eq] at H; exact H)
end Go.Proofs.YtjapglfpjhljpaaGreat.Pr
end
section
set_option linter.unusedVariables false
set_option maxRecDepth 100000
namespace Go.Proofs.YtjapglfpjhljpaaGreat.Pr
open Go Go.Lift Go.Proofs
def qbo.j2 (K : KT) (t1 : Int) (t2 : Addr) (t6 : Bool) (t7 : Bool) (h : Heap) : Prop :=
  ∃ n2, hcell h (Addr.add t2 1) = some (.int .u8 n2) ∧ bd ((n2 == 116) : Bool) fun b3 => (b3 = true → (t7 = true → (∃ n4, hcell h (Addr.add t2 2) = some (.int .i64 n4) ∧ (bd (al h #[.int .u8 (IntKind.u8.wrap n4)] T.uint8) fun h5 => ∃ n6, hcell h5 (Addr.add t2 2) = some (.int .i64 n6) ∧ ((n6 == 0) = false → bd ((some (top h)) : OA) fun a7 => bd (1 : Nat) fun dr => bd (1 : Nat) fun ds => ∃ n8, hcell h5 (Addr.add t2 2) = some (.int .i64 n8) ∧ bd ((n8 == 1) : Bool) fun b9 => K (.tuple #[.slice a7 dr ds, .bool b9]) h5) ∧ ((n6 == 0) = true → bd ((some (top h)) : OA) fun dt => bd (1 : Nat) fun du => bd (1 : Nat) fun dv => K (.tuple #[.slice dt du dv, .bool true]) h5)) ∧ (∃ az, hcell h (Addr.add t2 2) = some (.int .i64 az) ∧ ((az == 0) = false → (bd (al h #[.int .u8 (IntKind.u8.wrap n4)] T.uint8) fun bz => bd ((some (top h)) : OA) fun dw => bd (1 : Nat) fun dx => bd (1 : Nat) fun dy => ∃ ca, hcell bz (Addr.add t2 2) = some (.int .i64 ca) ∧ bd ((ca == 1) : Bool) fun dz => K (.tuple #[.slice dw dx dy, .bool dz]) bz) ∧ (∃ cb, hcell h (Addr.add t2 2) = some (.int .i64 cb) ∧ bd (al h #[.int .u8 (IntKind.u8.wrap n4)] T.uint8) fun ea => bd ((some (top h)) : OA) fun eb => bd (1 : Nat) fun ec => bd (1 : Nat) fun ed => bd ((cb == 1) : Bool) fun ee => K (.tuple #[.slice eb ec ed, .bool ee]) ea)) ∧ ((az == 0) = true → (bd (al h #[.int .u8 (IntKind.u8.wrap n4)] T.uint8) fun ef => bd ((some (top h)) : OA) fun eg => bd (1 : Nat) fun eh => bd (1 : Nat) fun ei => K (.tuple #[.slice eg eh ei, .bool true]) ef) ∧ (bd (al h #[.int .u8 (IntKind.u8.wrap n4)] T.uint8) fun ej => bd ((some (top h)) : OA) fun ek => bd (1 : Nat) fun el => bd (1 : Nat) fun em => K (.tuple #[.slice ek el em, .bool true]) ej)))) ∧ (∃ ba, hcell h (Addr.add t2 2) = some (.int .i64 ba) ∧ ((ba == 0) = false → (∃ bb, hcell h (Addr.add t2 2) = some (.int .i64 bb) ∧ (bd (al h #[.int .u8 (IntKind.u8.wrap bb)] T.uint8) fun cd => bd ((some (top h)) : OA) fun en => bd (1 : Nat) fun eo => bd (1 : Nat) fun ep => ∃ ce, hcell cd (Addr.add t2 2) = some (.int .i64 ce) ∧ bd ((ce == 1) : Bool) fun es => K (.tuple #[.slice en eo ep, .bool es]) cd) ∧ (∃ cf, hcell h (Addr.add t2 2) = some (.int .i64 cf) ∧ bd (al h #[.int .u8 (IntKind.u8.wrap bb)] T.uint8) fun et => bd ((some (top h)) : OA) fun eu => bd (1 : Nat) fun ew => bd (1 : Nat) fun ey => bd ((cf == 1) : Bool) fun ez => K (.tuple #[.slice eu ew ey, .bool ez]) et)) ∧ (∃ cg, hcell h (Addr.add t2 2) = some (.int .i64 cg) ∧ ∃ ci, hcell h (Addr.add t2 2) = some (.int .i64 ci) ∧ bd (al h #[.int .u8 (IntKind.u8.wrap ci)] T.uint8) fun fa => bd ((some (top h)) : OA) fun fb => bd (1 : Nat) fun fc => bd (1 : Nat) fun fd => bd ((cg == 1) : Bool) fun fe => K (.tuple #[.slice fb fc fd, .bool fe]) fa)) ∧ ((ba == 0) = true → (∃ bc, hcell h (Addr.add t2 2) = some (.int .i64 bc) ∧ (bd (al h #[.int .u8 (IntKind.u8.wrap bc)] T.uint8) fun ff => bd ((some (top h)) : OA) fun fg => bd (1 : Nat) fun fh => bd (1 : Nat) fun fi => K (.tuple #[.slice fg fh fi, .bool true]) ff) ∧ (bd (al h #[.int .u8 (IntKind.u8.wrap bc)] T.uint8) fun fj => bd ((some (top h)) : OA) fun fk => bd (1 : Nat) fun fl => bd (1 : Nat) fun fm => K (.tuple #[.slice fk fl fm, .bool true]) fj)) ∧ (∃ cj, hcell h (Addr.add t2 2) = some (.int .i64 cj) ∧ bd (al h #[.int .u8 (IntKind.u8.wrap cj)] T.uint8) fun fn => bd ((some (top h)) : OA) fun fo => bd (1 : Nat) fun fp => bd (1 : Nat) fun fq => K (.tuple #[.slice fo fp fq, .bool true]) fn)))) ∧ (t7 = false → (∃ ab, hcell h (Addr.add t2 2) = some (.int .i64 ab) ∧ (bd (al h #[.int .u8 (IntKind.u8.wrap ab)] T.uint8) fun fr => bd ((some (top h)) : OA) fun fs => bd (1 : Nat) fun ft => bd (1 : Nat) fun fu => K (.tuple #[.slice fs ft fu, .bool false]) fr) ∧ ((bd (al h #[.int .u8 (IntKind.u8.wrap ab)] T.uint8) fun fv => bd ((some (top h)) : OA) fun fw => bd (1 : Nat) fun fx => bd (1 : Nat) fun fy => K (.tuple #[.slice fw fx fy, .bool false]) fv) ∧ (bd (al h #[.int .u8 (IntKind.u8.wrap ab)] T.uint8) fun ga => bd ((some (top h)) : OA) fun gb => bd (1 : Nat) fun gc => bd (1 : Nat) fun gd => K (.tuple #[.slice gb gc gd, .bool false]) ga))) ∧ ((∃ be, hcell h (Addr.add t2 2) = some (.int .i64 be) ∧ (bd (al h #[.int .u8 (IntKind.u8.wrap be)] T.uint8) fun ge => bd ((some (top h)) : OA) fun gf => bd (1 : Nat) fun gg => bd (1 : Nat) fun gh => K (.tuple #[.slice gf gg gh, .bool false]) ge) ∧ (bd (al h #[.int .u8 (IntKind.u8.wrap be)] T.uint8) fun gi => bd ((some (top h)) : OA) fun gj => bd (1 : Nat) fun gk => bd (1 : Nat) fun gl => K (.tuple #[.slice gj gk gl, .bool false]) gi)) ∧ (∃ ck, hcell h (Addr.add t2 2) = some (.int .i64 ck) ∧ bd (al h #[.int .u8 (IntKind.u8.wrap ck)] T.uint8) fun gm => bd ((some (top h)) : OA) fun gn => bd (1 : Nat) fun gp => bd (1 : Nat) fun gq => K (.tuple #[.slice gn gp gq, .bool false]) gm)))) ∧ (b3 = false → bd ((n2 == 73) : Bool) fun cm => (cm = true → ∃ co, hcell h (Addr.add t2 2) = some (.int .i64 co) ∧ CallsH P F.qcp [.slice none 0 0, .int .i64 4, .int .u64 (IntKind.u64.wrap co)] (fun gr q => ∃ ac ad ae, gr = .slice ac ad ae ∧ (t7 = true → ∃ bf, hcell q (Addr.add t2 2) = some (.int .i64 bf) ∧ ((decide (bf ≥ (-2147483648))) = true → ∃ cp, hcell q (Addr.add t2 2) = some (.int .i64 cp) ∧ bd ((decide (cp ≤ 2147483647)) : Bool) fun gs => K (.tuple #[.slice ac ad ae, .bool gs]) q) ∧ ((decide (bf ≥ (-2147483648))) = false → K (.tuple #[.slice ac ad ae, .bool false]) q)) ∧ (t7 = false → K (.tuple #[.slice ac ad ae, .bool false]) q)) h) ∧ (cm = false → bd ((n2 == 108) : Bool) fun cq => (cq = true → ∃ cr, hcell h (Addr.add t2 2) = some (.int .i64 cr) ∧ CallsH P F.qcp [.slice none 0 0, .int .i64 8, .int .u64 (IntKind.u64.wrap cr)] (fun gt gu => ∃ cs ct cu, gt = .slice cs ct cu ∧ K (.tuple #[.slice cs ct cu, .bool t7]) gu) h) ∧ (cq = false → bd ((n2 == 83) : Bool) fun cv => (cv = true → (∃ bg, hcell h (Addr.add t2 3) = some (.string (mkS bg)) ∧ (SemH P (Go.convert T.string T.sl_uint8 (.string (mkS bg))) (fun gv bh => ∃ bi bj bk, gv = .slice bi bj bk ∧ (CallsH P F.qdr [.slice none 0 0, .slice bi bj bk] (fun gw p => ∃ af ag ah, gw = .slice af ag ah ∧ ∃ bl, hcell p (Addr.add t2 2) = some (.int .i64 bl) ∧ ((bl == 0) = true → ∃ gx bm gy, hcell p (Addr.add t2 4) = some (.slice gx bm gy) ∧ ((((bm : Nat) : Int) == 0) = true → ∃ cw, hcell p (Addr.add t2 3) = some (.string (mkS cw)) ∧ bd ((decide (((List.length cw : Nat) : Int) ≤ 2000)) : Bool) fun gz => K (.tuple #[.slice af ag ah, .bool gz]) p) ∧ ((((bm : Nat) : Int) == 0) = false → K (.tuple #[.slice af ag ah, .bool false]) p)) ∧ ((bl == 0) = false → K (.tuple #[.slice af ag ah, .bool false]) p)) bh) ∧ (∃ bp, hcell bh (Addr.add t2 2) = some (.int .i64 bp) ∧ CallsH P F.qdr [.slice none 0 0, .slice bi bj bk] (fun hc r => ∃ ai aj ak, hc = .slice ai aj ak ∧ ((bp == 0) = true → ∃ he bq hf, hcell r (Addr.add t2 4) = some (.slice he bq hf) ∧ ((((bq : Nat) : Int) == 0) = true → ∃ cx, hcell r (Addr.add t2 3) = some (.string (mkS cx)) ∧ bd ((decide (((List.length cx : Nat) : Int) ≤ 2000)) : Bool) fun hg => K (.tuple #[.slice ai aj ak, .bool hg]) r) ∧ ((((bq : Nat) : Int) == 0) = false → K (.tuple #[.slice ai aj ak, .bool false]) r)) ∧ ((bp == 0) = false → K (.tuple #[.slice ai aj ak, .bool false]) r)) bh)) h) ∧ (∃ br, hcell h (Addr.add t2 2) = some (.int .i64 br) ∧ SemH P (Go.convert T.string T.sl_uint8 (.string (mkS bg))) (fun hh hi => ∃ cy cz da, hh = .slice cy cz da ∧ CallsH P F.qdr [.slice none 0 0, .slice cy cz da] (fun hj x => ∃ am an ao, hj = .slice am an ao ∧ ((br == 0) = true → ∃ hk bs hl, hcell x (Addr.add t2 4) = some (.slice hk bs hl) ∧ ((((bs : Nat) : Int) == 0) = true → ∃ db, hcell x (Addr.add t2 3) = some (.string (mkS db)) ∧ bd ((decide (((List.length db : Nat) : Int) ≤ 2000)) : Bool) fun hm => K (.tuple #[.slice am an ao, .bool hm]) x) ∧ ((((bs : Nat) : Int) == 0) = false → K (.tuple #[.slice am an ao, .bool false]) x)) ∧ ((br == 0) = false → K (.tuple #[.slice am an ao, .bool false]) x)) hi) h)) ∧ (∃ bt, hcell h (Addr.add t2 2) = some (.int .i64 bt) ∧ ∃ dc, hcell h (Addr.add t2 3) = some (.string (mkS dc)) ∧ SemH P (Go.convert T.string T.sl_uint8 (.string (mkS dc))) (fun hn ho => ∃ dd de df, hn = .slice dd de df ∧ CallsH P F.qdr [.slice none 0 0, .slice dd de df] (fun hp z => ∃ aq ar au, hp = .slice aq ar au ∧ ((bt == 0) = true → ∃ hq bu hr, hcell z (Addr.add t2 4) = some (.slice hq bu hr) ∧ ((((bu : Nat) : Int) == 0) = true → ∃ dg, hcell z (Addr.add t2 3) = some (.string (mkS dg)) ∧ bd ((decide (((List.length dg : Nat) : Int) ≤ 2000)) : Bool) fun hs => K (.tuple #[.slice aq ar au, .bool hs]) z) ∧ ((((bu : Nat) : Int) == 0) = false → K (.tuple #[.slice aq ar au, .bool false]) z)) ∧ ((bt == 0) = false → K (.tuple #[.slice aq ar au, .bool false]) z)) ho) h)) ∧ (cv = false → bd ((n2 == 70) : Bool) fun dh => (dh = true → ∃ di dj dk, hcell h (Addr.add t2 4) = some (.slice di dj dk) ∧ CallsH P F.qay [.slice di dj dk, .int .i64 (IntKind.i64.wrap (t1 + 1))] (fun ht hu => ∃ dl dm dn bw, ht = .tuple #[.slice dl dm dn, .bool bw] ∧ CallsH P F.qdr [.slice none 0 0, .slice dl dm dn] (fun hv aa => ∃ aw ax ay, hv = .slice aw ax ay ∧ (bw = true → ∃ bx, hcell aa (Addr.add t2 2) = some (.int .i64 bx) ∧ ((bx == 0) = true → ∃ dp, hcell aa (Addr.add t2 3) = some (.string (mkS dp)) ∧ bd ((dp == ([] : List UInt8)) : Bool) fun hw => K (.tuple #[.slice aw ax ay, .bool hw]) aa) ∧ ((bx == 0) = false → K (.tuple #[.slice aw ax ay, .bool false]) aa)) ∧ (bw = false → K (.tuple #[.slice aw ax ay, .bool false]) aa)) hu) h) ∧ (dh = false → bd ((n2 == 86) : Bool) fun dq => (dq = true → K (.tuple #[.slice none 0 0, .bool t6]) h) ∧ (dq = false → K (.tuple #[.slice none 0 0, .bool false]) h))))))
def qbo.j2.l : Live := [(1, .int .i64), (2, .addr), (6, .bool), (7, .bool)]
def qbo.j2.j (K : KT) : Tup qbo.j2.l → Heap → Prop := fun x h => qbo.j2 K x.1 x.2.1 x.2.2.1 x.2.2.2.1 h
def qbo.j1 (K : KT) (t1 : Int) (t2 : Addr) (t6 : Bool) (h : Heap) : Prop :=
  ∃ p, hcell h (Addr.add t2 3) = some (.string (mkS p)) ∧ ((p == ([] : List UInt8)) = true → ∃ r q x, hcell h (Addr.add t2 4) = some (.slice r q x) ∧ bd ((((q : Nat) : Int) == 0) : Bool) fun z => qbo.j2 K t1 t2 t6 z h) ∧ ((p == ([] : List UInt8)) = false → qbo.j2 K t1 t2 t6 false h)
def qbo.j1.l : Live := [(1, .int .i64), (2, .addr), (6, .bool)]
def qbo.j1.j (K : KT) : Tup qbo.j1.l → Heap → Prop := fun x h => qbo.j1 K x.1 x.2.1 x.2.2.1 h
def qbo.p0 (K : KT) (t0 : List Value) (t1 : Int) (h : Heap) : Prop :=
  bd (al h (List.toArray t0) T.api_Field) fun h1 => ∃ p, hcell h1 (Addr.add (top h) 2) = some (.int .i64 p) ∧ ((p == 0) = true → ∃ q, hcell h1 (Addr.add (top h) 3) = some (.string (mkS q)) ∧ ((q == ([] : List UInt8)) = true → ∃ x r z, hcell h1 (Addr.add (top h) 4) = some (.slice x r z) ∧ bd ((((r : Nat) : Int) == 0) : Bool) fun aa => qbo.j1 K t1 (top h) aa h1) ∧ ((q == ([] : List UInt8)) = false → qbo.j1 K t1 (top h) false h1)) ∧ ((p == 0) = false → qbo.j1 K t1 (top h) false h1)
def qbo.plan (K : KT) : Plan := (.seq .go (.cut qbo.j1.l (qbo.j1.j K) .go (.cut qbo.j2.l (qbo.j2.j K) .go (.seq (.seq .go (.block (.seq .go (.cond (.seq (.orders (.op 0 (.op 4 (.op 5 (.op 6 (.both (.op 1 (.op 2 (.both (.op 3 (.op 7 (.op 8 (.op 9 (.op 10 (.op 15 (.op 11 (.op 12 (.op 13 (.op 14 (.op 16 .nil))))))))))) (.op 7 (.op 8 (.op 9 (.op 10 (.both (.op 3 (.op 15 (.op 11 (.op 12 (.op 13 (.op 14 (.op 16 .nil))))))) (.op 11 (.op 12 (.op 13 (.op 14 (.op 3 (.op 15 (.op 16 .nil))))))))))))))) (.op 7 (.op 8 (.op 9 (.op 10 (.both (.op 1 (.op 2 (.both (.op 3 (.op 15 (.op 11 (.op 12 (.op 13 (.op 14 (.op 16 .nil))))))) (.op 11 (.op 12 (.op 13 (.op 14 (.op 3 (.op 15 (.op 16 .nil)))))))))) (.op 11 (.op 12 (.op 13 (.op 14 (.op 1 (.op 2 (.op 3 (.op 15 (.op 16 .nil)))))))))))))))))))) .go) (.seq .go (.cond (.seq (.orders (.op 0 (.op 4 (.op 1 (.op 2 (.op 3 (.op 5 (.op 6 (.op 7 (.op 8 (.op 9 (.op 10 (.op 11 (.op 15 (.op 12 (.op 13 (.op 14 (.op 16 .nil)))))))))))))))))) .go) (.seq .go (.cond .go (.seq .go (.cond (.seq (.orders (.op 0 (.op 4 (.both (.op 1 (.both (.op 2 (.both (.op 3 (.op 5 (.op 6 (.op 7 (.op 8 (.op 9 (.op 10 (.op 11 (.op 12 (.op 13 (.op 14 (.op 19 (.op 15 (.op 16 (.op 17 (.op 18 (.op 20 .nil))))))))))))))))) (.op 5 (.op 6 (.op 3 (.op 7 (.op 8 (.op 9 (.op 10 (.op 11 (.op 12 (.op 13 (.op 14 (.op 19 (.op 15 (.op 16 (.op 17 (.op 18 (.op 20 .nil))))))))))))))))))) (.op 5 (.op 6 (.op 2 (.op 3 (.op 7 (.op 8 (.op 9 (.op 10 (.op 11 (.op 12 (.op 13 (.op 14 (.op 19 (.op 15 (.op 16 (.op 17 (.op 18 (.op 20 .nil)))))))))))))))))))) (.op 5 (.op 6 (.op 1 (.op 2 (.op 3 (.op 7 (.op 8 (.op 9 (.op 10 (.op 11 (.op 12 (.op 13 (.op 14 (.op 19 (.op 15 (.op 16 (.op 17 (.op 18 (.op 20 .nil))))))))))))))))))))))) .go) (.seq .go (.cond (.seq .go (.seq (.orders (.op 0 (.op 2 (.op 1 (.op 3 (.op 4 (.op 5 (.op 6 (.op 7 (.op 8 (.op 9 (.op 13 (.op 10 (.op 11 (.op 12 (.op 14 .nil)))))))))))))))) .go)) .go)))))))))))) .go))))
theorem qbo.ev_eq : qbo.p0 = fun K t0 t1 h => Ev P Tryz.f146 (qbo.plan K) K [.agg (List.toArray t0), .int .i64 t1] h := by kernel_rfl
theorem qbo.obl (K : KT) : Obl P Tryz.f146 (qbo.plan K) K :=
  obl_of (R := Imp (qbo.j1.j K) ∧ Imp (qbo.j2.j K) ∧ DrawOK P Tryz.f146.ntmps (opsAt 5 (bodyOf Tryz.f146)) (.op 0 (.op 4 (.op 5 (.op 6 (.both (.op 1 (.op 2 (.both (.op 3 (.op 7 (.op 8 (.op 9 (.op 10 (.op 15 (.op 11 (.op 12 (.op 13 (.op 14 (.op 16 .nil))))))))))) (.op 7 (.op 8 (.op 9 (.op 10 (.both (.op 3 (.op 15 (.op 11 (.op 12 (.op 13 (.op 14 (.op 16 .nil))))))) (.op 11 (.op 12 (.op 13 (.op 14 (.op 3 (.op 15 (.op 16 .nil))))))))))))))) (.op 7 (.op 8 (.op 9 (.op 10 (.both (.op 1 (.op 2 (.both (.op 3 (.op 15 (.op 11 (.op 12 (.op 13 (.op 14 (.op 16 .nil))))))) (.op 11 (.op 12 (.op 13 (.op 14 (.op 3 (.op 15 (.op 16 .nil)))))))))) (.op 11 (.op 12 (.op 13 (.op 14 (.op 1 (.op 2 (.op 3 (.op 15 (.op 16 .nil))))))))))))))))))) ∧ DrawOK P Tryz.f146.ntmps (opsAt 7 (bodyOf Tryz.f146)) (.op 0 (.op 4 (.op 1 (.op 2 (.op 3 (.op 5 (.op 6 (.op 7 (.op 8 (.op 9 (.op 10 (.op 11 (.op 15 (.op 12 (.op 13 (.op 14 (.op 16 .nil))))))))))))))))) ∧ DrawOK P Tryz.f146.ntmps (opsAt 11 (bodyOf Tryz.f146)) (.op 0 (.op 4 (.both (.op 1 (.both (.op 2 (.both (.op 3 (.op 5 (.op 6 (.op 7 (.op 8 (.op 9 (.op 10 (.op 11 (.op 12 (.op 13 (.op 14 (.op 19 (.op 15 (.op 16 (.op 17 (.op 18 (.op 20 .nil))))))))))))))))) (.op 5 (.op 6 (.op 3 (.op 7 (.op 8 (.op 9 (.op 10 (.op 11 (.op 12 (.op 13 (.op 14 (.op 19 (.op 15 (.op 16 (.op 17 (.op 18 (.op 20 .nil))))))))))))))))))) (.op 5 (.op 6 (.op 2 (.op 3 (.op 7 (.op 8 (.op 9 (.op 10 (.op 11 (.op 12 (.op 13 (.op 14 (.op 19 (.op 15 (.op 16 (.op 17 (.op 18 (.op 20 .nil)))))))))))))))))))) (.op 5 (.op 6 (.op 1 (.op 2 (.op 3 (.op 7 (.op 8 (.op 9 (.op 10 (.op 11 (.op 12 (.op 13 (.op 14 (.op 19 (.op 15 (.op 16 (.op 17 (.op 18 (.op 20 .nil)))))))))))))))))))))) ∧ DrawOK P Tryz.f146.ntmps (opsAt 14 (bodyOf Tryz.f146)) (.op 0 (.op 2 (.op 1 (.op 3 (.op 4 (.op 5 (.op 6 (.op 7 (.op 8 (.op 9 (.op 13 (.op 10 (.op 11 (.op 12 (.op 14 .nil))))))))))))))) ∧ True) (by kernel_rfl) ⟨imp _, ⟨imp _, ⟨draw_ok (by kernel_rfl), ⟨draw_ok (by kernel_rfl), ⟨draw_ok (by kernel_rfl), ⟨draw_ok (by kernel_rfl), trivial⟩⟩⟩⟩⟩⟩
theorem qbo.ok {K : KT} {t0 : List Value} {t1 : Int} {h : Heap} (H : qbo.p0 K t0 t1 h) : CallsH P F.qbo [.agg (List.toArray t0), .int .i64 t1] K h :=
  calls_of_Ev (qbo.plan K) Tryz.func146 (by kernel_rfl) (qbo.obl K) (by rw [qbo.ev_eq] at H; exact H)
def qay.j3 (K : KT) (R2 : Int → OA → Nat → Nat → Option Nat → OA → Nat → Nat → Int → Int → Heap → Prop) (t1 : Int) (t6 : OA) (ao : Nat) (aq : Nat) (t7 : Option Nat) (t9 : Addr) (ar : OA) (au : Nat) (aw : Nat) (ax : OA) (ay : Nat) (az : Nat) (ba : Int) (bb : Int) (r : Bool) (h : Heap) : Prop :=
  (r = true → K (.tuple #[.slice none 0 0, .bool false]) h) ∧ (r = false → ∃ x, hcell h (Addr.add t9 0) = some (.string (mkS x)) ∧ bd (al h #[.int .u8 (IntKind.u8.wrap ((List.length x : Nat) : Int))] T.uint8) fun bc => SemH P (Builtin.append_ #[T.sl_uint8, T.sl_uint8] T.sl_uint8 #[.slice t6 ao aq, .slice (some (top h)) 1 1]) (fun be z => ∃ aa ab ac, be = .slice aa ab ac ∧ ∃ s22, hcell z (Addr.add t9 0) = some (.string (mkS s22)) ∧ SemH P (Builtin.append_ #[T.sl_uint8, T.string] T.sl_uint8 #[.slice aa ab ac, .string (mkS s22)]) (fun bf q => ∃ ad ae af, bf = .slice ad ae af ∧ ∃ ag, hcell q (Addr.add t9 1) = some (.int .u8 ag) ∧ bd (al q #[.int .u8 ag] T.uint8) fun bg => SemH P (Builtin.append_ #[T.sl_uint8, T.sl_uint8] T.sl_uint8 #[.slice ad ae af, .slice (some (top q)) 1 1]) (fun bh bi => ∃ ah ai aj, bh = .slice ah ai aj ∧ SemH P (Builtin.append_ #[T.sl_uint8, T.sl_uint8] T.sl_uint8 #[.slice ah ai aj, .slice ar au aw]) (fun bj ak => ∃ am p an, bj = .slice am p an ∧ ((decide (((p : Nat) : Int) > 2000)) = true → K (.tuple #[.slice none 0 0, .bool false]) ak) ∧ ((decide (((p : Nat) : Int) > 2000)) = false → R2 t1 am p an t7 ax ay az ba (IntKind.i64.wrap (bb + 1)) ak)) bi) bg) z) bc)
def qay.j3.l : Live := [(1, .int .i64), (6, .slice), (7, .map), (9, .addr), (10, .slice), (20, .slice), (21, .int .i64), (22, .int .i64), (56, .bool)]
def qay.j3.j (K : KT) (R2 : Int → OA → Nat → Nat → Option Nat → OA → Nat → Nat → Int → Int → Heap → Prop) : Tup qay.j3.l → Heap → Prop := fun x h => qay.j3 K R2 x.1 x.2.1.1 x.2.1.2.1 x.2.1.2.2 x.2.2.1 x.2.2.2.1 x.2.2.2.2.1.1 x.2.2.2.2.1.2.1 x.2.2.2.2.1.2.2 x.2.2.2.2.2.1.1 x.2.2.2.2.2.1.2.1 x.2.2.2.2.2.1.2.2 x.2.2.2.2.2.2.1 x.2.2.2.2.2.2.2.1 x.2.2.2.2.2.2.2.2.1 h
def qay.L2 (K : KT) : Nat → Int → OA → Nat → Nat → Option Nat → OA → Nat → Nat → Int → Int → Heap → Prop
  | 0, _, _, _, _, _, _, _, _, _, _, _ => False
  | fuel + 1, t1, t6, r, x, t7, z, aa, af, q, p, h => ((decide (p < q)) = true → ∃ p2, z = some p2 ∧ (0 : Int) ≤ p ∧ p < ((aa : Nat) : Int) ∧ ∃ ag, rdC h (Addr.add p2 (Int.toNat p * 5)) 0 5 = some ag ∧ bd (al h #[.string (mkS ([] : List UInt8)), .int .u8 0, .int .i64 0, .string (mkS ([] : List UInt8)), .slice none 0 0] T.api_Field) fun h4 => ag.length = 5 ∧ ∃ h5, stC h4 (top h) 0 ag = some h5 ∧ ∃ s6, hcell h5 (Addr.add (top h) 0) = some (.string (mkS s6)) ∧ SemH P (Instr.lookup T.map_string_int (.map t7) (.string (mkS s6)) false) (fun v7 h8 => ∃ n9, v7 = .int .i64 n9 ∧ SemH P (unit (Instr.mapUpdate T.map_string_int (.map t7) (.string (mkS s6)) (.int .i64 (IntKind.i64.wrap (n9 + 1))))) (fun aw am => ∃ an, rdC am (top h) 0 5 = some an ∧ CallsH P F.qbo [.agg (List.toArray an), .int .i64 t1] (fun ar ah => ∃ ab ac ad ai, ar = .tuple #[.slice ab ac ad, .bool ai] ∧ ((!ai) = false → ∃ ao, hcell ah (Addr.add (top h) 0) = some (.string (mkS ao)) ∧ SemH P (Instr.lookup T.map_string_int (.map t7) (.string (mkS ao)) false) (fun au ae => ∃ aj, au = .int .i64 aj ∧ ((decide (aj > 1)) = false → ∃ ak, hcell ae (Addr.add (top h) 0) = some (.string (mkS ak)) ∧ ((ak == ([] : List UInt8)) = false → ∃ aq, hcell ae (Addr.add (top h) 0) = some (.string (mkS aq)) ∧ qay.j3 K (qay.L2 K fuel) t1 t6 r x t7 (top h) ab ac ad z aa af q p (decide (((List.length aq : Nat) : Int) > 128)) ae) ∧ ((ak == ([] : List UInt8)) = true → qay.j3 K (qay.L2 K fuel) t1 t6 r x t7 (top h) ab ac ad z aa af q p true ae)) ∧ ((decide (aj > 1)) = true → qay.j3 K (qay.L2 K fuel) t1 t6 r x t7 (top h) ab ac ad z aa af q p true ae)) ah) ∧ ((!ai) = true → qay.j3 K (qay.L2 K fuel) t1 t6 r x t7 (top h) ab ac ad z aa af q p true ah)) am) h8) h5) ∧ ((decide (p < q)) = false → K (.tuple #[.slice t6 r x, .bool true]) h)
termination_by structural n => n
def qay.L2.l : Live := [(1, .int .i64), (6, .slice), (7, .map), (20, .slice), (21, .int .i64), (22, .int .i64)]
def qay.L2.j (K : KT) : Nat → Tup qay.L2.l → Heap → Prop := fun n x h => qay.L2 K n x.1 x.2.1.1 x.2.1.2.1 x.2.1.2.2 x.2.2.1 x.2.2.2.1.1 x.2.2.2.1.2.1 x.2.2.2.1.2.2 x.2.2.2.2.1 x.2.2.2.2.2.1 h
def qay.j1 (K : KT) (t0 : OA) (p : Nat) (r : Nat) (t1 : Int) (q : Bool) (h : Heap) : Prop :=
  (q = true → K (.tuple #[.slice none 0 0, .bool false]) h) ∧ (q = false → bd (Array.push h (.map #[] 0)) fun h1 => ∃ fuel40, qay.L2 K fuel40 t1 none 0 0 (some (Array.size h)) t0 p r ((p : Nat) : Int) 0 h1)
def qay.j1.l : Live := [(0, .slice), (1, .int .i64), (18, .bool)]
def qay.j1.j (K : KT) : Tup qay.j1.l → Heap → Prop := fun x h => qay.j1 K x.1.1 x.1.2.1 x.1.2.2 x.2.1 x.2.2.1 h
def qay.p0 (K : KT) (t0 : OA) (p : Nat) (q : Nat) (t1 : Int) (h : Heap) : Prop :=
  ((decide (t1 > 8)) = false → qay.j1 K t0 p q t1 (decide (((p : Nat) : Int) > 2000)) h) ∧ ((decide (t1 > 8)) = true → qay.j1 K t0 p q t1 true h)
def qay.plan (K : KT) : Plan := (.seq .go (.seq (.cut qay.j1.l (qay.j1.j K) .go .go) (.seq .go (.seq .go (.seq (.seq .go (.block (.loop qay.L2.l (qay.L2.j K) (fun n2 => (.seq .go (.seq .go (.seq (.block (.seq .go (.seq .go (.seq .go (.seq (.cut qay.j3.l (qay.j3.j K (qay.L2 K n2)) .go .go) .go))))) .go))))))) .go)))))
theorem qay.ev_eq : qay.p0 = fun K t0 p q t1 h => Ev P Tryz.f139 (qay.plan K) K [.slice t0 p q, .int .i64 t1] h := by kernel_rfl
theorem qay.obl (K : KT) : Obl P Tryz.f139 (qay.plan K) K :=
  obl_of (R := Imp (qay.j1.j K) ∧ (∀ x h, ¬ (qay.L2.j K) 0 x h) ∧ ImpN (qay.L2.j K) ∧ (∀ (n2 : Nat), Imp (qay.j3.j K (qay.L2 K n2)) ∧ True) ∧ True) (by kernel_rfl) ⟨imp _, ⟨fun _ _ H => H, impN _, fun _ => ⟨imp _, trivial⟩, trivial⟩⟩
theorem qay.ok {K : KT} {t0 : OA} {p : Nat} {q : Nat} {t1 : Int} {h : Heap} (H : qay.p0 K t0 p q t1 h) : CallsH P F.qay [.slice t0 p q, .int .i64 t1] K h :=
  calls_of_Ev (qay.plan K) Tryz.func139 (by kernel_rfl) (qay.obl K) (by rw [qay.ev_eq] at H; exact H)
def qdi.p0 (K : KT) (b_0 : OA) (b_0l : Nat) (b_0c : Nat) (l_1 : OA) (l_1l : Nat) (l_1c : Nat) (h : Heap) : Prop :=
  CallsH P F.qay [.slice l_1 l_1l l_1c, .int .i64 1] (fun v1 h2 => ∃ a3 p q b4, v1 = .tuple #[.slice a3 p q, .bool b4] ∧ CallsH P F.qbu [.slice b_0 b_0l b_0c] (fun v5 h6 => ∃ a7 r x, v5 = .slice a7 r x ∧ SemH P (Builtin.append_ #[T.sl_uint8, T.sl_uint8] T.sl_uint8 #[.slice a7 r x, .slice a3 p q]) (fun v8 h9 => ∃ z aa ab, v8 = .slice z aa ab ∧ K (.tuple #[.slice z aa ab, .bool b4]) h9) h6) h2) h
def qdi.plan (K : KT) : Plan := .go
theorem qdi.ev_eq : qdi.p0 = fun K b_0 b_0l b_0c l_1 l_1l l_1c h => Ev P Tryz.f130 (qdi.plan K) K [.slice b_0 b_0l b_0c, .slice l_1 l_1l l_1c] h := by kernel_rfl
theorem qdi.obl (K : KT) : Obl P Tryz.f130 (qdi.plan K) K :=
  obl_true (by kernel_rfl)
theorem qdi.ok {K : KT} {b_0 : OA} {b_0l : Nat} {b_0c : Nat} {l_1 : OA} {l_1l : Nat} {l_1c : Nat} {h : Heap} (H : qdi.p0 K b_0 b_0l b_0c l_1 l_1l l_1c h) : CallsH P F.qdi [.slice b_0 b_0l b_0c, .slice l_1 l_1l l_1c] K h :=
  calls_of_Ev (qdi.plan K) Tryz.func130 (by kernel_rfl) (qdi.obl K) (by rw [qdi.ev_eq] at H; exact H)
def qdt.p0 (K : KT) (r_0 : OA) (f_1 : OA) (deep_2 : Int) (h : Heap) : Prop :=
  ∃ p1, f_1 = some p1 ∧ ∃ n2, hcell h (Addr.add p1 1) = some (.int .u8 n2) ∧ bd ((n2 == 116) : Bool) fun b3 => (b3 = true → CallsH P F.qdj [.pointer r_0, .int .i64 1] (fun v4 h5 => ∃ n6, v4 = .int .u64 n6 ∧ ∃ p7, f_1 = some p7 ∧ ∃ h8, stC h5 (Addr.add p7 2) 0 [.int .i64 (IntKind.i64.wrap n6)] = some h8 ∧ K (.bool true) h8) h) ∧ (b3 = false → bd ((n2 == 73) : Bool) fun b9 => (b9 = true → CallsH P F.qdj [.pointer r_0, .int .i64 4] (fun ay az => ∃ p, ay = .int .u64 p ∧ ∃ q, f_1 = some q ∧ ∃ r, stC az (Addr.add q 2) 0 [.int .i64 (IntKind.i64.wrap (IntKind.i32.wrap p))] = some r ∧ K (.bool true) r) h) ∧ (b9 = false → bd ((n2 == 108) : Bool) fun x => (x = true → CallsH P F.qdj [.pointer r_0, .int .i64 8] (fun ba bb => ∃ z, ba = .int .u64 z ∧ ∃ aa, f_1 = some aa ∧ ∃ ab, stC bb (Addr.add aa 2) 0 [.int .i64 (IntKind.i64.wrap z)] = some ab ∧ K (.bool true) ab) h) ∧ (x = false → bd ((n2 == 83) : Bool) fun ac => (ac = true → CallsH P F.qdc [.pointer r_0] (fun bc be => ∃ ad ae af, bc = .slice ad ae af ∧ SemH P (Go.convert T.sl_uint8 T.string (.slice ad ae af)) (fun bf bg => ∃ ag, bf = .string (mkS ag) ∧ ∃ ah, f_1 = some ah ∧ ∃ ai, stC bg (Addr.add ah 3) 0 [.string (mkS ag)] = some ai ∧ K (.bool true) ai) be) h) ∧ (ac = false → bd ((n2 == 70) : Bool) fun aj => (aj = true → CallsH P F.qdc [.pointer r_0] (fun bh bi => ∃ ak am an, bh = .slice ak am an ∧ CallsH P F.qaz [.slice ak am an, .int .i64 (IntKind.i64.wrap (deep_2 + 1))] (fun bj bk => ∃ ao aq ar au, bj = .tuple #[.slice ao aq ar, .bool au] ∧ ∃ aw, f_1 = some aw ∧ ∃ ax, stC bk (Addr.add aw 4) 0 [.slice ao aq ar] = some ax ∧ K (.bool au) ax) bi) h) ∧ (aj = false → K (.bool true) h)))))
def qdt.plan (K : KT) : Plan := .go
theorem qdt.ev_eq : qdt.p0 = fun K r_0 f_1 deep_2 h => Ev P Tryz.f147 (qdt.plan K) K [.pointer r_0, .pointer f_1, .int .i64 deep_2] h := by kernel_rfl
theorem qdt.obl (K : KT) : Obl P Tryz.f147 (qdt.plan K) K :=
  obl_true (by kernel_rfl)
theorem qdt.ok {K : KT} {r_0 : OA} {f_1 : OA} {deep_2 : Int} {h : Heap} (H : qdt.p0 K r_0 f_1 deep_2 h) : CallsH P F.qdt [.pointer r_0, .pointer f_1, .int .i64 deep_2] K h :=
  calls_of_Ev (qdt.plan K) Tryz.func147 (by kernel_rfl) (qdt.obl K) (by rw [qdt.ev_eq] at H; exact H)
def qaz.j3 (K : KT) (R2 : Int → OA → Nat → Nat → OA → Heap → Prop) (deep_1 : Int) (out_6 : OA) (out_6l : Nat) (out_6c : Nat) (r_7 : OA) (f_8 : Addr) (p : Bool) (h : Heap) : Prop :=
  (p = true → K (.tuple #[.slice none 0 0, .bool false]) h) ∧ (p = false → ∃ q, rdC h f_8 0 5 = some q ∧ ∃ r, bldS P T.sl_api_Field T.api_Field 1 [(0, .agg (List.toArray q))] r ∧ bd (al h (List.toArray r) T.api_Field) fun ab => SemH P (Builtin.append_ #[T.sl_api_Field, T.sl_api_Field] T.sl_api_Field #[.slice out_6 out_6l out_6c, .slice (some (top h)) 1 1]) (fun ac ad => ∃ x z aa, ac = .slice x z aa ∧ R2 deep_1 x z aa r_7 ad) ab)
def qaz.j3.l : Live := [(1, .int .i64), (6, .slice), (7, .ptr), (8, .addr), (36, .bool)]
def qaz.j3.j (K : KT) (R2 : Int → OA → Nat → Nat → OA → Heap → Prop) : Tup qaz.j3.l → Heap → Prop := fun x h => qaz.j3 K R2 x.1 x.2.1.1 x.2.1.2.1 x.2.1.2.2 x.2.2.1 x.2.2.2.1 x.2.2.2.2.1 h
def qaz.L2 (K : KT) : Nat → Int → OA → Nat → Nat → OA → Heap → Prop
  | 0, _, _, _, _, _, _ => False
  | fuel + 1, deep_1, out_6, out_6l, out_6c, r_7, h => CallsH P F.qdd [.pointer r_7] (fun v4 h5 => ∃ n6, v4 = .int .i64 n6 ∧ ((decide (n6 > 0)) = true → CallsH P F.qdb [.pointer r_7] (fun v7 h8 => ∃ s9, v7 = .string (mkS s9) ∧ bd (al h8 #[.string (mkS ([] : List UInt8)), .int .u8 0, .int .i64 0, .string (mkS ([] : List UInt8)), .slice none 0 0] T.api_Field) fun ab => ([.string (mkS s9), .int .u8 0, .int .i64 0, .string (mkS ([] : List UInt8)), .slice none 0 0] : List Value).length = 5 ∧ ∃ q, stC ab (top h8) 0 [.string (mkS s9), .int .u8 0, .int .i64 0, .string (mkS ([] : List UInt8)), .slice none 0 0] = some q ∧ CallsH P F.qdj [.pointer r_7, .int .i64 1] (fun ac ad => ∃ r, ac = .int .u64 r ∧ ∃ x, stC ad (Addr.add (top h8) 1) 0 [.int .u8 (IntKind.u8.wrap r)] = some x ∧ CallsH P F.qdt [.pointer r_7, .pointer (some (top h8)), .int .i64 deep_1] (fun ae z => ∃ p, ae = .bool p ∧ ((!p) = false → CallsH P F.qdk [.pointer r_7] (fun af ag => ∃ aa, af = .bool aa ∧ qaz.j3 K (qaz.L2 K fuel) deep_1 out_6 out_6l out_6c r_7 (top h8) (!aa) ag) z) ∧ ((!p) = true → qaz.j3 K (qaz.L2 K fuel) deep_1 out_6 out_6l out_6c r_7 (top h8) true z)) x) q) h5) ∧ ((decide (n6 > 0)) = false → K (.tuple #[.slice out_6 out_6l out_6c, .bool true]) h5)) h
termination_by structural n => n
def qaz.L2.l : Live := [(1, .int .i64), (6, .slice), (7, .ptr)]
def qaz.L2.j (K : KT) : Nat → Tup qaz.L2.l → Heap → Prop := fun n x h => qaz.L2 K n x.1 x.2.1.1 x.2.1.2.1 x.2.1.2.2 x.2.2.1 h
def qaz.j1 (K : KT) (b_0 : OA) (b_0l : Nat) (b_0c : Nat) (deep_1 : Int) (p : Bool) (h : Heap) : Prop :=
  (p = true → K (.tuple #[.slice none 0 0, .bool false]) h) ∧ (p = false → CallsH P F.qdx [.slice b_0 b_0l b_0c] (fun v1 h2 => ∃ p3, v1 = .pointer p3 ∧ ∃ fuel28, qaz.L2 K fuel28 deep_1 none 0 0 p3 h2) h)
def qaz.j1.l : Live := [(0, .slice), (1, .int .i64), (15, .bool)]
def qaz.j1.j (K : KT) : Tup qaz.j1.l → Heap → Prop := fun x h => qaz.j1 K x.1.1 x.1.2.1 x.1.2.2 x.2.1 x.2.2.1 h
def qaz.p0 (K : KT) (b_0 : OA) (b_0l : Nat) (b_0c : Nat) (deep_1 : Int) (h : Heap) : Prop :=
  ((decide (deep_1 > 8)) = false → qaz.j1 K b_0 b_0l b_0c deep_1 (decide (((b_0l : Nat) : Int) > 2000)) h) ∧ ((decide (deep_1 > 8)) = true → qaz.j1 K b_0 b_0l b_0c deep_1 true h)
def qaz.plan (K : KT) : Plan := (.seq .go (.seq (.cut qaz.j1.l (qaz.j1.j K) .go .go) (.seq .go (.seq (.seq .go (.block (.loop qaz.L2.l (qaz.L2.j K) (fun n2 => (.seq .go (.block (.seq .go (.seq .go (.seq (.cut qaz.j3.l (qaz.j3.j K (qaz.L2 K n2)) .go .go) .go))))))))) .go))))
theorem qaz.ev_eq : qaz.p0 = fun K b_0 b_0l b_0c deep_1 h => Ev P Tryz.f141 (qaz.plan K) K [.slice b_0 b_0l b_0c, .int .i64 deep_1] h := by kernel_rfl
theorem qaz.obl (K : KT) : Obl P Tryz.f141 (qaz.plan K) K :=
  obl_of (R := Imp (qaz.j1.j K) ∧ (∀ x h, ¬ (qaz.L2.j K) 0 x h) ∧ ImpN (qaz.L2.j K) ∧ (∀ (n2 : Nat), Imp (qaz.j3.j K (qaz.L2 K n2)) ∧ True) ∧ True) (by kernel_rfl) ⟨imp _, ⟨fun _ _ H => H, impN _, fun _ => ⟨imp _, trivial⟩, trivial⟩⟩
theorem qaz.ok {K : KT} {b_0 : OA} {b_0l : Nat} {b_0c : Nat} {deep_1 : Int} {h : Heap} (H : qaz.p0 K b_0 b_0l b_0c deep_1 h) : CallsH P F.qaz [.slice b_0 b_0l b_0c, .int .i64 deep_1] K h :=
  calls_of_Ev (qaz.plan K) Tryz.func141 (by kernel_rfl) (qaz.obl K) (by rw [qaz.ev_eq] at H; exact H)
def qeb.p0 (K : KT) (l_0 : OA) (l_0l : Nat) (l_0c : Nat) (h : Heap) : Prop :=
  CallsH P F.qay [.slice l_0 l_0l l_0c, .int .i64 1] (fun v1 h2 => ∃ a3 p q b4, v1 = .tuple #[.slice a3 p q, .bool b4] ∧ K (.bool b4) h2) h
def qeb.plan (K : KT) : Plan := .go
theorem qeb.ev_eq : qeb.p0 = fun K l_0 l_0l l_0c h => Ev P Tryz.f142 (qeb.plan K) K [.slice l_0 l_0l l_0c] h := by kernel_rfl
theorem qeb.obl (K : KT) : Obl P Tryz.f142 (qeb.plan K) K :=
  obl_true (by kernel_rfl)
theorem qeb.ok {K : KT} {l_0 : OA} {l_0l : Nat} {l_0c : Nat} {h : Heap} (H : qeb.p0 K l_0 l_0l l_0c h) : CallsH P F.qeb [.slice l_0 l_0l l_0c] K h :=
  calls_of_Ev (qeb.plan K) Tryz.func142 (by kernel_rfl) (qeb.obl K) (by rw [qeb.ev_eq] at H; exact H)
def qdm.p0 (K : KT) (b_0 : OA) (b_0l : Nat) (b_0c : Nat) (h : Heap) : Prop :=
  CallsH P F.qaz [.slice b_0 b_0l b_0c, .int .i64 1] (fun v1 h2 => ∃ a3 p q b4, v1 = .tuple #[.slice a3 p q, .bool b4] ∧ ((!b4) = false → CallsH P F.qeb [.slice a3 p q] (fun v5 h6 => ∃ b7, v5 = .bool b7 ∧ ((!b7) = true → K (.tuple #[.slice none 0 0, .bool false]) h6) ∧ ((!b7) = false → K (.tuple #[.slice a3 p q, .bool true]) h6)) h2) ∧ ((!b4) = true → (true = true → K (.tuple #[.slice none 0 0, .bool false]) h2) ∧ (true = false → K (.tuple #[.slice a3 p q, .bool true]) h2))) h
def qdm.plan (K : KT) : Plan := .go
theorem qdm.ev_eq : qdm.p0 = fun K b_0 b_0l b_0c h => Ev P Tryz.f133 (qdm.plan K) K [.slice b_0 b_0l b_0c] h := by kernel_rfl
theorem qdm.obl (K : KT) : Obl P Tryz.f133 (qdm.plan K) K :=
  obl_true (by kernel_rfl)
theorem qdm.ok {K : KT} {b_0 : OA} {b_0l : Nat} {b_0c : Nat} {h : Heap} (H : qdm.p0 K b_0 b_0l b_0c h) : CallsH P F.qdm [.slice b_0 b_0l b_0c] K h :=
  calls_of_Ev (qdm.plan K) Tryz.func133 (by kernel_rfl) (qdm.obl K) (by rw [qdm.ev_eq] at H; exact H)
end Go.Proofs.YtjapglfpjhljpaaGreat.Pr
end
section
set_option linter.unusedVariables false
set_option maxRecDepth 100000
namespace Go.Proofs.YtjapglfpjhljpaaGreat.Pr
open Go Go.Lift Go.Proofs
def qar.j5 (K : KT) (t2 : Addr) (t6 : Addr) (x : Bool) (h : Heap) : Prop :=
  (x = true → ([.int .u64 0, .int .i64 0, .string (mkS ([] : List UInt8))] : List Value).length = 3 ∧ ∃ p, stC h t2 0 [.int .u64 0, .int .i64 0, .string (mkS ([] : List UInt8))] = some p ∧ ∃ z, rdC p t2 0 3 = some z ∧ K (.tuple #[.agg (List.toArray z), .int .i64 4]) p) ∧ (x = false → ∃ q, rdC h t6 0 3 = some q ∧ q.length = 3 ∧ ∃ r, stC h t2 0 q = some r ∧ ∃ aa, rdC r t2 0 3 = some aa ∧ K (.tuple #[.agg (List.toArray aa), .int .i64 0]) r)
def qar.j5.l : Live := [(2, .addr), (6, .addr), (70, .bool)]
def qar.j5.j (K : KT) : Tup qar.j5.l → Heap → Prop := fun x h => qar.j5 K x.1 x.2.1 x.2.2.1 h
def qar.j4 (K : KT) (t2 : Addr) (t4 : OA) (t5 : Bool) (t6 : Addr) (h : Heap) : Prop :=
  ((!t5) = false → CallsH P F.qdk [.pointer t4] (fun x q => ∃ p, x = .bool p ∧ ((!p) = false → CallsH P F.qdd [.pointer t4] (fun z aa => ∃ r, z = .int .i64 r ∧ qar.j5 K t2 t6 (decide (r > 0)) aa) q) ∧ ((!p) = true → qar.j5 K t2 t6 true q)) h) ∧ ((!t5) = true → qar.j5 K t2 t6 true h)
def qar.j4.l : Live := [(2, .addr), (4, .ptr), (5, .bool), (6, .addr)]
def qar.j4.j (K : KT) : Tup qar.j4.l → Heap → Prop := fun x h => qar.j4 K x.1 x.2.1 x.2.2.1 x.2.2.2.1 h
def qar.j3 (K : KT) (t2 : Addr) (t4 : OA) (t5 : Bool) (t6 : Addr) (t7 : Int) (h : Heap) : Prop :=
  (((bitsI .and .u64 t7 4096) != 0) = true → CallsH P F.qdj [.pointer t4, .int .i64 1] (fun z aa => ∃ r, z = .int .u64 r ∧ ∃ p, stC aa (Addr.add t6 1) 0 [.int .i64 (IntKind.i64.wrap r)] = some p ∧ (t5 = true → ∃ q, hcell p (Addr.add t6 1) = some (.int .i64 q) ∧ ((q == 1) = false → ∃ x, hcell p (Addr.add t6 1) = some (.int .i64 x) ∧ bd ((x == 2) : Bool) fun ab => qar.j4 K t2 t4 ab t6 p) ∧ ((q == 1) = true → qar.j4 K t2 t4 true t6 p)) ∧ (t5 = false → qar.j4 K t2 t4 false t6 p)) h) ∧ (((bitsI .and .u64 t7 4096) != 0) = false → qar.j4 K t2 t4 t5 t6 h)
def qar.j3.l : Live := [(2, .addr), (4, .ptr), (5, .bool), (6, .addr), (7, .int .u64)]
def qar.j3.j (K : KT) : Tup qar.j3.l → Heap → Prop := fun x h => qar.j3 K x.1 x.2.1 x.2.2.1 x.2.2.2.1 x.2.2.2.2.1 h
def qar.j2 (K : KT) (t2 : Addr) (t4 : OA) (t5 : Bool) (t6 : Addr) (t7 : Int) (h : Heap) : Prop :=
  (((bitsI .and .u64 t7 32768) != 0) = true → CallsH P F.qdb [.pointer t4] (fun x z => ∃ q, x = .string (mkS q) ∧ ∃ p, stC z (Addr.add t6 2) 0 [.string (mkS q)] = some p ∧ (t5 = true → ∃ r, hcell p (Addr.add t6 2) = some (.string (mkS r)) ∧ bd ((!(r == ([] : List UInt8))) : Bool) fun aa => qar.j3 K t2 t4 aa t6 t7 p) ∧ (t5 = false → qar.j3 K t2 t4 false t6 t7 p)) h) ∧ (((bitsI .and .u64 t7 32768) != 0) = false → qar.j3 K t2 t4 t5 t6 t7 h)
def qar.j2.l : Live := [(2, .addr), (4, .ptr), (5, .bool), (6, .addr), (7, .int .u64)]
def qar.j2.j (K : KT) : Tup qar.j2.l → Heap → Prop := fun x h => qar.j2 K x.1 x.2.1 x.2.2.1 x.2.2.2.1 x.2.2.2.2.1 h
def qar.j1 (K : KT) (t2 : Addr) (t4 : OA) (t5 : Bool) (h : Heap) : Prop :=
  CallsH P F.qdj [.pointer t4, .int .i64 8] (fun v5 h6 => ∃ n7, v5 = .int .u64 n7 ∧ bd (al h6 #[.int .u64 0, .int .i64 0, .string (mkS ([] : List UInt8))] T.api_Head) fun h8 => ([.int .u64 n7, .int .i64 0, .string (mkS ([] : List UInt8))] : List Value).length = 3 ∧ ∃ h9, stC h8 (top h6) 0 [.int .u64 n7, .int .i64 0, .string (mkS ([] : List UInt8))] = some h9 ∧ CallsH P F.qdj [.pointer t4, .int .i64 2] (fun r q => ∃ p, r = .int .u64 p ∧ (t5 = true → bd (((bitsI .andNot .u64 p 36864) == 0) : Bool) fun x => qar.j2 K t2 t4 x (top h6) p q) ∧ (t5 = false → qar.j2 K t2 t4 false (top h6) p q)) h9) h
def qar.j1.l : Live := [(2, .addr), (4, .ptr), (5, .bool)]
def qar.j1.j (K : KT) : Tup qar.j1.l → Heap → Prop := fun x h => qar.j1 K x.1 x.2.1 x.2.2.1 h
def qar.p0 (K : KT) (t0 : OA) (x : Nat) (z : Nat) (h : Heap) : Prop :=
  bd (al h #[.int .u64 0, .int .i64 0, .string (mkS ([] : List UInt8))] T.api_Head) fun h1 => CallsH P F.qdx [.slice t0 x z] (fun v2 h3 => ∃ p4, v2 = .pointer p4 ∧ CallsH P F.qdj [.pointer p4, .int .i64 2] (fun aa q => ∃ p, aa = .int .u64 p ∧ ((p == 60) = true → CallsH P F.qdj [.pointer p4, .int .i64 2] (fun ab ac => ∃ r, ab = .int .u64 r ∧ bd ((r == 0) : Bool) fun ad => qar.j1 K (top h) p4 ad ac) q) ∧ ((p == 60) = false → qar.j1 K (top h) p4 false q)) h3) h1
def qar.plan (K : KT) : Plan := (.seq .go (.seq .go (.cut qar.j1.l (qar.j1.j K) .go (.seq .go (.seq .go (.cut qar.j2.l (qar.j2.j K) .go (.cut qar.j3.l (qar.j3.j K) .go (.cut qar.j4.l (qar.j4.j K) .go (.seq (.cut qar.j5.l (qar.j5.j K) .go .go) .go)))))))))
theorem qar.ev_eq : qar.p0 = fun K t0 p q h => Ev P Tryz.f145 (qar.plan K) K [.slice t0 p q] h := by kernel_rfl
theorem qar.obl (K : KT) : Obl P Tryz.f145 (qar.plan K) K :=
  obl_of (R := Imp (qar.j1.j K) ∧ Imp (qar.j2.j K) ∧ Imp (qar.j3.j K) ∧ Imp (qar.j4.j K) ∧ Imp (qar.j5.j K) ∧ True) (by kernel_rfl) ⟨imp _, ⟨imp _, ⟨imp _, ⟨imp _, ⟨imp _, trivial⟩⟩⟩⟩⟩
theorem qar.ok {K : KT} {t0 : OA} {p : Nat} {q : Nat} {h : Heap} (H : qar.p0 K t0 p q h) : CallsH P F.qar [.slice t0 p q] K h :=
  calls_of_Ev (qar.plan K) Tryz.func145 (by kernel_rfl) (qar.obl K) (by rw [qar.ev_eq] at H; exact H)
end Go.Proofs.YtjapglfpjhljpaaGreat.Pr
end
section
set_option linter.unusedVariables false
set_option maxRecDepth 100000
namespace Go.Proofs.YtjapglfpjhljpaaGreat.Pr
open Go Go.Lift Go.Proofs
def qea.p0 (K : KT) (e_0 : Int) (h : Heap) : Prop :=
  bd ((e_0 == 3) : Bool) fun b1 => (b1 = true → K (.int .i64 501) h) ∧ (b1 = false → bd ((e_0 == 4) : Bool) fun b2 => (b2 = true → K (.int .i64 502) h) ∧ (b2 = false → bd ((e_0 == 5) : Bool) fun b3 => (b3 = true → K (.int .i64 540) h) ∧ (b3 = false → K (.int .i64 506) h)))
def qea.plan (K : KT) : Plan := .go
theorem qea.ev_eq : qea.p0 = fun K e_0 h => Ev P Tryz.f93 (qea.plan K) K [.int .i64 e_0] h := by kernel_rfl
theorem qea.obl (K : KT) : Obl P Tryz.f93 (qea.plan K) K :=
  obl_true (by kernel_rfl)
theorem qea.ok {K : KT} {e_0 : Int} {h : Heap} (H : qea.p0 K e_0 h) : CallsH P F.qea [.int .i64 e_0] K h :=
  calls_of_Ev (qea.plan K) Tryz.func93 (by kernel_rfl) (qea.obl K) (by rw [qea.ev_eq] at H; exact H)
def qdw.p0 (K : KT) (t0 : Int) (h : Heap) : Prop :=
  ((decide (t0 ≥ 501)) = true → ((decide (t0 ≤ 506)) = false → ((t0 == 530) = false → bd ((t0 == 540) : Bool) fun b1 => K (.bool b1) h) ∧ ((t0 == 530) = true → K (.bool true) h)) ∧ ((decide (t0 ≤ 506)) = true → K (.bool true) h)) ∧ ((decide (t0 ≥ 501)) = false → ((t0 == 530) = false → bd ((t0 == 540) : Bool) fun b2 => K (.bool b2) h) ∧ ((t0 == 530) = true → K (.bool true) h))
def qdw.plan (K : KT) : Plan := .go
theorem qdw.ev_eq : qdw.p0 = fun K t0 h => Ev P Tryz.f122 (qdw.plan K) K [.int .i64 t0] h := by kernel_rfl
theorem qdw.obl (K : KT) : Obl P Tryz.f122 (qdw.plan K) K :=
  obl_true (by kernel_rfl)
theorem qdw.ok {K : KT} {t0 : Int} {h : Heap} (H : qdw.p0 K t0 h) : CallsH P F.qdw [.int .i64 t0] K h :=
  calls_of_Ev (qdw.plan K) Tryz.func122 (by kernel_rfl) (qdw.obl K) (by rw [qdw.ev_eq] at H; exact H)
def qdv.p0 (K : KT) (t0 : Int) (h : Heap) : Prop :=
  bd ((t0 == 200) : Bool) fun b1 => (b1 = true → K (.string (mkS ([79, 75] : List UInt8))) h) ∧ (b1 = false → bd ((t0 == 311) : Bool) fun b2 => (b2 = true → K (.string (mkS ([67, 79, 78, 84, 69, 78, 84, 95, 84, 79, 79, 95, 76, 65, 82, 71, 69] : List UInt8))) h) ∧ (b2 = false → bd ((t0 == 312) : Bool) fun b3 => (b3 = true → K (.string (mkS ([78, 79, 95, 82, 79, 85, 84, 69] : List UInt8))) h) ∧ (b3 = false → bd ((t0 == 403) : Bool) fun b4 => (b4 = true → K (.string (mkS ([65, 67, 67, 69, 83, 83, 95, 82, 69, 70, 85, 83, 69, 68] : List UInt8))) h) ∧ (b4 = false → bd ((t0 == 404) : Bool) fun b5 => (b5 = true → K (.string (mkS ([78, 79, 84, 95, 70, 79, 85, 78, 68] : List UInt8))) h) ∧ (b5 = false → bd ((t0 == 406) : Bool) fun b6 => (b6 = true → K (.string (mkS ([80, 82, 69, 67, 79, 78, 68, 73, 84, 73, 79, 78, 95, 70, 65, 73, 76, 69, 68] : List UInt8))) h) ∧ (b6 = false → bd ((t0 == 501) : Bool) fun b7 => (b7 = true → K (.string (mkS ([70, 82, 65, 77, 69, 95, 69, 82, 82, 79, 82] : List UInt8))) h) ∧ (b7 = false → bd ((t0 == 502) : Bool) fun b8 => (b8 = true → K (.string (mkS ([83, 89, 78, 84, 65, 88, 95, 69, 82, 82, 79, 82] : List UInt8))) h) ∧ (b8 = false → bd ((t0 == 503) : Bool) fun b9 => (b9 = true → K (.string (mkS ([67, 79, 77, 77, 65, 78, 68, 95, 73, 78, 86, 65, 76, 73, 68] : List UInt8))) h) ∧ (b9 = false → bd ((t0 == 504) : Bool) fun p => (p = true → K (.string (mkS ([67, 72, 65, 78, 78, 69, 76, 95, 69, 82, 82, 79, 82] : List UInt8))) h) ∧ (p = false → bd ((t0 == 505) : Bool) fun q => (q = true → K (.string (mkS ([85, 78, 69, 88, 80, 69, 67, 84, 69, 68, 95, 70, 82, 65, 77, 69] : List UInt8))) h) ∧ (q = false → bd ((t0 == 506) : Bool) fun r => (r = true → K (.string (mkS ([82, 69, 83, 79, 85, 82, 67, 69, 95, 69, 82, 82, 79, 82] : List UInt8))) h) ∧ (r = false → bd ((t0 == 530) : Bool) fun x => (x = true → K (.string (mkS ([78, 79, 84, 95, 65, 76, 76, 79, 87, 69, 68] : List UInt8))) h) ∧ (x = false → bd ((t0 == 540) : Bool) fun z => (z = true → K (.string (mkS ([78, 79, 84, 95, 73, 77, 80, 76, 69, 77, 69, 78, 84, 69, 68] : List UInt8))) h) ∧ (z = false → K (.string (mkS ([] : List UInt8))) h))))))))))))))
def qdv.plan (K : KT) : Plan := .go
theorem qdv.ev_eq : qdv.p0 = fun K t0 h => Ev P Tryz.f65 (qdv.plan K) K [.int .i64 t0] h := by kernel_rfl
theorem qdv.obl (K : KT) : Obl P Tryz.f65 (qdv.plan K) K :=
  obl_true (by kernel_rfl)
theorem qdv.ok {K : KT} {t0 : Int} {h : Heap} (H : qdv.p0 K t0 h) : CallsH P F.qdv [.int .i64 t0] K h :=
  calls_of_Ev (qdv.plan K) Tryz.func65 (by kernel_rfl) (qdv.obl K) (by rw [qdv.ev_eq] at H; exact H)
end Go.Proofs.YtjapglfpjhljpaaGreat.Pr
end
section
set_option linter.unusedVariables false
set_option maxRecDepth 100000
namespace Go.Proofs.YtjapglfpjhljpaaGreat.Pr
open Go Go.Lift Go.Proofs
def qaq.j3 (K : KT) (t4 : Int) (p : Bool) (h : Heap) : Prop :=
  (p = true → K (.tuple #[.string (mkS ([56, 102] : List UInt8)), .bool true]) h) ∧ (p = false → bd ((t4 == 110) : Bool) fun b9 => (b9 = true → K (.tuple #[.string (mkS ([102] : List UInt8)), .bool true]) h) ∧ (b9 = false → bd ((t4 == 120) : Bool) fun q => (q = true → K (.tuple #[.string (mkS ([56, 102, 102] : List UInt8)), .bool true]) h) ∧ (q = false → K (.tuple #[.string (mkS ([] : List UInt8)), .bool false]) h)))
def qaq.j3.l : Live := [(4, .int .i64), (28, .bool)]
def qaq.j3.j (K : KT) : Tup qaq.j3.l → Heap → Prop := fun x h => qaq.j3 K x.1 x.2.1 h
def qaq.j2 (K : KT) (t4 : Int) (q : Bool) (h : Heap) : Prop :=
  (q = true → K (.tuple #[.string (mkS ([115] : List UInt8)), .bool true]) h) ∧ (q = false → bd ((t4 == 30) : Bool) fun b3 => (b3 = true → K (.tuple #[.string (mkS ([115, 102] : List UInt8)), .bool true]) h) ∧ (b3 = false → bd ((t4 == 40) : Bool) fun b4 => (b4 = true → K (.tuple #[.string (mkS ([50, 115, 115, 102, 102] : List UInt8)), .bool true]) h) ∧ (b4 = false → bd ((t4 == 50) : Bool) fun b5 => (b5 = true → K (.tuple #[.string (mkS ([50, 115, 115, 115] : List UInt8)), .bool true]) h) ∧ (b5 = false → bd ((t4 == 60) : Bool) fun b6 => (b6 = true → K (.tuple #[.string (mkS ([115, 56, 102, 115, 115] : List UInt8)), .bool true]) h) ∧ (b6 = false → bd ((t4 == 70) : Bool) fun b7 => (b7 = true → K (.tuple #[.string (mkS ([50, 115, 102] : List UInt8)), .bool true]) h) ∧ (b7 = false → bd ((t4 == 71) : Bool) fun b8 => (b8 = true → K (.tuple #[.string (mkS ([56, 102, 115, 115, 52] : List UInt8)), .bool true]) h) ∧ (b8 = false → bd ((t4 == 80) : Bool) fun p => (p = true → qaq.j3 K t4 p h) ∧ (p = false → bd ((t4 == 90) : Bool) fun r => qaq.j3 K t4 r h))))))))
def qaq.j2.l : Live := [(4, .int .i64), (12, .bool)]
def qaq.j2.j (K : KT) : Tup qaq.j2.l → Heap → Prop := fun x h => qaq.j2 K x.1 x.2.1 h
def qaq.j1 (K : KT) (t4 : Int) (t7 : Bool) (h : Heap) : Prop :=
  (t7 = true → K (.tuple #[.string (mkS ([] : List UInt8)), .bool true]) h) ∧ (t7 = false → bd ((t4 == 20) : Bool) fun b2 => (b2 = true → K (.tuple #[.string (mkS ([50, 115, 115, 102, 102, 102, 102, 116] : List UInt8)), .bool true]) h) ∧ (b2 = false → bd ((t4 == 21) : Bool) fun p => (p = true → qaq.j2 K t4 p h) ∧ (p = false → bd ((t4 == 31) : Bool) fun q => (q = true → qaq.j2 K t4 q h) ∧ (q = false → bd ((t4 == 72) : Bool) fun r => qaq.j2 K t4 r h))))
def qaq.j1.l : Live := [(4, .int .i64), (7, .bool)]
def qaq.j1.j (K : KT) : Tup qaq.j1.l → Heap → Prop := fun x h => qaq.j1 K x.1 x.2.1 h
def qaq.p0 (K : KT) (id_0 : Int) (h : Heap) : Prop :=
  bd ((id_0 == 10) : Bool) fun b1 => (b1 = true → K (.tuple #[.string (mkS ([52, 50, 102] : List UInt8)), .bool true]) h) ∧ (b1 = false → bd ((id_0 == 11) : Bool) fun p => (p = true → qaq.j1 K id_0 p h) ∧ (p = false → bd ((id_0 == 111) : Bool) fun q => qaq.j1 K id_0 q h))
def qaq.plan (K : KT) : Plan := (.seq .go (.seq (.seq .go (.block (.seq .go (.cond .go (.cut qaq.j1.l (qaq.j1.j K) .go (.cond .go (.seq .go (.cond .go (.cut qaq.j2.l (qaq.j2.j K) .go (.cond .go (.seq .go (.cond .go (.seq .go (.cond .go (.seq .go (.cond .go (.seq .go (.cond .go (.seq .go (.cond .go (.seq .go (.cond .go (.cut qaq.j3.l (qaq.j3.j K) .go .go))))))))))))))))))))))) .go))
theorem qaq.ev_eq : qaq.p0 = fun K id_0 h => Ev P Tryz.f68 (qaq.plan K) K [.int .i64 id_0] h := by kernel_rfl
theorem qaq.obl (K : KT) : Obl P Tryz.f68 (qaq.plan K) K :=
  obl_of (R := Imp (qaq.j1.j K) ∧ Imp (qaq.j2.j K) ∧ Imp (qaq.j3.j K) ∧ True) (by kernel_rfl) ⟨imp _, ⟨imp _, ⟨imp _, trivial⟩⟩⟩
theorem qaq.ok {K : KT} {id_0 : Int} {h : Heap} (H : qaq.p0 K id_0 h) : CallsH P F.qaq [.int .i64 id_0] K h :=
  calls_of_Ev (qaq.plan K) Tryz.func68 (by kernel_rfl) (qaq.obl K) (by rw [qaq.ev_eq] at H; exact H)
def qas.j1 (K : KT) (t9 : Int) (p : Bool) (h : Heap) : Prop :=
  (p = true → K (.tuple #[.string (mkS ([50, 52, 50] : List UInt8)), .bool true]) h) ∧ (p = false → bd ((t9 == 40) : Bool) fun b4 => (b4 = true → K (.tuple #[.string (mkS ([115, 115, 102] : List UInt8)), .bool true]) h) ∧ (b4 = false → bd ((t9 == 41) : Bool) fun b5 => (b5 = true → K (.tuple #[.string (mkS ([115] : List UInt8)), .bool true]) h) ∧ (b5 = false → bd ((t9 == 50) : Bool) fun b6 => (b6 = true → K (.tuple #[.string (mkS ([50, 115, 50, 50] : List UInt8)), .bool true]) h) ∧ (b6 = false → bd ((t9 == 51) : Bool) fun b7 => (b7 = true → K (.tuple #[.string (mkS ([] : List UInt8)), .bool true]) h) ∧ (b7 = false → K (.tuple #[.string (mkS ([] : List UInt8)), .bool false]) h)))))
def qas.j1.l : Live := [(9, .int .i64), (14, .bool)]
def qas.j1.j (K : KT) : Tup qas.j1.l → Heap → Prop := fun x h => qas.j1 K x.1 x.2.1 h
def qas.j3 (K : KT) (p : Int) (q : Bool) (h : Heap) : Prop :=
  (q = true → K (.tuple #[.string (mkS ([52] : List UInt8)), .bool true]) h) ∧ (q = false → bd ((p == 40) : Bool) fun r => (r = true → K (.tuple #[.string (mkS ([50, 115, 102, 102, 102] : List UInt8)), .bool true]) h) ∧ (r = false → bd ((p == 50) : Bool) fun x => (x = true → K (.tuple #[.string (mkS ([50, 115, 115, 115, 116] : List UInt8)), .bool true]) h) ∧ (x = false → K (.tuple #[.string (mkS ([] : List UInt8)), .bool false]) h)))
def qas.j3.l : Live := [(48, .int .i64), (60, .bool)]
def qas.j3.j (K : KT) : Tup qas.j3.l → Heap → Prop := fun x h => qas.j3 K x.1 x.2.1 h
def qas.j2 (K : KT) (p : Int) (r : Bool) (h : Heap) : Prop :=
  (r = true → K (.tuple #[.string (mkS ([] : List UInt8)), .bool true]) h) ∧ (r = false → bd ((p == 30) : Bool) fun x => (x = true → K (.tuple #[.string (mkS ([50, 115, 102] : List UInt8)), .bool true]) h) ∧ (x = false → bd ((p == 31) : Bool) fun q => (q = true → qas.j3 K p q h) ∧ (q = false → bd ((p == 41) : Bool) fun z => qas.j3 K p z h)))
def qas.j2.l : Live := [(48, .int .i64), (55, .bool)]
def qas.j2.j (K : KT) : Tup qas.j2.l → Heap → Prop := fun x h => qas.j2 K x.1 x.2.1 h
def qas.p0 (K : KT) (t0 : Int) (t1 : Int) (h : Heap) : Prop :=
  bd ((t0 == 10) : Bool) fun b1 => (b1 = true → bd ((t1 == 10) : Bool) fun b2 => (b2 = true → K (.tuple #[.string (mkS ([49, 49, 116, 108, 108] : List UInt8)), .bool true]) h) ∧ (b2 = false → bd ((t1 == 11) : Bool) fun b3 => (b3 = true → K (.tuple #[.string (mkS ([116, 115, 108, 115] : List UInt8)), .bool true]) h) ∧ (b3 = false → bd ((t1 == 30) : Bool) fun b8 => (b8 = true → qas.j1 K t1 b8 h) ∧ (b8 = false → bd ((t1 == 31) : Bool) fun b9 => qas.j1 K t1 b9 h)))) ∧ (b1 = false → bd ((t0 == 20) : Bool) fun ac => (ac = true → bd ((t1 == 10) : Bool) fun ad => (ad = true → K (.tuple #[.string (mkS ([115] : List UInt8)), .bool true]) h) ∧ (ad = false → bd ((t1 == 11) : Bool) fun ae => (ae = true → K (.tuple #[.string (mkS ([108] : List UInt8)), .bool true]) h) ∧ (ae = false → bd ((t1 == 40) : Bool) fun af => (af = true → K (.tuple #[.string (mkS ([50, 115, 50, 50] : List UInt8)), .bool true]) h) ∧ (af = false → bd ((t1 == 41) : Bool) fun ag => (ag = true → K (.tuple #[.string (mkS ([] : List UInt8)), .bool true]) h) ∧ (ag = false → K (.tuple #[.string (mkS ([] : List UInt8)), .bool false]) h))))) ∧ (ac = false → bd ((t0 == 40) : Bool) fun ah => (ah = true → bd ((t1 == 10) : Bool) fun ai => (ai = true → K (.tuple #[.string (mkS ([50, 115, 115, 102, 102, 102, 102, 102, 116] : List UInt8)), .bool true]) h) ∧ (ai = false → bd ((t1 == 20) : Bool) fun aj => (aj = true → K (.tuple #[.string (mkS ([50, 115, 102, 102] : List UInt8)), .bool true]) h) ∧ (aj = false → bd ((t1 == 11) : Bool) fun p => (p = true → (p = true → K (.tuple #[.string (mkS ([] : List UInt8)), .bool true]) h) ∧ (p = false → K (.tuple #[.string (mkS ([] : List UInt8)), .bool false]) h)) ∧ (p = false → bd ((t1 == 21) : Bool) fun ak => (ak = true → K (.tuple #[.string (mkS ([] : List UInt8)), .bool true]) h) ∧ (ak = false → K (.tuple #[.string (mkS ([] : List UInt8)), .bool false]) h))))) ∧ (ah = false → bd ((t0 == 50) : Bool) fun am => (am = true → bd ((t1 == 10) : Bool) fun an => (an = true → K (.tuple #[.string (mkS ([50, 115, 102, 102, 102, 102, 102, 116] : List UInt8)), .bool true]) h) ∧ (an = false → bd ((t1 == 11) : Bool) fun ao => (ao = true → K (.tuple #[.string (mkS ([115, 52, 52] : List UInt8)), .bool true]) h) ∧ (ao = false → bd ((t1 == 20) : Bool) fun aq => (aq = true → K (.tuple #[.string (mkS ([50, 115, 115, 115, 102, 116] : List UInt8)), .bool true]) h) ∧ (aq = false → bd ((t1 == 21) : Bool) fun ab => (ab = true → qas.j2 K t1 ab h) ∧ (ab = false → bd ((t1 == 51) : Bool) fun az => qas.j2 K t1 az h))))) ∧ (am = false → bd ((t0 == 60) : Bool) fun ar => (ar = true → CallsH P F.qaq [.int .i64 t1] (fun ba bb => ∃ au aw, ba = .tuple #[.string (mkS au), .bool aw] ∧ K (.tuple #[.string (mkS au), .bool aw]) bb) h) ∧ (ar = false → bd ((t0 == 90) : Bool) fun ax => (ax = true → bd ((t1 == 10) : Bool) fun q => (q = true → (q = true → K (.tuple #[.string (mkS ([] : List UInt8)), .bool true]) h) ∧ (q = false → K (.tuple #[.string (mkS ([] : List UInt8)), .bool false]) h)) ∧ (q = false → bd ((t1 == 11) : Bool) fun r => (r = true → (r = true → K (.tuple #[.string (mkS ([] : List UInt8)), .bool true]) h) ∧ (r = false → K (.tuple #[.string (mkS ([] : List UInt8)), .bool false]) h)) ∧ (r = false → bd ((t1 == 20) : Bool) fun x => (x = true → (x = true → K (.tuple #[.string (mkS ([] : List UInt8)), .bool true]) h) ∧ (x = false → K (.tuple #[.string (mkS ([] : List UInt8)), .bool false]) h)) ∧ (x = false → bd ((t1 == 21) : Bool) fun z => (z = true → (z = true → K (.tuple #[.string (mkS ([] : List UInt8)), .bool true]) h) ∧ (z = false → K (.tuple #[.string (mkS ([] : List UInt8)), .bool false]) h)) ∧ (z = false → bd ((t1 == 30) : Bool) fun aa => (aa = true → (aa = true → K (.tuple #[.string (mkS ([] : List UInt8)), .bool true]) h) ∧ (aa = false → K (.tuple #[.string (mkS ([] : List UInt8)), .bool false]) h)) ∧ (aa = false → bd ((t1 == 31) : Bool) fun ay => (ay = true → K (.tuple #[.string (mkS ([] : List UInt8)), .bool true]) h) ∧ (ay = false → K (.tuple #[.string (mkS ([] : List UInt8)), .bool false]) h))))))) ∧ (ax = false → K (.tuple #[.string (mkS ([] : List UInt8)), .bool false]) h))))))
def qas.plan (K : KT) : Plan := (.seq .go (.seq (.seq .go (.block (.seq .go (.cond (.seq .go (.block (.seq .go (.cond .go (.seq .go (.cond .go (.cut qas.j1.l (qas.j1.j K) .go .go))))))) (.seq .go (.cond .go (.seq .go (.cond .go (.seq .go (.cond (.seq .go (.block (.seq .go (.cond .go (.seq .go (.cond .go (.seq .go (.cond .go (.cut qas.j2.l (qas.j2.j K) .go (.cond .go (.seq .go (.cond .go (.cut qas.j3.l (qas.j3.j K) .go .go))))))))))))) .go)))))))))) .go))
theorem qas.ev_eq : qas.p0 = fun K t0 t1 h => Ev P Tryz.f40 (qas.plan K) K [.int .i64 t0, .int .i64 t1] h := by kernel_rfl
theorem qas.obl (K : KT) : Obl P Tryz.f40 (qas.plan K) K :=
  obl_of (R := Imp (qas.j1.j K) ∧ Imp (qas.j2.j K) ∧ Imp (qas.j3.j K) ∧ True) (by kernel_rfl) ⟨imp _, ⟨imp _, ⟨imp _, trivial⟩⟩⟩
theorem qas.ok {K : KT} {t0 : Int} {t1 : Int} {h : Heap} (H : qas.p0 K t0 t1 h) : CallsH P F.qas [.int .i64 t0, .int .i64 t1] K h :=
  calls_of_Ev (qas.plan K) Tryz.func40 (by kernel_rfl) (qas.obl K) (by rw [qas.ev_eq] at H; exact H)
def qbd.j1 (K : KT) (c_0 : Int) (p : Bool) (h : Heap) : Prop :=
  (p = true → bd ((IntKind.i64.wrap (IntKind.u8.wrap (c_0 - 48))) : Int) fun n1 => K (.int .i64 n1) h) ∧ (p = false → K (.int .i64 0) h)
def qbd.j1.l : Live := [(0, .int .u8), (16, .bool)]
def qbd.j1.j (K : KT) : Tup qbd.j1.l → Heap → Prop := fun x h => qbd.j1 K x.1 x.2.1 h
def qbd.p0 (K : KT) (c_0 : Int) (h : Heap) : Prop :=
  ((c_0 == 49) = false → ((c_0 == 50) = false → ((c_0 == 52) = false → qbd.j1 K c_0 (c_0 == 56) h) ∧ ((c_0 == 52) = true → qbd.j1 K c_0 true h)) ∧ ((c_0 == 50) = true → qbd.j1 K c_0 true h)) ∧ ((c_0 == 49) = true → qbd.j1 K c_0 true h)
def qbd.plan (K : KT) : Plan := (.seq .go (.seq (.cut qbd.j1.l (qbd.j1.j K) .go .go) .go))
theorem qbd.ev_eq : qbd.p0 = fun K c_0 h => Ev P Tryz.f47 (qbd.plan K) K [.int .u8 c_0] h := by kernel_rfl
theorem qbd.obl (K : KT) : Obl P Tryz.f47 (qbd.plan K) K :=
  obl_of (R := Imp (qbd.j1.j K) ∧ True) (by kernel_rfl) ⟨imp _, trivial⟩
theorem qbd.ok {K : KT} {c_0 : Int} {h : Heap} (H : qbd.p0 K c_0 h) : CallsH P F.qbd [.int .u8 c_0] K h :=
  calls_of_Ev (qbd.plan K) Tryz.func47 (by kernel_rfl) (qbd.obl K) (by rw [qbd.ev_eq] at H; exact H)
def qbb.j1 (K : KT) (t1 : Addr) (ad : Bool) (h : Heap) : Prop :=
  (ad = true → K (.bool false) h) ∧ (ad = false → ∃ n2, hcell h (Addr.add t1 1) = some (.int .u8 n2) ∧ bd ((n2 == 116) : Bool) fun b3 => (b3 = true → ∃ n4, hcell h (Addr.add t1 2) = some (.int .i64 n4) ∧ ((n4 == 0) = false → ∃ n5, hcell h (Addr.add t1 2) = some (.int .i64 n5) ∧ ((n5 == 1) = true → ∃ s6, hcell h (Addr.add t1 3) = some (.string (mkS s6)) ∧ ((s6 == ([] : List UInt8)) = true → ∃ a7 ae ar, hcell h (Addr.add t1 4) = some (.slice a7 ae ar) ∧ bd ((((ae : Nat) : Int) == 0) : Bool) fun b8 => K (.bool b8) h) ∧ ((s6 == ([] : List UInt8)) = false → K (.bool false) h)) ∧ ((n5 == 1) = false → K (.bool false) h)) ∧ ((n4 == 0) = true → ∃ s9, hcell h (Addr.add t1 3) = some (.string (mkS s9)) ∧ ((s9 == ([] : List UInt8)) = true → ∃ au af aw, hcell h (Addr.add t1 4) = some (.slice au af aw) ∧ bd ((((af : Nat) : Int) == 0) : Bool) fun ax => K (.bool ax) h) ∧ ((s9 == ([] : List UInt8)) = false → K (.bool false) h))) ∧ (b3 = false → bd ((n2 == 73) : Bool) fun ag => (ag = true → ∃ p, hcell h (Addr.add t1 2) = some (.int .i64 p) ∧ ((decide (p ≥ (-2147483648))) = true → ∃ q, hcell h (Addr.add t1 2) = some (.int .i64 q) ∧ ((decide (q < 2147483648)) = true → ∃ r, hcell h (Addr.add t1 3) = some (.string (mkS r)) ∧ ((r == ([] : List UInt8)) = true → ∃ ay ah az, hcell h (Addr.add t1 4) = some (.slice ay ah az) ∧ bd ((((ah : Nat) : Int) == 0) : Bool) fun ba => K (.bool ba) h) ∧ ((r == ([] : List UInt8)) = false → K (.bool false) h)) ∧ ((decide (q < 2147483648)) = false → K (.bool false) h)) ∧ ((decide (p ≥ (-2147483648))) = false → K (.bool false) h)) ∧ (ag = false → bd ((n2 == 108) : Bool) fun ai => (ai = true → ∃ x, hcell h (Addr.add t1 3) = some (.string (mkS x)) ∧ ((x == ([] : List UInt8)) = true → ∃ bb aj bc, hcell h (Addr.add t1 4) = some (.slice bb aj bc) ∧ bd ((((aj : Nat) : Int) == 0) : Bool) fun be => K (.bool be) h) ∧ ((x == ([] : List UInt8)) = false → K (.bool false) h)) ∧ (ai = false → bd ((n2 == 83) : Bool) fun ak => (ak = true → ∃ z, hcell h (Addr.add t1 2) = some (.int .i64 z) ∧ ((z == 0) = true → ∃ bf am bg, hcell h (Addr.add t1 4) = some (.slice bf am bg) ∧ bd ((((am : Nat) : Int) == 0) : Bool) fun bh => K (.bool bh) h) ∧ ((z == 0) = false → K (.bool false) h)) ∧ (ak = false → bd ((n2 == 70) : Bool) fun an => (an = true → ∃ aa, hcell h (Addr.add t1 2) = some (.int .i64 aa) ∧ ((aa == 0) = true → ∃ s28, hcell h (Addr.add t1 3) = some (.string (mkS s28)) ∧ bd ((s28 == ([] : List UInt8)) : Bool) fun bi => K (.bool bi) h) ∧ ((aa == 0) = false → K (.bool false) h)) ∧ (an = false → bd ((n2 == 86) : Bool) fun ao => (ao = true → ∃ ab, hcell h (Addr.add t1 2) = some (.int .i64 ab) ∧ ((ab == 0) = true → ∃ ac, hcell h (Addr.add t1 3) = some (.string (mkS ac)) ∧ ((ac == ([] : List UInt8)) = true → ∃ bj aq bk, hcell h (Addr.add t1 4) = some (.slice bj aq bk) ∧ bd ((((aq : Nat) : Int) == 0) : Bool) fun bl => K (.bool bl) h) ∧ ((ac == ([] : List UInt8)) = false → K (.bool false) h)) ∧ ((ab == 0) = false → K (.bool false) h)) ∧ (ao = false → K (.bool false) h)))))))
def qbb.j1.l : Live := [(1, .addr), (12, .bool)]
def qbb.j1.j (K : KT) : Tup qbb.j1.l → Heap → Prop := fun x h => qbb.j1 K x.1 x.2.1 h
def qbb.p0 (K : KT) (t0 : List Value) (h : Heap) : Prop :=
  bd (al h (List.toArray t0) T.api_Field) fun h1 => ∃ p, hcell h1 (Addr.add (top h) 0) = some (.string (mkS p)) ∧ ((decide (((List.length p : Nat) : Int) < 1)) = false → ∃ q, hcell h1 (Addr.add (top h) 0) = some (.string (mkS q)) ∧ qbb.j1 K (top h) (decide (((List.length q : Nat) : Int) > 128)) h1) ∧ ((decide (((List.length p : Nat) : Int) < 1)) = true → qbb.j1 K (top h) true h1)
def qbb.plan (K : KT) : Plan := (.seq .go (.seq (.cut qbb.j1.l (qbb.j1.j K) .go .go) .go))
theorem qbb.ev_eq : qbb.p0 = fun K t0 h => Ev P Tryz.f115 (qbb.plan K) K [.agg (List.toArray t0)] h := by kernel_rfl
theorem qbb.obl (K : KT) : Obl P Tryz.f115 (qbb.plan K) K :=
  obl_of (R := Imp (qbb.j1.j K) ∧ True) (by kernel_rfl) ⟨imp _, trivial⟩
theorem qbb.ok {K : KT} {t0 : List Value} {h : Heap} (H : qbb.p0 K t0 h) : CallsH P F.qbb [.agg (List.toArray t0)] K h :=
  calls_of_Ev (qbb.plan K) Tryz.func115 (by kernel_rfl) (qbb.obl K) (by rw [qbb.ev_eq] at H; exact H)
def qah.j2 (K : KT) (R1 : OA → Nat → Nat → Int → Int → Heap → Prop) (l_0 : OA) (l_0l : Nat) (l_0c : Nat) (deep_1 : Int) (i_5 : Int) (h : Heap) : Prop :=
  bd ((IntKind.i64.wrap (i_5 + 1)) : Int) fun i_1 => R1 l_0 l_0l l_0c deep_1 i_1 h
def qah.j2.l : Live := [(0, .slice), (1, .int .i64), (5, .int .i64)]
def qah.j2.j (K : KT) (R1 : OA → Nat → Nat → Int → Int → Heap → Prop) : Tup qah.j2.l → Heap → Prop := fun x h => qah.j2 K R1 x.1.1 x.1.2.1 x.1.2.2 x.2.1 x.2.2.1 h
def qah.L4 (K : KT) (R1 : OA → Nat → Nat → Int → Int → Heap → Prop) : Nat → OA → Nat → Nat → Int → Int → Int → Heap → Prop
  | 0, _, _, _, _, _, _, _ => False
  | fuel + 1, l_0, l_0l, l_0c, deep_1, i_5, k_6, h => ((decide (k_6 < i_5)) = true → ∃ p2, l_0 = some p2 ∧ (0 : Int) ≤ k_6 ∧ k_6 < ((l_0l : Nat) : Int) ∧ ∃ p3, l_0 = some p3 ∧ (0 : Int) ≤ i_5 ∧ i_5 < ((l_0l : Nat) : Int) ∧ ∃ s4, hcell h (Addr.add (Addr.add p2 (Int.toNat k_6 * 5)) 0) = some (.string (mkS s4)) ∧ ∃ s5, hcell h (Addr.add (Addr.add p3 (Int.toNat i_5 * 5)) 0) = some (.string (mkS s5)) ∧ ((s4 == s5) = true → K (.bool false) h) ∧ ((s4 == s5) = false → bd ((IntKind.i64.wrap (k_6 + 1)) : Int) fun k_6 => (qah.L4 K R1 fuel) l_0 l_0l l_0c deep_1 i_5 k_6 h)) ∧ ((decide (k_6 < i_5)) = false → qah.j2 K R1 l_0 l_0l l_0c deep_1 i_5 h)
termination_by structural n => n
def qah.L4.l : Live := [(0, .slice), (1, .int .i64), (5, .int .i64), (6, .int .i64)]
def qah.L4.j (K : KT) (R1 : OA → Nat → Nat → Int → Int → Heap → Prop) : Nat → Tup qah.L4.l → Heap → Prop := fun n x h => qah.L4 K R1 n x.1.1 x.1.2.1 x.1.2.2 x.2.1 x.2.2.1 x.2.2.2.1 h
def qah.j3 (K : KT) (R1 : OA → Nat → Nat → Int → Int → Heap → Prop) (l_0 : OA) (l_0l : Nat) (l_0c : Nat) (deep_1 : Int) (i_5 : Int) (p : Bool) (h : Heap) : Prop :=
  (p = true → K (.bool false) h) ∧ (p = false → ∃ fuel7, qah.L4 K R1 fuel7 l_0 l_0l l_0c deep_1 i_5 0 h)
def qah.j3.l : Live := [(0, .slice), (1, .int .i64), (5, .int .i64), (39, .bool)]
def qah.j3.j (K : KT) (R1 : OA → Nat → Nat → Int → Int → Heap → Prop) : Tup qah.j3.l → Heap → Prop := fun x h => qah.j3 K R1 x.1.1 x.1.2.1 x.1.2.2 x.2.1 x.2.2.1 x.2.2.2.1 h
def qah.L1 (K : KT) : Nat → OA → Nat → Nat → Int → Int → Heap → Prop
  | 0, _, _, _, _, _, _ => False
  | fuel + 1, l_0, l_0l, l_0c, deep_1, i_5, h => ((decide (i_5 < ((l_0l : Nat) : Int))) = true → ∃ p8, l_0 = some p8 ∧ (0 : Int) ≤ i_5 ∧ i_5 < ((l_0l : Nat) : Int) ∧ ∃ x, rdC h (Addr.add p8 (Int.toNat i_5 * 5)) 0 5 = some x ∧ CallsH P F.qbb [.agg (List.toArray x)] (fun af p => ∃ q, af = .bool q ∧ ((!q) = false → ∃ z, l_0 = some z ∧ (0 : Int) ≤ i_5 ∧ i_5 < ((l_0l : Nat) : Int) ∧ ∃ r, hcell p (Addr.add (Addr.add z (Int.toNat i_5 * 5)) 1) = some (.int .u8 r) ∧ ((r == 70) = true → ∃ aa, l_0 = some aa ∧ (0 : Int) ≤ i_5 ∧ i_5 < ((l_0l : Nat) : Int) ∧ ∃ ab ac ad, hcell p (Addr.add (Addr.add aa (Int.toNat i_5 * 5)) 4) = some (.slice ab ac ad) ∧ CallsH P F.qah [.slice ab ac ad, .int .i64 (IntKind.i64.wrap (deep_1 + 1))] (fun ag ah => ∃ ae, ag = .bool ae ∧ qah.j3 K (qah.L1 K fuel) l_0 l_0l l_0c deep_1 i_5 (!ae) ah) p) ∧ ((r == 70) = false → qah.j3 K (qah.L1 K fuel) l_0 l_0l l_0c deep_1 i_5 false p)) ∧ ((!q) = true → qah.j3 K (qah.L1 K fuel) l_0 l_0l l_0c deep_1 i_5 true p)) h) ∧ ((decide (i_5 < ((l_0l : Nat) : Int))) = false → K (.bool true) h)
termination_by structural n => n
def qah.L1.l : Live := [(0, .slice), (1, .int .i64), (5, .int .i64)]
def qah.L1.j (K : KT) : Nat → Tup qah.L1.l → Heap → Prop := fun n x h => qah.L1 K n x.1.1 x.1.2.1 x.1.2.2 x.2.1 x.2.2.1 h
def qah.p0 (K : KT) (l_0 : OA) (l_0l : Nat) (l_0c : Nat) (deep_1 : Int) (h : Heap) : Prop :=
  ((decide (deep_1 > 8)) = true → K (.bool false) h) ∧ ((decide (deep_1 > 8)) = false → ∃ fuel20, qah.L1 K fuel20 l_0 l_0l l_0c deep_1 0 h)
def qah.plan (K : KT) : Plan := (.seq .go (.seq .go (.seq (.seq .go (.block (.loop qah.L1.l (qah.L1.j K) (fun n1 => (.seq .go (.cut qah.j2.l (qah.j2.j K (qah.L1 K n1)) (.block (.seq (.cut qah.j3.l (qah.j3.j K (qah.L1 K n1)) .go .go) (.seq .go (.block (.loop qah.L4.l (qah.L4.j K (qah.L1 K n1)) (fun n4 => (.seq .go (.seq (.block (.seq (.orders (.op 0 (.op 1 (.op 2 (.op 3 (.op 5 (.op 6 (.op 7 (.op 8 (.op 4 (.op 9 (.op 10 .nil)))))))))))) .go)) .go)))))))) .go)))))) .go)))
theorem qah.ev_eq : qah.p0 = fun K l_0 l_0l l_0c deep_1 h => Ev P Tryz.f89 (qah.plan K) K [.slice l_0 l_0l l_0c, .int .i64 deep_1] h := by kernel_rfl
theorem qah.obl (K : KT) : Obl P Tryz.f89 (qah.plan K) K :=
  obl_of (R := (∀ x h, ¬ (qah.L1.j K) 0 x h) ∧ ImpN (qah.L1.j K) ∧ (∀ (n1 : Nat), Imp (qah.j3.j K (qah.L1 K n1)) ∧ (∀ x h, ¬ (qah.L4.j K (qah.L1 K n1)) 0 x h) ∧ ImpN (qah.L4.j K (qah.L1 K n1)) ∧ (∀ (n4 : Nat), DrawOK P Tryz.f89.ntmps (opsAt 11 (bodyOf Tryz.f89)) (.op 0 (.op 1 (.op 2 (.op 3 (.op 5 (.op 6 (.op 7 (.op 8 (.op 4 (.op 9 (.op 10 .nil))))))))))) ∧ True) ∧ Imp (qah.j2.j K (qah.L1 K n1)) ∧ True) ∧ True) (by kernel_rfl) ⟨fun _ _ H => H, impN _, fun _ => ⟨imp _, ⟨fun _ _ H => H, impN _, fun _ => ⟨draw_ok (by kernel_rfl), trivial⟩, ⟨imp _, trivial⟩⟩⟩, trivial⟩
theorem qah.ok {K : KT} {l_0 : OA} {l_0l : Nat} {l_0c : Nat} {deep_1 : Int} {h : Heap} (H : qah.p0 K l_0 l_0l l_0c deep_1 h) : CallsH P F.qah [.slice l_0 l_0l l_0c, .int .i64 deep_1] K h :=
  calls_of_Ev (qah.plan K) Tryz.func89 (by kernel_rfl) (qah.obl K) (by rw [qah.ev_eq] at H; exact H)
def qaf.j3 (K : KT) (R1 : OA → Nat → Nat → Int → Int → Int → Heap → Prop) (l_0 : OA) (l_0l : Nat) (l_0c : Nat) (deep_1 : Int) (t5 : Int) (i_6 : Int) (h : Heap) : Prop :=
  bd ((IntKind.i64.wrap (i_6 + 1)) : Int) fun i_1 => R1 l_0 l_0l l_0c deep_1 t5 i_1 h
def qaf.j3.l : Live := [(0, .slice), (1, .int .i64), (5, .int .i64), (6, .int .i64)]
def qaf.j3.j (K : KT) (R1 : OA → Nat → Nat → Int → Int → Int → Heap → Prop) : Tup qaf.j3.l → Heap → Prop := fun x h => qaf.j3 K R1 x.1.1 x.1.2.1 x.1.2.2 x.2.1 x.2.2.1 x.2.2.2.1 h
def qaf.j2 (K : KT) (R1 : OA → Nat → Nat → Int → Int → Int → Heap → Prop) (l_0 : OA) (l_0l : Nat) (l_0c : Nat) (deep_1 : Int) (t5 : Int) (i_6 : Int) (bk : Bool) (h : Heap) : Prop :=
  (bk = true → ∃ p2, l_0 = some p2 ∧ (0 : Int) ≤ i_6 ∧ i_6 < ((l_0l : Nat) : Int) ∧ ∃ p3, l_0 = some p3 ∧ (0 : Int) ≤ i_6 ∧ i_6 < ((l_0l : Nat) : Int) ∧ ∃ p4, l_0 = some p4 ∧ (0 : Int) ≤ i_6 ∧ i_6 < ((l_0l : Nat) : Int) ∧ (∃ s5, hcell h (Addr.add (Addr.add p2 (Int.toNat i_6 * 5)) 0) = some (.string (mkS s5)) ∧ (∃ s6, hcell h (Addr.add (Addr.add p3 (Int.toNat i_6 * 5)) 3) = some (.string (mkS s6)) ∧ (∃ a7 bl bm, hcell h (Addr.add (Addr.add p4 (Int.toNat i_6 * 5)) 4) = some (.slice a7 bl bm) ∧ CallsH P F.qaf [.slice a7 bl bm, .int .i64 (IntKind.i64.wrap (deep_1 + 1))] (fun v8 h9 => ∃ bp, v8 = .int .i64 bp ∧ bd ((IntKind.i64.wrap ((IntKind.i64.wrap ((IntKind.i64.wrap ((IntKind.i64.wrap (t5 + 13)) + ((List.length s5 : Nat) : Int))) + (if (4000 : Int) < ((List.length s6 : Nat) : Int) then 4000 else ((List.length s6 : Nat) : Int)))) + bp)) : Int) fun n_11 => qaf.j3 K R1 l_0 l_0l l_0c deep_1 n_11 i_6 h9) h) ∧ (∃ aq ar au, hcell h (Addr.add (Addr.add p4 (Int.toNat i_6 * 5)) 4) = some (.slice aq ar au) ∧ (CallsH P F.qaf [.slice aq ar au, .int .i64 (IntKind.i64.wrap (deep_1 + 1))] (fun ds dt => ∃ bq, ds = .int .i64 bq ∧ bd ((IntKind.i64.wrap ((IntKind.i64.wrap ((IntKind.i64.wrap ((IntKind.i64.wrap (t5 + 13)) + ((List.length s5 : Nat) : Int))) + (if (4000 : Int) < ((List.length s6 : Nat) : Int) then 4000 else ((List.length s6 : Nat) : Int)))) + bq)) : Int) fun n_16 => qaf.j3 K R1 l_0 l_0l l_0c deep_1 n_16 i_6 dt) h) ∧ (CallsH P F.qaf [.slice aq ar au, .int .i64 (IntKind.i64.wrap (deep_1 + 1))] (fun du dv => ∃ br, du = .int .i64 br ∧ bd ((IntKind.i64.wrap ((IntKind.i64.wrap ((IntKind.i64.wrap ((IntKind.i64.wrap (t5 + 13)) + ((List.length s5 : Nat) : Int))) + (if (4000 : Int) < ((List.length s6 : Nat) : Int) then 4000 else ((List.length s6 : Nat) : Int)))) + br)) : Int) fun n_20 => qaf.j3 K R1 l_0 l_0l l_0c deep_1 n_20 i_6 dv) h))) ∧ (∃ ag ah ai, hcell h (Addr.add (Addr.add p4 (Int.toNat i_6 * 5)) 4) = some (.slice ag ah ai) ∧ (∃ s22, hcell h (Addr.add (Addr.add p3 (Int.toNat i_6 * 5)) 3) = some (.string (mkS s22)) ∧ (CallsH P F.qaf [.slice ag ah ai, .int .i64 (IntKind.i64.wrap (deep_1 + 1))] (fun dw dx => ∃ bs, dw = .int .i64 bs ∧ bd ((IntKind.i64.wrap ((IntKind.i64.wrap ((IntKind.i64.wrap ((IntKind.i64.wrap (t5 + 13)) + ((List.length s5 : Nat) : Int))) + (if (4000 : Int) < ((List.length s22 : Nat) : Int) then 4000 else ((List.length s22 : Nat) : Int)))) + bs)) : Int) fun n_26 => qaf.j3 K R1 l_0 l_0l l_0c deep_1 n_26 i_6 dx) h) ∧ (CallsH P F.qaf [.slice ag ah ai, .int .i64 (IntKind.i64.wrap (deep_1 + 1))] (fun dy dz => ∃ bt, dy = .int .i64 bt ∧ bd ((IntKind.i64.wrap ((IntKind.i64.wrap ((IntKind.i64.wrap ((IntKind.i64.wrap (t5 + 13)) + ((List.length s5 : Nat) : Int))) + (if (4000 : Int) < ((List.length s22 : Nat) : Int) then 4000 else ((List.length s22 : Nat) : Int)))) + bt)) : Int) fun n_30 => qaf.j3 K R1 l_0 l_0l l_0c deep_1 n_30 i_6 dz) h)) ∧ (CallsH P F.qaf [.slice ag ah ai, .int .i64 (IntKind.i64.wrap (deep_1 + 1))] (fun ea bu => ∃ bw, ea = .int .i64 bw ∧ ∃ aw, hcell bu (Addr.add (Addr.add p3 (Int.toNat i_6 * 5)) 3) = some (.string (mkS aw)) ∧ bd ((IntKind.i64.wrap ((IntKind.i64.wrap ((IntKind.i64.wrap ((IntKind.i64.wrap (t5 + 13)) + ((List.length s5 : Nat) : Int))) + (if (4000 : Int) < ((List.length aw : Nat) : Int) then 4000 else ((List.length aw : Nat) : Int)))) + bw)) : Int) fun n_35 => qaf.j3 K R1 l_0 l_0l l_0c deep_1 n_35 i_6 bu) h))) ∧ ((∃ p, hcell h (Addr.add (Addr.add p3 (Int.toNat i_6 * 5)) 3) = some (.string (mkS p)) ∧ (∃ aj, hcell h (Addr.add (Addr.add p2 (Int.toNat i_6 * 5)) 0) = some (.string (mkS aj)) ∧ (∃ bx bz ca, hcell h (Addr.add (Addr.add p4 (Int.toNat i_6 * 5)) 4) = some (.slice bx bz ca) ∧ CallsH P F.qaf [.slice bx bz ca, .int .i64 (IntKind.i64.wrap (deep_1 + 1))] (fun eb ec => ∃ cb, eb = .int .i64 cb ∧ bd ((IntKind.i64.wrap ((IntKind.i64.wrap ((IntKind.i64.wrap ((IntKind.i64.wrap (t5 + 13)) + ((List.length aj : Nat) : Int))) + (if (4000 : Int) < ((List.length p : Nat) : Int) then 4000 else ((List.length p : Nat) : Int)))) + cb)) : Int) fun n_42 => qaf.j3 K R1 l_0 l_0l l_0c deep_1 n_42 i_6 ec) h) ∧ (∃ ax ay az, hcell h (Addr.add (Addr.add p4 (Int.toNat i_6 * 5)) 4) = some (.slice ax ay az) ∧ (CallsH P F.qaf [.slice ax ay az, .int .i64 (IntKind.i64.wrap (deep_1 + 1))] (fun ed ee => ∃ cd, ed = .int .i64 cd ∧ bd ((IntKind.i64.wrap ((IntKind.i64.wrap ((IntKind.i64.wrap ((IntKind.i64.wrap (t5 + 13)) + ((List.length aj : Nat) : Int))) + (if (4000 : Int) < ((List.length p : Nat) : Int) then 4000 else ((List.length p : Nat) : Int)))) + cd)) : Int) fun n_47 => qaf.j3 K R1 l_0 l_0l l_0c deep_1 n_47 i_6 ee) h) ∧ (CallsH P F.qaf [.slice ax ay az, .int .i64 (IntKind.i64.wrap (deep_1 + 1))] (fun ef eg => ∃ ce, ef = .int .i64 ce ∧ bd ((IntKind.i64.wrap ((IntKind.i64.wrap ((IntKind.i64.wrap ((IntKind.i64.wrap (t5 + 13)) + ((List.length aj : Nat) : Int))) + (if (4000 : Int) < ((List.length p : Nat) : Int) then 4000 else ((List.length p : Nat) : Int)))) + ce)) : Int) fun n_51 => qaf.j3 K R1 l_0 l_0l l_0c deep_1 n_51 i_6 eg) h))) ∧ (((∃ cf, hcell h (Addr.add (Addr.add p2 (Int.toNat i_6 * 5)) 0) = some (.string (mkS cf)) ∧ ∃ cg ci cj, hcell h (Addr.add (Addr.add p4 (Int.toNat i_6 * 5)) 4) = some (.slice cg ci cj) ∧ CallsH P F.qaf [.slice cg ci cj, .int .i64 (IntKind.i64.wrap (deep_1 + 1))] (fun eh ei => ∃ ck, eh = .int .i64 ck ∧ bd ((IntKind.i64.wrap ((IntKind.i64.wrap ((IntKind.i64.wrap ((IntKind.i64.wrap (t5 + 13)) + ((List.length cf : Nat) : Int))) + (if (4000 : Int) < ((List.length p : Nat) : Int) then 4000 else ((List.length p : Nat) : Int)))) + ck)) : Int) fun n_57 => qaf.j3 K R1 l_0 l_0l l_0c deep_1 n_57 i_6 ei) h) ∧ (∃ ba bb bc, hcell h (Addr.add (Addr.add p4 (Int.toNat i_6 * 5)) 4) = some (.slice ba bb bc) ∧ (∃ cm, hcell h (Addr.add (Addr.add p2 (Int.toNat i_6 * 5)) 0) = some (.string (mkS cm)) ∧ CallsH P F.qaf [.slice ba bb bc, .int .i64 (IntKind.i64.wrap (deep_1 + 1))] (fun ej ek => ∃ co, ej = .int .i64 co ∧ bd ((IntKind.i64.wrap ((IntKind.i64.wrap ((IntKind.i64.wrap ((IntKind.i64.wrap (t5 + 13)) + ((List.length cm : Nat) : Int))) + (if (4000 : Int) < ((List.length p : Nat) : Int) then 4000 else ((List.length p : Nat) : Int)))) + co)) : Int) fun n_63 => qaf.j3 K R1 l_0 l_0l l_0c deep_1 n_63 i_6 ek) h) ∧ (CallsH P F.qaf [.slice ba bb bc, .int .i64 (IntKind.i64.wrap (deep_1 + 1))] (fun el cp => ∃ cq, el = .int .i64 cq ∧ ∃ cr, hcell cp (Addr.add (Addr.add p2 (Int.toNat i_6 * 5)) 0) = some (.string (mkS cr)) ∧ bd ((IntKind.i64.wrap ((IntKind.i64.wrap ((IntKind.i64.wrap ((IntKind.i64.wrap (t5 + 13)) + ((List.length cr : Nat) : Int))) + (if (4000 : Int) < ((List.length p : Nat) : Int) then 4000 else ((List.length p : Nat) : Int)))) + cq)) : Int) fun n_68 => qaf.j3 K R1 l_0 l_0l l_0c deep_1 n_68 i_6 cp) h))) ∧ (∃ ab ac ad, hcell h (Addr.add (Addr.add p4 (Int.toNat i_6 * 5)) 4) = some (.slice ab ac ad) ∧ (∃ be, hcell h (Addr.add (Addr.add p2 (Int.toNat i_6 * 5)) 0) = some (.string (mkS be)) ∧ (CallsH P F.qaf [.slice ab ac ad, .int .i64 (IntKind.i64.wrap (deep_1 + 1))] (fun em en => ∃ cs, em = .int .i64 cs ∧ bd ((IntKind.i64.wrap ((IntKind.i64.wrap ((IntKind.i64.wrap ((IntKind.i64.wrap (t5 + 13)) + ((List.length be : Nat) : Int))) + (if (4000 : Int) < ((List.length p : Nat) : Int) then 4000 else ((List.length p : Nat) : Int)))) + cs)) : Int) fun n_74 => qaf.j3 K R1 l_0 l_0l l_0c deep_1 n_74 i_6 en) h) ∧ (CallsH P F.qaf [.slice ab ac ad, .int .i64 (IntKind.i64.wrap (deep_1 + 1))] (fun eo ep => ∃ ct, eo = .int .i64 ct ∧ bd ((IntKind.i64.wrap ((IntKind.i64.wrap ((IntKind.i64.wrap ((IntKind.i64.wrap (t5 + 13)) + ((List.length be : Nat) : Int))) + (if (4000 : Int) < ((List.length p : Nat) : Int) then 4000 else ((List.length p : Nat) : Int)))) + ct)) : Int) fun n_78 => qaf.j3 K R1 l_0 l_0l l_0c deep_1 n_78 i_6 ep) h)) ∧ (((∃ cu, hcell h (Addr.add (Addr.add p2 (Int.toNat i_6 * 5)) 0) = some (.string (mkS cu)) ∧ CallsH P F.qaf [.slice ab ac ad, .int .i64 (IntKind.i64.wrap (deep_1 + 1))] (fun es et => ∃ cv, es = .int .i64 cv ∧ bd ((IntKind.i64.wrap ((IntKind.i64.wrap ((IntKind.i64.wrap ((IntKind.i64.wrap (t5 + 13)) + ((List.length cu : Nat) : Int))) + (if (4000 : Int) < ((List.length p : Nat) : Int) then 4000 else ((List.length p : Nat) : Int)))) + cv)) : Int) fun n_83 => qaf.j3 K R1 l_0 l_0l l_0c deep_1 n_83 i_6 et) h) ∧ (CallsH P F.qaf [.slice ab ac ad, .int .i64 (IntKind.i64.wrap (deep_1 + 1))] (fun eu cw => ∃ cx, eu = .int .i64 cx ∧ ∃ cy, hcell cw (Addr.add (Addr.add p2 (Int.toNat i_6 * 5)) 0) = some (.string (mkS cy)) ∧ bd ((IntKind.i64.wrap ((IntKind.i64.wrap ((IntKind.i64.wrap ((IntKind.i64.wrap (t5 + 13)) + ((List.length cy : Nat) : Int))) + (if (4000 : Int) < ((List.length p : Nat) : Int) then 4000 else ((List.length p : Nat) : Int)))) + cx)) : Int) fun n_88 => qaf.j3 K R1 l_0 l_0l l_0c deep_1 n_88 i_6 cw) h)) ∧ (CallsH P F.qaf [.slice ab ac ad, .int .i64 (IntKind.i64.wrap (deep_1 + 1))] (fun ew ak => ∃ bf, ew = .int .i64 bf ∧ (∃ cz, hcell ak (Addr.add (Addr.add p2 (Int.toNat i_6 * 5)) 0) = some (.string (mkS cz)) ∧ bd ((IntKind.i64.wrap ((IntKind.i64.wrap ((IntKind.i64.wrap ((IntKind.i64.wrap (t5 + 13)) + ((List.length cz : Nat) : Int))) + (if (4000 : Int) < ((List.length p : Nat) : Int) then 4000 else ((List.length p : Nat) : Int)))) + bf)) : Int) fun n_93 => qaf.j3 K R1 l_0 l_0l l_0c deep_1 n_93 i_6 ak) ∧ (∃ da, hcell ak (Addr.add (Addr.add p2 (Int.toNat i_6 * 5)) 0) = some (.string (mkS da)) ∧ bd ((IntKind.i64.wrap ((IntKind.i64.wrap ((IntKind.i64.wrap ((IntKind.i64.wrap (t5 + 13)) + ((List.length da : Nat) : Int))) + (if (4000 : Int) < ((List.length p : Nat) : Int) then 4000 else ((List.length p : Nat) : Int)))) + bf)) : Int) fun n_95 => qaf.j3 K R1 l_0 l_0l l_0c deep_1 n_95 i_6 ak)) h))))) ∧ (∃ r x z, hcell h (Addr.add (Addr.add p4 (Int.toNat i_6 * 5)) 4) = some (.slice r x z) ∧ (∃ am, hcell h (Addr.add (Addr.add p2 (Int.toNat i_6 * 5)) 0) = some (.string (mkS am)) ∧ (∃ ae, hcell h (Addr.add (Addr.add p3 (Int.toNat i_6 * 5)) 3) = some (.string (mkS ae)) ∧ (CallsH P F.qaf [.slice r x z, .int .i64 (IntKind.i64.wrap (deep_1 + 1))] (fun ey ez => ∃ db, ey = .int .i64 db ∧ bd ((IntKind.i64.wrap ((IntKind.i64.wrap ((IntKind.i64.wrap ((IntKind.i64.wrap (t5 + 13)) + ((List.length am : Nat) : Int))) + (if (4000 : Int) < ((List.length ae : Nat) : Int) then 4000 else ((List.length ae : Nat) : Int)))) + db)) : Int) fun n_102 => qaf.j3 K R1 l_0 l_0l l_0c deep_1 n_102 i_6 ez) h) ∧ (CallsH P F.qaf [.slice r x z, .int .i64 (IntKind.i64.wrap (deep_1 + 1))] (fun fa fb => ∃ dc, fa = .int .i64 dc ∧ bd ((IntKind.i64.wrap ((IntKind.i64.wrap ((IntKind.i64.wrap ((IntKind.i64.wrap (t5 + 13)) + ((List.length am : Nat) : Int))) + (if (4000 : Int) < ((List.length ae : Nat) : Int) then 4000 else ((List.length ae : Nat) : Int)))) + dc)) : Int) fun n_106 => qaf.j3 K R1 l_0 l_0l l_0c deep_1 n_106 i_6 fb) h)) ∧ (CallsH P F.qaf [.slice r x z, .int .i64 (IntKind.i64.wrap (deep_1 + 1))] (fun fc dd => ∃ de, fc = .int .i64 de ∧ ∃ bg, hcell dd (Addr.add (Addr.add p3 (Int.toNat i_6 * 5)) 3) = some (.string (mkS bg)) ∧ bd ((IntKind.i64.wrap ((IntKind.i64.wrap ((IntKind.i64.wrap ((IntKind.i64.wrap (t5 + 13)) + ((List.length am : Nat) : Int))) + (if (4000 : Int) < ((List.length bg : Nat) : Int) then 4000 else ((List.length bg : Nat) : Int)))) + de)) : Int) fun n_111 => qaf.j3 K R1 l_0 l_0l l_0c deep_1 n_111 i_6 dd) h)) ∧ ((∃ q, hcell h (Addr.add (Addr.add p3 (Int.toNat i_6 * 5)) 3) = some (.string (mkS q)) ∧ (∃ bh, hcell h (Addr.add (Addr.add p2 (Int.toNat i_6 * 5)) 0) = some (.string (mkS bh)) ∧ (CallsH P F.qaf [.slice r x z, .int .i64 (IntKind.i64.wrap (deep_1 + 1))] (fun fd fe => ∃ df, fd = .int .i64 df ∧ bd ((IntKind.i64.wrap ((IntKind.i64.wrap ((IntKind.i64.wrap ((IntKind.i64.wrap (t5 + 13)) + ((List.length bh : Nat) : Int))) + (if (4000 : Int) < ((List.length q : Nat) : Int) then 4000 else ((List.length q : Nat) : Int)))) + df)) : Int) fun n_117 => qaf.j3 K R1 l_0 l_0l l_0c deep_1 n_117 i_6 fe) h) ∧ (CallsH P F.qaf [.slice r x z, .int .i64 (IntKind.i64.wrap (deep_1 + 1))] (fun ff fg => ∃ dg, ff = .int .i64 dg ∧ bd ((IntKind.i64.wrap ((IntKind.i64.wrap ((IntKind.i64.wrap ((IntKind.i64.wrap (t5 + 13)) + ((List.length bh : Nat) : Int))) + (if (4000 : Int) < ((List.length q : Nat) : Int) then 4000 else ((List.length q : Nat) : Int)))) + dg)) : Int) fun n_121 => qaf.j3 K R1 l_0 l_0l l_0c deep_1 n_121 i_6 fg) h)) ∧ (((∃ dh, hcell h (Addr.add (Addr.add p2 (Int.toNat i_6 * 5)) 0) = some (.string (mkS dh)) ∧ CallsH P F.qaf [.slice r x z, .int .i64 (IntKind.i64.wrap (deep_1 + 1))] (fun fh fi => ∃ di, fh = .int .i64 di ∧ bd ((IntKind.i64.wrap ((IntKind.i64.wrap ((IntKind.i64.wrap ((IntKind.i64.wrap (t5 + 13)) + ((List.length dh : Nat) : Int))) + (if (4000 : Int) < ((List.length q : Nat) : Int) then 4000 else ((List.length q : Nat) : Int)))) + di)) : Int) fun n_126 => qaf.j3 K R1 l_0 l_0l l_0c deep_1 n_126 i_6 fi) h) ∧ (CallsH P F.qaf [.slice r x z, .int .i64 (IntKind.i64.wrap (deep_1 + 1))] (fun fj dj => ∃ dk, fj = .int .i64 dk ∧ ∃ dl, hcell dj (Addr.add (Addr.add p2 (Int.toNat i_6 * 5)) 0) = some (.string (mkS dl)) ∧ bd ((IntKind.i64.wrap ((IntKind.i64.wrap ((IntKind.i64.wrap ((IntKind.i64.wrap (t5 + 13)) + ((List.length dl : Nat) : Int))) + (if (4000 : Int) < ((List.length q : Nat) : Int) then 4000 else ((List.length q : Nat) : Int)))) + dk)) : Int) fun n_131 => qaf.j3 K R1 l_0 l_0l l_0c deep_1 n_131 i_6 dj) h)) ∧ (CallsH P F.qaf [.slice r x z, .int .i64 (IntKind.i64.wrap (deep_1 + 1))] (fun fk an => ∃ bi, fk = .int .i64 bi ∧ (∃ dm, hcell an (Addr.add (Addr.add p2 (Int.toNat i_6 * 5)) 0) = some (.string (mkS dm)) ∧ bd ((IntKind.i64.wrap ((IntKind.i64.wrap ((IntKind.i64.wrap ((IntKind.i64.wrap (t5 + 13)) + ((List.length dm : Nat) : Int))) + (if (4000 : Int) < ((List.length q : Nat) : Int) then 4000 else ((List.length q : Nat) : Int)))) + bi)) : Int) fun n_136 => qaf.j3 K R1 l_0 l_0l l_0c deep_1 n_136 i_6 an) ∧ (∃ dn, hcell an (Addr.add (Addr.add p2 (Int.toNat i_6 * 5)) 0) = some (.string (mkS dn)) ∧ bd ((IntKind.i64.wrap ((IntKind.i64.wrap ((IntKind.i64.wrap ((IntKind.i64.wrap (t5 + 13)) + ((List.length dn : Nat) : Int))) + (if (4000 : Int) < ((List.length q : Nat) : Int) then 4000 else ((List.length q : Nat) : Int)))) + bi)) : Int) fun n_138 => qaf.j3 K R1 l_0 l_0l l_0c deep_1 n_138 i_6 an)) h))) ∧ (CallsH P F.qaf [.slice r x z, .int .i64 (IntKind.i64.wrap (deep_1 + 1))] (fun fl aa => ∃ ao, fl = .int .i64 ao ∧ (∃ dp, hcell aa (Addr.add (Addr.add p2 (Int.toNat i_6 * 5)) 0) = some (.string (mkS dp)) ∧ ∃ bj, hcell aa (Addr.add (Addr.add p3 (Int.toNat i_6 * 5)) 3) = some (.string (mkS bj)) ∧ bd ((IntKind.i64.wrap ((IntKind.i64.wrap ((IntKind.i64.wrap ((IntKind.i64.wrap (t5 + 13)) + ((List.length dp : Nat) : Int))) + (if (4000 : Int) < ((List.length bj : Nat) : Int) then 4000 else ((List.length bj : Nat) : Int)))) + ao)) : Int) fun n_144 => qaf.j3 K R1 l_0 l_0l l_0c deep_1 n_144 i_6 aa) ∧ (∃ af, hcell aa (Addr.add (Addr.add p3 (Int.toNat i_6 * 5)) 3) = some (.string (mkS af)) ∧ (∃ dq, hcell aa (Addr.add (Addr.add p2 (Int.toNat i_6 * 5)) 0) = some (.string (mkS dq)) ∧ bd ((IntKind.i64.wrap ((IntKind.i64.wrap ((IntKind.i64.wrap ((IntKind.i64.wrap (t5 + 13)) + ((List.length dq : Nat) : Int))) + (if (4000 : Int) < ((List.length af : Nat) : Int) then 4000 else ((List.length af : Nat) : Int)))) + ao)) : Int) fun n_147 => qaf.j3 K R1 l_0 l_0l l_0c deep_1 n_147 i_6 aa) ∧ (∃ dr, hcell aa (Addr.add (Addr.add p2 (Int.toNat i_6 * 5)) 0) = some (.string (mkS dr)) ∧ bd ((IntKind.i64.wrap ((IntKind.i64.wrap ((IntKind.i64.wrap ((IntKind.i64.wrap (t5 + 13)) + ((List.length dr : Nat) : Int))) + (if (4000 : Int) < ((List.length af : Nat) : Int) then 4000 else ((List.length af : Nat) : Int)))) + ao)) : Int) fun n_149 => qaf.j3 K R1 l_0 l_0l l_0c deep_1 n_149 i_6 aa))) h))))) ∧ (bk = false → K (.int .i64 t5) h)
def qaf.j2.l : Live := [(0, .slice), (1, .int .i64), (5, .int .i64), (6, .int .i64), (18, .bool)]
def qaf.j2.j (K : KT) (R1 : OA → Nat → Nat → Int → Int → Int → Heap → Prop) : Tup qaf.j2.l → Heap → Prop := fun x h => qaf.j2 K R1 x.1.1 x.1.2.1 x.1.2.2 x.2.1 x.2.2.1 x.2.2.2.1 x.2.2.2.2.1 h
def qaf.L1 (K : KT) : Nat → OA → Nat → Nat → Int → Int → Int → Heap → Prop
  | 0, _, _, _, _, _, _, _ => False
  | fuel + 1, l_0, l_0l, l_0c, deep_1, t5, i_6, h => ((decide (i_6 < ((l_0l : Nat) : Int))) = true → ((decide (t5 ≤ 2000)) = true → qaf.j2 K (qaf.L1 K fuel) l_0 l_0l l_0c deep_1 t5 i_6 (decide (deep_1 ≤ 8)) h) ∧ ((decide (t5 ≤ 2000)) = false → qaf.j2 K (qaf.L1 K fuel) l_0 l_0l l_0c deep_1 t5 i_6 false h)) ∧ ((decide (i_6 < ((l_0l : Nat) : Int))) = false → qaf.j2 K (qaf.L1 K fuel) l_0 l_0l l_0c deep_1 t5 i_6 false h)
termination_by structural n => n
def qaf.L1.l : Live := [(0, .slice), (1, .int .i64), (5, .int .i64), (6, .int .i64)]
def qaf.L1.j (K : KT) : Nat → Tup qaf.L1.l → Heap → Prop := fun n x h => qaf.L1 K n x.1.1 x.1.2.1 x.1.2.2 x.2.1 x.2.2.1 x.2.2.2.1 h
def qaf.p0 (K : KT) (l_0 : OA) (l_0l : Nat) (l_0c : Nat) (deep_1 : Int) (h : Heap) : Prop :=
  ∃ fuel150, qaf.L1 K fuel150 l_0 l_0l l_0c deep_1 0 0 h
def qaf.plan (K : KT) : Plan := (.seq .go (.seq .go (.seq (.seq .go (.block (.loop qaf.L1.l (qaf.L1.j K) (fun n1 => (.seq (.cut qaf.j2.l (qaf.j2.j K (qaf.L1 K n1)) .go .go) (.cut qaf.j3.l (qaf.j3.j K (qaf.L1 K n1)) (.block (.orders (.op 0 (.op 1 (.op 2 (.op 3 (.op 4 (.op 5 (.op 9 (.op 10 (.op 11 (.op 12 (.op 17 (.op 18 (.op 19 (.op 20 (.op 22 (.op 23 (.both (.op 6 (.op 7 (.op 8 (.both (.op 13 (.op 14 (.both (.op 15 (.op 16 (.op 21 (.op 24 (.op 25 (.op 26 .nil)))))) (.op 21 (.both (.op 15 (.op 16 (.op 24 (.op 25 (.op 26 .nil))))) (.op 24 (.op 15 (.op 16 (.op 25 (.op 26 .nil)))))))))) (.op 21 (.both (.op 13 (.op 14 (.both (.op 15 (.op 16 (.op 24 (.op 25 (.op 26 .nil))))) (.op 24 (.op 15 (.op 16 (.op 25 (.op 26 .nil)))))))) (.op 24 (.op 13 (.op 14 (.op 15 (.op 16 (.op 25 (.op 26 .nil))))))))))))) (.both (.op 13 (.op 14 (.both (.op 6 (.op 7 (.op 8 (.both (.op 15 (.op 16 (.op 21 (.op 24 (.op 25 (.op 26 .nil)))))) (.op 21 (.both (.op 15 (.op 16 (.op 24 (.op 25 (.op 26 .nil))))) (.op 24 (.op 15 (.op 16 (.op 25 (.op 26 .nil))))))))))) (.both (.op 15 (.both (.op 6 (.op 7 (.op 8 (.op 16 (.op 21 (.op 24 (.op 25 (.op 26 .nil)))))))) (.op 21 (.both (.op 6 (.op 7 (.op 8 (.op 16 (.op 24 (.op 25 (.op 26 .nil))))))) (.op 24 (.op 6 (.op 7 (.op 8 (.op 16 (.op 25 (.op 26 .nil))))))))))) (.op 21 (.both (.op 6 (.op 7 (.op 8 (.both (.op 15 (.op 16 (.op 24 (.op 25 (.op 26 .nil))))) (.op 24 (.op 15 (.op 16 (.op 25 (.op 26 .nil))))))))) (.both (.op 15 (.both (.op 6 (.op 7 (.op 8 (.op 16 (.op 24 (.op 25 (.op 26 .nil))))))) (.op 24 (.op 6 (.op 7 (.op 8 (.op 16 (.op 25 (.op 26 .nil))))))))) (.op 24 (.both (.op 6 (.op 7 (.op 8 (.op 15 (.op 16 (.op 25 (.op 26 .nil))))))) (.op 15 (.op 6 (.op 7 (.op 8 (.op 16 (.op 25 (.op 26 .nil)))))))))))))))) (.op 21 (.both (.op 6 (.op 7 (.op 8 (.both (.op 13 (.op 14 (.both (.op 15 (.op 16 (.op 24 (.op 25 (.op 26 .nil))))) (.op 24 (.op 15 (.op 16 (.op 25 (.op 26 .nil)))))))) (.op 24 (.op 13 (.op 14 (.op 15 (.op 16 (.op 25 (.op 26 .nil))))))))))) (.both (.op 13 (.op 14 (.both (.op 6 (.op 7 (.op 8 (.both (.op 15 (.op 16 (.op 24 (.op 25 (.op 26 .nil))))) (.op 24 (.op 15 (.op 16 (.op 25 (.op 26 .nil))))))))) (.both (.op 15 (.both (.op 6 (.op 7 (.op 8 (.op 16 (.op 24 (.op 25 (.op 26 .nil))))))) (.op 24 (.op 6 (.op 7 (.op 8 (.op 16 (.op 25 (.op 26 .nil))))))))) (.op 24 (.both (.op 6 (.op 7 (.op 8 (.op 15 (.op 16 (.op 25 (.op 26 .nil))))))) (.op 15 (.op 6 (.op 7 (.op 8 (.op 16 (.op 25 (.op 26 .nil))))))))))))) (.op 24 (.both (.op 6 (.op 7 (.op 8 (.op 13 (.op 14 (.op 15 (.op 16 (.op 25 (.op 26 .nil))))))))) (.op 13 (.op 14 (.both (.op 6 (.op 7 (.op 8 (.op 15 (.op 16 (.op 25 (.op 26 .nil))))))) (.op 15 (.op 6 (.op 7 (.op 8 (.op 16 (.op 25 (.op 26 .nil))))))))))))))))))))))))))))))))))) .go)))))) .go)))
theorem qaf.ev_eq : qaf.p0 = fun K l_0 l_0l l_0c deep_1 h => Ev P Tryz.f90 (qaf.plan K) K [.slice l_0 l_0l l_0c, .int .i64 deep_1] h := by kernel_rfl
theorem qaf.obl (K : KT) : Obl P Tryz.f90 (qaf.plan K) K :=
  obl_of (R := (∀ x h, ¬ (qaf.L1.j K) 0 x h) ∧ ImpN (qaf.L1.j K) ∧ (∀ (n1 : Nat), Imp (qaf.j2.j K (qaf.L1 K n1)) ∧ DrawOK P Tryz.f90.ntmps (opsAt 5 (bodyOf Tryz.f90)) (.op 0 (.op 1 (.op 2 (.op 3 (.op 4 (.op 5 (.op 9 (.op 10 (.op 11 (.op 12 (.op 17 (.op 18 (.op 19 (.op 20 (.op 22 (.op 23 (.both (.op 6 (.op 7 (.op 8 (.both (.op 13 (.op 14 (.both (.op 15 (.op 16 (.op 21 (.op 24 (.op 25 (.op 26 .nil)))))) (.op 21 (.both (.op 15 (.op 16 (.op 24 (.op 25 (.op 26 .nil))))) (.op 24 (.op 15 (.op 16 (.op 25 (.op 26 .nil)))))))))) (.op 21 (.both (.op 13 (.op 14 (.both (.op 15 (.op 16 (.op 24 (.op 25 (.op 26 .nil))))) (.op 24 (.op 15 (.op 16 (.op 25 (.op 26 .nil)))))))) (.op 24 (.op 13 (.op 14 (.op 15 (.op 16 (.op 25 (.op 26 .nil))))))))))))) (.both (.op 13 (.op 14 (.both (.op 6 (.op 7 (.op 8 (.both (.op 15 (.op 16 (.op 21 (.op 24 (.op 25 (.op 26 .nil)))))) (.op 21 (.both (.op 15 (.op 16 (.op 24 (.op 25 (.op 26 .nil))))) (.op 24 (.op 15 (.op 16 (.op 25 (.op 26 .nil))))))))))) (.both (.op 15 (.both (.op 6 (.op 7 (.op 8 (.op 16 (.op 21 (.op 24 (.op 25 (.op 26 .nil)))))))) (.op 21 (.both (.op 6 (.op 7 (.op 8 (.op 16 (.op 24 (.op 25 (.op 26 .nil))))))) (.op 24 (.op 6 (.op 7 (.op 8 (.op 16 (.op 25 (.op 26 .nil))))))))))) (.op 21 (.both (.op 6 (.op 7 (.op 8 (.both (.op 15 (.op 16 (.op 24 (.op 25 (.op 26 .nil))))) (.op 24 (.op 15 (.op 16 (.op 25 (.op 26 .nil))))))))) (.both (.op 15 (.both (.op 6 (.op 7 (.op 8 (.op 16 (.op 24 (.op 25 (.op 26 .nil))))))) (.op 24 (.op 6 (.op 7 (.op 8 (.op 16 (.op 25 (.op 26 .nil))))))))) (.op 24 (.both (.op 6 (.op 7 (.op 8 (.op 15 (.op 16 (.op 25 (.op 26 .nil))))))) (.op 15 (.op 6 (.op 7 (.op 8 (.op 16 (.op 25 (.op 26 .nil)))))))))))))))) (.op 21 (.both (.op 6 (.op 7 (.op 8 (.both (.op 13 (.op 14 (.both (.op 15 (.op 16 (.op 24 (.op 25 (.op 26 .nil))))) (.op 24 (.op 15 (.op 16 (.op 25 (.op 26 .nil)))))))) (.op 24 (.op 13 (.op 14 (.op 15 (.op 16 (.op 25 (.op 26 .nil))))))))))) (.both (.op 13 (.op 14 (.both (.op 6 (.op 7 (.op 8 (.both (.op 15 (.op 16 (.op 24 (.op 25 (.op 26 .nil))))) (.op 24 (.op 15 (.op 16 (.op 25 (.op 26 .nil))))))))) (.both (.op 15 (.both (.op 6 (.op 7 (.op 8 (.op 16 (.op 24 (.op 25 (.op 26 .nil))))))) (.op 24 (.op 6 (.op 7 (.op 8 (.op 16 (.op 25 (.op 26 .nil))))))))) (.op 24 (.both (.op 6 (.op 7 (.op 8 (.op 15 (.op 16 (.op 25 (.op 26 .nil))))))) (.op 15 (.op 6 (.op 7 (.op 8 (.op 16 (.op 25 (.op 26 .nil))))))))))))) (.op 24 (.both (.op 6 (.op 7 (.op 8 (.op 13 (.op 14 (.op 15 (.op 16 (.op 25 (.op 26 .nil))))))))) (.op 13 (.op 14 (.both (.op 6 (.op 7 (.op 8 (.op 15 (.op 16 (.op 25 (.op 26 .nil))))))) (.op 15 (.op 6 (.op 7 (.op 8 (.op 16 (.op 25 (.op 26 .nil))))))))))))))))))))))))))))))))) ∧ Imp (qaf.j3.j K (qaf.L1 K n1)) ∧ True) ∧ True) (by kernel_rfl) ⟨fun _ _ H => H, impN _, fun _ => ⟨imp _, ⟨draw_ok (by kernel_rfl), ⟨imp _, trivial⟩⟩⟩, trivial⟩
theorem qaf.ok {K : KT} {l_0 : OA} {l_0l : Nat} {l_0c : Nat} {deep_1 : Int} {h : Heap} (H : qaf.p0 K l_0 l_0l l_0c deep_1 h) : CallsH P F.qaf [.slice l_0 l_0l l_0c, .int .i64 deep_1] K h :=
  calls_of_Ev (qaf.plan K) Tryz.func90 (by kernel_rfl) (qaf.obl K) (by rw [qaf.ev_eq] at H; exact H)
def qbh.L1 (K : KT) : Nat → Int → OA → Nat → Nat → Int → Heap → Prop
  | 0, _, _, _, _, _, _ => False
  | fuel + 1, v_2, out_7, out_7l, out_7c, i_8, h => ((decide (i_8 ≥ 0)) = true → (0 : Int) ≤ (IntKind.u64.wrap (IntKind.i64.wrap ((8 : Int) * i_8))) ∧ bd (al h #[.int .u8 (IntKind.u8.wrap (shrI .u64 v_2 (IntKind.u64.wrap (IntKind.i64.wrap ((8 : Int) * i_8)))))] T.uint8) fun h6 => SemH P (Builtin.append_ #[T.sl_uint8, T.sl_uint8] T.sl_uint8 #[.slice out_7 out_7l out_7c, .slice (some (top h)) 1 1]) (fun v7 h8 => ∃ a9 p q, v7 = .slice a9 p q ∧ bd ((IntKind.i64.wrap (i_8 - 1)) : Int) fun i_10 => (qbh.L1 K fuel) v_2 a9 p q i_10 h8) h6) ∧ ((decide (i_8 ≥ 0)) = false → K (.slice out_7 out_7l out_7c) h)
termination_by structural n => n
def qbh.L1.l : Live := [(2, .int .u64), (7, .slice), (8, .int .i64)]
def qbh.L1.j (K : KT) : Nat → Tup qbh.L1.l → Heap → Prop := fun n x h => qbh.L1 K n x.1 x.2.1.1 x.2.1.2.1 x.2.1.2.2 x.2.2.1 h
def qbh.p0 (K : KT) (b_0 : OA) (b_0l : Nat) (b_0c : Nat) (t1 : Int) (v_2 : Int) (h : Heap) : Prop :=
  bd (al h #[] T.uint8) fun h1 => SemH P (Builtin.append_ #[T.sl_uint8, T.sl_uint8] T.sl_uint8 #[.slice (some (top h)) 0 0, .slice b_0 b_0l b_0c]) (fun v2 h3 => ∃ a4 p q, v2 = .slice a4 p q ∧ bd ((IntKind.i64.wrap (t1 - 1)) : Int) fun i_5 => ∃ fuel11, qbh.L1 K fuel11 v_2 a4 p q i_5 h3) h1
def qbh.plan (K : KT) : Plan := (.seq .go (.seq .go (.seq (.seq .go (.block (.loop qbh.L1.l (qbh.L1.j K) (fun n1 => .go)))) .go)))
theorem qbh.ev_eq : qbh.p0 = fun K b_0 b_0l b_0c t1 v_2 h => Ev P Tryz.f42 (qbh.plan K) K [.slice b_0 b_0l b_0c, .int .i64 t1, .int .u64 v_2] h := by kernel_rfl
theorem qbh.obl (K : KT) : Obl P Tryz.f42 (qbh.plan K) K :=
  obl_of (R := (∀ x h, ¬ (qbh.L1.j K) 0 x h) ∧ ImpN (qbh.L1.j K) ∧ (∀ (n1 : Nat), True) ∧ True) (by kernel_rfl) ⟨fun _ _ H => H, impN _, fun _ => trivial, trivial⟩
theorem qbh.ok {K : KT} {b_0 : OA} {b_0l : Nat} {b_0c : Nat} {t1 : Int} {v_2 : Int} {h : Heap} (H : qbh.p0 K b_0 b_0l b_0c t1 v_2 h) : CallsH P F.qbh [.slice b_0 b_0l b_0c, .int .i64 t1, .int .u64 v_2] K h :=
  calls_of_Ev (qbh.plan K) Tryz.func42 (by kernel_rfl) (qbh.obl K) (by rw [qbh.ev_eq] at H; exact H)
def qcj.p0 (K : KT) (b_0 : OA) (b_0l : Nat) (b_0c : Nat) (s_1 : List UInt8) (h : Heap) : Prop :=
  CallsH P F.qbh [.slice b_0 b_0l b_0c, .int .i64 1, .int .u64 (IntKind.u64.wrap ((List.length s_1 : Nat) : Int))] (fun v1 h2 => ∃ a3 p q, v1 = .slice a3 p q ∧ SemH P (Builtin.append_ #[T.sl_uint8, T.string] T.sl_uint8 #[.slice a3 p q, .string (mkS s_1)]) (fun v4 h5 => ∃ a6 r x, v4 = .slice a6 r x ∧ K (.slice a6 r x) h5) h2) h
def qcj.plan (K : KT) : Plan := .go
theorem qcj.ev_eq : qcj.p0 = fun K b_0 b_0l b_0c s_1 h => Ev P Tryz.f43 (qcj.plan K) K [.slice b_0 b_0l b_0c, .string (mkS s_1)] h := by kernel_rfl
theorem qcj.obl (K : KT) : Obl P Tryz.f43 (qcj.plan K) K :=
  obl_true (by kernel_rfl)
theorem qcj.ok {K : KT} {b_0 : OA} {b_0l : Nat} {b_0c : Nat} {s_1 : List UInt8} {h : Heap} (H : qcj.p0 K b_0 b_0l b_0c s_1 h) : CallsH P F.qcj [.slice b_0 b_0l b_0c, .string (mkS s_1)] K h :=
  calls_of_Ev (qcj.plan K) Tryz.func43 (by kernel_rfl) (qcj.obl K) (by rw [qcj.ev_eq] at H; exact H)
def qck.p0 (K : KT) (b_0 : OA) (b_0l : Nat) (b_0c : Nat) (s_1 : OA) (s_1l : Nat) (s_1c : Nat) (h : Heap) : Prop :=
  CallsH P F.qbh [.slice b_0 b_0l b_0c, .int .i64 4, .int .u64 (IntKind.u64.wrap ((s_1l : Nat) : Int))] (fun v1 h2 => ∃ a3 p q, v1 = .slice a3 p q ∧ SemH P (Builtin.append_ #[T.sl_uint8, T.sl_uint8] T.sl_uint8 #[.slice a3 p q, .slice s_1 s_1l s_1c]) (fun v4 h5 => ∃ a6 r x, v4 = .slice a6 r x ∧ K (.slice a6 r x) h5) h2) h
def qck.plan (K : KT) : Plan := .go
theorem qck.ev_eq : qck.p0 = fun K b_0 b_0l b_0c s_1 s_1l s_1c h => Ev P Tryz.f44 (qck.plan K) K [.slice b_0 b_0l b_0c, .slice s_1 s_1l s_1c] h := by kernel_rfl
theorem qck.obl (K : KT) : Obl P Tryz.f44 (qck.plan K) K :=
  obl_true (by kernel_rfl)
theorem qck.ok {K : KT} {b_0 : OA} {b_0l : Nat} {b_0c : Nat} {s_1 : OA} {s_1l : Nat} {s_1c : Nat} {h : Heap} (H : qck.p0 K b_0 b_0l b_0c s_1 s_1l s_1c h) : CallsH P F.qck [.slice b_0 b_0l b_0c, .slice s_1 s_1l s_1c] K h :=
  calls_of_Ev (qck.plan K) Tryz.func44 (by kernel_rfl) (qck.obl K) (by rw [qck.ev_eq] at H; exact H)
def qaj.j2 (K : KT) (R1 : OA → Nat → Nat → OA → Nat → Nat → Int → Heap → Prop) (t0 : OA) (p : Nat) (q : Nat) (t3 : OA) (r : Nat) (x : Nat) (t4 : Int) (h : Heap) : Prop :=
  bd ((IntKind.i64.wrap (t4 + 1)) : Int) fun n1 => R1 t0 p q t3 r x n1 h
def qaj.j2.l : Live := [(0, .slice), (3, .slice), (4, .int .i64)]
def qaj.j2.j (K : KT) (R1 : OA → Nat → Nat → OA → Nat → Nat → Int → Heap → Prop) : Tup qaj.j2.l → Heap → Prop := fun x h => qaj.j2 K R1 x.1.1 x.1.2.1 x.1.2.2 x.2.1.1 x.2.1.2.1 x.2.1.2.2 x.2.2.1 h
def qaj.j3 (K : KT) (R1 : OA → Nat → Nat → OA → Nat → Nat → Int → Heap → Prop) (t0 : OA) (p : Nat) (q : Nat) (t3 : OA) (r : Nat) (x : Nat) (t4 : Int) (h : Heap) : Prop :=
  ∃ p2, t0 = some p2 ∧ (0 : Int) ≤ t4 ∧ t4 < ((p : Nat) : Int) ∧ ∃ n3, hcell h (Addr.add (Addr.add p2 (Int.toNat t4 * 5)) 1) = some (.int .u8 n3) ∧ bd ((n3 == 116) : Bool) fun b4 => (b4 = true → ∃ p5, t0 = some p5 ∧ (0 : Int) ≤ t4 ∧ t4 < ((p : Nat) : Int) ∧ ∃ n6, hcell h (Addr.add (Addr.add p5 (Int.toNat t4 * 5)) 2) = some (.int .i64 n6) ∧ CallsH P F.qbh [.slice t3 r x, .int .i64 1, .int .u64 (IntKind.u64.wrap n6)] (fun v7 h8 => ∃ a9 z aa, v7 = .slice a9 z aa ∧ qaj.j2 K R1 t0 p q a9 z aa t4 h8) h) ∧ (b4 = false → bd ((n3 == 73) : Bool) fun ab => (ab = true → ∃ ac, t0 = some ac ∧ (0 : Int) ≤ t4 ∧ t4 < ((p : Nat) : Int) ∧ ∃ ad, hcell h (Addr.add (Addr.add ac (Int.toNat t4 * 5)) 2) = some (.int .i64 ad) ∧ CallsH P F.qbh [.slice t3 r x, .int .i64 4, .int .u64 (IntKind.u64.wrap ad)] (fun bm bp => ∃ ae af ag, bm = .slice ae af ag ∧ qaj.j2 K R1 t0 p q ae af ag t4 bp) h) ∧ (ab = false → bd ((n3 == 108) : Bool) fun ah => (ah = true → ∃ ai, t0 = some ai ∧ (0 : Int) ≤ t4 ∧ t4 < ((p : Nat) : Int) ∧ ∃ aj, hcell h (Addr.add (Addr.add ai (Int.toNat t4 * 5)) 2) = some (.int .i64 aj) ∧ CallsH P F.qbh [.slice t3 r x, .int .i64 8, .int .u64 (IntKind.u64.wrap aj)] (fun bq br => ∃ ak am an, bq = .slice ak am an ∧ qaj.j2 K R1 t0 p q ak am an t4 br) h) ∧ (ah = false → bd ((n3 == 83) : Bool) fun ao => (ao = true → ∃ aq, t0 = some aq ∧ (0 : Int) ≤ t4 ∧ t4 < ((p : Nat) : Int) ∧ ∃ s24, hcell h (Addr.add (Addr.add aq (Int.toNat t4 * 5)) 3) = some (.string (mkS s24)) ∧ SemH P (Go.convert T.string T.sl_uint8 (.string (mkS s24))) (fun bs bt => ∃ ar au aw, bs = .slice ar au aw ∧ CallsH P F.qck [.slice t3 r x, .slice ar au aw] (fun bu bw => ∃ ax ay az, bu = .slice ax ay az ∧ qaj.j2 K R1 t0 p q ax ay az t4 bw) bt) h) ∧ (ao = false → bd ((n3 == 70) : Bool) fun ba => (ba = true → ∃ bb, t0 = some bb ∧ (0 : Int) ≤ t4 ∧ t4 < ((p : Nat) : Int) ∧ ∃ bc be bf, hcell h (Addr.add (Addr.add bb (Int.toNat t4 * 5)) 4) = some (.slice bc be bf) ∧ CallsH P F.qaj [.slice bc be bf] (fun bx bz => ∃ bg bh bi, bx = .slice bg bh bi ∧ CallsH P F.qck [.slice t3 r x, .slice bg bh bi] (fun ca cb => ∃ bj bk bl, ca = .slice bj bk bl ∧ qaj.j2 K R1 t0 p q bj bk bl t4 cb) bz) h) ∧ (ba = false → qaj.j2 K R1 t0 p q t3 r x t4 h)))))
def qaj.j3.l : Live := [(0, .slice), (3, .slice), (4, .int .i64)]
def qaj.j3.j (K : KT) (R1 : OA → Nat → Nat → OA → Nat → Nat → Int → Heap → Prop) : Tup qaj.j3.l → Heap → Prop := fun x h => qaj.j3 K R1 x.1.1 x.1.2.1 x.1.2.2 x.2.1.1 x.2.1.2.1 x.2.1.2.2 x.2.2.1 h
def qaj.L1 (K : KT) : Nat → OA → Nat → Nat → OA → Nat → Nat → Int → Heap → Prop
  | 0, _, _, _, _, _, _, _, _ => False
  | fuel + 1, t0, p, x, t3, q, r, t4, h => ((decide (t4 < ((p : Nat) : Int))) = true → ∃ z, t0 = some z ∧ (0 : Int) ≤ t4 ∧ t4 < ((p : Nat) : Int) ∧ ∃ aa, t0 = some aa ∧ (0 : Int) ≤ t4 ∧ t4 < ((p : Nat) : Int) ∧ (∃ ab, hcell h (Addr.add (Addr.add z (Int.toNat t4 * 5)) 0) = some (.string (mkS ab)) ∧ (CallsH P F.qcj [.slice t3 q r, .string (mkS ab)] (fun cg ad => ∃ ag ah ai, cg = .slice ag ah ai ∧ ∃ aj, hcell ad (Addr.add (Addr.add aa (Int.toNat t4 * 5)) 1) = some (.int .u8 aj) ∧ bd (al ad #[.int .u8 aj] T.uint8) fun ci => SemH P (Builtin.append_ #[T.sl_uint8, T.sl_uint8] T.sl_uint8 #[.slice ag ah ai, .slice (some (top ad)) 1 1]) (fun cj ck => ∃ ak am an, cj = .slice ak am an ∧ qaj.j3 K (qaj.L1 K fuel) t0 p x ak am an t4 ck) ci) h) ∧ (∃ ae, hcell h (Addr.add (Addr.add aa (Int.toNat t4 * 5)) 1) = some (.int .u8 ae) ∧ (CallsH P F.qcj [.slice t3 q r, .string (mkS ab)] (fun cm ao => ∃ aq ar au, cm = .slice aq ar au ∧ bd (al ao #[.int .u8 ae] T.uint8) fun co => SemH P (Builtin.append_ #[T.sl_uint8, T.sl_uint8] T.sl_uint8 #[.slice aq ar au, .slice (some (top ao)) 1 1]) (fun cp cq => ∃ aw ax ay, cp = .slice aw ax ay ∧ qaj.j3 K (qaj.L1 K fuel) t0 p x aw ax ay t4 cq) co) h) ∧ (bd (al h #[.int .u8 ae] T.uint8) fun cr => CallsH P F.qcj [.slice t3 q r, .string (mkS ab)] (fun cs ct => ∃ az ba bb, cs = .slice az ba bb ∧ SemH P (Builtin.append_ #[T.sl_uint8, T.sl_uint8] T.sl_uint8 #[.slice az ba bb, .slice (some (top h)) 1 1]) (fun cu cv => ∃ bc be bf, cu = .slice bc be bf ∧ qaj.j3 K (qaj.L1 K fuel) t0 p x bc be bf t4 cv) ct) cr))) ∧ (∃ ac, hcell h (Addr.add (Addr.add aa (Int.toNat t4 * 5)) 1) = some (.int .u8 ac) ∧ (∃ af, hcell h (Addr.add (Addr.add z (Int.toNat t4 * 5)) 0) = some (.string (mkS af)) ∧ (CallsH P F.qcj [.slice t3 q r, .string (mkS af)] (fun cw bg => ∃ bh bi bj, cw = .slice bh bi bj ∧ bd (al bg #[.int .u8 ac] T.uint8) fun cx => SemH P (Builtin.append_ #[T.sl_uint8, T.sl_uint8] T.sl_uint8 #[.slice bh bi bj, .slice (some (top bg)) 1 1]) (fun cy cz => ∃ bk bl bm, cy = .slice bk bl bm ∧ qaj.j3 K (qaj.L1 K fuel) t0 p x bk bl bm t4 cz) cx) h) ∧ (bd (al h #[.int .u8 ac] T.uint8) fun da => CallsH P F.qcj [.slice t3 q r, .string (mkS af)] (fun db dc => ∃ bp bq br, db = .slice bp bq br ∧ SemH P (Builtin.append_ #[T.sl_uint8, T.sl_uint8] T.sl_uint8 #[.slice bp bq br, .slice (some (top h)) 1 1]) (fun dd de => ∃ bs bt bu, dd = .slice bs bt bu ∧ qaj.j3 K (qaj.L1 K fuel) t0 p x bs bt bu t4 de) dc) da)) ∧ (bd (al h #[.int .u8 ac] T.uint8) fun bw => ∃ bx, hcell bw (Addr.add (Addr.add z (Int.toNat t4 * 5)) 0) = some (.string (mkS bx)) ∧ CallsH P F.qcj [.slice t3 q r, .string (mkS bx)] (fun df dg => ∃ bz ca cb, df = .slice bz ca cb ∧ SemH P (Builtin.append_ #[T.sl_uint8, T.sl_uint8] T.sl_uint8 #[.slice bz ca cb, .slice (some (top h)) 1 1]) (fun dh di => ∃ cd ce cf, dh = .slice cd ce cf ∧ qaj.j3 K (qaj.L1 K fuel) t0 p x cd ce cf t4 di) dg) bw))) ∧ ((decide (t4 < ((p : Nat) : Int))) = false → K (.slice t3 q r) h)
termination_by structural n => n
def qaj.L1.l : Live := [(0, .slice), (3, .slice), (4, .int .i64)]
def qaj.L1.j (K : KT) : Nat → Tup qaj.L1.l → Heap → Prop := fun n x h => qaj.L1 K n x.1.1 x.1.2.1 x.1.2.2 x.2.1.1 x.2.1.2.1 x.2.1.2.2 x.2.2.1 h
def qaj.p0 (K : KT) (t0 : OA) (p : Nat) (q : Nat) (h : Heap) : Prop :=
  ∃ fuel90, qaj.L1 K fuel90 t0 p q none 0 0 0 h
def qaj.plan (K : KT) : Plan := (.seq .go (.seq .go (.seq (.seq .go (.block (.loop qaj.L1.l (qaj.L1.j K) (fun n1 => (.seq .go (.cut qaj.j2.l (qaj.j2.j K (qaj.L1 K n1)) (.block (.cut qaj.j3.l (qaj.j3.j K (qaj.L1 K n1)) (.orders (.op 0 (.op 1 (.op 2 (.op 3 (.op 4 (.op 7 (.op 8 (.op 9 (.op 10 (.both (.op 5 (.both (.op 6 (.op 11 (.op 12 (.op 13 (.op 14 .nil))))) (.op 11 (.both (.op 6 (.op 12 (.op 13 (.op 14 .nil)))) (.op 12 (.op 6 (.op 13 (.op 14 .nil)))))))) (.op 11 (.both (.op 5 (.both (.op 6 (.op 12 (.op 13 (.op 14 .nil)))) (.op 12 (.op 6 (.op 13 (.op 14 .nil)))))) (.op 12 (.op 5 (.op 6 (.op 13 (.op 14 .nil)))))))))))))))))) .go)) .go)))))) .go)))
theorem qaj.ev_eq : qaj.p0 = fun K t0 p q h => Ev P Tryz.f45 (qaj.plan K) K [.slice t0 p q] h := by kernel_rfl
theorem qaj.obl (K : KT) : Obl P Tryz.f45 (qaj.plan K) K :=
  obl_of (R := (∀ x h, ¬ (qaj.L1.j K) 0 x h) ∧ ImpN (qaj.L1.j K) ∧ (∀ (n1 : Nat), DrawOK P Tryz.f45.ntmps (opsAt 5 (bodyOf Tryz.f45)) (.op 0 (.op 1 (.op 2 (.op 3 (.op 4 (.op 7 (.op 8 (.op 9 (.op 10 (.both (.op 5 (.both (.op 6 (.op 11 (.op 12 (.op 13 (.op 14 .nil))))) (.op 11 (.both (.op 6 (.op 12 (.op 13 (.op 14 .nil)))) (.op 12 (.op 6 (.op 13 (.op 14 .nil)))))))) (.op 11 (.both (.op 5 (.both (.op 6 (.op 12 (.op 13 (.op 14 .nil)))) (.op 12 (.op 6 (.op 13 (.op 14 .nil)))))) (.op 12 (.op 5 (.op 6 (.op 13 (.op 14 .nil))))))))))))))))) ∧ Imp (qaj.j3.j K (qaj.L1 K n1)) ∧ Imp (qaj.j2.j K (qaj.L1 K n1)) ∧ True) ∧ True) (by kernel_rfl) ⟨fun _ _ H => H, impN _, fun _ => ⟨draw_ok (by kernel_rfl), ⟨imp _, ⟨imp _, trivial⟩⟩⟩, trivial⟩
theorem qaj.ok {K : KT} {t0 : OA} {p : Nat} {q : Nat} {h : Heap} (H : qaj.p0 K t0 p q h) : CallsH P F.qaj [.slice t0 p q] K h :=
  calls_of_Ev (qaj.plan K) Tryz.func45 (by kernel_rfl) (qaj.obl K) (by rw [qaj.ev_eq] at H; exact H)
def qbz.p0 (K : KT) (l_0 : OA) (l_0l : Nat) (l_0c : Nat) (h : Heap) : Prop :=
  CallsH P F.qah [.slice l_0 l_0l l_0c, .int .i64 1] (fun v1 h2 => ∃ b3, v1 = .bool b3 ∧ (b3 = true → CallsH P F.qaf [.slice l_0 l_0l l_0c, .int .i64 1] (fun v4 h5 => ∃ n6, v4 = .int .i64 n6 ∧ ((decide (n6 ≤ 1900)) = false → CallsH P F.qaj [.slice l_0 l_0l l_0c] (fun v7 h8 => ∃ a9 p q, v7 = .slice a9 p q ∧ bd ((decide (((p : Nat) : Int) ≤ 2000)) : Bool) fun r => K (.bool r) h8) h5) ∧ ((decide (n6 ≤ 1900)) = true → K (.bool true) h5)) h2) ∧ (b3 = false → K (.bool false) h2)) h
def qbz.plan (K : KT) : Plan := .go
theorem qbz.ev_eq : qbz.p0 = fun K l_0 l_0l l_0c h => Ev P Tryz.f67 (qbz.plan K) K [.slice l_0 l_0l l_0c] h := by kernel_rfl
theorem qbz.obl (K : KT) : Obl P Tryz.f67 (qbz.plan K) K :=
  obl_true (by kernel_rfl)
theorem qbz.ok {K : KT} {l_0 : OA} {l_0l : Nat} {l_0c : Nat} {h : Heap} (H : qbz.p0 K l_0 l_0l l_0c h) : CallsH P F.qbz [.slice l_0 l_0l l_0c] K h :=
  calls_of_Ev (qbz.plan K) Tryz.func67 (by kernel_rfl) (qbz.obl K) (by rw [qbz.ev_eq] at H; exact H)
def qae.j1 (K : KT) (t2 : Addr) (t5 : Int) (t6 : Int) (t7 : Int) (t8 : Int) (h : Heap) : Prop :=
  ∃ a2 p af, hcell h (Addr.add t2 2) = some (.slice a2 p af) ∧ ((t5 == ((p : Nat) : Int)) = true → ∃ a3 q ag, hcell h (Addr.add t2 3) = some (.slice a3 q ag) ∧ ((t6 == ((q : Nat) : Int)) = true → ∃ a4 r ah, hcell h (Addr.add t2 4) = some (.slice a4 r ah) ∧ ((t7 == ((r : Nat) : Int)) = true → ((t8 == 1) = false → ∃ a5 x ai, hcell h (Addr.add t2 5) = some (.slice a5 x ai) ∧ ((((x : Nat) : Int) == 0) = true → ∃ a6 z aa, hcell h (Addr.add t2 5) = some (.slice a6 z aa) ∧ CallsH P F.qbz [.slice a6 z aa] (fun v7 h8 => ∃ b9, v7 = .bool b9 ∧ K (.bool b9) h8) h) ∧ ((((x : Nat) : Int) == 0) = false → K (.bool false) h)) ∧ ((t8 == 1) = true → (true = true → ∃ ab ac ad, hcell h (Addr.add t2 5) = some (.slice ab ac ad) ∧ CallsH P F.qbz [.slice ab ac ad] (fun aj ak => ∃ ae, aj = .bool ae ∧ K (.bool ae) ak) h) ∧ (true = false → K (.bool false) h))) ∧ ((t7 == ((r : Nat) : Int)) = false → K (.bool false) h)) ∧ ((t6 == ((q : Nat) : Int)) = false → K (.bool false) h)) ∧ ((t5 == ((p : Nat) : Int)) = false → K (.bool false) h)
def qae.j1.l : Live := [(2, .addr), (5, .int .i64), (6, .int .i64), (7, .int .i64), (8, .int .i64)]
def qae.j1.j (K : KT) : Tup qae.j1.l → Heap → Prop := fun x h => qae.j1 K x.1 x.2.1 x.2.2.1 x.2.2.2.1 x.2.2.2.2.1 h
def qae.j3 (K : KT) (R2 : List UInt8 → Addr → Int → Int → Int → Int → Int → Heap → Prop) (t1 : List UInt8) (t2 : Addr) (t5 : Int) (t6 : Int) (t7 : Int) (t8 : Int) (t9 : Int) (h : Heap) : Prop :=
  bd ((IntKind.i64.wrap (t9 + 1)) : Int) fun p => R2 t1 t2 t5 t6 t7 t8 p h
def qae.j3.l : Live := [(1, .str), (2, .addr), (5, .int .i64), (6, .int .i64), (7, .int .i64), (8, .int .i64), (9, .int .i64)]
def qae.j3.j (K : KT) (R2 : List UInt8 → Addr → Int → Int → Int → Int → Int → Heap → Prop) : Tup qae.j3.l → Heap → Prop := fun x h => qae.j3 K R2 x.1 x.2.1 x.2.2.1 x.2.2.2.1 x.2.2.2.2.1 x.2.2.2.2.2.1 x.2.2.2.2.2.2.1 h
def qae.j5 (K : KT) (R2 : List UInt8 → Addr → Int → Int → Int → Int → Int → Heap → Prop) (t1 : List UInt8) (t2 : Addr) (t5 : Int) (t6 : Int) (t7 : Int) (t8 : Int) (t9 : Int) (p : Bool) (h : Heap) : Prop :=
  (p = true → K (.bool false) h) ∧ (p = false → bd ((IntKind.i64.wrap (t6 + 1)) : Int) fun q => qae.j3 K R2 t1 t2 t5 q t7 t8 t9 h)
def qae.j5.l : Live := [(1, .str), (2, .addr), (5, .int .i64), (6, .int .i64), (7, .int .i64), (8, .int .i64), (9, .int .i64), (66, .bool)]
def qae.j5.j (K : KT) (R2 : List UInt8 → Addr → Int → Int → Int → Int → Int → Heap → Prop) : Tup qae.j5.l → Heap → Prop := fun x h => qae.j5 K R2 x.1 x.2.1 x.2.2.1 x.2.2.2.1 x.2.2.2.2.1 x.2.2.2.2.2.1 x.2.2.2.2.2.2.1 x.2.2.2.2.2.2.2.1 h
def qae.j6 (K : KT) (R2 : List UInt8 → Addr → Int → Int → Int → Int → Int → Heap → Prop) (t1 : List UInt8) (t2 : Addr) (t5 : Int) (t6 : Int) (t7 : Int) (t8 : Int) (t9 : Int) (p : Bool) (h : Heap) : Prop :=
  (p = true → K (.bool false) h) ∧ (p = false → bd ((IntKind.i64.wrap (t5 + 1)) : Int) fun q => qae.j3 K R2 t1 t2 q t6 t7 t8 t9 h)
def qae.j6.l : Live := [(1, .str), (2, .addr), (5, .int .i64), (6, .int .i64), (7, .int .i64), (8, .int .i64), (9, .int .i64), (43, .bool)]
def qae.j6.j (K : KT) (R2 : List UInt8 → Addr → Int → Int → Int → Int → Int → Heap → Prop) : Tup qae.j6.l → Heap → Prop := fun x h => qae.j6 K R2 x.1 x.2.1 x.2.2.1 x.2.2.2.1 x.2.2.2.2.1 x.2.2.2.2.2.1 x.2.2.2.2.2.2.1 x.2.2.2.2.2.2.2.1 h
def qae.j4 (K : KT) (R2 : List UInt8 → Addr → Int → Int → Int → Int → Int → Heap → Prop) (t1 : List UInt8) (t2 : Addr) (t5 : Int) (t6 : Int) (t7 : Int) (t8 : Int) (t9 : Int) (q : Int) (af : Int) (ag : Bool) (h : Heap) : Prop :=
  (ag = true → ∃ bb r bc, hcell h (Addr.add t2 3) = some (.slice bb r bc) ∧ ((decide (t6 ≥ ((r : Nat) : Int))) = false → ((q == 115) = true → ∃ ah ai be, hcell h (Addr.add t2 3) = some (.slice ah ai be) ∧ ∃ aj, ah = some aj ∧ (0 : Int) ≤ t6 ∧ t6 < ((ai : Nat) : Int) ∧ ∃ ak, hcell h (Addr.add aj (Int.toNat t6 * 1)) = some (.string (mkS ak)) ∧ qae.j5 K R2 t1 t2 t5 t6 t7 t8 t9 (decide (((List.length ak : Nat) : Int) > 255)) h) ∧ ((q == 115) = false → qae.j5 K R2 t1 t2 t5 t6 t7 t8 t9 false h)) ∧ ((decide (t6 ≥ ((r : Nat) : Int))) = true → qae.j5 K R2 t1 t2 t5 t6 t7 t8 t9 true h)) ∧ (ag = false → bd ((af == 116) : Bool) fun am => (am = true → bd ((IntKind.i64.wrap (t8 + 1)) : Int) fun bf => qae.j3 K R2 t1 t2 t5 t6 t7 bf t9 h) ∧ (am = false → bd ((af == 102) : Bool) fun an => (an = true → bd ((IntKind.i64.wrap (t7 + 1)) : Int) fun bg => qae.j3 K R2 t1 t2 t5 t6 bg t8 t9 h) ∧ (an = false → ∃ bh x bi, hcell h (Addr.add t2 2) = some (.slice bh x bi) ∧ ((decide (t5 ≥ ((x : Nat) : Int))) = false → CallsH P F.qbd [.int .u8 q] (fun bj p => ∃ z, bj = .int .i64 z ∧ ((decide (z < 8)) = true → (∃ ao aq bk, hcell p (Addr.add t2 2) = some (.slice ao aq bk) ∧ ∃ aa, ao = some aa ∧ (0 : Int) ≤ t5 ∧ t5 < ((aq : Nat) : Int) ∧ (∃ ar, hcell p (Addr.add aa (Int.toNat t5 * 1)) = some (.int .u64 ar) ∧ CallsH P F.qbd [.int .u8 q] (fun bl bm => ∃ ab, bl = .int .i64 ab ∧ (0 : Int) ≤ (IntKind.u64.wrap (IntKind.i64.wrap ((8 : Int) * ab))) ∧ qae.j6 K R2 t1 t2 t5 t6 t7 t8 t9 ((shrI .u64 ar (IntKind.u64.wrap (IntKind.i64.wrap ((8 : Int) * ab)))) != 0) bm) p) ∧ (CallsH P F.qbd [.int .u8 q] (fun bp au => ∃ ac, bp = .int .i64 ac ∧ ∃ aw, hcell au (Addr.add aa (Int.toNat t5 * 1)) = some (.int .u64 aw) ∧ (0 : Int) ≤ (IntKind.u64.wrap (IntKind.i64.wrap ((8 : Int) * ac))) ∧ qae.j6 K R2 t1 t2 t5 t6 t7 t8 t9 ((shrI .u64 aw (IntKind.u64.wrap (IntKind.i64.wrap ((8 : Int) * ac)))) != 0) au) p)) ∧ (CallsH P F.qbd [.int .u8 q] (fun bq ad => ∃ ae, bq = .int .i64 ae ∧ ∃ ax ay br, hcell ad (Addr.add t2 2) = some (.slice ax ay br) ∧ ∃ az, ax = some az ∧ (0 : Int) ≤ t5 ∧ t5 < ((ay : Nat) : Int) ∧ ∃ ba, hcell ad (Addr.add az (Int.toNat t5 * 1)) = some (.int .u64 ba) ∧ (0 : Int) ≤ (IntKind.u64.wrap (IntKind.i64.wrap ((8 : Int) * ae))) ∧ qae.j6 K R2 t1 t2 t5 t6 t7 t8 t9 ((shrI .u64 ba (IntKind.u64.wrap (IntKind.i64.wrap ((8 : Int) * ae)))) != 0) ad) p)) ∧ ((decide (z < 8)) = false → ((qae.j6 K R2 t1 t2 t5 t6 t7 t8 t9 false p) ∧ (qae.j6 K R2 t1 t2 t5 t6 t7 t8 t9 false p)) ∧ (qae.j6 K R2 t1 t2 t5 t6 t7 t8 t9 false p))) h) ∧ ((decide (t5 ≥ ((x : Nat) : Int))) = true → ((qae.j6 K R2 t1 t2 t5 t6 t7 t8 t9 true h) ∧ (qae.j6 K R2 t1 t2 t5 t6 t7 t8 t9 true h)) ∧ (qae.j6 K R2 t1 t2 t5 t6 t7 t8 t9 true h)))))
def qae.j4.l : Live := [(1, .str), (2, .addr), (5, .int .i64), (6, .int .i64), (7, .int .i64), (8, .int .i64), (9, .int .i64), (10, .int .u8), (20, .int .u8), (46, .bool)]
def qae.j4.j (K : KT) (R2 : List UInt8 → Addr → Int → Int → Int → Int → Int → Heap → Prop) : Tup qae.j4.l → Heap → Prop := fun x h => qae.j4 K R2 x.1 x.2.1 x.2.2.1 x.2.2.2.1 x.2.2.2.2.1 x.2.2.2.2.2.1 x.2.2.2.2.2.2.1 x.2.2.2.2.2.2.2.1 x.2.2.2.2.2.2.2.2.1 x.2.2.2.2.2.2.2.2.2.1 h
def qae.L2 (K : KT) : Nat → List UInt8 → Addr → Int → Int → Int → Int → Int → Heap → Prop
  | 0, _, _, _, _, _, _, _, _ => False
  | fuel + 1, t1, t2, t5, t6, t7, t8, t9, h => ((decide (t9 < ((List.length t1 : Nat) : Int))) = true → (0 : Int) ≤ t9 ∧ t9 < ((List.length t1 : Nat) : Int) ∧ bd ((lb t1 t9) : Int) fun p => bd ((p == 115) : Bool) fun q => (q = true → qae.j4 K (qae.L2 K fuel) t1 t2 t5 t6 t7 t8 t9 p p q h) ∧ (q = false → bd ((p == 108) : Bool) fun r => qae.j4 K (qae.L2 K fuel) t1 t2 t5 t6 t7 t8 t9 p p r h)) ∧ ((decide (t9 < ((List.length t1 : Nat) : Int))) = false → qae.j1 K t2 t5 t6 t7 t8 h)
termination_by structural n => n
def qae.L2.l : Live := [(1, .str), (2, .addr), (5, .int .i64), (6, .int .i64), (7, .int .i64), (8, .int .i64), (9, .int .i64)]
def qae.L2.j (K : KT) : Nat → Tup qae.L2.l → Heap → Prop := fun n x h => qae.L2 K n x.1 x.2.1 x.2.2.1 x.2.2.2.1 x.2.2.2.2.1 x.2.2.2.2.2.1 x.2.2.2.2.2.2.1 h
def qae.p0 (K : KT) (t0 : List Value) (t1 : List UInt8) (h : Heap) : Prop :=
  bd (al h (List.toArray t0) T.api_Method) fun h1 => ∃ fuel48, qae.L2 K fuel48 t1 (top h) 0 0 0 0 0 h1
def qae.plan (K : KT) : Plan := (.seq .go (.seq .go (.cut qae.j1.l (qae.j1.j K) (.seq .go (.block (.loop qae.L2.l (qae.L2.j K) (fun n2 => (.seq .go (.cut qae.j3.l (qae.j3.j K (qae.L2 K n2)) (.block (.seq .go (.seq .go (.block (.cut qae.j4.l (qae.j4.j K (qae.L2 K n2)) .go (.cond (.seq (.cut qae.j5.l (qae.j5.j K (qae.L2 K n2)) .go .go) .go) (.seq .go (.cond .go (.seq .go (.cond .go (.seq (.cut qae.j6.l (qae.j6.j K (qae.L2 K n2)) (.orders (.op 0 (.op 1 (.op 2 (.op 3 (.op 4 (.op 5 (.op 6 (.op 7 (.op 8 (.op 9 (.op 10 (.op 12 (.op 15 (.both (.op 11 (.op 13 (.both (.op 14 (.op 16 (.op 17 (.op 18 (.op 19 (.op 20 (.op 21 (.op 22 .nil)))))))) (.op 16 (.op 17 (.op 18 (.op 14 (.op 19 (.op 20 (.op 21 (.op 22 .nil))))))))))) (.op 16 (.op 17 (.op 18 (.op 11 (.op 13 (.op 14 (.op 19 (.op 20 (.op 21 (.op 22 .nil))))))))))))))))))))))))) .go) .go))))))))))) .go)))))) .go)))
theorem qae.ev_eq : qae.p0 = fun K t0 t1 h => Ev P Tryz.f41 (qae.plan K) K [.agg (List.toArray t0), .string (mkS t1)] h := by kernel_rfl
theorem qae.obl (K : KT) : Obl P Tryz.f41 (qae.plan K) K :=
  obl_of (R := (∀ x h, ¬ (qae.L2.j K) 0 x h) ∧ ImpN (qae.L2.j K) ∧ (∀ (n2 : Nat), Imp (qae.j4.j K (qae.L2 K n2)) ∧ Imp (qae.j5.j K (qae.L2 K n2)) ∧ DrawOK P Tryz.f41.ntmps (opsAt 7 (bodyOf Tryz.f41)) (.op 0 (.op 1 (.op 2 (.op 3 (.op 4 (.op 5 (.op 6 (.op 7 (.op 8 (.op 9 (.op 10 (.op 12 (.op 15 (.both (.op 11 (.op 13 (.both (.op 14 (.op 16 (.op 17 (.op 18 (.op 19 (.op 20 (.op 21 (.op 22 .nil)))))))) (.op 16 (.op 17 (.op 18 (.op 14 (.op 19 (.op 20 (.op 21 (.op 22 .nil))))))))))) (.op 16 (.op 17 (.op 18 (.op 11 (.op 13 (.op 14 (.op 19 (.op 20 (.op 21 (.op 22 .nil)))))))))))))))))))))))) ∧ Imp (qae.j6.j K (qae.L2 K n2)) ∧ Imp (qae.j3.j K (qae.L2 K n2)) ∧ True) ∧ Imp (qae.j1.j K) ∧ True) (by kernel_rfl) ⟨fun _ _ H => H, impN _, fun _ => ⟨imp _, ⟨imp _, ⟨draw_ok (by kernel_rfl), ⟨imp _, ⟨imp _, trivial⟩⟩⟩⟩⟩, ⟨imp _, trivial⟩⟩
theorem qae.ok {K : KT} {t0 : List Value} {t1 : List UInt8} {h : Heap} (H : qae.p0 K t0 t1 h) : CallsH P F.qae [.agg (List.toArray t0), .string (mkS t1)] K h :=
  calls_of_Ev (qae.plan K) Tryz.func41 (by kernel_rfl) (qae.obl K) (by rw [qae.ev_eq] at H; exact H)
def qai.j3 (K : KT) (R1 : OA → Nat → Nat → Int → List UInt8 → Int → OA → Nat → Nat → Int → Heap → Prop) (l_0 : OA) (l_0l : Nat) (l_0c : Nat) (t1 : Int) (form_2 : List UInt8) (t3 : Int) (out_9 : OA) (out_9l : Nat) (out_9c : Nat) (k_10 : Int) (h : Heap) : Prop :=
  bd ((IntKind.i64.wrap (k_10 + 1)) : Int) fun k_1 => R1 l_0 l_0l l_0c t1 form_2 t3 out_9 out_9l out_9c k_1 h
def qai.j3.l : Live := [(0, .slice), (1, .int .i64), (2, .str), (3, .int .i64), (9, .slice), (10, .int .i64)]
def qai.j3.j (K : KT) (R1 : OA → Nat → Nat → Int → List UInt8 → Int → OA → Nat → Nat → Int → Heap → Prop) : Tup qai.j3.l → Heap → Prop := fun x h => qai.j3 K R1 x.1.1 x.1.2.1 x.1.2.2 x.2.1 x.2.2.1 x.2.2.2.1 x.2.2.2.2.1.1 x.2.2.2.2.1.2.1 x.2.2.2.2.1.2.2 x.2.2.2.2.2.1 h
def qai.j4 (K : KT) (R1 : OA → Nat → Nat → Int → List UInt8 → Int → OA → Nat → Nat → Int → Heap → Prop) (l_0 : OA) (l_0l : Nat) (l_0c : Nat) (t1 : Int) (form_2 : List UInt8) (t3 : Int) (out_9 : OA) (out_9l : Nat) (out_9c : Nat) (k_10 : Int) (h : Heap) : Prop :=
  ∃ p2, l_0 = some p2 ∧ (0 : Int) ≤ (IntKind.i64.wrap (t1 + k_10)) ∧ (IntKind.i64.wrap (t1 + k_10)) < ((l_0l : Nat) : Int) ∧ ∃ b3, hcell h (Addr.add p2 (Int.toNat (IntKind.i64.wrap (t1 + k_10)) * 1)) = some (.bool b3) ∧ (b3 = true → bd (al h #[] T.uint8) fun h4 => inB (IntKind.i64.wrap (((out_9l : Nat) : Int) - 1)) out_9c ∧ SemH P (Builtin.append_ #[T.sl_uint8, T.sl_uint8] T.sl_uint8 #[.slice (some (top h)) 0 0, .slice (slA out_9 0 out_9c 1) (Int.toNat (IntKind.i64.wrap (((out_9l : Nat) : Int) - 1))) out_9c]) (fun v5 h6 => ∃ a7 p q, v5 = .slice a7 p q ∧ ∃ p8, out_9 = some p8 ∧ (0 : Int) ≤ (IntKind.i64.wrap (((out_9l : Nat) : Int) - 1)) ∧ (IntKind.i64.wrap (((out_9l : Nat) : Int) - 1)) < ((out_9l : Nat) : Int) ∧ ∃ n9, hcell h6 (Addr.add p8 (Int.toNat (IntKind.i64.wrap (((out_9l : Nat) : Int) - 1)) * 1)) = some (.int .u8 n9) ∧ (0 : Int) ≤ (IntKind.u64.wrap (bitsI .and .i64 k_10 7)) ∧ bd (al h6 #[.int .u8 (bitsI .or .u8 n9 (shlI .u8 1 (IntKind.u64.wrap (bitsI .and .i64 k_10 7))))] T.uint8) fun aa => SemH P (Builtin.append_ #[T.sl_uint8, T.sl_uint8] T.sl_uint8 #[.slice a7 p q, .slice (some (top h6)) 1 1]) (fun ab ac => ∃ r x z, ab = .slice r x z ∧ qai.j3 K R1 l_0 l_0l l_0c t1 form_2 t3 r x z k_10 ac) aa) h4) ∧ (b3 = false → qai.j3 K R1 l_0 l_0l l_0c t1 form_2 t3 out_9 out_9l out_9c k_10 h)
def qai.j4.l : Live := [(0, .slice), (1, .int .i64), (2, .str), (3, .int .i64), (9, .slice), (10, .int .i64)]
def qai.j4.j (K : KT) (R1 : OA → Nat → Nat → Int → List UInt8 → Int → OA → Nat → Nat → Int → Heap → Prop) : Tup qai.j4.l → Heap → Prop := fun x h => qai.j4 K R1 x.1.1 x.1.2.1 x.1.2.2 x.2.1 x.2.2.1 x.2.2.2.1 x.2.2.2.2.1.1 x.2.2.2.2.1.2.1 x.2.2.2.2.1.2.2 x.2.2.2.2.2.1 h
def qai.j2 (K : KT) (R1 : OA → Nat → Nat → Int → List UInt8 → Int → OA → Nat → Nat → Int → Heap → Prop) (l_0 : OA) (l_0l : Nat) (l_0c : Nat) (t1 : Int) (form_2 : List UInt8) (t3 : Int) (out_9 : OA) (out_9l : Nat) (out_9c : Nat) (k_10 : Int) (p : Bool) (h : Heap) : Prop :=
  (p = true → (((bitsI .and .i64 k_10 7) == 0) = true → bd (al h #[.int .u8 0] T.uint8) fun z => SemH P (Builtin.append_ #[T.sl_uint8, T.sl_uint8] T.sl_uint8 #[.slice out_9 out_9l out_9c, .slice (some (top h)) 1 1]) (fun aa ab => ∃ q r x, aa = .slice q r x ∧ qai.j4 K R1 l_0 l_0l l_0c t1 form_2 t3 q r x k_10 ab) z) ∧ (((bitsI .and .i64 k_10 7) == 0) = false → qai.j4 K R1 l_0 l_0l l_0c t1 form_2 t3 out_9 out_9l out_9c k_10 h)) ∧ (p = false → K (.slice out_9 out_9l out_9c) h)
def qai.j2.l : Live := [(0, .slice), (1, .int .i64), (2, .str), (3, .int .i64), (9, .slice), (10, .int .i64), (25, .bool)]
def qai.j2.j (K : KT) (R1 : OA → Nat → Nat → Int → List UInt8 → Int → OA → Nat → Nat → Int → Heap → Prop) : Tup qai.j2.l → Heap → Prop := fun x h => qai.j2 K R1 x.1.1 x.1.2.1 x.1.2.2 x.2.1 x.2.2.1 x.2.2.2.1 x.2.2.2.2.1.1 x.2.2.2.2.1.2.1 x.2.2.2.2.1.2.2 x.2.2.2.2.2.1 x.2.2.2.2.2.2.1 h
def qai.L1 (K : KT) : Nat → OA → Nat → Nat → Int → List UInt8 → Int → OA → Nat → Nat → Int → Heap → Prop
  | 0, _, _, _, _, _, _, _, _, _, _, _ => False
  | fuel + 1, l_0, l_0l, l_0c, t1, form_2, t3, out_9, out_9l, out_9c, k_10, h => ((decide ((IntKind.i64.wrap (t3 + k_10)) < ((List.length form_2 : Nat) : Int))) = true → (0 : Int) ≤ (IntKind.i64.wrap (t3 + k_10)) ∧ (IntKind.i64.wrap (t3 + k_10)) < ((List.length form_2 : Nat) : Int) ∧ qai.j2 K (qai.L1 K fuel) l_0 l_0l l_0c t1 form_2 t3 out_9 out_9l out_9c k_10 ((lb form_2 (IntKind.i64.wrap (t3 + k_10))) == 102) h) ∧ ((decide ((IntKind.i64.wrap (t3 + k_10)) < ((List.length form_2 : Nat) : Int))) = false → qai.j2 K (qai.L1 K fuel) l_0 l_0l l_0c t1 form_2 t3 out_9 out_9l out_9c k_10 false h)
termination_by structural n => n
def qai.L1.l : Live := [(0, .slice), (1, .int .i64), (2, .str), (3, .int .i64), (9, .slice), (10, .int .i64)]
def qai.L1.j (K : KT) : Nat → Tup qai.L1.l → Heap → Prop := fun n x h => qai.L1 K n x.1.1 x.1.2.1 x.1.2.2 x.2.1 x.2.2.1 x.2.2.2.1 x.2.2.2.2.1.1 x.2.2.2.2.1.2.1 x.2.2.2.2.1.2.2 x.2.2.2.2.2.1 h
def qai.p0 (K : KT) (l_0 : OA) (l_0l : Nat) (l_0c : Nat) (t1 : Int) (form_2 : List UInt8) (t3 : Int) (h : Heap) : Prop :=
  ∃ fuel18, qai.L1 K fuel18 l_0 l_0l l_0c t1 form_2 t3 none 0 0 0 h
def qai.plan (K : KT) : Plan := (.seq .go (.seq .go (.seq (.seq .go (.block (.loop qai.L1.l (qai.L1.j K) (fun n1 => (.seq (.cut qai.j2.l (qai.j2.j K (qai.L1 K n1)) .go .go) (.cut qai.j3.l (qai.j3.j K (qai.L1 K n1)) (.block (.cut qai.j4.l (qai.j4.j K (qai.L1 K n1)) .go .go)) .go)))))) .go)))
theorem qai.ev_eq : qai.p0 = fun K l_0 l_0l l_0c t1 form_2 t3 h => Ev P Tryz.f46 (qai.plan K) K [.slice l_0 l_0l l_0c, .int .i64 t1, .string (mkS form_2), .int .i64 t3] h := by kernel_rfl
theorem qai.obl (K : KT) : Obl P Tryz.f46 (qai.plan K) K :=
  obl_of (R := (∀ x h, ¬ (qai.L1.j K) 0 x h) ∧ ImpN (qai.L1.j K) ∧ (∀ (n1 : Nat), Imp (qai.j2.j K (qai.L1 K n1)) ∧ Imp (qai.j4.j K (qai.L1 K n1)) ∧ Imp (qai.j3.j K (qai.L1 K n1)) ∧ True) ∧ True) (by kernel_rfl) ⟨fun _ _ H => H, impN _, fun _ => ⟨imp _, ⟨imp _, ⟨imp _, trivial⟩⟩⟩, trivial⟩
theorem qai.ok {K : KT} {l_0 : OA} {l_0l : Nat} {l_0c : Nat} {t1 : Int} {form_2 : List UInt8} {t3 : Int} {h : Heap} (H : qai.p0 K l_0 l_0l l_0c t1 form_2 t3 h) : CallsH P F.qai [.slice l_0 l_0l l_0c, .int .i64 t1, .string (mkS form_2), .int .i64 t3] K h :=
  calls_of_Ev (qai.plan K) Tryz.func46 (by kernel_rfl) (qai.obl K) (by rw [qai.ev_eq] at H; exact H)
def qab.j4 (K : KT) (R3 : OA → Nat → Nat → Addr → List UInt8 → Int → Int → Int → Int → Heap → Prop) (t0 : OA) (p : Nat) (q : Nat) (t3 : Addr) (t6 : List UInt8) (t8 : Int) (t9 : Int) (r : Int) (x : Int) (h : Heap) : Prop :=
  bd ((IntKind.i64.wrap (x + 1)) : Int) fun n8 => R3 t0 p q t3 t6 t8 t9 r n8 h
def qab.j4.l : Live := [(0, .slice), (3, .addr), (6, .str), (8, .int .i64), (9, .int .i64), (10, .int .i64), (11, .int .i64)]
def qab.j4.j (K : KT) (R3 : OA → Nat → Nat → Addr → List UInt8 → Int → Int → Int → Int → Heap → Prop) : Tup qab.j4.l → Heap → Prop := fun x h => qab.j4 K R3 x.1.1 x.1.2.1 x.1.2.2 x.2.1 x.2.2.1 x.2.2.2.1 x.2.2.2.2.1 x.2.2.2.2.2.1 x.2.2.2.2.2.2.1 h
def qab.j5 (K : KT) (R3 : OA → Nat → Nat → Addr → List UInt8 → Int → Int → Int → Int → Heap → Prop) (t0 : OA) (p : Nat) (q : Nat) (t3 : Addr) (t6 : List UInt8) (t8 : Int) (t9 : Int) (r : Int) (x : Int) (h : Heap) : Prop :=
  bd ((IntKind.i64.wrap (r + 1)) : Int) fun z => qab.j4 K R3 t0 p q t3 t6 t8 t9 z x h
def qab.j5.l : Live := [(0, .slice), (3, .addr), (6, .str), (8, .int .i64), (9, .int .i64), (10, .int .i64), (11, .int .i64)]
def qab.j5.j (K : KT) (R3 : OA → Nat → Nat → Addr → List UInt8 → Int → Int → Int → Int → Heap → Prop) : Tup qab.j5.l → Heap → Prop := fun x h => qab.j5 K R3 x.1.1 x.1.2.1 x.1.2.2 x.2.1 x.2.2.1 x.2.2.2.1 x.2.2.2.2.1 x.2.2.2.2.2.1 x.2.2.2.2.2.2.1 h
def qab.j6 (K : KT) (R3 : OA → Nat → Nat → Addr → List UInt8 → Int → Int → Int → Int → Heap → Prop) (t0 : OA) (r : Nat) (x : Nat) (t3 : Addr) (t6 : List UInt8) (t8 : Int) (t9 : Int) (p : Int) (q : Int) (z : Bool) (h : Heap) : Prop :=
  (z = true → ∃ aa ab ac, hcell h (Addr.add t3 4) = some (.slice aa ab ac) ∧ CallsH P F.qai [.slice aa ab ac, .int .i64 p, .string (mkS t6), .int .i64 q] (fun aj ak => ∃ ad ae af, aj = .slice ad ae af ∧ SemH P (Builtin.append_ #[T.sl_uint8, T.sl_uint8] T.sl_uint8 #[.slice t0 r x, .slice ad ae af]) (fun am an => ∃ ag ah ai, am = .slice ag ah ai ∧ qab.j5 K R3 ag ah ai t3 t6 t8 t9 p q an) ak) h) ∧ (z = false → qab.j5 K R3 t0 r x t3 t6 t8 t9 p q h)
def qab.j6.l : Live := [(0, .slice), (3, .addr), (6, .str), (8, .int .i64), (9, .int .i64), (10, .int .i64), (11, .int .i64), (100, .bool)]
def qab.j6.j (K : KT) (R3 : OA → Nat → Nat → Addr → List UInt8 → Int → Int → Int → Int → Heap → Prop) : Tup qab.j6.l → Heap → Prop := fun x h => qab.j6 K R3 x.1.1 x.1.2.1 x.1.2.2 x.2.1 x.2.2.1 x.2.2.2.1 x.2.2.2.2.1 x.2.2.2.2.2.1 x.2.2.2.2.2.2.1 x.2.2.2.2.2.2.2.1 h
def qab.j7 (K : KT) (R3 : OA → Nat → Nat → Addr → List UInt8 → Int → Int → Int → Int → Heap → Prop) (t0 : OA) (p : Nat) (q : Nat) (t3 : Addr) (t6 : List UInt8) (t8 : Int) (t9 : Int) (r : Int) (x : Int) (h : Heap) : Prop :=
  bd ((IntKind.i64.wrap (t8 + 1)) : Int) fun z => qab.j4 K R3 t0 p q t3 t6 z t9 r x h
def qab.j7.l : Live := [(0, .slice), (3, .addr), (6, .str), (8, .int .i64), (9, .int .i64), (10, .int .i64), (11, .int .i64)]
def qab.j7.j (K : KT) (R3 : OA → Nat → Nat → Addr → List UInt8 → Int → Int → Int → Int → Heap → Prop) : Tup qab.j7.l → Heap → Prop := fun x h => qab.j7 K R3 x.1.1 x.1.2.1 x.1.2.2 x.2.1 x.2.2.1 x.2.2.2.1 x.2.2.2.2.1 x.2.2.2.2.2.1 x.2.2.2.2.2.2.1 h
def qab.L3 (K : KT) : Nat → OA → Nat → Nat → Addr → List UInt8 → Int → Int → Int → Int → Heap → Prop
  | 0, _, _, _, _, _, _, _, _, _, _ => False
  | fuel + 1, t0, q, r, t3, t6, t8, t9, x, p, h => ((decide (p < ((List.length t6 : Nat) : Int))) = true → (0 : Int) ≤ p ∧ p < ((List.length t6 : Nat) : Int) ∧ bd ((lb t6 p) : Int) fun n9 => bd ((n9 == 115) : Bool) fun ab => (ab = true → ∃ ac ad cm, hcell h (Addr.add t3 3) = some (.slice ac ad cm) ∧ ∃ ae, ac = some ae ∧ (0 : Int) ≤ t9 ∧ t9 < ((ad : Nat) : Int) ∧ ∃ af, hcell h (Addr.add ae (Int.toNat t9 * 1)) = some (.string (mkS af)) ∧ CallsH P F.qcj [.slice t0 q r, .string (mkS af)] (fun co cp => ∃ ag ah ai, co = .slice ag ah ai ∧ bd ((IntKind.i64.wrap (t9 + 1)) : Int) fun cq => qab.j4 K (qab.L3 K fuel) ag ah ai t3 t6 t8 cq x p cp) h) ∧ (ab = false → bd ((n9 == 108) : Bool) fun aj => (aj = true → ∃ ak am cr, hcell h (Addr.add t3 3) = some (.slice ak am cr) ∧ ∃ an, ak = some an ∧ (0 : Int) ≤ t9 ∧ t9 < ((am : Nat) : Int) ∧ ∃ s21, hcell h (Addr.add an (Int.toNat t9 * 1)) = some (.string (mkS s21)) ∧ SemH P (Go.convert T.string T.sl_uint8 (.string (mkS s21))) (fun cs ct => ∃ ao aq ar, cs = .slice ao aq ar ∧ CallsH P F.qck [.slice t0 q r, .slice ao aq ar] (fun cu cv => ∃ au aw ax, cu = .slice au aw ax ∧ bd ((IntKind.i64.wrap (t9 + 1)) : Int) fun cw => qab.j4 K (qab.L3 K fuel) au aw ax t3 t6 t8 cw x p cv) ct) h) ∧ (aj = false → bd ((n9 == 116) : Bool) fun ay => (ay = true → ∃ az ba bb, hcell h (Addr.add t3 5) = some (.slice az ba bb) ∧ CallsH P F.qaj [.slice az ba bb] (fun cx cy => ∃ bc be bf, cx = .slice bc be bf ∧ CallsH P F.qck [.slice t0 q r, .slice bc be bf] (fun cz da => ∃ bg bh bi, cz = .slice bg bh bi ∧ qab.j4 K (qab.L3 K fuel) bg bh bi t3 t6 t8 t9 x p da) cy) h) ∧ (ay = false → bd ((n9 == 102) : Bool) fun bj => (bj = true → ((p == 0) = false → (0 : Int) ≤ (IntKind.i64.wrap (p - 1)) ∧ (IntKind.i64.wrap (p - 1)) < ((List.length t6 : Nat) : Int) ∧ qab.j6 K (qab.L3 K fuel) t0 q r t3 t6 t8 t9 x p ((lb t6 (IntKind.i64.wrap (p - 1))) != 102) h) ∧ ((p == 0) = true → qab.j6 K (qab.L3 K fuel) t0 q r t3 t6 t8 t9 x p true h)) ∧ (bj = false → (CallsH P F.qbd [.int .u8 n9] (fun db z => ∃ bk, db = .int .i64 bk ∧ ∃ bl bm dc, hcell z (Addr.add t3 2) = some (.slice bl bm dc) ∧ ∃ bp, bl = some bp ∧ (0 : Int) ≤ t8 ∧ t8 < ((bm : Nat) : Int) ∧ ∃ bq, hcell z (Addr.add bp (Int.toNat t8 * 1)) = some (.int .u64 bq) ∧ CallsH P F.qbh [.slice t0 q r, .int .i64 bk, .int .u64 bq] (fun dd de => ∃ br bs bt, dd = .slice br bs bt ∧ qab.j7 K (qab.L3 K fuel) br bs bt t3 t6 t8 t9 x p de) z) h) ∧ (∃ bu bw df, hcell h (Addr.add t3 2) = some (.slice bu bw df) ∧ ∃ aa, bu = some aa ∧ (0 : Int) ≤ t8 ∧ t8 < ((bw : Nat) : Int) ∧ (CallsH P F.qbd [.int .u8 n9] (fun dg bx => ∃ bz, dg = .int .i64 bz ∧ ∃ ca, hcell bx (Addr.add aa (Int.toNat t8 * 1)) = some (.int .u64 ca) ∧ CallsH P F.qbh [.slice t0 q r, .int .i64 bz, .int .u64 ca] (fun dh di => ∃ cb cd ce, dh = .slice cb cd ce ∧ qab.j7 K (qab.L3 K fuel) cb cd ce t3 t6 t8 t9 x p di) bx) h) ∧ (∃ cf, hcell h (Addr.add aa (Int.toNat t8 * 1)) = some (.int .u64 cf) ∧ CallsH P F.qbd [.int .u8 n9] (fun dj dk => ∃ cg, dj = .int .i64 cg ∧ CallsH P F.qbh [.slice t0 q r, .int .i64 cg, .int .u64 cf] (fun dl dm => ∃ ci cj ck, dl = .slice ci cj ck ∧ qab.j7 K (qab.L3 K fuel) ci cj ck t3 t6 t8 t9 x p dm) dk) h))))))) ∧ ((decide (p < ((List.length t6 : Nat) : Int))) = false → K (.tuple #[.slice t0 q r, .bool true]) h)
termination_by structural n => n
def qab.L3.l : Live := [(0, .slice), (3, .addr), (6, .str), (8, .int .i64), (9, .int .i64), (10, .int .i64), (11, .int .i64)]
def qab.L3.j (K : KT) : Nat → Tup qab.L3.l → Heap → Prop := fun n x h => qab.L3 K n x.1.1 x.1.2.1 x.1.2.2 x.2.1 x.2.2.1 x.2.2.2.1 x.2.2.2.2.1 x.2.2.2.2.2.1 x.2.2.2.2.2.2.1 h
def qab.j2 (K : KT) (t0 : OA) (p : Nat) (q : Nat) (t3 : Addr) (t6 : List UInt8) (h : Heap) : Prop :=
  ∃ fuel72, qab.L3 K fuel72 t0 p q t3 t6 0 0 0 0 h
def qab.j2.l : Live := [(0, .slice), (3, .addr), (6, .str)]
def qab.j2.j (K : KT) : Tup qab.j2.l → Heap → Prop := fun x h => qab.j2 K x.1.1 x.1.2.1 x.1.2.2 x.2.1 x.2.2.1 h
def qab.j1 (K : KT) (t0 : OA) (p : Nat) (q : Nat) (t3 : Addr) (t6 : List UInt8) (x : Bool) (h : Heap) : Prop :=
  (x = true → K (.tuple #[.slice t0 p q, .bool false]) h) ∧ (x = false → (∃ r, hcell h (Addr.add t3 0) = some (.int .i64 r) ∧ (CallsH P F.qbh [.slice t0 p q, .int .i64 2, .int .u64 (IntKind.u64.wrap r)] (fun bb z => ∃ aa ab ac, bb = .slice aa ab ac ∧ ∃ ad, hcell z (Addr.add t3 1) = some (.int .i64 ad) ∧ CallsH P F.qbh [.slice aa ab ac, .int .i64 2, .int .u64 (IntKind.u64.wrap ad)] (fun bc be => ∃ ae af ag, bc = .slice ae af ag ∧ qab.j2 K ae af ag t3 t6 be) z) h) ∧ (∃ ah, hcell h (Addr.add t3 1) = some (.int .i64 ah) ∧ CallsH P F.qbh [.slice t0 p q, .int .i64 2, .int .u64 (IntKind.u64.wrap r)] (fun bf bg => ∃ ai aj ak, bf = .slice ai aj ak ∧ CallsH P F.qbh [.slice ai aj ak, .int .i64 2, .int .u64 (IntKind.u64.wrap ah)] (fun bh bi => ∃ am an ao, bh = .slice am an ao ∧ qab.j2 K am an ao t3 t6 bi) bg) h)) ∧ (∃ aq, hcell h (Addr.add t3 1) = some (.int .i64 aq) ∧ ∃ ar, hcell h (Addr.add t3 0) = some (.int .i64 ar) ∧ CallsH P F.qbh [.slice t0 p q, .int .i64 2, .int .u64 (IntKind.u64.wrap ar)] (fun bj bk => ∃ au aw ax, bj = .slice au aw ax ∧ CallsH P F.qbh [.slice au aw ax, .int .i64 2, .int .u64 (IntKind.u64.wrap aq)] (fun bl bm => ∃ ay az ba, bl = .slice ay az ba ∧ qab.j2 K ay az ba t3 t6 bm) bk) h))
def qab.j1.l : Live := [(0, .slice), (3, .addr), (6, .str), (28, .bool)]
def qab.j1.j (K : KT) : Tup qab.j1.l → Heap → Prop := fun x h => qab.j1 K x.1.1 x.1.2.1 x.1.2.2 x.2.1 x.2.2.1 x.2.2.2.1 h
def qab.p0 (K : KT) (t0 : OA) (p : Nat) (q : Nat) (t1 : List Value) (h : Heap) : Prop :=
  bd (al h (List.toArray t1) T.api_Method) fun h1 => ∃ n2, hcell h1 (Addr.add (top h) 0) = some (.int .i64 n2) ∧ ∃ n3, hcell h1 (Addr.add (top h) 1) = some (.int .i64 n3) ∧ CallsH P F.qas [.int .i64 n2, .int .i64 n3] (fun v4 h5 => ∃ s6 b7, v4 = .tuple #[.string (mkS s6), .bool b7] ∧ ((!b7) = false → ∃ r, rdC h5 (top h) 0 6 = some r ∧ CallsH P F.qae [.agg (List.toArray r), .string (mkS s6)] (fun z aa => ∃ x, z = .bool x ∧ qab.j1 K t0 p q (top h) s6 (!x) aa) h5) ∧ ((!b7) = true → qab.j1 K t0 p q (top h) s6 true h5)) h1
def qab.plan (K : KT) : Plan := (.seq .go (.seq .go (.seq (.cut qab.j1.l (qab.j1.j K) .go .go) (.cut qab.j2.l (qab.j2.j K) (.orders (.op 0 (.op 1 (.op 5 (.both (.op 2 (.op 3 (.both (.op 4 (.op 6 (.op 7 (.op 8 (.op 9 .nil))))) (.op 6 (.op 7 (.op 4 (.op 8 (.op 9 .nil)))))))) (.op 6 (.op 7 (.op 2 (.op 3 (.op 4 (.op 8 (.op 9 .nil)))))))))))) (.seq .go (.seq (.seq .go (.block (.loop qab.L3.l (qab.L3.j K) (fun n3 => (.seq .go (.cut qab.j4.l (qab.j4.j K (qab.L3 K n3)) (.block (.seq .go (.seq .go (.block (.seq .go (.cond .go (.seq .go (.cond .go (.seq .go (.cond .go (.seq .go (.cond (.cut qab.j5.l (qab.j5.j K (qab.L3 K n3)) (.cut qab.j6.l (qab.j6.j K (qab.L3 K n3)) .go .go) .go) (.cut qab.j7.l (qab.j7.j K (qab.L3 K n3)) (.orders (.op 0 (.op 1 (.op 3 (.op 5 (.both (.op 2 (.op 4 (.op 6 (.op 7 (.op 8 (.op 9 .nil)))))) (.op 4 (.op 6 (.both (.op 2 (.op 7 (.op 8 (.op 9 .nil)))) (.op 7 (.op 2 (.op 8 (.op 9 .nil))))))))))))) .go))))))))))))) .go)))))) .go))))))
theorem qab.ev_eq : qab.p0 = fun K t0 p q t1 h => Ev P Tryz.f22 (qab.plan K) K [.slice t0 p q, .agg (List.toArray t1)] h := by kernel_rfl
theorem qab.obl (K : KT) : Obl P Tryz.f22 (qab.plan K) K :=
  obl_of (R := Imp (qab.j1.j K) ∧ DrawOK P Tryz.f22.ntmps (opsAt 4 (bodyOf Tryz.f22)) (.op 0 (.op 1 (.op 5 (.both (.op 2 (.op 3 (.both (.op 4 (.op 6 (.op 7 (.op 8 (.op 9 .nil))))) (.op 6 (.op 7 (.op 4 (.op 8 (.op 9 .nil)))))))) (.op 6 (.op 7 (.op 2 (.op 3 (.op 4 (.op 8 (.op 9 .nil))))))))))) ∧ Imp (qab.j2.j K) ∧ (∀ x h, ¬ (qab.L3.j K) 0 x h) ∧ ImpN (qab.L3.j K) ∧ (∀ (n3 : Nat), Imp (qab.j6.j K (qab.L3 K n3)) ∧ Imp (qab.j5.j K (qab.L3 K n3)) ∧ DrawOK P Tryz.f22.ntmps (opsAt 11 (bodyOf Tryz.f22)) (.op 0 (.op 1 (.op 3 (.op 5 (.both (.op 2 (.op 4 (.op 6 (.op 7 (.op 8 (.op 9 .nil)))))) (.op 4 (.op 6 (.both (.op 2 (.op 7 (.op 8 (.op 9 .nil)))) (.op 7 (.op 2 (.op 8 (.op 9 .nil)))))))))))) ∧ Imp (qab.j7.j K (qab.L3 K n3)) ∧ Imp (qab.j4.j K (qab.L3 K n3)) ∧ True) ∧ True) (by kernel_rfl) ⟨imp _, ⟨draw_ok (by kernel_rfl), ⟨imp _, ⟨fun _ _ H => H, impN _, fun _ => ⟨imp _, ⟨imp _, ⟨draw_ok (by kernel_rfl), ⟨imp _, ⟨imp _, trivial⟩⟩⟩⟩⟩, trivial⟩⟩⟩⟩
theorem qab.ok {K : KT} {t0 : OA} {p : Nat} {q : Nat} {t1 : List Value} {h : Heap} (H : qab.p0 K t0 p q t1 h) : CallsH P F.qab [.slice t0 p q, .agg (List.toArray t1)] K h :=
  calls_of_Ev (qab.plan K) Tryz.func22 (by kernel_rfl) (qab.obl K) (by rw [qab.ev_eq] at H; exact H)
def qci.p0 (K : KT) (b_0 : OA) (b_0l : Nat) (b_0c : Nat) (f_1 : List Value) (h : Heap) : Prop :=
  bd (al h (List.toArray f_1) T.api_Frame) fun h1 => ∃ n2, hcell h1 (Addr.add (top h) 0) = some (.int .i64 n2) ∧ CallsH P F.qbh [.slice b_0 b_0l b_0c, .int .i64 1, .int .u64 (IntKind.u64.wrap n2)] (fun v3 h4 => ∃ a5 p q, v3 = .slice a5 p q ∧ ∃ n6, hcell h4 (Addr.add (top h) 1) = some (.int .i64 n6) ∧ CallsH P F.qbh [.slice a5 p q, .int .i64 2, .int .u64 (IntKind.u64.wrap n6)] (fun v7 h8 => ∃ a9 r x, v7 = .slice a9 r x ∧ ∃ z aa ab, hcell h8 (Addr.add (top h) 2) = some (.slice z aa ab) ∧ CallsH P F.qck [.slice a9 r x, .slice z aa ab] (fun aj ac => ∃ ad ae af, aj = .slice ad ae af ∧ bd (al ac #[.int .u8 206] T.uint8) fun ak => SemH P (Builtin.append_ #[T.sl_uint8, T.sl_uint8] T.sl_uint8 #[.slice ad ae af, .slice (some (top ac)) 1 1]) (fun am an => ∃ ag ah ai, am = .slice ag ah ai ∧ K (.slice ag ah ai) an) ak) h8) h4) h1
def qci.plan (K : KT) : Plan := .go
theorem qci.ev_eq : qci.p0 = fun K b_0 b_0l b_0c f_1 h => Ev P Tryz.f23 (qci.plan K) K [.slice b_0 b_0l b_0c, .agg (List.toArray f_1)] h := by kernel_rfl
theorem qci.obl (K : KT) : Obl P Tryz.f23 (qci.plan K) K :=
  obl_true (by kernel_rfl)
theorem qci.ok {K : KT} {b_0 : OA} {b_0l : Nat} {b_0c : Nat} {f_1 : List Value} {h : Heap} (H : qci.p0 K b_0 b_0l b_0c f_1 h) : CallsH P F.qci [.slice b_0 b_0l b_0c, .agg (List.toArray f_1)] K h :=
  calls_of_Ev (qci.plan K) Tryz.func23 (by kernel_rfl) (qci.obl K) (by rw [qci.ev_eq] at H; exact H)
end Go.Proofs.YtjapglfpjhljpaaGreat.Pr
end
section
set_option linter.unusedVariables false
set_option maxRecDepth 100000
namespace Go.Proofs.YtjapglfpjhljpaaGreat.Pr
open Go Go.Lift Go.Proofs
def qcc.p0 (K : KT) (k_0 : Int) (h : Heap) : Prop :=
  ((decide (k_0 ≥ 1)) = true → ((decide (k_0 ≤ 3)) = false → bd ((k_0 == 8) : Bool) fun b1 => K (.bool b1) h) ∧ ((decide (k_0 ≤ 3)) = true → K (.bool true) h)) ∧ ((decide (k_0 ≥ 1)) = false → bd ((k_0 == 8) : Bool) fun b2 => K (.bool b2) h)
def qcc.plan (K : KT) : Plan := .go
theorem qcc.ev_eq : qcc.p0 = fun K k_0 h => Ev P Tryz.f38 (qcc.plan K) K [.int .i64 k_0] h := by kernel_rfl
theorem qcc.obl (K : KT) : Obl P Tryz.f38 (qcc.plan K) K :=
  obl_true (by kernel_rfl)
theorem qcc.ok {K : KT} {k_0 : Int} {h : Heap} (H : qcc.p0 K k_0 h) : CallsH P F.qcc [.int .i64 k_0] K h :=
  calls_of_Ev (qcc.plan K) Tryz.func38 (by kernel_rfl) (qcc.obl K) (by rw [qcc.ev_eq] at H; exact H)
def qax.L2 (K : KT) : Nat → OA → Nat → Nat → Int → Int → Int → Int → Heap → Prop
  | 0, _, _, _, _, _, _, _, _ => False
  | fuel + 1, b_0, b_0l, b_0c, t1, t2, v_8, i_9, h => ((decide (i_9 < t2)) = true → (0 : Int) ≤ 8 ∧ ∃ p1, b_0 = some p1 ∧ (0 : Int) ≤ (IntKind.i64.wrap (t1 + i_9)) ∧ (IntKind.i64.wrap (t1 + i_9)) < ((b_0l : Nat) : Int) ∧ ∃ n2, hcell h (Addr.add p1 (Int.toNat (IntKind.i64.wrap (t1 + i_9)) * 1)) = some (.int .u8 n2) ∧ bd ((bitsI .or .u64 (shlI .u64 v_8 8) (IntKind.u64.wrap n2)) : Int) fun v_3 => bd ((IntKind.i64.wrap (i_9 + 1)) : Int) fun i_4 => (qax.L2 K fuel) b_0 b_0l b_0c t1 t2 v_3 i_4 h) ∧ ((decide (i_9 < t2)) = false → K (.tuple #[.int .u64 v_8, .bool true]) h)
termination_by structural n => n
def qax.L2.l : Live := [(0, .slice), (1, .int .i64), (2, .int .i64), (8, .int .u64), (9, .int .i64)]
def qax.L2.j (K : KT) : Nat → Tup qax.L2.l → Heap → Prop := fun n x h => qax.L2 K n x.1.1 x.1.2.1 x.1.2.2 x.2.1 x.2.2.1 x.2.2.2.1 x.2.2.2.2.1 h
def qax.j1 (K : KT) (b_0 : OA) (b_0l : Nat) (b_0c : Nat) (t1 : Int) (t2 : Int) (p : Bool) (h : Heap) : Prop :=
  (p = true → K (.tuple #[.int .u64 0, .bool false]) h) ∧ (p = false → ∃ fuel5, qax.L2 K fuel5 b_0 b_0l b_0c t1 t2 0 0 h)
def qax.j1.l : Live := [(0, .slice), (1, .int .i64), (2, .int .i64), (19, .bool)]
def qax.j1.j (K : KT) : Tup qax.j1.l → Heap → Prop := fun x h => qax.j1 K x.1.1 x.1.2.1 x.1.2.2 x.2.1 x.2.2.1 x.2.2.2.1 h
def qax.p0 (K : KT) (b_0 : OA) (b_0l : Nat) (b_0c : Nat) (t1 : Int) (t2 : Int) (h : Heap) : Prop :=
  ((decide (t1 < 0)) = false → qax.j1 K b_0 b_0l b_0c t1 t2 (decide (t2 > (IntKind.i64.wrap (((b_0l : Nat) : Int) - t1)))) h) ∧ ((decide (t1 < 0)) = true → qax.j1 K b_0 b_0l b_0c t1 t2 true h)
def qax.plan (K : KT) : Plan := (.seq .go (.seq (.cut qax.j1.l (qax.j1.j K) .go .go) (.seq .go (.seq (.seq .go (.block (.loop qax.L2.l (qax.L2.j K) (fun n2 => .go)))) .go))))
theorem qax.ev_eq : qax.p0 = fun K b_0 b_0l b_0c t1 t2 h => Ev P Tryz.f39 (qax.plan K) K [.slice b_0 b_0l b_0c, .int .i64 t1, .int .i64 t2] h := by kernel_rfl
theorem qax.obl (K : KT) : Obl P Tryz.f39 (qax.plan K) K :=
  obl_of (R := Imp (qax.j1.j K) ∧ (∀ x h, ¬ (qax.L2.j K) 0 x h) ∧ ImpN (qax.L2.j K) ∧ (∀ (n2 : Nat), True) ∧ True) (by kernel_rfl) ⟨imp _, ⟨fun _ _ H => H, impN _, fun _ => trivial, trivial⟩⟩
theorem qax.ok {K : KT} {b_0 : OA} {b_0l : Nat} {b_0c : Nat} {t1 : Int} {t2 : Int} {h : Heap} (H : qax.p0 K b_0 b_0l b_0c t1 t2 h) : CallsH P F.qax [.slice b_0 b_0l b_0c, .int .i64 t1, .int .i64 t2] K h :=
  calls_of_Ev (qax.plan K) Tryz.func39 (by kernel_rfl) (qax.obl K) (by rw [qax.ev_eq] at H; exact H)
def qap.j3 (K : KT) (t0 : OA) (r : Nat) (q : Nat) (t2 : Addr) (t5 : Int) (ae : Bool) (h : Heap) : Prop :=
  (ae = true → ([.int .i64 0, .int .i64 0, .slice none 0 0] : List Value).length = 3 ∧ ∃ x, stC h t2 0 [.int .i64 0, .int .i64 0, .slice none 0 0] = some x ∧ ∃ af, rdC x t2 0 3 = some af ∧ K (.tuple #[.agg (List.toArray af), .int .i64 0, .int .i64 2]) x) ∧ (ae = false → bd ((IntKind.i64.wrap ((7 : Int) + (IntKind.i64.wrap t5))) : Int) fun p => ∃ ag, t0 = some ag ∧ (0 : Int) ≤ p ∧ p < ((r : Nat) : Int) ∧ ∃ z, hcell h (Addr.add ag (Int.toNat p * 1)) = some (.int .u8 z) ∧ ((z != 206) = true → ([.int .i64 0, .int .i64 0, .slice none 0 0] : List Value).length = 3 ∧ ∃ aa, stC h t2 0 [.int .i64 0, .int .i64 0, .slice none 0 0] = some aa ∧ ∃ ah, rdC aa t2 0 3 = some ah ∧ K (.tuple #[.agg (List.toArray ah), .int .i64 0, .int .i64 3]) aa) ∧ ((z != 206) = false → CallsH P F.qax [.slice t0 r q, .int .i64 1, .int .i64 2] (fun am ai => ∃ ab an, am = .tuple #[.int .u64 ab, .bool an] ∧ ∃ aj, t0 = some aj ∧ (0 : Int) ≤ 0 ∧ 0 < ((r : Nat) : Int) ∧ inB p q ∧ inB 7 (Int.toNat p) ∧ ∃ ac, hcell ai (Addr.add aj (Int.toNat 0 * 1)) = some (.int .u8 ac) ∧ ([.int .i64 (IntKind.i64.wrap ac), .int .i64 (IntKind.i64.wrap ab), .slice (slA t0 (Int.toNat 7) q 1) (Int.toNat p - Int.toNat 7) (q - Int.toNat 7)] : List Value).length = 3 ∧ ∃ ad, stC ai t2 0 [.int .i64 (IntKind.i64.wrap ac), .int .i64 (IntKind.i64.wrap ab), .slice (slA t0 (Int.toNat 7) q 1) (Int.toNat p - Int.toNat 7) (q - Int.toNat 7)] = some ad ∧ bd ((IntKind.i64.wrap (p + 1)) : Int) fun ao => ∃ ak, rdC ad t2 0 3 = some ak ∧ K (.tuple #[.agg (List.toArray ak), .int .i64 ao, .int .i64 0]) ad) h))
def qap.j3.l : Live := [(0, .slice), (2, .addr), (5, .int .u64), (42, .bool)]
def qap.j3.j (K : KT) : Tup qap.j3.l → Heap → Prop := fun x h => qap.j3 K x.1.1 x.1.2.1 x.1.2.2 x.2.1 x.2.2.1 x.2.2.2.1 h
def qap.j2 (K : KT) (t0 : OA) (p : Nat) (q : Nat) (t2 : Addr) (t5 : Int) (t6 : Bool) (r : Bool) (h : Heap) : Prop :=
  (r = true → ([.int .i64 0, .int .i64 0, .slice none 0 0] : List Value).length = 3 ∧ ∃ h8, stC h t2 0 [.int .i64 0, .int .i64 0, .slice none 0 0] = some h8 ∧ ∃ x, rdC h8 t2 0 3 = some x ∧ K (.tuple #[.agg (List.toArray x), .int .i64 0, .int .i64 3]) h8) ∧ (r = false → ((!t6) = false → qap.j3 K t0 p q t2 t5 (decide (((p : Nat) : Int) < (IntKind.i64.wrap ((8 : Int) + (IntKind.i64.wrap t5))))) h) ∧ ((!t6) = true → qap.j3 K t0 p q t2 t5 true h))
def qap.j2.l : Live := [(0, .slice), (2, .addr), (5, .int .u64), (6, .bool), (31, .bool)]
def qap.j2.j (K : KT) : Tup qap.j2.l → Heap → Prop := fun x h => qap.j2 K x.1.1 x.1.2.1 x.1.2.2 x.2.1 x.2.2.1 x.2.2.2.1 x.2.2.2.2.1 h
def qap.j1 (K : KT) (t0 : OA) (p : Nat) (q : Nat) (t2 : Addr) (r : Bool) (h : Heap) : Prop :=
  (r = true → ([.int .i64 0, .int .i64 0, .slice none 0 0] : List Value).length = 3 ∧ ∃ h2, stC h t2 0 [.int .i64 0, .int .i64 0, .slice none 0 0] = some h2 ∧ ∃ x, rdC h2 t2 0 3 = some x ∧ K (.tuple #[.agg (List.toArray x), .int .i64 0, .int .i64 3]) h2) ∧ (r = false → CallsH P F.qax [.slice t0 p q, .int .i64 3, .int .i64 4] (fun v4 h5 => ∃ n6 b7, v4 = .tuple #[.int .u64 n6, .bool b7] ∧ (b7 = true → qap.j2 K t0 p q t2 n6 b7 (decide (n6 > 4088)) h5) ∧ (b7 = false → qap.j2 K t0 p q t2 n6 b7 false h5)) h)
def qap.j1.l : Live := [(0, .slice), (2, .addr), (20, .bool)]
def qap.j1.j (K : KT) : Tup qap.j1.l → Heap → Prop := fun x h => qap.j1 K x.1.1 x.1.2.1 x.1.2.2 x.2.1 x.2.2.1 h
def qap.p0 (K : KT) (t0 : OA) (p : Nat) (q : Nat) (h : Heap) : Prop :=
  bd (al h #[.int .i64 0, .int .i64 0, .slice none 0 0] T.api_Frame) fun h1 => ((decide (((p : Nat) : Int) > 0)) = true → ∃ r, t0 = some r ∧ (0 : Int) ≤ 0 ∧ 0 < ((p : Nat) : Int) ∧ ∃ x, hcell h1 (Addr.add r (Int.toNat 0 * 1)) = some (.int .u8 x) ∧ CallsH P F.qcc [.int .i64 (IntKind.i64.wrap x)] (fun aa ab => ∃ z, aa = .bool z ∧ qap.j1 K t0 p q (top h) (!z) ab) h1) ∧ ((decide (((p : Nat) : Int) > 0)) = false → qap.j1 K t0 p q (top h) false h1)
def qap.plan (K : KT) : Plan := (.seq .go (.seq (.cut qap.j1.l (qap.j1.j K) .go .go) (.seq .go (.seq (.cut qap.j2.l (qap.j2.j K) .go .go) (.seq (.cut qap.j3.l (qap.j3.j K) .go .go) (.seq .go (.seq .go (.seq .go (.seq (.orders (.op 0 (.op 1 (.op 4 (.op 5 (.op 6 (.op 7 (.op 8 (.op 10 (.op 11 (.op 2 (.op 3 (.op 9 (.op 12 (.op 13 (.op 14 .nil)))))))))))))))) .go)))))))))
theorem qap.ev_eq : qap.p0 = fun K t0 p q h => Ev P Tryz.f20 (qap.plan K) K [.slice t0 p q] h := by kernel_rfl
theorem qap.obl (K : KT) : Obl P Tryz.f20 (qap.plan K) K :=
  obl_of (R := Imp (qap.j1.j K) ∧ Imp (qap.j2.j K) ∧ Imp (qap.j3.j K) ∧ DrawOK P Tryz.f20.ntmps (opsAt 12 (bodyOf Tryz.f20)) (.op 0 (.op 1 (.op 4 (.op 5 (.op 6 (.op 7 (.op 8 (.op 10 (.op 11 (.op 2 (.op 3 (.op 9 (.op 12 (.op 13 (.op 14 .nil))))))))))))))) ∧ True) (by kernel_rfl) ⟨imp _, ⟨imp _, ⟨imp _, ⟨draw_ok (by kernel_rfl), trivial⟩⟩⟩⟩
theorem qap.ok {K : KT} {t0 : OA} {p : Nat} {q : Nat} {h : Heap} (H : qap.p0 K t0 p q h) : CallsH P F.qap [.slice t0 p q] K h :=
  calls_of_Ev (qap.plan K) Tryz.func20 (by kernel_rfl) (qap.obl K) (by rw [qap.ev_eq] at H; exact H)
end Go.Proofs.YtjapglfpjhljpaaGreat.Pr
end
section
set_option linter.unusedVariables false
set_option maxRecDepth 100000
namespace Go.Proofs.YtjapglfpjhljpaaGreat.Pr
open Go Go.Lift Go.Proofs
def qdp.p0 (K : KT) (t0 : Int) (h : Heap) : Prop :=
  ((decide (t0 ≥ 1)) = true → ((decide (t0 ≤ 3)) = false → bd ((t0 == 8) : Bool) fun b1 => K (.bool b1) h) ∧ ((decide (t0 ≤ 3)) = true → K (.bool true) h)) ∧ ((decide (t0 ≥ 1)) = false → bd ((t0 == 8) : Bool) fun b2 => K (.bool b2) h)
def qdp.plan (K : KT) : Plan := .go
theorem qdp.ev_eq : qdp.p0 = fun K t0 h => Ev P Tryz.f49 (qdp.plan K) K [.int .i64 t0] h := by kernel_rfl
theorem qdp.obl (K : KT) : Obl P Tryz.f49 (qdp.plan K) K :=
  obl_true (by kernel_rfl)
theorem qdp.ok {K : KT} {t0 : Int} {h : Heap} (H : qdp.p0 K t0 h) : CallsH P F.qdp [.int .i64 t0] K h :=
  calls_of_Ev (qdp.plan K) Tryz.func49 (by kernel_rfl) (qdp.obl K) (by rw [qdp.ev_eq] at H; exact H)
def qbt.j1 (K : KT) (b_0 : OA) (b_0l : Nat) (b_0c : Nat) (f_3 : Addr) (p : Bool) (h : Heap) : Prop :=
  (p = true → CallsH P F.qbu [.slice b_0 b_0l b_0c] (fun v2 h3 => ∃ a4 q r, v2 = .slice a4 q r ∧ K (.tuple #[.slice a4 q r, .bool false]) h3) h) ∧ (p = false → ∃ n5, hcell h (Addr.add f_3 0) = some (.int .i64 n5) ∧ CallsH P F.qcp [.slice b_0 b_0l b_0c, .int .i64 1, .int .u64 (IntKind.u64.wrap n5)] (fun v6 h7 => ∃ a8 x z, v6 = .slice a8 x z ∧ ∃ n9, hcell h7 (Addr.add f_3 1) = some (.int .i64 n9) ∧ CallsH P F.qcp [.slice a8 x z, .int .i64 2, .int .u64 (IntKind.u64.wrap n9)] (fun aq aa => ∃ ab ac ad, aq = .slice ab ac ad ∧ ∃ ae af ag, hcell aa (Addr.add f_3 2) = some (.slice ae af ag) ∧ CallsH P F.qdr [.slice ab ac ad, .slice ae af ag] (fun ar ah => ∃ ai aj ak, ar = .slice ai aj ak ∧ bd (al ah #[.int .u8 206] T.uint8) fun au => SemH P (Builtin.append_ #[T.sl_uint8, T.sl_uint8] T.sl_uint8 #[.slice ai aj ak, .slice (some (top ah)) 1 1]) (fun aw ax => ∃ am an ao, aw = .slice am an ao ∧ K (.tuple #[.slice am an ao, .bool true]) ax) au) aa) h7) h)
def qbt.j1.l : Live := [(0, .slice), (3, .addr), (25, .bool)]
def qbt.j1.j (K : KT) : Tup qbt.j1.l → Heap → Prop := fun x h => qbt.j1 K x.1.1 x.1.2.1 x.1.2.2 x.2.1 x.2.2.1 h
def qbt.p0 (K : KT) (b_0 : OA) (b_0l : Nat) (b_0c : Nat) (f_1 : List Value) (h : Heap) : Prop :=
  bd (al h (List.toArray f_1) T.api_Frame) fun h1 => ∃ z, hcell h1 (Addr.add (top h) 0) = some (.int .i64 z) ∧ CallsH P F.qdp [.int .i64 z] (fun ab p => ∃ q, ab = .bool q ∧ ((!q) = false → ∃ r, hcell p (Addr.add (top h) 1) = some (.int .i64 r) ∧ ((decide (r < 0)) = false → ∃ x, hcell p (Addr.add (top h) 1) = some (.int .i64 x) ∧ ((decide (x > 65535)) = false → ∃ ac aa ad, hcell p (Addr.add (top h) 2) = some (.slice ac aa ad) ∧ qbt.j1 K b_0 b_0l b_0c (top h) (decide (((aa : Nat) : Int) > 4088)) p) ∧ ((decide (x > 65535)) = true → qbt.j1 K b_0 b_0l b_0c (top h) true p)) ∧ ((decide (r < 0)) = true → qbt.j1 K b_0 b_0l b_0c (top h) true p)) ∧ ((!q) = true → qbt.j1 K b_0 b_0l b_0c (top h) true p)) h1
def qbt.plan (K : KT) : Plan := (.seq .go (.seq (.cut qbt.j1.l (qbt.j1.j K) .go .go) .go))
theorem qbt.ev_eq : qbt.p0 = fun K b_0 b_0l b_0c f_1 h => Ev P Tryz.f64 (qbt.plan K) K [.slice b_0 b_0l b_0c, .agg (List.toArray f_1)] h := by kernel_rfl
theorem qbt.obl (K : KT) : Obl P Tryz.f64 (qbt.plan K) K :=
  obl_of (R := Imp (qbt.j1.j K) ∧ True) (by kernel_rfl) ⟨imp _, trivial⟩
theorem qbt.ok {K : KT} {b_0 : OA} {b_0l : Nat} {b_0c : Nat} {f_1 : List Value} {h : Heap} (H : qbt.p0 K b_0 b_0l b_0c f_1 h) : CallsH P F.qbt [.slice b_0 b_0l b_0c, .agg (List.toArray f_1)] K h :=
  calls_of_Ev (qbt.plan K) Tryz.func64 (by kernel_rfl) (qbt.obl K) (by rw [qbt.ev_eq] at H; exact H)
def qdl.p0 (K : KT) (b_0 : OA) (b_0l : Nat) (b_0c : Nat) (h : Heap) : Prop :=
  bd (al h #[.int .i64 0, .int .i64 0, .slice none 0 0] T.api_Frame) fun h1 => ((((b_0l : Nat) : Int) == 0) = true → ([.int .i64 0, .int .i64 0, .slice none 0 0] : List Value).length = 3 ∧ ∃ h2, stC h1 (top h) 0 [.int .i64 0, .int .i64 0, .slice none 0 0] = some h2 ∧ ∃ ai, rdC h2 (top h) 0 3 = some ai ∧ K (.tuple #[.agg (List.toArray ai), .int .i64 0, .int .i64 2]) h2) ∧ ((((b_0l : Nat) : Int) == 0) = false → ∃ p4, b_0 = some p4 ∧ (0 : Int) ≤ 0 ∧ 0 < ((b_0l : Nat) : Int) ∧ ∃ n5, hcell h1 (Addr.add p4 (Int.toNat 0 * 1)) = some (.int .u8 n5) ∧ CallsH P F.qdp [.int .i64 (IntKind.i64.wrap n5)] (fun v6 h7 => ∃ b8, v6 = .bool b8 ∧ ((!b8) = true → ([.int .i64 0, .int .i64 0, .slice none 0 0] : List Value).length = 3 ∧ ∃ h9, stC h7 (top h) 0 [.int .i64 0, .int .i64 0, .slice none 0 0] = some h9 ∧ ∃ aj, rdC h9 (top h) 0 3 = some aj ∧ K (.tuple #[.agg (List.toArray aj), .int .i64 0, .int .i64 3]) h9) ∧ ((!b8) = false → ((decide (((b_0l : Nat) : Int) < 7)) = true → ([.int .i64 0, .int .i64 0, .slice none 0 0] : List Value).length = 3 ∧ ∃ z, stC h7 (top h) 0 [.int .i64 0, .int .i64 0, .slice none 0 0] = some z ∧ ∃ ak, rdC z (top h) 0 3 = some ak ∧ K (.tuple #[.agg (List.toArray ak), .int .i64 0, .int .i64 2]) z) ∧ ((decide (((b_0l : Nat) : Int) < 7)) = false → CallsH P F.qdx [.slice b_0 b_0l b_0c] (fun bc be => ∃ q, bc = .pointer q ∧ CallsH P F.qdj [.pointer q, .int .i64 1] (fun bf bg => ∃ aa, bf = .int .u64 aa ∧ CallsH P F.qdj [.pointer q, .int .i64 2] (fun bh r => ∃ ab, bh = .int .u64 ab ∧ bd (al r #[.int .i64 0, .int .i64 0, .slice none 0 0] T.api_Frame) fun bi => ([.int .i64 (IntKind.i64.wrap aa), .int .i64 (IntKind.i64.wrap ab), .slice none 0 0] : List Value).length = 3 ∧ ∃ am, stC bi (top r) 0 [.int .i64 (IntKind.i64.wrap aa), .int .i64 (IntKind.i64.wrap ab), .slice none 0 0] = some am ∧ CallsH P F.qdj [.pointer q, .int .i64 4] (fun bj p => ∃ x, bj = .int .u64 x ∧ ((decide (x > 4088)) = true → ([.int .i64 0, .int .i64 0, .slice none 0 0] : List Value).length = 3 ∧ ∃ ac, stC p (top h) 0 [.int .i64 0, .int .i64 0, .slice none 0 0] = some ac ∧ ∃ an, rdC ac (top h) 0 3 = some an ∧ K (.tuple #[.agg (List.toArray an), .int .i64 0, .int .i64 3]) ac) ∧ ((decide (x > 4088)) = false → bd ((IntKind.i64.wrap ((7 : Int) + (IntKind.i64.wrap x))) : Int) fun to_29 => bd ((decide (((b_0l : Nat) : Int) ≤ to_29)) : Bool) fun ao => (ao = true → ([.int .i64 0, .int .i64 0, .slice none 0 0] : List Value).length = 3 ∧ ∃ ad, stC p (top h) 0 [.int .i64 0, .int .i64 0, .slice none 0 0] = some ad ∧ ∃ aq, rdC ad (top h) 0 3 = some aq ∧ K (.tuple #[.agg (List.toArray aq), .int .i64 0, .int .i64 2]) ad) ∧ (ao = false → ∃ ar, b_0 = some ar ∧ (0 : Int) ≤ to_29 ∧ to_29 < ((b_0l : Nat) : Int) ∧ ∃ au, hcell p (Addr.add ar (Int.toNat to_29 * 1)) = some (.int .u8 au) ∧ bd ((au != 206) : Bool) fun aw => (aw = true → ([.int .i64 0, .int .i64 0, .slice none 0 0] : List Value).length = 3 ∧ ∃ ae, stC p (top h) 0 [.int .i64 0, .int .i64 0, .slice none 0 0] = some ae ∧ ∃ ax, rdC ae (top h) 0 3 = some ax ∧ K (.tuple #[.agg (List.toArray ax), .int .i64 0, .int .i64 3]) ae) ∧ (aw = false → inB to_29 b_0c ∧ inB 7 (Int.toNat to_29) ∧ CallsH P F.qbu [.slice (slA b_0 (Int.toNat 7) b_0c 1) (Int.toNat to_29 - Int.toNat 7) (b_0c - Int.toNat 7)] (fun bk bl => ∃ ay az ba, bk = .slice ay az ba ∧ ∃ af, stC bl (Addr.add (top r) 2) 0 [.slice ay az ba] = some af ∧ ∃ ag, rdC af (top r) 0 3 = some ag ∧ ag.length = 3 ∧ ∃ ah, stC af (top h) 0 ag = some ah ∧ bd ((IntKind.i64.wrap (to_29 + 1)) : Int) fun bm => ∃ bb, rdC ah (top h) 0 3 = some bb ∧ K (.tuple #[.agg (List.toArray bb), .int .i64 bm, .int .i64 0]) ah) p)))) am) bg) be) h7))) h1)
def qdl.plan (K : KT) : Plan := .go
theorem qdl.ev_eq : qdl.p0 = fun K b_0 b_0l b_0c h => Ev P Tryz.f25 (qdl.plan K) K [.slice b_0 b_0l b_0c] h := by kernel_rfl
theorem qdl.obl (K : KT) : Obl P Tryz.f25 (qdl.plan K) K :=
  obl_true (by kernel_rfl)
theorem qdl.ok {K : KT} {b_0 : OA} {b_0l : Nat} {b_0c : Nat} {h : Heap} (H : qdl.p0 K b_0 b_0l b_0c h) : CallsH P F.qdl [.slice b_0 b_0l b_0c] K h :=
  calls_of_Ev (qdl.plan K) Tryz.func25 (by kernel_rfl) (qdl.obl K) (by rw [qdl.ev_eq] at H; exact H)
end Go.Proofs.YtjapglfpjhljpaaGreat.Pr
end
section
set_option linter.unusedVariables false
set_option maxRecDepth 100000
namespace Go.Proofs.YtjapglfpjhljpaaGreat.Pr
open Go Go.Lift Go.Proofs
def qdf.p0 (K : KT) (b_0 : OA) (b_0l : Nat) (b_0c : Nat) (h : Heap) : Prop :=
  bd (al h #[.int .i64 0, .int .i64 0, .slice none 0 0, .slice none 0 0, .slice none 0 0, .slice none 0 0] T.api_Method) fun h1 => CallsH P F.qdx [.slice b_0 b_0l b_0c] (fun v2 h3 => ∃ p4, v2 = .pointer p4 ∧ CallsH P F.qdj [.pointer p4, .int .i64 2] (fun v5 h6 => ∃ n7, v5 = .int .u64 n7 ∧ CallsH P F.qdj [.pointer p4, .int .i64 2] (fun v8 h9 => ∃ p, v8 = .int .u64 p ∧ ([.int .i64 (IntKind.i64.wrap n7), .int .i64 (IntKind.i64.wrap p), .slice none 0 0, .slice none 0 0, .slice none 0 0, .slice none 0 0] : List Value).length = 6 ∧ ∃ q, stC h9 (top h) 0 [.int .i64 (IntKind.i64.wrap n7), .int .i64 (IntKind.i64.wrap p), .slice none 0 0, .slice none 0 0, .slice none 0 0, .slice none 0 0] = some q ∧ ∃ r, rdC q (top h) 0 6 = some r ∧ K (.agg (List.toArray r)) q) h6) h3) h1
def qdf.plan (K : KT) : Plan := .go
theorem qdf.ev_eq : qdf.p0 = fun K b_0 b_0l b_0c h => Ev P Tryz.f120 (qdf.plan K) K [.slice b_0 b_0l b_0c] h := by kernel_rfl
theorem qdf.obl (K : KT) : Obl P Tryz.f120 (qdf.plan K) K :=
  obl_true (by kernel_rfl)
theorem qdf.ok {K : KT} {b_0 : OA} {b_0l : Nat} {b_0c : Nat} {h : Heap} (H : qdf.p0 K b_0 b_0l b_0c h) : CallsH P F.qdf [.slice b_0 b_0l b_0c] K h :=
  calls_of_Ev (qdf.plan K) Tryz.func120 (by kernel_rfl) (qdf.obl K) (by rw [qdf.ev_eq] at H; exact H)
def qds.p0 (K : KT)  (h : Heap) : Prop :=
  bd (al h #[.int .i64 0, .bool false, .int .i64 0, .int .i64 0, .slice none 0 0, .slice none 0 0, .slice none 0 0, .slice none 0 0, .int .u64 0, .int .i64 0, .string (mkS ([] : List UInt8)), .slice none 0 0] T.chans_Asm) fun h1 => K (.pointer (some (top h))) h1
def qds.plan (K : KT) : Plan := .go
theorem qds.ev_eq : qds.p0 = fun K  h => Ev P Tryz.f97 (qds.plan K) K [] h := by kernel_rfl
theorem qds.obl (K : KT) : Obl P Tryz.f97 (qds.plan K) K :=
  obl_true (by kernel_rfl)
theorem qds.ok {K : KT}  {h : Heap} (H : qds.p0 K  h) : CallsH P F.qds [] K h :=
  calls_of_Ev (qds.plan K) Tryz.func97 (by kernel_rfl) (qds.obl K) (by rw [qds.ev_eq] at H; exact H)
def qcw.p0 (K : KT) (a_0 : OA) (h : Heap) : Prop :=
  ∃ p1, a_0 = some p1 ∧ ∃ n2, hcell h (Addr.add p1 0) = some (.int .i64 n2) ∧ bd ((n2 != 0) : Bool) fun b3 => K (.bool b3) h
def qcw.plan (K : KT) : Plan := .go
theorem qcw.ev_eq : qcw.p0 = fun K a_0 h => Ev P Tryz.f143 (qcw.plan K) K [.pointer a_0] h := by kernel_rfl
theorem qcw.obl (K : KT) : Obl P Tryz.f143 (qcw.plan K) K :=
  obl_true (by kernel_rfl)
theorem qcw.ok {K : KT} {a_0 : OA} {h : Heap} (H : qcw.p0 K a_0 h) : CallsH P F.qcw [.pointer a_0] K h :=
  calls_of_Ev (qcw.plan K) Tryz.func143 (by kernel_rfl) (qcw.obl K) (by rw [qcw.ev_eq] at H; exact H)
def qbp.j1 (K : KT) (a_0 : OA) (t1 : Int) (m_5 : Addr) (t6 : Addr) (h : Heap) : Prop :=
  ∃ p3, a_0 = some p3 ∧ ([.int .i64 0, .bool false, .int .i64 0, .int .i64 0, .slice none 0 0, .slice none 0 0, .slice none 0 0, .slice none 0 0, .int .u64 0, .int .i64 0, .string (mkS ([] : List UInt8)), .slice none 0 0] : List Value).length = 12 ∧ ∃ h4, stC h p3 0 [.int .i64 0, .bool false, .int .i64 0, .int .i64 0, .slice none 0 0, .slice none 0 0, .slice none 0 0, .slice none 0 0, .int .u64 0, .int .i64 0, .string (mkS ([] : List UInt8)), .slice none 0 0] = some h4 ∧ ∃ q, rdC h4 m_5 0 6 = some q ∧ ∃ p, bld P T.api_Ask [(1, .agg (List.toArray q))] p ∧ p.length = 11 ∧ ∃ h7, stC h4 t6 0 p = some h7 ∧ ∃ r, rdC h7 t6 0 11 = some r ∧ K (.tuple #[.agg (List.toArray r), .int .i64 t1]) h7
def qbp.j1.l : Live := [(0, .ptr), (1, .int .i64), (5, .addr), (6, .addr)]
def qbp.j1.j (K : KT) : Tup qbp.j1.l → Heap → Prop := fun x h => qbp.j1 K x.1 x.2.1 x.2.2.1 x.2.2.2.1 h
def qbp.p0 (K : KT) (a_0 : OA) (t1 : Int) (m_2 : List Value) (h : Heap) : Prop :=
  bd (al h (List.toArray m_2) T.api_Method) fun h1 => bd (al h1 #[.bool false, .int .i64 0, .int .i64 0, .slice none 0 0, .slice none 0 0, .slice none 0 0, .slice none 0 0, .int .u64 0, .int .i64 0, .string (mkS ([] : List UInt8)), .slice none 0 0] T.api_Ask) fun h2 => CallsH P F.qcw [.pointer a_0] (fun v9 q => ∃ p, v9 = .bool p ∧ (p = true → ([.int .i64 60, .int .i64 40, .slice none 0 0, .slice none 0 0, .slice none 0 0, .slice none 0 0] : List Value).length = 6 ∧ ∃ r, stC q (top h) 0 [.int .i64 60, .int .i64 40, .slice none 0 0, .slice none 0 0, .slice none 0 0, .slice none 0 0] = some r ∧ qbp.j1 K a_0 t1 (top h) (top h1) r) ∧ (p = false → qbp.j1 K a_0 t1 (top h) (top h1) q)) h2
def qbp.plan (K : KT) : Plan := (.seq .go (.cut qbp.j1.l (qbp.j1.j K) .go .go))
theorem qbp.ev_eq : qbp.p0 = fun K a_0 t1 m_2 h => Ev P Tryz.f137 (qbp.plan K) K [.pointer a_0, .int .i64 t1, .agg (List.toArray m_2)] h := by kernel_rfl
theorem qbp.obl (K : KT) : Obl P Tryz.f137 (qbp.plan K) K :=
  obl_of (R := Imp (qbp.j1.j K) ∧ True) (by kernel_rfl) ⟨imp _, trivial⟩
theorem qbp.ok {K : KT} {a_0 : OA} {t1 : Int} {m_2 : List Value} {h : Heap} (H : qbp.p0 K a_0 t1 m_2 h) : CallsH P F.qbp [.pointer a_0, .int .i64 t1, .agg (List.toArray m_2)] K h :=
  calls_of_Ev (qbp.plan K) Tryz.func137 (by kernel_rfl) (qbp.obl K) (by rw [qbp.ev_eq] at H; exact H)
def qcr.p0 (K : KT) (a_0 : OA) (h : Heap) : Prop :=
  bd (al h #[.bool false, .int .i64 0, .int .i64 0, .slice none 0 0, .slice none 0 0, .slice none 0 0, .slice none 0 0, .int .u64 0, .int .i64 0, .string (mkS ([] : List UInt8)), .slice none 0 0] T.api_Ask) fun h1 => ∃ p2, a_0 = some p2 ∧ ∃ p, rdC h1 (Addr.add p2 1) 0 11 = some p ∧ bd (al h1 #[.bool false, .int .i64 0, .int .i64 0, .slice none 0 0, .slice none 0 0, .slice none 0 0, .slice none 0 0, .int .u64 0, .int .i64 0, .string (mkS ([] : List UInt8)), .slice none 0 0] T.api_Ask) fun h4 => p.length = 11 ∧ ∃ h5, stC h4 (top h1) 0 p = some h5 ∧ ∃ h6, stC h5 (Addr.add (top h1) 0) 0 [.bool true] = some h6 ∧ ∃ p7, a_0 = some p7 ∧ ([.int .i64 0, .bool false, .int .i64 0, .int .i64 0, .slice none 0 0, .slice none 0 0, .slice none 0 0, .slice none 0 0, .int .u64 0, .int .i64 0, .string (mkS ([] : List UInt8)), .slice none 0 0] : List Value).length = 12 ∧ ∃ h8, stC h6 p7 0 [.int .i64 0, .bool false, .int .i64 0, .int .i64 0, .slice none 0 0, .slice none 0 0, .slice none 0 0, .slice none 0 0, .int .u64 0, .int .i64 0, .string (mkS ([] : List UInt8)), .slice none 0 0] = some h8 ∧ ∃ q, rdC h8 (top h1) 0 11 = some q ∧ q.length = 11 ∧ ∃ r, stC h8 (top h) 0 q = some r ∧ ∃ x, rdC r (top h) 0 11 = some x ∧ K (.tuple #[.agg (List.toArray x), .int .i64 0]) r
def qcr.plan (K : KT) : Plan := .go
theorem qcr.ev_eq : qcr.p0 = fun K a_0 h => Ev P Tryz.f144 (qcr.plan K) K [.pointer a_0] h := by kernel_rfl
theorem qcr.obl (K : KT) : Obl P Tryz.f144 (qcr.plan K) K :=
  obl_true (by kernel_rfl)
theorem qcr.ok {K : KT} {a_0 : OA} {h : Heap} (H : qcr.p0 K a_0 h) : CallsH P F.qcr [.pointer a_0] K h :=
  calls_of_Ev (qcr.plan K) Tryz.func144 (by kernel_rfl) (qcr.obl K) (by rw [qcr.ev_eq] at H; exact H)
def qbg.j1 (K : KT) (a_0 : OA) (t4 : Addr) (x : Bool) (h : Heap) : Prop :=
  (x = true → ∃ z, a_0 = some z ∧ ∃ aa, stC h (Addr.add z 0) 0 [.int .i64 1] = some aa ∧ ([.bool false, .int .i64 0, .int .i64 0, .slice none 0 0, .slice none 0 0, .slice none 0 0, .slice none 0 0, .int .u64 0, .int .i64 0, .string (mkS ([] : List UInt8)), .slice none 0 0] : List Value).length = 11 ∧ ∃ p, stC aa t4 0 [.bool false, .int .i64 0, .int .i64 0, .slice none 0 0, .slice none 0 0, .slice none 0 0, .slice none 0 0, .int .u64 0, .int .i64 0, .string (mkS ([] : List UInt8)), .slice none 0 0] = some p ∧ ∃ ab, rdC p t4 0 11 = some ab ∧ K (.tuple #[.agg (List.toArray ab), .int .i64 0]) p) ∧ (x = false → CallsH P F.qcr [.pointer a_0] (fun ae af => ∃ q ac, ae = .tuple #[.agg (List.toArray q), .int .i64 ac] ∧ q.length = 11 ∧ ∃ r, stC af t4 0 q = some r ∧ ∃ ad, rdC r t4 0 11 = some ad ∧ K (.tuple #[.agg (List.toArray ad), .int .i64 ac]) r) h)
def qbg.j1.l : Live := [(0, .ptr), (4, .addr), (42, .bool)]
def qbg.j1.j (K : KT) : Tup qbg.j1.l → Heap → Prop := fun x h => qbg.j1 K x.1 x.2.1 x.2.2.1 h
def qbg.p0 (K : KT) (a_0 : OA) (b_1 : OA) (b_1l : Nat) (b_1c : Nat) (h : Heap) : Prop :=
  bd (al h #[.bool false, .int .i64 0, .int .i64 0, .slice none 0 0, .slice none 0 0, .slice none 0 0, .slice none 0 0, .int .u64 0, .int .i64 0, .string (mkS ([] : List UInt8)), .slice none 0 0] T.api_Ask) fun h1 => CallsH P F.qcw [.pointer a_0] (fun v2 h3 => ∃ b4, v2 = .bool b4 ∧ (b4 = true → CallsH P F.qbp [.pointer a_0, .int .i64 505, .agg #[.int .i64 0, .int .i64 0, .slice none 0 0, .slice none 0 0, .slice none 0 0, .slice none 0 0]] (fun v5 h6 => ∃ z n8, v5 = .tuple #[.agg (List.toArray z), .int .i64 n8] ∧ z.length = 11 ∧ ∃ h9, stC h6 (top h) 0 z = some h9 ∧ ∃ af, rdC h9 (top h) 0 11 = some af ∧ K (.tuple #[.agg (List.toArray af), .int .i64 n8]) h9) h3) ∧ (b4 = false → CallsH P F.qat [.slice b_1 b_1l b_1c] (fun ao p => ∃ aa r, ao = .tuple #[.agg (List.toArray aa), .int .i64 r] ∧ bd (al p #[.int .i64 0, .int .i64 0, .slice none 0 0, .slice none 0 0, .slice none 0 0, .slice none 0 0] T.api_Method) fun aq => aa.length = 6 ∧ ∃ x, stC aq (top p) 0 aa = some x ∧ ((r != 0) = true → CallsH P F.qea [.int .i64 r] (fun ar au => ∃ ag, ar = .int .i64 ag ∧ CallsH P F.qdf [.slice b_1 b_1l b_1c] (fun aw ax => ∃ ah, aw = .agg (List.toArray ah) ∧ CallsH P F.qbp [.pointer a_0, .int .i64 ag, .agg (List.toArray ah)] (fun ay az => ∃ ab ai, ay = .tuple #[.agg (List.toArray ab), .int .i64 ai] ∧ ab.length = 11 ∧ ∃ ac, stC az (top h) 0 ab = some ac ∧ ∃ aj, rdC ac (top h) 0 11 = some aj ∧ K (.tuple #[.agg (List.toArray aj), .int .i64 ai]) ac) ax) au) x) ∧ ((r != 0) = false → ∃ ak, rdC x (top p) 0 6 = some ak ∧ ∃ ad, bld P T.api_Ask [(1, .agg (List.toArray ak))] ad ∧ ∃ am, a_0 = some am ∧ ad.length = 11 ∧ ∃ q, stC x (Addr.add am 1) 0 ad = some q ∧ ∃ ae, hcell q (Addr.add (top p) 0) = some (.int .i64 ae) ∧ ((ae == 60) = true → ∃ an, hcell q (Addr.add (top p) 1) = some (.int .i64 an) ∧ qbg.j1 K a_0 (top h) (an == 40) q) ∧ ((ae == 60) = false → qbg.j1 K a_0 (top h) false q))) h3)) h1
def qbg.plan (K : KT) : Plan := (.seq .go (.seq .go (.seq .go (.seq .go (.seq .go (.seq (.cut qbg.j1.l (qbg.j1.j K) .go .go) .go))))))
theorem qbg.ev_eq : qbg.p0 = fun K a_0 b_1 b_1l b_1c h => Ev P Tryz.f134 (qbg.plan K) K [.pointer a_0, .slice b_1 b_1l b_1c] h := by kernel_rfl
theorem qbg.obl (K : KT) : Obl P Tryz.f134 (qbg.plan K) K :=
  obl_of (R := Imp (qbg.j1.j K) ∧ True) (by kernel_rfl) ⟨imp _, trivial⟩
theorem qbg.ok {K : KT} {a_0 : OA} {b_1 : OA} {b_1l : Nat} {b_1c : Nat} {h : Heap} (H : qbg.p0 K a_0 b_1 b_1l b_1c h) : CallsH P F.qbg [.pointer a_0, .slice b_1 b_1l b_1c] K h :=
  calls_of_Ev (qbg.plan K) Tryz.func134 (by kernel_rfl) (qbg.obl K) (by rw [qbg.ev_eq] at H; exact H)
def qcx.p0 (K : KT) (a_0 : OA) (b_1 : OA) (b_1l : Nat) (b_1c : Nat) (h : Heap) : Prop :=
  bd (al h #[.bool false, .int .i64 0, .int .i64 0, .slice none 0 0, .slice none 0 0, .slice none 0 0, .slice none 0 0, .int .u64 0, .int .i64 0, .string (mkS ([] : List UInt8)), .slice none 0 0] T.api_Ask) fun h1 => ∃ p2, a_0 = some p2 ∧ ∃ n3, hcell h1 (Addr.add p2 0) = some (.int .i64 n3) ∧ ((n3 != 1) = true → CallsH P F.qbp [.pointer a_0, .int .i64 505, .agg #[.int .i64 0, .int .i64 0, .slice none 0 0, .slice none 0 0, .slice none 0 0, .slice none 0 0]] (fun v4 h5 => ∃ x n7, v4 = .tuple #[.agg (List.toArray x), .int .i64 n7] ∧ x.length = 11 ∧ ∃ h8, stC h5 (top h) 0 x = some h8 ∧ ∃ ak, rdC h8 (top h) 0 11 = some ak ∧ K (.tuple #[.agg (List.toArray ak), .int .i64 n7]) h8) h1) ∧ ((n3 != 1) = false → CallsH P F.qar [.slice b_1 b_1l b_1c] (fun bf q => ∃ z aa, bf = .tuple #[.agg (List.toArray z), .int .i64 aa] ∧ bd (al q #[.int .u64 0, .int .i64 0, .string (mkS ([] : List UInt8))] T.api_Head) fun bg => z.length = 3 ∧ ∃ p, stC bg (top q) 0 z = some p ∧ bd ((aa != 0) : Bool) fun am => (am = true → CallsH P F.qea [.int .i64 aa] (fun bh bi => ∃ an, bh = .int .i64 an ∧ CallsH P F.qbp [.pointer a_0, .int .i64 an, .agg #[.int .i64 0, .int .i64 0, .slice none 0 0, .slice none 0 0, .slice none 0 0, .slice none 0 0]] (fun bj bk => ∃ ab ao, bj = .tuple #[.agg (List.toArray ab), .int .i64 ao] ∧ ab.length = 11 ∧ ∃ ac, stC bk (top h) 0 ab = some ac ∧ ∃ aq, rdC ac (top h) 0 11 = some aq ∧ K (.tuple #[.agg (List.toArray aq), .int .i64 ao]) ac) bi) p) ∧ (am = false → ∃ ar, hcell p (Addr.add (top q) 0) = some (.int .u64 ar) ∧ bd ((decide (ar > 10000)) : Bool) fun au => (au = true → CallsH P F.qbp [.pointer a_0, .int .i64 311, .agg #[.int .i64 0, .int .i64 0, .slice none 0 0, .slice none 0 0, .slice none 0 0, .slice none 0 0]] (fun bl bm => ∃ ad aw, bl = .tuple #[.agg (List.toArray ad), .int .i64 aw] ∧ ad.length = 11 ∧ ∃ ae, stC bm (top h) 0 ad = some ae ∧ ∃ ax, rdC ae (top h) 0 11 = some ax ∧ K (.tuple #[.agg (List.toArray ax), .int .i64 aw]) ae) p) ∧ (au = false → ∃ af, rdC p (top q) 0 3 = some af ∧ ∃ ay, a_0 = some ay ∧ af.length = 3 ∧ ∃ r, stC p (Addr.add (Addr.add ay 1) 7) 0 af = some r ∧ ∃ ag, hcell r (Addr.add (top q) 0) = some (.int .u64 ag) ∧ ((ag == 0) = true → CallsH P F.qcr [.pointer a_0] (fun bp bq => ∃ ah az, bp = .tuple #[.agg (List.toArray ah), .int .i64 az] ∧ ah.length = 11 ∧ ∃ ai, stC bq (top h) 0 ah = some ai ∧ ∃ ba, rdC ai (top h) 0 11 = some ba ∧ K (.tuple #[.agg (List.toArray ba), .int .i64 az]) ai) r) ∧ ((ag == 0) = false → ∃ bb, a_0 = some bb ∧ ∃ bc, stC r (Addr.add bb 0) 0 [.int .i64 2] = some bc ∧ ([.bool false, .int .i64 0, .int .i64 0, .slice none 0 0, .slice none 0 0, .slice none 0 0, .slice none 0 0, .int .u64 0, .int .i64 0, .string (mkS ([] : List UInt8)), .slice none 0 0] : List Value).length = 11 ∧ ∃ aj, stC bc (top h) 0 [.bool false, .int .i64 0, .int .i64 0, .slice none 0 0, .slice none 0 0, .slice none 0 0, .slice none 0 0, .int .u64 0, .int .i64 0, .string (mkS ([] : List UInt8)), .slice none 0 0] = some aj ∧ ∃ be, rdC aj (top h) 0 11 = some be ∧ K (.tuple #[.agg (List.toArray be), .int .i64 0]) aj)))) h1)
def qcx.plan (K : KT) : Plan := .go
theorem qcx.ev_eq : qcx.p0 = fun K a_0 b_1 b_1l b_1c h => Ev P Tryz.f135 (qcx.plan K) K [.pointer a_0, .slice b_1 b_1l b_1c] h := by kernel_rfl
theorem qcx.obl (K : KT) : Obl P Tryz.f135 (qcx.plan K) K :=
  obl_true (by kernel_rfl)
theorem qcx.ok {K : KT} {a_0 : OA} {b_1 : OA} {b_1l : Nat} {b_1c : Nat} {h : Heap} (H : qcx.p0 K a_0 b_1 b_1l b_1c h) : CallsH P F.qcx [.pointer a_0, .slice b_1 b_1l b_1c] K h :=
  calls_of_Ev (qcx.plan K) Tryz.func135 (by kernel_rfl) (qcx.obl K) (by rw [qcx.ev_eq] at H; exact H)
def qcy.p0 (K : KT) (a_0 : OA) (b_1 : OA) (b_1l : Nat) (b_1c : Nat) (h : Heap) : Prop :=
  bd (al h #[.bool false, .int .i64 0, .int .i64 0, .slice none 0 0, .slice none 0 0, .slice none 0 0, .slice none 0 0, .int .u64 0, .int .i64 0, .string (mkS ([] : List UInt8)), .slice none 0 0] T.api_Ask) fun h1 => ∃ p2, a_0 = some p2 ∧ ∃ p3, a_0 = some p3 ∧ ∃ n4, hcell h1 (Addr.add (Addr.add (Addr.add p2 1) 7) 0) = some (.int .u64 n4) ∧ ∃ a5 ad az, hcell h1 (Addr.add (Addr.add p3 1) 10) = some (.slice a5 ad az) ∧ bd ((IntKind.i64.wrap ((IntKind.i64.wrap n4) - ((ad : Nat) : Int))) : Int) fun left_6 => ∃ p7, a_0 = some p7 ∧ ∃ n8, hcell h1 (Addr.add p7 0) = some (.int .i64 n8) ∧ bd ((n8 != 2) : Bool) fun b9 => (b9 = true → CallsH P F.qbp [.pointer a_0, .int .i64 505, .agg #[.int .i64 0, .int .i64 0, .slice none 0 0, .slice none 0 0, .slice none 0 0, .slice none 0 0]] (fun ba bb => ∃ p ae, ba = .tuple #[.agg (List.toArray p), .int .i64 ae] ∧ p.length = 11 ∧ ∃ q, stC bb (top h) 0 p = some q ∧ ∃ af, rdC q (top h) 0 11 = some af ∧ K (.tuple #[.agg (List.toArray af), .int .i64 ae]) q) h1) ∧ (b9 = false → bd ((decide (((b_1l : Nat) : Int) > left_6)) : Bool) fun ag => (ag = true → CallsH P F.qbp [.pointer a_0, .int .i64 501, .agg #[.int .i64 0, .int .i64 0, .slice none 0 0, .slice none 0 0, .slice none 0 0, .slice none 0 0]] (fun bc be => ∃ r ah, bc = .tuple #[.agg (List.toArray r), .int .i64 ah] ∧ r.length = 11 ∧ ∃ x, stC be (top h) 0 r = some x ∧ ∃ ai, rdC x (top h) 0 11 = some ai ∧ K (.tuple #[.agg (List.toArray ai), .int .i64 ah]) x) h1) ∧ (ag = false → ∃ aj, a_0 = some aj ∧ ∃ ak am an, hcell h1 (Addr.add (Addr.add aj 1) 10) = some (.slice ak am an) ∧ SemH P (Builtin.append_ #[T.sl_uint8, T.sl_uint8] T.sl_uint8 #[.slice ak am an, .slice b_1 b_1l b_1c]) (fun bf bg => ∃ ao aq ar, bf = .slice ao aq ar ∧ ∃ au, a_0 = some au ∧ ∃ z, stC bg (Addr.add (Addr.add au 1) 10) 0 [.slice ao aq ar] = some z ∧ ((((b_1l : Nat) : Int) == left_6) = true → CallsH P F.qcr [.pointer a_0] (fun bh bi => ∃ aa aw, bh = .tuple #[.agg (List.toArray aa), .int .i64 aw] ∧ aa.length = 11 ∧ ∃ ab, stC bi (top h) 0 aa = some ab ∧ ∃ ax, rdC ab (top h) 0 11 = some ax ∧ K (.tuple #[.agg (List.toArray ax), .int .i64 aw]) ab) z) ∧ ((((b_1l : Nat) : Int) == left_6) = false → ([.bool false, .int .i64 0, .int .i64 0, .slice none 0 0, .slice none 0 0, .slice none 0 0, .slice none 0 0, .int .u64 0, .int .i64 0, .string (mkS ([] : List UInt8)), .slice none 0 0] : List Value).length = 11 ∧ ∃ ac, stC z (top h) 0 [.bool false, .int .i64 0, .int .i64 0, .slice none 0 0, .slice none 0 0, .slice none 0 0, .slice none 0 0, .int .u64 0, .int .i64 0, .string (mkS ([] : List UInt8)), .slice none 0 0] = some ac ∧ ∃ ay, rdC ac (top h) 0 11 = some ay ∧ K (.tuple #[.agg (List.toArray ay), .int .i64 0]) ac)) h1))
def qcy.plan (K : KT) : Plan := (.seq .go (.seq (.orders (.op 0 (.op 1 (.op 2 (.op 3 (.op 4 (.op 7 (.op 8 (.op 9 (.op 10 (.op 5 (.op 6 (.op 11 (.op 12 (.op 13 (.op 14 .nil)))))))))))))))) .go))
theorem qcy.ev_eq : qcy.p0 = fun K a_0 b_1 b_1l b_1c h => Ev P Tryz.f136 (qcy.plan K) K [.pointer a_0, .slice b_1 b_1l b_1c] h := by kernel_rfl
theorem qcy.obl (K : KT) : Obl P Tryz.f136 (qcy.plan K) K :=
  obl_of (R := DrawOK P Tryz.f136.ntmps (opsAt 1 (bodyOf Tryz.f136)) (.op 0 (.op 1 (.op 2 (.op 3 (.op 4 (.op 7 (.op 8 (.op 9 (.op 10 (.op 5 (.op 6 (.op 11 (.op 12 (.op 13 (.op 14 .nil))))))))))))))) ∧ True) (by kernel_rfl) ⟨draw_ok (by kernel_rfl), trivial⟩
theorem qcy.ok {K : KT} {a_0 : OA} {b_1 : OA} {b_1l : Nat} {b_1c : Nat} {h : Heap} (H : qcy.p0 K a_0 b_1 b_1l b_1c h) : CallsH P F.qcy [.pointer a_0, .slice b_1 b_1l b_1c] K h :=
  calls_of_Ev (qcy.plan K) Tryz.func136 (by kernel_rfl) (qcy.obl K) (by rw [qcy.ev_eq] at H; exact H)
def qcu.p0 (K : KT) (a_0 : OA) (f_1 : List Value) (h : Heap) : Prop :=
  bd (al h (List.toArray f_1) T.api_Frame) fun h1 => bd (al h1 #[.bool false, .int .i64 0, .int .i64 0, .slice none 0 0, .slice none 0 0, .slice none 0 0, .slice none 0 0, .int .u64 0, .int .i64 0, .string (mkS ([] : List UInt8)), .slice none 0 0] T.api_Ask) fun h2 => ∃ n3, hcell h2 (Addr.add (top h) 0) = some (.int .i64 n3) ∧ bd ((n3 == 1) : Bool) fun b4 => (b4 = true → ∃ a5 ad ae, hcell h2 (Addr.add (top h) 2) = some (.slice a5 ad ae) ∧ CallsH P F.qbg [.pointer a_0, .slice a5 ad ae] (fun v6 h7 => ∃ p n9, v6 = .tuple #[.agg (List.toArray p), .int .i64 n9] ∧ p.length = 11 ∧ ∃ q, stC h7 (top h1) 0 p = some q ∧ ∃ af, rdC q (top h1) 0 11 = some af ∧ K (.tuple #[.agg (List.toArray af), .int .i64 n9]) q) h2) ∧ (b4 = false → bd ((n3 == 2) : Bool) fun ag => (ag = true → ∃ ah ai aj, hcell h2 (Addr.add (top h) 2) = some (.slice ah ai aj) ∧ CallsH P F.qcx [.pointer a_0, .slice ah ai aj] (fun az ba => ∃ r ak, az = .tuple #[.agg (List.toArray r), .int .i64 ak] ∧ r.length = 11 ∧ ∃ x, stC ba (top h1) 0 r = some x ∧ ∃ am, rdC x (top h1) 0 11 = some am ∧ K (.tuple #[.agg (List.toArray am), .int .i64 ak]) x) h2) ∧ (ag = false → bd ((n3 == 3) : Bool) fun an => (an = true → ∃ ao aq ar, hcell h2 (Addr.add (top h) 2) = some (.slice ao aq ar) ∧ CallsH P F.qcy [.pointer a_0, .slice ao aq ar] (fun bb bc => ∃ z au, bb = .tuple #[.agg (List.toArray z), .int .i64 au] ∧ z.length = 11 ∧ ∃ aa, stC bc (top h1) 0 z = some aa ∧ ∃ aw, rdC aa (top h1) 0 11 = some aw ∧ K (.tuple #[.agg (List.toArray aw), .int .i64 au]) aa) h2) ∧ (an = false → CallsH P F.qbp [.pointer a_0, .int .i64 503, .agg #[.int .i64 0, .int .i64 0, .slice none 0 0, .slice none 0 0, .slice none 0 0, .slice none 0 0]] (fun be bf => ∃ ab ax, be = .tuple #[.agg (List.toArray ab), .int .i64 ax] ∧ ab.length = 11 ∧ ∃ ac, stC bf (top h1) 0 ab = some ac ∧ ∃ ay, rdC ac (top h1) 0 11 = some ay ∧ K (.tuple #[.agg (List.toArray ay), .int .i64 ax]) ac) h2)))
def qcu.plan (K : KT) : Plan := .go
theorem qcu.ev_eq : qcu.p0 = fun K a_0 f_1 h => Ev P Tryz.f121 (qcu.plan K) K [.pointer a_0, .agg (List.toArray f_1)] h := by kernel_rfl
theorem qcu.obl (K : KT) : Obl P Tryz.f121 (qcu.plan K) K :=
  obl_true (by kernel_rfl)
theorem qcu.ok {K : KT} {a_0 : OA} {f_1 : List Value} {h : Heap} (H : qcu.p0 K a_0 f_1 h) : CallsH P F.qcu [.pointer a_0, .agg (List.toArray f_1)] K h :=
  calls_of_Ev (qcu.plan K) Tryz.func121 (by kernel_rfl) (qcu.obl K) (by rw [qcu.ev_eq] at H; exact H)
end Go.Proofs.YtjapglfpjhljpaaGreat.Pr
end
section
set_option linter.unusedVariables false
set_option maxRecDepth 100000
namespace Go.Proofs.YtjapglfpjhljpaaGreat.Pr
open Go Go.Lift Go.Proofs
def qca.p0 (K : KT) (ch_0 : Int) (m_1 : List Value) (h : Heap) : Prop :=
  bd (al h (List.toArray m_1) T.api_Method) fun h1 => ∃ p, rdC h1 (top h) 0 6 = some p ∧ CallsH P F.qab [.slice none 0 0, .agg (List.toArray p)] (fun v3 h4 => ∃ a5 q r b6, v3 = .tuple #[.slice a5 q r, .bool b6] ∧ CallsH P F.qci [.slice none 0 0, .agg #[.int .i64 1, .int .i64 ch_0, .slice a5 q r]] (fun v7 h8 => ∃ a9 x z, v7 = .slice a9 x z ∧ K (.slice a9 x z) h8) h4) h1
def qca.plan (K : KT) : Plan := .go
theorem qca.ev_eq : qca.p0 = fun K ch_0 m_1 h => Ev P Tryz.f27 (qca.plan K) K [.int .i64 ch_0, .agg (List.toArray m_1)] h := by kernel_rfl
theorem qca.obl (K : KT) : Obl P Tryz.f27 (qca.plan K) K :=
  obl_true (by kernel_rfl)
theorem qca.ok {K : KT} {ch_0 : Int} {m_1 : List Value} {h : Heap} (H : qca.p0 K ch_0 m_1 h) : CallsH P F.qca [.int .i64 ch_0, .agg (List.toArray m_1)] K h :=
  calls_of_Ev (qca.plan K) Tryz.func27 (by kernel_rfl) (qca.obl K) (by rw [qca.ev_eq] at H; exact H)
end Go.Proofs.YtjapglfpjhljpaaGreat.Pr
end
section
set_option linter.unusedVariables false
set_option maxRecDepth 100000
namespace Go.Proofs.YtjapglfpjhljpaaGreat.Pr
open Go Go.Lift Go.Proofs
def qce.p0 (K : KT)  (h : Heap) : Prop :=
  bd (al h #[.int .u8 65, .int .u8 77, .int .u8 81, .int .u8 80] T.uint8) fun h1 => SemH P (Go.convert T.sl_uint8 T.sl_uint8 (.slice (some (top h)) 4 4)) (fun v2 h3 => ∃ a4 p q, v2 = .slice a4 p q ∧ bd (al h3 #[.int .u8 0, .int .u8 0, .int .u8 9, .int .u8 1] T.uint8) fun h5 => SemH P (Builtin.append_ #[T.sl_uint8, T.sl_uint8] T.sl_uint8 #[.slice a4 p q, .slice (some (top h3)) 4 4]) (fun v6 h7 => ∃ a8 r x, v6 = .slice a8 r x ∧ bd (al h7 #[.string (mkS ([80, 76, 65, 73, 78] : List UInt8)), .string (mkS ([] : List UInt8)), .string (mkS ([101, 110, 95, 85, 83] : List UInt8))] T.string) fun h9 => CallsH P F.qca [.int .i64 0, .agg #[.int .i64 10, .int .i64 11, .slice none 0 0, .slice (some (top h7)) 3 3, .slice none 0 0, .slice none 0 0]] (fun bq br => ∃ z aa ab, bq = .slice z aa ab ∧ SemH P (Builtin.append_ #[T.sl_uint8, T.sl_uint8] T.sl_uint8 #[.slice a8 r x, .slice z aa ab]) (fun bs ac => ∃ ad ae af, bs = .slice ad ae af ∧ bd (al ac #[.int .u64 16, .int .u64 4096, .int .u64 0] T.uint64) fun bt => CallsH P F.qca [.int .i64 0, .agg #[.int .i64 10, .int .i64 31, .slice (some (top ac)) 3 3, .slice none 0 0, .slice none 0 0, .slice none 0 0]] (fun bu bw => ∃ ag ah ai, bu = .slice ag ah ai ∧ SemH P (Builtin.append_ #[T.sl_uint8, T.sl_uint8] T.sl_uint8 #[.slice ad ae af, .slice ag ah ai]) (fun bx aj => ∃ ak am an, bx = .slice ak am an ∧ bd (al aj #[.string (mkS ([47] : List UInt8)), .string (mkS ([] : List UInt8))] T.string) fun ao => bd (al ao #[.bool false] T.bool) fun bz => CallsH P F.qca [.int .i64 0, .agg #[.int .i64 10, .int .i64 40, .slice none 0 0, .slice (some (top aj)) 2 2, .slice (some (top ao)) 1 1, .slice none 0 0]] (fun ca cb => ∃ aq ar au, ca = .slice aq ar au ∧ SemH P (Builtin.append_ #[T.sl_uint8, T.sl_uint8] T.sl_uint8 #[.slice ak am an, .slice aq ar au]) (fun cd aw => ∃ ax ay az, cd = .slice ax ay az ∧ bd (al aw #[.string (mkS ([] : List UInt8))] T.string) fun ce => CallsH P F.qca [.int .i64 1, .agg #[.int .i64 20, .int .i64 10, .slice none 0 0, .slice (some (top aw)) 1 1, .slice none 0 0, .slice none 0 0]] (fun cf cg => ∃ ba bb bc, cf = .slice ba bb bc ∧ SemH P (Builtin.append_ #[T.sl_uint8, T.sl_uint8] T.sl_uint8 #[.slice ax ay az, .slice ba bb bc]) (fun ci be => ∃ bf bg bh, ci = .slice bf bg bh ∧ bd (al be #[.string (mkS ([] : List UInt8))] T.string) fun cj => CallsH P F.qca [.int .i64 2, .agg #[.int .i64 20, .int .i64 10, .slice none 0 0, .slice (some (top be)) 1 1, .slice none 0 0, .slice none 0 0]] (fun ck cm => ∃ bi bj bk, ck = .slice bi bj bk ∧ SemH P (Builtin.append_ #[T.sl_uint8, T.sl_uint8] T.sl_uint8 #[.slice bf bg bh, .slice bi bj bk]) (fun co cp => ∃ bl bm bp, co = .slice bl bm bp ∧ K (.slice bl bm bp) cp) cm) cj) cg) ce) cb) bz) bw) bt) br) h9) h5) h1
def qce.plan (K : KT) : Plan := .go
theorem qce.ev_eq : qce.p0 = fun K  h => Ev P Tryz.f10 (qce.plan K) K [] h := by kernel_rfl
theorem qce.obl (K : KT) : Obl P Tryz.f10 (qce.plan K) K :=
  obl_true (by kernel_rfl)
theorem qce.ok {K : KT}  {h : Heap} (H : qce.p0 K  h) : CallsH P F.qce [] K h :=
  calls_of_Ev (qce.plan K) Tryz.func10 (by kernel_rfl) (qce.obl K) (by rw [qce.ev_eq] at H; exact H)
end Go.Proofs.YtjapglfpjhljpaaGreat.Pr
end
section
set_option linter.unusedVariables false
set_option maxRecDepth 100000
namespace Go.Proofs.YtjapglfpjhljpaaGreat.Pr
open Go Go.Lift Go.Proofs
def qch.p0 (K : KT) (s_0 : List UInt8) (t1 : List UInt8) (h : Heap) : Prop :=
  CallsH P F.qbl [.string (mkS s_0), .string (mkS t1)] (fun v1 h2 => ∃ b3, v1 = .bool b3 ∧ K (.bool b3) h2) h
def qch.plan (K : KT) : Plan := .go
theorem qch.ev_eq : qch.p0 = fun K s_0 t1 h => Ev P Tryz.f73 (qch.plan K) K [.string (mkS s_0), .string (mkS t1)] h := by kernel_rfl
theorem qch.obl (K : KT) : Obl P Tryz.f73 (qch.plan K) K :=
  obl_true (by kernel_rfl)
theorem qch.ok {K : KT} {s_0 : List UInt8} {t1 : List UInt8} {h : Heap} (H : qch.p0 K s_0 t1 h) : CallsH P F.qch [.string (mkS s_0), .string (mkS t1)] K h :=
  calls_of_Ev (qch.plan K) Tryz.func73 (by kernel_rfl) (qch.obl K) (by rw [qch.ev_eq] at H; exact H)
end Go.Proofs.YtjapglfpjhljpaaGreat.Pr
end
section
set_option linter.unusedVariables false
set_option maxRecDepth 100000
namespace Go.Proofs.YtjapglfpjhljpaaGreat.Pr
open Go Go.Lift Go.Proofs
def qbl.p0 (K : KT) (s_0 : List UInt8) (t1 : List UInt8) (h : Heap) : Prop :=
  ((decide (((List.length s_0 : Nat) : Int) ≥ ((List.length t1 : Nat) : Int))) = true → inB ((List.length t1 : Nat) : Int) (List.length s_0) ∧ bd (((List.take (Int.toNat ((List.length t1 : Nat) : Int)) s_0) == t1) : Bool) fun b1 => K (.bool b1) h) ∧ ((decide (((List.length s_0 : Nat) : Int) ≥ ((List.length t1 : Nat) : Int))) = false → K (.bool false) h)
def qbl.plan (K : KT) : Plan := .go
theorem qbl.ev_eq : qbl.p0 = fun K s_0 t1 h => Ev P Tryz.f91 (qbl.plan K) K [.string (mkS s_0), .string (mkS t1)] h := by kernel_rfl
theorem qbl.obl (K : KT) : Obl P Tryz.f91 (qbl.plan K) K :=
  obl_true (by kernel_rfl)
theorem qbl.ok {K : KT} {s_0 : List UInt8} {t1 : List UInt8} {h : Heap} (H : qbl.p0 K s_0 t1 h) : CallsH P F.qbl [.string (mkS s_0), .string (mkS t1)] K h :=
  calls_of_Ev (qbl.plan K) Tryz.func91 (by kernel_rfl) (qbl.obl K) (by rw [qbl.ev_eq] at H; exact H)
end Go.Proofs.YtjapglfpjhljpaaGreat.Pr
end
section
set_option linter.unusedVariables false
set_option maxRecDepth 100000
namespace Go.Proofs.YtjapglfpjhljpaaGreat.Pr
open Go Go.Lift Go.Proofs
def qaw.p0 (K : KT) (m_0 : Option Nat) (h : Heap) : Prop :=
  bd (al h #[.map m_0] T.map_int_p_chans_Asm) fun h1 => K (.func (.func F.maps_Keys_map_int_chans_Asm_int_chans_Asm_1) #[] #[.pointer (some (top h))]) h1
def qaw.plan (K : KT) : Plan := .go
theorem qaw.ev_eq : qaw.p0 = fun K m_0 h => Ev P Tryz.f31 (qaw.plan K) K [.map m_0] h := by kernel_rfl
theorem qaw.obl (K : KT) : Obl P Tryz.f31 (qaw.plan K) K :=
  obl_true (by kernel_rfl)
theorem qaw.ok {K : KT} {m_0 : Option Nat} {h : Heap} (H : qaw.p0 K m_0 h) : CallsH P F.qaw [.map m_0] K h :=
  calls_of_Ev (qaw.plan K) Tryz.func31 (by kernel_rfl) (qaw.obl K) (by rw [qaw.ev_eq] at H; exact H)
end Go.Proofs.YtjapglfpjhljpaaGreat.Pr
end
section
set_option linter.unusedVariables false
set_option maxRecDepth 100000
namespace Go.Proofs.YtjapglfpjhljpaaGreat.Pr
open Go Go.Lift Go.Proofs
def qcb.p0 (K : KT) (seq_0 : Value) (h : Heap) : Prop :=
  CallsH P F.slices_AppendSeq_int_int [.slice none 0 0, seq_0] (fun v1 h2 => ∃ a3 p q, v1 = .slice a3 p q ∧ K (.slice a3 p q) h2) h
def qcb.plan (K : KT) : Plan := .go
theorem qcb.ev_eq : qcb.p0 = fun K seq_0 h => Ev P Tryz.f60 (qcb.plan K) K [seq_0] h := by kernel_rfl
theorem qcb.obl (K : KT) : Obl P Tryz.f60 (qcb.plan K) K :=
  obl_true (by kernel_rfl)
theorem qcb.ok {K : KT} {seq_0 : Value} {h : Heap} (H : qcb.p0 K seq_0 h) : CallsH P F.qcb [seq_0] K h :=
  calls_of_Ev (qcb.plan K) Tryz.func60 (by kernel_rfl) (qcb.obl K) (by rw [qcb.ev_eq] at H; exact H)
def qaa.j2 (K : KT) (R1 : OA → Nat → Nat → Int → Int → Int → Heap → Prop) (data_0 : OA) (data_0l : Nat) (data_0c : Nat) (a_1 : Int) (b_2 : Int) (i_6 : Int) (h : Heap) : Prop :=
  bd ((IntKind.i64.wrap (i_6 + 1)) : Int) fun i_2 => R1 data_0 data_0l data_0c a_1 b_2 i_2 h
def qaa.j2.l : Live := [(0, .slice), (1, .int .i64), (2, .int .i64), (6, .int .i64)]
def qaa.j2.j (K : KT) (R1 : OA → Nat → Nat → Int → Int → Int → Heap → Prop) : Tup qaa.j2.l → Heap → Prop := fun x h => qaa.j2 K R1 x.1.1 x.1.2.1 x.1.2.2 x.2.1 x.2.2.1 x.2.2.2.1 h
def qaa.j4 (K : KT) (R1 : OA → Nat → Nat → Int → Int → Int → Heap → Prop) (R3 : OA → Nat → Nat → Int → Int → Int → Int → Heap → Prop) (data_0 : OA) (data_0l : Nat) (data_0c : Nat) (a_1 : Int) (b_2 : Int) (i_6 : Int) (j_7 : Int) (p : Bool) (h : Heap) : Prop :=
  (p = true → ∃ p3, data_0 = some p3 ∧ (0 : Int) ≤ (IntKind.i64.wrap (j_7 - 1)) ∧ (IntKind.i64.wrap (j_7 - 1)) < ((data_0l : Nat) : Int) ∧ ∃ p4, data_0 = some p4 ∧ (0 : Int) ≤ j_7 ∧ j_7 < ((data_0l : Nat) : Int) ∧ ∃ n5, hcell h (Addr.add p3 (Int.toNat (IntKind.i64.wrap (j_7 - 1)) * 1)) = some (.int .i64 n5) ∧ ∃ n6, hcell h (Addr.add p4 (Int.toNat j_7 * 1)) = some (.int .i64 n6) ∧ ∃ p7, data_0 = some p7 ∧ (0 : Int) ≤ j_7 ∧ j_7 < ((data_0l : Nat) : Int) ∧ ∃ h8, stC h (Addr.add p7 (Int.toNat j_7 * 1)) 0 [.int .i64 n5] = some h8 ∧ ∃ p9, data_0 = some p9 ∧ (0 : Int) ≤ (IntKind.i64.wrap (j_7 - 1)) ∧ (IntKind.i64.wrap (j_7 - 1)) < ((data_0l : Nat) : Int) ∧ ∃ q, stC h8 (Addr.add p9 (Int.toNat (IntKind.i64.wrap (j_7 - 1)) * 1)) 0 [.int .i64 n6] = some q ∧ bd ((IntKind.i64.wrap (j_7 - 1)) : Int) fun j_11 => R3 data_0 data_0l data_0c a_1 b_2 i_6 j_11 q) ∧ (p = false → qaa.j2 K R1 data_0 data_0l data_0c a_1 b_2 i_6 h)
def qaa.j4.l : Live := [(0, .slice), (1, .int .i64), (2, .int .i64), (6, .int .i64), (7, .int .i64), (30, .bool)]
def qaa.j4.j (K : KT) (R1 : OA → Nat → Nat → Int → Int → Int → Heap → Prop) (R3 : OA → Nat → Nat → Int → Int → Int → Int → Heap → Prop) : Tup qaa.j4.l → Heap → Prop := fun x h => qaa.j4 K R1 R3 x.1.1 x.1.2.1 x.1.2.2 x.2.1 x.2.2.1 x.2.2.2.1 x.2.2.2.2.1 x.2.2.2.2.2.1 h
def qaa.L3 (K : KT) (R1 : OA → Nat → Nat → Int → Int → Int → Heap → Prop) : Nat → OA → Nat → Nat → Int → Int → Int → Int → Heap → Prop
  | 0, _, _, _, _, _, _, _, _ => False
  | fuel + 1, data_0, data_0l, data_0c, a_1, b_2, i_6, j_7, h => ((decide (j_7 > a_1)) = true → ∃ p, data_0 = some p ∧ (0 : Int) ≤ j_7 ∧ j_7 < ((data_0l : Nat) : Int) ∧ ∃ q, data_0 = some q ∧ (0 : Int) ≤ (IntKind.i64.wrap (j_7 - 1)) ∧ (IntKind.i64.wrap (j_7 - 1)) < ((data_0l : Nat) : Int) ∧ ∃ r, hcell h (Addr.add p (Int.toNat j_7 * 1)) = some (.int .i64 r) ∧ ∃ x, hcell h (Addr.add q (Int.toNat (IntKind.i64.wrap (j_7 - 1)) * 1)) = some (.int .i64 x) ∧ CallsH P F.qde [.int .i64 r, .int .i64 x] (fun aa ab => ∃ z, aa = .bool z ∧ qaa.j4 K R1 (qaa.L3 K R1 fuel) data_0 data_0l data_0c a_1 b_2 i_6 j_7 z ab) h) ∧ ((decide (j_7 > a_1)) = false → qaa.j4 K R1 (qaa.L3 K R1 fuel) data_0 data_0l data_0c a_1 b_2 i_6 j_7 false h)
termination_by structural n => n
def qaa.L3.l : Live := [(0, .slice), (1, .int .i64), (2, .int .i64), (6, .int .i64), (7, .int .i64)]
def qaa.L3.j (K : KT) (R1 : OA → Nat → Nat → Int → Int → Int → Heap → Prop) : Nat → Tup qaa.L3.l → Heap → Prop := fun n x h => qaa.L3 K R1 n x.1.1 x.1.2.1 x.1.2.2 x.2.1 x.2.2.1 x.2.2.2.1 x.2.2.2.2.1 h
def qaa.L1 (K : KT) : Nat → OA → Nat → Nat → Int → Int → Int → Heap → Prop
  | 0, _, _, _, _, _, _, _ => False
  | fuel + 1, data_0, data_0l, data_0c, a_1, b_2, i_6, h => ((decide (i_6 < b_2)) = true → ∃ fuel19, qaa.L3 K (qaa.L1 K fuel) fuel19 data_0 data_0l data_0c a_1 b_2 i_6 i_6 h) ∧ ((decide (i_6 < b_2)) = false → K (.tuple #[]) h)
termination_by structural n => n
def qaa.L1.l : Live := [(0, .slice), (1, .int .i64), (2, .int .i64), (6, .int .i64)]
def qaa.L1.j (K : KT) : Nat → Tup qaa.L1.l → Heap → Prop := fun n x h => qaa.L1 K n x.1.1 x.1.2.1 x.1.2.2 x.2.1 x.2.2.1 x.2.2.2.1 h
def qaa.p0 (K : KT) (data_0 : OA) (data_0l : Nat) (data_0c : Nat) (a_1 : Int) (b_2 : Int) (h : Heap) : Prop :=
  bd ((IntKind.i64.wrap (a_1 + 1)) : Int) fun i_1 => ∃ fuel20, qaa.L1 K fuel20 data_0 data_0l data_0c a_1 b_2 i_1 h
def qaa.plan (K : KT) : Plan := (.seq .go (.block (.loop qaa.L1.l (qaa.L1.j K) (fun n1 => (.seq .go (.cut qaa.j2.l (qaa.j2.j K (qaa.L1 K n1)) (.block (.seq .go (.block (.loop qaa.L3.l (qaa.L3.j K (qaa.L1 K n1)) (fun n3 => (.seq (.cut qaa.j4.l (qaa.j4.j K (qaa.L1 K n1) (qaa.L3 K (qaa.L1 K n1) n3)) (.orders (.op 0 (.op 1 (.op 2 (.op 3 (.op 4 (.op 5 (.op 6 (.op 8 (.op 9 (.op 10 (.op 11 (.op 7 (.op 12 (.op 13 (.op 14 .nil)))))))))))))))) .go) (.seq (.block (.orders (.op 0 (.op 1 (.op 2 (.op 3 (.op 4 (.op 5 (.op 6 (.op 7 (.op 8 (.op 10 (.op 11 (.op 12 (.op 9 (.op 13 (.op 14 (.op 15 (.op 16 (.op 17 .nil)))))))))))))))))))) .go))))))) .go))))))
theorem qaa.ev_eq : qaa.p0 = fun K data_0 data_0l data_0c a_1 b_2 h => Ev P Tryz.f99 (qaa.plan K) K [.slice data_0 data_0l data_0c, .int .i64 a_1, .int .i64 b_2] h := by kernel_rfl
theorem qaa.obl (K : KT) : Obl P Tryz.f99 (qaa.plan K) K :=
  obl_of (R := (∀ x h, ¬ (qaa.L1.j K) 0 x h) ∧ ImpN (qaa.L1.j K) ∧ (∀ (n1 : Nat), (∀ x h, ¬ (qaa.L3.j K (qaa.L1 K n1)) 0 x h) ∧ ImpN (qaa.L3.j K (qaa.L1 K n1)) ∧ (∀ (n3 : Nat), DrawOK P Tryz.f99.ntmps (opsAt 4 (bodyOf Tryz.f99)) (.op 0 (.op 1 (.op 2 (.op 3 (.op 4 (.op 5 (.op 6 (.op 8 (.op 9 (.op 10 (.op 11 (.op 7 (.op 12 (.op 13 (.op 14 .nil))))))))))))))) ∧ Imp (qaa.j4.j K (qaa.L1 K n1) (qaa.L3 K (qaa.L1 K n1) n3)) ∧ DrawOK P Tryz.f99.ntmps (opsAt 6 (bodyOf Tryz.f99)) (.op 0 (.op 1 (.op 2 (.op 3 (.op 4 (.op 5 (.op 6 (.op 7 (.op 8 (.op 10 (.op 11 (.op 12 (.op 9 (.op 13 (.op 14 (.op 15 (.op 16 (.op 17 .nil)))))))))))))))))) ∧ True) ∧ Imp (qaa.j2.j K (qaa.L1 K n1)) ∧ True) ∧ True) (by kernel_rfl) ⟨fun _ _ H => H, impN _, fun _ => ⟨fun _ _ H => H, impN _, fun _ => ⟨draw_ok (by kernel_rfl), ⟨imp _, ⟨draw_ok (by kernel_rfl), trivial⟩⟩⟩, ⟨imp _, trivial⟩⟩, trivial⟩
theorem qaa.ok {K : KT} {data_0 : OA} {data_0l : Nat} {data_0c : Nat} {a_1 : Int} {b_2 : Int} {h : Heap} (H : qaa.p0 K data_0 data_0l data_0c a_1 b_2 h) : CallsH P F.qaa [.slice data_0 data_0l data_0c, .int .i64 a_1, .int .i64 b_2] K h :=
  calls_of_Ev (qaa.plan K) Tryz.func99 (by kernel_rfl) (qaa.obl K) (by rw [qaa.ev_eq] at H; exact H)
def qac.j5 (K : KT) (R1 : OA → Nat → Nat → Int → Int → Int → Bool → Bool → Heap → Prop) (t0 : OA) (p : Nat) (q : Nat) (t1 : Int) (t2 : Int) (t3 : Int) (t8 : Bool) (t9 : Bool) (ag : Int) (ab : Int) (ac : Bool) (h : Heap) : Prop :=
  (ac = true → CallsH P F.slices_partitionEqualOrdered_int [.slice t0 p q, .int .i64 t1, .int .i64 t2, .int .i64 ab] (fun ah ai => ∃ ad, ah = .int .i64 ad ∧ R1 t0 p q ad t2 t3 t8 t9 ai) h) ∧ (ac = false → CallsH P F.slices_partitionOrdered_int [.slice t0 p q, .int .i64 t1, .int .i64 t2, .int .i64 ab] (fun aj ae => ∃ r x, aj = .tuple #[.int .i64 r, .bool x] ∧ bd ((IntKind.i64.wrap (r - t1)) : Int) fun z => bd ((IntKind.i64.wrap (t2 - r)) : Int) fun aa => (8 : Int) ≠ 0 ∧ bd ((IntKind.i64.wrap (Int.tdiv ag 8)) : Int) fun af => ((decide (z < aa)) = true → bd ((decide (z ≥ af)) : Bool) fun ak => CallsH P F.qac [.slice t0 p q, .int .i64 t1, .int .i64 r, .int .i64 t3] (fun am an => am = .tuple #[] ∧ bd ((IntKind.i64.wrap (r + 1)) : Int) fun ao => R1 t0 p q ao t2 t3 ak x an) ae) ∧ ((decide (z < aa)) = false → bd ((decide (aa ≥ af)) : Bool) fun aq => CallsH P F.qac [.slice t0 p q, .int .i64 (IntKind.i64.wrap (r + 1)), .int .i64 t2, .int .i64 t3] (fun ar au => ar = .tuple #[] ∧ R1 t0 p q t1 r t3 aq x au) ae)) h)
def qac.j5.l : Live := [(0, .slice), (1, .int .i64), (2, .int .i64), (3, .int .i64), (8, .bool), (9, .bool), (10, .int .i64), (11, .int .i64), (87, .bool)]
def qac.j5.j (K : KT) (R1 : OA → Nat → Nat → Int → Int → Int → Bool → Bool → Heap → Prop) : Tup qac.j5.l → Heap → Prop := fun x h => qac.j5 K R1 x.1.1 x.1.2.1 x.1.2.2 x.2.1 x.2.2.1 x.2.2.2.1 x.2.2.2.2.1 x.2.2.2.2.2.1 x.2.2.2.2.2.2.1 x.2.2.2.2.2.2.2.1 x.2.2.2.2.2.2.2.2.1 h
def qac.j4 (K : KT) (R1 : OA → Nat → Nat → Int → Int → Int → Bool → Bool → Heap → Prop) (t0 : OA) (q : Nat) (r : Nat) (t1 : Int) (t2 : Int) (t3 : Int) (t8 : Bool) (t9 : Bool) (x : Int) (p : Int) (h : Heap) : Prop :=
  ((decide (t1 > 0)) = true → ∃ z, t0 = some z ∧ (0 : Int) ≤ (IntKind.i64.wrap (t1 - 1)) ∧ (IntKind.i64.wrap (t1 - 1)) < ((q : Nat) : Int) ∧ ∃ aa, t0 = some aa ∧ (0 : Int) ≤ p ∧ p < ((q : Nat) : Int) ∧ ∃ ab, hcell h (Addr.add z (Int.toNat (IntKind.i64.wrap (t1 - 1)) * 1)) = some (.int .i64 ab) ∧ ∃ ac, hcell h (Addr.add aa (Int.toNat p * 1)) = some (.int .i64 ac) ∧ CallsH P F.qde [.int .i64 ab, .int .i64 ac] (fun ae af => ∃ ad, ae = .bool ad ∧ qac.j5 K R1 t0 q r t1 t2 t3 t8 t9 x p (!ad) af) h) ∧ ((decide (t1 > 0)) = false → qac.j5 K R1 t0 q r t1 t2 t3 t8 t9 x p false h)
def qac.j4.l : Live := [(0, .slice), (1, .int .i64), (2, .int .i64), (3, .int .i64), (8, .bool), (9, .bool), (10, .int .i64), (11, .int .i64)]
def qac.j4.j (K : KT) (R1 : OA → Nat → Nat → Int → Int → Int → Bool → Bool → Heap → Prop) : Tup qac.j4.l → Heap → Prop := fun x h => qac.j4 K R1 x.1.1 x.1.2.1 x.1.2.2 x.2.1 x.2.2.1 x.2.2.2.1 x.2.2.2.2.1 x.2.2.2.2.2.1 x.2.2.2.2.2.2.1 x.2.2.2.2.2.2.2.1 h
def qac.j6 (K : KT) (R1 : OA → Nat → Nat → Int → Int → Int → Bool → Bool → Heap → Prop) (t0 : OA) (p : Nat) (q : Nat) (t1 : Int) (t2 : Int) (t3 : Int) (t8 : Bool) (t9 : Bool) (x : Int) (z : Int) (aa : Bool) (h : Heap) : Prop :=
  (aa = true → CallsH P F.slices_partialInsertionSortOrdered_int [.slice t0 p q, .int .i64 t1, .int .i64 t2] (fun ac ab => ∃ r, ac = .bool r ∧ (r = true → K (.tuple #[]) ab) ∧ (r = false → qac.j4 K R1 t0 p q t1 t2 t3 t8 t9 x z ab)) h) ∧ (aa = false → qac.j4 K R1 t0 p q t1 t2 t3 t8 t9 x z h)
def qac.j6.l : Live := [(0, .slice), (1, .int .i64), (2, .int .i64), (3, .int .i64), (8, .bool), (9, .bool), (10, .int .i64), (11, .int .i64), (68, .bool)]
def qac.j6.j (K : KT) (R1 : OA → Nat → Nat → Int → Int → Int → Bool → Bool → Heap → Prop) : Tup qac.j6.l → Heap → Prop := fun x h => qac.j6 K R1 x.1.1 x.1.2.1 x.1.2.2 x.2.1 x.2.2.1 x.2.2.2.1 x.2.2.2.2.1 x.2.2.2.2.2.1 x.2.2.2.2.2.2.1 x.2.2.2.2.2.2.2.1 x.2.2.2.2.2.2.2.2.1 h
def qac.j3 (K : KT) (R1 : OA → Nat → Nat → Int → Int → Int → Bool → Bool → Heap → Prop) (t0 : OA) (p : Nat) (q : Nat) (t1 : Int) (t2 : Int) (t3 : Int) (t8 : Bool) (t9 : Bool) (r : Int) (x : Int) (z : Int) (h : Heap) : Prop :=
  (t8 = true → (t9 = true → qac.j6 K R1 t0 p q t1 t2 t3 t8 t9 r x (z == 1) h) ∧ (t9 = false → qac.j6 K R1 t0 p q t1 t2 t3 t8 t9 r x false h)) ∧ (t8 = false → qac.j6 K R1 t0 p q t1 t2 t3 t8 t9 r x false h)
def qac.j3.l : Live := [(0, .slice), (1, .int .i64), (2, .int .i64), (3, .int .i64), (8, .bool), (9, .bool), (10, .int .i64), (11, .int .i64), (12, .int .i64)]
def qac.j3.j (K : KT) (R1 : OA → Nat → Nat → Int → Int → Int → Bool → Bool → Heap → Prop) : Tup qac.j3.l → Heap → Prop := fun x h => qac.j3 K R1 x.1.1 x.1.2.1 x.1.2.2 x.2.1 x.2.2.1 x.2.2.2.1 x.2.2.2.2.1 x.2.2.2.2.2.1 x.2.2.2.2.2.2.1 x.2.2.2.2.2.2.2.1 x.2.2.2.2.2.2.2.2.1 h
def qac.j2 (K : KT) (R1 : OA → Nat → Nat → Int → Int → Int → Bool → Bool → Heap → Prop) (t0 : OA) (p : Nat) (q : Nat) (t1 : Int) (t2 : Int) (t3 : Int) (t8 : Bool) (t9 : Bool) (r : Int) (h : Heap) : Prop :=
  CallsH P F.slices_choosePivotOrdered_int [.slice t0 p q, .int .i64 t1, .int .i64 t2] (fun v6 h7 => ∃ n8 n9, v6 = .tuple #[.int .i64 n8, .int .i64 n9] ∧ ((n9 == 2) = true → CallsH P F.slices_reverseRangeOrdered_int [.slice t0 p q, .int .i64 t1, .int .i64 t2] (fun x z => x = .tuple #[] ∧ bd ((IntKind.i64.wrap ((IntKind.i64.wrap (t2 - 1)) - (IntKind.i64.wrap (n8 - t1)))) : Int) fun aa => qac.j3 K R1 t0 p q t1 t2 t3 t8 t9 r aa 1 z) h7) ∧ ((n9 == 2) = false → qac.j3 K R1 t0 p q t1 t2 t3 t8 t9 r n8 n9 h7)) h
def qac.j2.l : Live := [(0, .slice), (1, .int .i64), (2, .int .i64), (3, .int .i64), (8, .bool), (9, .bool), (10, .int .i64)]
def qac.j2.j (K : KT) (R1 : OA → Nat → Nat → Int → Int → Int → Bool → Bool → Heap → Prop) : Tup qac.j2.l → Heap → Prop := fun x h => qac.j2 K R1 x.1.1 x.1.2.1 x.1.2.2 x.2.1 x.2.2.1 x.2.2.2.1 x.2.2.2.2.1 x.2.2.2.2.2.1 x.2.2.2.2.2.2.1 h
def qac.L1 (K : KT) : Nat → OA → Nat → Nat → Int → Int → Int → Bool → Bool → Heap → Prop
  | 0, _, _, _, _, _, _, _, _, _ => False
  | fuel + 1, t0, p, q, t1, t2, t3, t8, t9, h => bd ((IntKind.i64.wrap (t2 - t1)) : Int) fun n1 => ((decide (n1 ≤ 12)) = true → CallsH P F.qaa [.slice t0 p q, .int .i64 t1, .int .i64 t2] (fun v2 h3 => v2 = .tuple #[] ∧ K (.tuple #[]) h3) h) ∧ ((decide (n1 ≤ 12)) = false → ((t3 == 0) = true → CallsH P F.slices_heapSortOrdered_int [.slice t0 p q, .int .i64 t1, .int .i64 t2] (fun v4 h5 => v4 = .tuple #[] ∧ K (.tuple #[]) h5) h) ∧ ((t3 == 0) = false → ((!t8) = true → CallsH P F.slices_breakPatternsOrdered_int [.slice t0 p q, .int .i64 t1, .int .i64 t2] (fun r x => r = .tuple #[] ∧ bd ((IntKind.i64.wrap (t3 - 1)) : Int) fun z => qac.j2 K (qac.L1 K fuel) t0 p q t1 t2 z t8 t9 n1 x) h) ∧ ((!t8) = false → qac.j2 K (qac.L1 K fuel) t0 p q t1 t2 t3 t8 t9 n1 h)))
termination_by structural n => n
def qac.L1.l : Live := [(0, .slice), (1, .int .i64), (2, .int .i64), (3, .int .i64), (8, .bool), (9, .bool)]
def qac.L1.j (K : KT) : Nat → Tup qac.L1.l → Heap → Prop := fun n x h => qac.L1 K n x.1.1 x.1.2.1 x.1.2.2 x.2.1 x.2.2.1 x.2.2.2.1 x.2.2.2.2.1 x.2.2.2.2.2.1 h
def qac.p0 (K : KT) (t0 : OA) (p : Nat) (q : Nat) (t1 : Int) (t2 : Int) (t3 : Int) (h : Heap) : Prop :=
  ∃ fuel43, qac.L1 K fuel43 t0 p q t1 t2 t3 true true h
def qac.plan (K : KT) : Plan := (.seq .go (.seq .go (.block (.loop qac.L1.l (qac.L1.j K) (fun n1 => (.block (.seq .go (.seq .go (.seq .go (.cut qac.j2.l (qac.j2.j K (qac.L1 K n1)) .go (.seq .go (.cut qac.j3.l (qac.j3.j K (qac.L1 K n1)) .go (.cut qac.j4.l (qac.j4.j K (qac.L1 K n1)) (.cut qac.j6.l (qac.j6.j K (qac.L1 K n1)) .go .go) (.seq (.cut qac.j5.l (qac.j5.j K (qac.L1 K n1)) (.orders (.op 0 (.op 1 (.op 2 (.op 3 (.op 4 (.op 5 (.op 6 (.op 8 (.op 9 (.op 10 (.op 7 (.op 11 (.op 12 (.op 13 (.op 14 .nil)))))))))))))))) .go) .go))))))))))))))
theorem qac.ev_eq : qac.p0 = fun K t0 p q t1 t2 t3 h => Ev P Tryz.f81 (qac.plan K) K [.slice t0 p q, .int .i64 t1, .int .i64 t2, .int .i64 t3] h := by kernel_rfl
theorem qac.obl (K : KT) : Obl P Tryz.f81 (qac.plan K) K :=
  obl_of (R := (∀ x h, ¬ (qac.L1.j K) 0 x h) ∧ ImpN (qac.L1.j K) ∧ (∀ (n1 : Nat), Imp (qac.j2.j K (qac.L1 K n1)) ∧ Imp (qac.j3.j K (qac.L1 K n1)) ∧ Imp (qac.j6.j K (qac.L1 K n1)) ∧ Imp (qac.j4.j K (qac.L1 K n1)) ∧ DrawOK P Tryz.f81.ntmps (opsAt 17 (bodyOf Tryz.f81)) (.op 0 (.op 1 (.op 2 (.op 3 (.op 4 (.op 5 (.op 6 (.op 8 (.op 9 (.op 10 (.op 7 (.op 11 (.op 12 (.op 13 (.op 14 .nil))))))))))))))) ∧ Imp (qac.j5.j K (qac.L1 K n1)) ∧ True) ∧ True) (by kernel_rfl) ⟨fun _ _ H => H, impN _, fun _ => ⟨imp _, ⟨imp _, ⟨imp _, ⟨imp _, ⟨draw_ok (by kernel_rfl), ⟨imp _, trivial⟩⟩⟩⟩⟩⟩, trivial⟩
theorem qac.ok {K : KT} {t0 : OA} {p : Nat} {q : Nat} {t1 : Int} {t2 : Int} {t3 : Int} {h : Heap} (H : qac.p0 K t0 p q t1 t2 t3 h) : CallsH P F.qac [.slice t0 p q, .int .i64 t1, .int .i64 t2, .int .i64 t3] K h :=
  calls_of_Ev (qac.plan K) Tryz.func81 (by kernel_rfl) (qac.obl K) (by rw [qac.ev_eq] at H; exact H)
def qby.p0 (K : KT) (t0 : OA) (p : Nat) (q : Nat) (h : Heap) : Prop :=
  bd (((p : Nat) : Int) : Int) fun n_1 => CallsH P F.math_bits_Len [.int .u64 (IntKind.u64.wrap n_1)] (fun v2 h3 => ∃ n4, v2 = .int .i64 n4 ∧ CallsH P F.qac [.slice t0 p q, .int .i64 0, .int .i64 n_1, .int .i64 n4] (fun v5 h6 => v5 = .tuple #[] ∧ K (.tuple #[]) h6) h3) h
def qby.plan (K : KT) : Plan := .go
theorem qby.ev_eq : qby.p0 = fun K t0 p q h => Ev P Tryz.f61 (qby.plan K) K [.slice t0 p q] h := by kernel_rfl
theorem qby.obl (K : KT) : Obl P Tryz.f61 (qby.plan K) K :=
  obl_true (by kernel_rfl)
theorem qby.ok {K : KT} {t0 : OA} {p : Nat} {q : Nat} {h : Heap} (H : qby.p0 K t0 p q h) : CallsH P F.qby [.slice t0 p q] K h :=
  calls_of_Ev (qby.plan K) Tryz.func61 (by kernel_rfl) (qby.obl K) (by rw [qby.ev_eq] at H; exact H)
def qcg.p0 (K : KT) (seq_0 : Value) (h : Heap) : Prop :=
  CallsH P F.qcb [seq_0] (fun v1 h2 => ∃ a3 p q, v1 = .slice a3 p q ∧ CallsH P F.qby [.slice a3 p q] (fun v4 h5 => v4 = .tuple #[] ∧ K (.slice a3 p q) h5) h2) h
def qcg.plan (K : KT) : Plan := .go
theorem qcg.ev_eq : qcg.p0 = fun K seq_0 h => Ev P Tryz.f30 (qcg.plan K) K [seq_0] h := by kernel_rfl
theorem qcg.obl (K : KT) : Obl P Tryz.f30 (qcg.plan K) K :=
  obl_true (by kernel_rfl)
theorem qcg.ok {K : KT} {seq_0 : Value} {h : Heap} (H : qcg.p0 K seq_0 h) : CallsH P F.qcg [seq_0] K h :=
  calls_of_Ev (qcg.plan K) Tryz.func30 (by kernel_rfl) (qcg.obl K) (by rw [qcg.ev_eq] at H; exact H)
end Go.Proofs.YtjapglfpjhljpaaGreat.Pr
end
section
set_option linter.unusedVariables false
set_option maxRecDepth 100000
namespace Go.Proofs.YtjapglfpjhljpaaGreat.Pr
open Go Go.Lift Go.Proofs
def qda.p0 (K : KT) (t0 : Int) (h : Heap) : Prop :=
  bd ((t0 != t0) : Bool) fun b1 => K (.bool b1) h
def qda.plan (K : KT) : Plan := .go
theorem qda.ev_eq : qda.p0 = fun K t0 h => Ev P Tryz.f128 (qda.plan K) K [.int .i64 t0] h := by kernel_rfl
theorem qda.obl (K : KT) : Obl P Tryz.f128 (qda.plan K) K :=
  obl_true (by kernel_rfl)
theorem qda.ok {K : KT} {t0 : Int} {h : Heap} (H : qda.p0 K t0 h) : CallsH P F.qda [.int .i64 t0] K h :=
  calls_of_Ev (qda.plan K) Tryz.func128 (by kernel_rfl) (qda.obl K) (by rw [qda.ev_eq] at H; exact H)
def qde.p0 (K : KT) (t0 : Int) (y_1 : Int) (h : Heap) : Prop :=
  CallsH P F.qda [.int .i64 t0] (fun v1 h2 => ∃ b3, v1 = .bool b3 ∧ (b3 = true → CallsH P F.qda [.int .i64 y_1] (fun v4 h5 => ∃ b6, v4 = .bool b6 ∧ ((!b6) = false → bd ((decide (t0 < y_1)) : Bool) fun b7 => K (.bool b7) h5) ∧ ((!b6) = true → K (.bool true) h5)) h2) ∧ (b3 = false → bd ((decide (t0 < y_1)) : Bool) fun b8 => K (.bool b8) h2)) h
def qde.plan (K : KT) : Plan := .go
theorem qde.ev_eq : qde.p0 = fun K t0 y_1 h => Ev P Tryz.f105 (qde.plan K) K [.int .i64 t0, .int .i64 y_1] h := by kernel_rfl
theorem qde.obl (K : KT) : Obl P Tryz.f105 (qde.plan K) K :=
  obl_true (by kernel_rfl)
theorem qde.ok {K : KT} {t0 : Int} {y_1 : Int} {h : Heap} (H : qde.p0 K t0 y_1 h) : CallsH P F.qde [.int .i64 t0, .int .i64 y_1] K h :=
  calls_of_Ev (qde.plan K) Tryz.func105 (by kernel_rfl) (qde.obl K) (by rw [qde.ev_eq] at H; exact H)
end Go.Proofs.YtjapglfpjhljpaaGreat.Pr
end
section
set_option linter.unusedVariables false
set_option maxRecDepth 100000
namespace Go.Proofs.YtjapglfpjhljpaaGreat.Pr
open Go Go.Lift Go.Proofs
def qag.j2 (K : KT) (t1 : OA) (t2 : OA) (t3 : Addr) (t4 : Bool) (t5 : Addr) (t6 : Bool) (t8 : Bool) (t9 : Int) (h : Heap) : Prop :=
  (t4 = true → ∃ p, hcell h (Addr.add t3 0) = some (.int .i64 p) ∧ ((p == 1) = true → ∃ ad q ae, hcell h (Addr.add t3 2) = some (.slice ad q ae) ∧ ((((q : Nat) : Int) == 8) = true → (t6 = true → ∃ r, hcell h (Addr.add t5 0) = some (.int .i64 r) ∧ ((r == 5) = true → ((!t8) = true → CallsH P F.qco [.pointer t1] (fun af x => ∃ z, af = .int .i64 z ∧ ((z == 6) = true → ((t9 == 5) = true → CallsH P F.qco [.pointer t2] (fun ag ab => ∃ aa, ag = .int .i64 aa ∧ ((aa == 4) = true → CallsH P F.qcl [.pointer t2] (fun ah ai => ∃ aj ac ak, ah = .slice aj ac ak ∧ bd ((((ac : Nat) : Int) == 2) : Bool) fun am => K (.bool am) ai) ab) ∧ ((aa == 4) = false → K (.bool false) ab)) x) ∧ ((t9 == 5) = false → K (.bool false) x)) ∧ ((z == 6) = false → K (.bool false) x)) h) ∧ ((!t8) = false → K (.bool false) h)) ∧ ((r == 5) = false → K (.bool false) h)) ∧ (t6 = false → K (.bool false) h)) ∧ ((((q : Nat) : Int) == 8) = false → K (.bool false) h)) ∧ ((p == 1) = false → K (.bool false) h)) ∧ (t4 = false → K (.bool false) h)
def qag.j2.l : Live := [(1, .ptr), (2, .ptr), (3, .addr), (4, .bool), (5, .addr), (6, .bool), (8, .bool), (9, .int .i64)]
def qag.j2.j (K : KT) : Tup qag.j2.l → Heap → Prop := fun x h => qag.j2 K x.1 x.2.1 x.2.2.1 x.2.2.2.1 x.2.2.2.2.1 x.2.2.2.2.2.1 x.2.2.2.2.2.2.1 x.2.2.2.2.2.2.2.1 h
def qag.j4 (K : KT) (R3 : OA → OA → Addr → Bool → Addr → Bool → Bool → Int → Int → Heap → Prop) (t1 : OA) (t2 : OA) (t3 : Addr) (t4 : Bool) (t5 : Addr) (t6 : Bool) (t8 : Bool) (t9 : Int) (p : Int) (h : Heap) : Prop :=
  bd ((IntKind.i64.wrap (p + 1)) : Int) fun q => R3 t1 t2 t3 t4 t5 t6 t8 t9 q h
def qag.j4.l : Live := [(1, .ptr), (2, .ptr), (3, .addr), (4, .bool), (5, .addr), (6, .bool), (8, .bool), (9, .int .i64), (10, .int .i64)]
def qag.j4.j (K : KT) (R3 : OA → OA → Addr → Bool → Addr → Bool → Bool → Int → Int → Heap → Prop) : Tup qag.j4.l → Heap → Prop := fun x h => qag.j4 K R3 x.1 x.2.1 x.2.2.1 x.2.2.2.1 x.2.2.2.2.1 x.2.2.2.2.2.1 x.2.2.2.2.2.2.1 x.2.2.2.2.2.2.2.1 x.2.2.2.2.2.2.2.2.1 h
def qag.j5 (K : KT) (R3 : OA → OA → Addr → Bool → Addr → Bool → Bool → Int → Int → Heap → Prop) (t1 : OA) (t2 : OA) (t3 : Addr) (t4 : Bool) (t5 : Addr) (t6 : Bool) (t8 : Bool) (t9 : Int) (p : Int) (q : Bool) (h : Heap) : Prop :=
  (q = true → bd ((IntKind.i64.wrap (t9 + 1)) : Int) fun r => qag.j4 K R3 t1 t2 t3 t4 t5 t6 t8 r p h) ∧ (q = false → qag.j4 K R3 t1 t2 t3 t4 t5 t6 t8 t9 p h)
def qag.j5.l : Live := [(1, .ptr), (2, .ptr), (3, .addr), (4, .bool), (5, .addr), (6, .bool), (8, .bool), (9, .int .i64), (10, .int .i64), (57, .bool)]
def qag.j5.j (K : KT) (R3 : OA → OA → Addr → Bool → Addr → Bool → Bool → Int → Int → Heap → Prop) : Tup qag.j5.l → Heap → Prop := fun x h => qag.j5 K R3 x.1 x.2.1 x.2.2.1 x.2.2.2.1 x.2.2.2.2.1 x.2.2.2.2.2.1 x.2.2.2.2.2.2.1 x.2.2.2.2.2.2.2.1 x.2.2.2.2.2.2.2.2.1 x.2.2.2.2.2.2.2.2.2.1 h
def qag.L3 (K : KT) : Nat → OA → OA → Addr → Bool → Addr → Bool → Bool → Int → Int → Heap → Prop
  | 0, _, _, _, _, _, _, _, _, _, _ => False
  | fuel + 1, t1, t2, t3, t4, t5, t6, t8, t9, p, h => ((decide (p < 20)) = true → CallsH P F.qba [.pointer t2] (fun ab r => ∃ x z, ab = .tuple #[.agg (List.toArray x), .bool z] ∧ bd (al r #[.int .i64 0, .int .i64 0, .slice none 0 0, .bool false, .int .i64 0, .int .i64 0, .slice none 0 0, .slice none 0 0, .slice none 0 0, .slice none 0 0, .int .u64 0, .int .i64 0, .string (mkS ([] : List UInt8)), .slice none 0 0, .int .i64 0, .int .i64 0, .int .i64 0] T.api_Event) fun ac => x.length = 17 ∧ ∃ q, stC ac (top r) 0 x = some q ∧ (z = true → ∃ aa, hcell q (Addr.add (top r) 0) = some (.int .i64 aa) ∧ qag.j5 K (qag.L3 K fuel) t1 t2 t3 t4 t5 t6 t8 t9 p (aa == 1) q) ∧ (z = false → qag.j5 K (qag.L3 K fuel) t1 t2 t3 t4 t5 t6 t8 t9 p false q)) h) ∧ ((decide (p < 20)) = false → qag.j2 K t1 t2 t3 t4 t5 t6 t8 t9 h)
termination_by structural n => n
def qag.L3.l : Live := [(1, .ptr), (2, .ptr), (3, .addr), (4, .bool), (5, .addr), (6, .bool), (8, .bool), (9, .int .i64), (10, .int .i64)]
def qag.L3.j (K : KT) : Nat → Tup qag.L3.l → Heap → Prop := fun n x h => qag.L3 K n x.1 x.2.1 x.2.2.1 x.2.2.2.1 x.2.2.2.2.1 x.2.2.2.2.2.1 x.2.2.2.2.2.2.1 x.2.2.2.2.2.2.2.1 x.2.2.2.2.2.2.2.2.1 h
def qag.j1 (K : KT) (t1 : OA) (t2 : OA) (aa : Bool) (h : Heap) : Prop :=
  (aa = true → K (.bool false) h) ∧ (aa = false → bd (al h #[.int .u8 72, .int .u8 84, .int .u8 84, .int .u8 80] T.uint8) fun h7 => SemH P (Go.convert T.sl_uint8 T.sl_uint8 (.slice (some (top h)) 4 4)) (fun v8 h9 => ∃ ab ac ad, v8 = .slice ab ac ad ∧ CallsH P F.qbi [.pointer t1, .slice ab ac ad] (fun aq ar => aq = .tuple #[] ∧ CallsH P F.qba [.pointer t1] (fun au p => ∃ q ae, au = .tuple #[.agg (List.toArray q), .bool ae] ∧ bd (al p #[.int .i64 0, .int .i64 0, .slice none 0 0, .bool false, .int .i64 0, .int .i64 0, .slice none 0 0, .slice none 0 0, .slice none 0 0, .slice none 0 0, .int .u64 0, .int .i64 0, .string (mkS ([] : List UInt8)), .slice none 0 0, .int .i64 0, .int .i64 0, .int .i64 0] T.api_Event) fun aw => q.length = 17 ∧ ∃ af, stC aw (top p) 0 q = some af ∧ CallsH P F.qba [.pointer t1] (fun ax r => ∃ x ag, ax = .tuple #[.agg (List.toArray x), .bool ag] ∧ bd (al r #[.int .i64 0, .int .i64 0, .slice none 0 0, .bool false, .int .i64 0, .int .i64 0, .slice none 0 0, .slice none 0 0, .slice none 0 0, .slice none 0 0, .int .u64 0, .int .i64 0, .string (mkS ([] : List UInt8)), .slice none 0 0, .int .i64 0, .int .i64 0, .int .i64 0] T.api_Event) fun ay => x.length = 17 ∧ ∃ ah, stC ay (top r) 0 x = some ah ∧ CallsH P F.qba [.pointer t1] (fun az ai => ∃ z aj, az = .tuple #[.agg (List.toArray z), .bool aj] ∧ bd (al ai #[.int .i64 0, .int .i64 0, .slice none 0 0, .bool false, .int .i64 0, .int .i64 0, .slice none 0 0, .slice none 0 0, .slice none 0 0, .slice none 0 0, .int .u64 0, .int .i64 0, .string (mkS ([] : List UInt8)), .slice none 0 0, .int .i64 0, .int .i64 0, .int .i64 0] T.api_Event) fun ba => z.length = 17 ∧ ∃ ak, stC ba (top ai) 0 z = some ak ∧ CallsH P F.qce [] (fun bb bc => ∃ am an ao, bb = .slice am an ao ∧ CallsH P F.qbi [.pointer t2, .slice am an ao] (fun be bf => be = .tuple #[] ∧ ∃ fuel58, qag.L3 K fuel58 t1 t2 (top p) ae (top r) ag aj 0 0 bf) bc) ak) ah) af) ar) h9) h7)
def qag.j1.l : Live := [(1, .ptr), (2, .ptr), (20, .bool)]
def qag.j1.j (K : KT) : Tup qag.j1.l → Heap → Prop := fun x h => qag.j1 K x.1 x.2.1 x.2.2.1 h
def qag.p0 (K : KT)  (h : Heap) : Prop :=
  CallsH P F.qdu [] (fun v1 h2 => ∃ p3, v1 = .pointer p3 ∧ CallsH P F.qdu [] (fun v4 h5 => ∃ p6, v4 = .pointer p6 ∧ ((Option.isNone p3) = false → qag.j1 K p3 p6 (Option.isNone p6) h5) ∧ ((Option.isNone p3) = true → qag.j1 K p3 p6 true h5)) h2) h
def qag.plan (K : KT) : Plan := (.seq .go (.seq .go (.seq (.cut qag.j1.l (qag.j1.j K) .go .go) (.seq .go (.seq .go (.seq .go (.seq .go (.seq .go (.seq .go (.cut qag.j2.l (qag.j2.j K) (.seq .go (.block (.loop qag.L3.l (qag.L3.j K) (fun n3 => (.seq .go (.cut qag.j4.l (qag.j4.j K (qag.L3 K n3)) (.block (.seq .go (.cut qag.j5.l (qag.j5.j K (qag.L3 K n3)) .go .go))) .go)))))) .go))))))))))
theorem qag.ev_eq : qag.p0 = fun K  h => Ev P Tryz.f9 (qag.plan K) K [] h := by kernel_rfl
theorem qag.obl (K : KT) : Obl P Tryz.f9 (qag.plan K) K :=
  obl_of (R := Imp (qag.j1.j K) ∧ (∀ x h, ¬ (qag.L3.j K) 0 x h) ∧ ImpN (qag.L3.j K) ∧ (∀ (n3 : Nat), Imp (qag.j5.j K (qag.L3 K n3)) ∧ Imp (qag.j4.j K (qag.L3 K n3)) ∧ True) ∧ Imp (qag.j2.j K) ∧ True) (by kernel_rfl) ⟨imp _, ⟨fun _ _ H => H, impN _, fun _ => ⟨imp _, ⟨imp _, trivial⟩⟩, ⟨imp _, trivial⟩⟩⟩
theorem qag.ok {K : KT}  {h : Heap} (H : qag.p0 K  h) : CallsH P F.qag [] K h :=
  calls_of_Ev (qag.plan K) Tryz.func9 (by kernel_rfl) (qag.obl K) (by rw [qag.ev_eq] at H; exact H)
end Go.Proofs.YtjapglfpjhljpaaGreat.Pr
end
