/- What functions of the package Octs come to, over the heap alone, and that they do: printed by gen.py out of the given program. -/
import Derived.Test.YtpfnfmlibpoleaaPrH
set_option linter.unusedVariables false
set_option maxRecDepth 100000
namespace Go.Proofs.Ytpfnfmlibpoleaa.Pr
open Go Go.Lift Go.Proofs

/-! waybill/octs.width: 65 -/
def octs_width.p0 (K : KT) (t0 : Int) (h : Heap) : Prop :=
  bd ((if (8 : Int) < (if (1 : Int) > t0 then 1 else t0) then 8 else (if (1 : Int) > t0 then 1 else t0)) : Int) fun n1 => K (.int .i64 n1) h
def octs_width.plan (K : KT) : Plan := .go
theorem octs_width.ev_eq : octs_width.p0 = fun K t0 h => Ev P Try.f65 (octs_width.plan K) K [.int .i64 t0] h := by kernel_rfl
theorem octs_width.obl (K : KT) : Obl P Try.f65 (octs_width.plan K) K :=
  obl_true (by kernel_rfl)
theorem octs_width.ok {K : KT} {t0 : Int} {h : Heap} (H : octs_width.p0 K t0 h) : CallsH P F.octs_width [.int .i64 t0] K h :=
  calls_of_Ev (octs_width.plan K) Try.func65 (by kernel_rfl) (octs_width.obl K) (by rw [octs_width.ev_eq] at H; exact H)

/-! waybill/octs.Int: 36 -/
def octs_Int.L1 (K : KT) : Nat → OA → Nat → Nat → Int → Int → Heap → Prop
  | 0, _, _, _, _, _, _ => False
  | fuel + 1, b_0, b_0l, b_0c, v_2, i_7, h => ((decide (i_7 ≥ 0)) = true → (0 : Int) ≤ 3 ∧ (0 : Int) ≤ (IntKind.u64.wrap (shlI .i64 i_7 3)) ∧ bd (al h #[.int .u8 (IntKind.u8.wrap (shrI .u64 v_2 (IntKind.u64.wrap (shlI .i64 i_7 3))))] T.uint8) fun h8 => SemH P (Builtin.append_ #[T.sl_uint8, T.sl_uint8] T.sl_uint8 #[.slice b_0 b_0l b_0c, .slice (some (top h)) 1 1]) (fun v9 h10 => ∃ a11 a11l a11c, v9 = .slice a11 a11l a11c ∧ bd ((IntKind.i64.wrap (i_7 - 1)) : Int) fun i_12 => (octs_Int.L1 K fuel) a11 a11l a11c v_2 i_12 h10) h8) ∧ ((decide (i_7 ≥ 0)) = false → K (.slice b_0 b_0l b_0c) h)
termination_by structural n => n
def octs_Int.L1.l : Live := [(0, .slice), (2, .int .u64), (7, .int .i64)]
def octs_Int.L1.j (K : KT) : Nat → Tup octs_Int.L1.l → Heap → Prop := fun n x h => octs_Int.L1 K n x.1.1 x.1.2.1 x.1.2.2 x.2.1 x.2.2.1 h
def octs_Int.p0 (K : KT) (b_0 : OA) (b_0l : Nat) (b_0c : Nat) (t1 : Int) (v_2 : Int) (h : Heap) : Prop :=
  CallsH P F.slices_Clone_byte_byte [.slice b_0 b_0l b_0c] (fun v1 h2 => ∃ a3 a3l a3c, v1 = .slice a3 a3l a3c ∧ CallsH P F.octs_width [.int .i64 t1] (fun v4 h5 => ∃ n6, v4 = .int .i64 n6 ∧ bd ((IntKind.i64.wrap (n6 - 1)) : Int) fun i_7 => ∃ fuel13, octs_Int.L1 K fuel13 a3 a3l a3c v_2 i_7 h5) h2) h
def octs_Int.plan (K : KT) : Plan := (.seq .go (.seq .go (.seq (.seq .go (.block (.loop octs_Int.L1.l (octs_Int.L1.j K) (fun n1 => .go)))) .go)))
theorem octs_Int.ev_eq : octs_Int.p0 = fun K b_0 b_0l b_0c t1 v_2 h => Ev P Try.f36 (octs_Int.plan K) K [.slice b_0 b_0l b_0c, .int .i64 t1, .int .u64 v_2] h := by kernel_rfl
theorem octs_Int.obl (K : KT) : Obl P Try.f36 (octs_Int.plan K) K :=
  obl_of (R := (∀ x h, ¬ (octs_Int.L1.j K) 0 x h) ∧ ImpN (octs_Int.L1.j K) ∧ (∀ (n1 : Nat), True) ∧ True) (by kernel_rfl) ⟨fun _ _ H => H, impN _, fun _ => trivial, trivial⟩
theorem octs_Int.ok {K : KT} {b_0 : OA} {b_0l : Nat} {b_0c : Nat} {t1 : Int} {v_2 : Int} {h : Heap} (H : octs_Int.p0 K b_0 b_0l b_0c t1 v_2 h) : CallsH P F.octs_Int [.slice b_0 b_0l b_0c, .int .i64 t1, .int .u64 v_2] K h :=
  calls_of_Ev (octs_Int.plan K) Try.func36 (by kernel_rfl) (octs_Int.obl K) (by rw [octs_Int.ev_eq] at H; exact H)

/-! waybill/octs.Long: 80 -/
def octs_Long.p0 (K : KT) (b_0 : OA) (b_0l : Nat) (b_0c : Nat) (s_1 : OA) (s_1l : Nat) (s_1c : Nat) (h : Heap) : Prop :=
  CallsH P F.octs_Int [.slice b_0 b_0l b_0c, .int .i64 4, .int .u64 (IntKind.u64.wrap ((s_1l : Nat) : Int))] (fun v1 h2 => ∃ a3 a3l a3c, v1 = .slice a3 a3l a3c ∧ SemH P (Builtin.append_ #[T.sl_uint8, T.sl_uint8] T.sl_uint8 #[.slice a3 a3l a3c, .slice s_1 s_1l s_1c]) (fun v4 h5 => ∃ a6 a6l a6c, v4 = .slice a6 a6l a6c ∧ K (.slice a6 a6l a6c) h5) h2) h
def octs_Long.plan (K : KT) : Plan := .go
theorem octs_Long.ev_eq : octs_Long.p0 = fun K b_0 b_0l b_0c s_1 s_1l s_1c h => Ev P Try.f80 (octs_Long.plan K) K [.slice b_0 b_0l b_0c, .slice s_1 s_1l s_1c] h := by kernel_rfl
theorem octs_Long.obl (K : KT) : Obl P Try.f80 (octs_Long.plan K) K :=
  obl_true (by kernel_rfl)
theorem octs_Long.ok {K : KT} {b_0 : OA} {b_0l : Nat} {b_0c : Nat} {s_1 : OA} {s_1l : Nat} {s_1c : Nat} {h : Heap} (H : octs_Long.p0 K b_0 b_0l b_0c s_1 s_1l s_1c h) : CallsH P F.octs_Long [.slice b_0 b_0l b_0c, .slice s_1 s_1l s_1c] K h :=
  calls_of_Ev (octs_Long.plan K) Try.func80 (by kernel_rfl) (octs_Long.obl K) (by rw [octs_Long.ev_eq] at H; exact H)

/-! waybill/octs.Short: 81 -/
def octs_Short.p0 (K : KT) (b_0 : OA) (b_0l : Nat) (b_0c : Nat) (s_1 : List UInt8) (h : Heap) : Prop :=
  ((decide (((List.length s_1 : Nat) : Int) > 255)) = true → CallsH P F.slices_Clone_byte_byte [.slice b_0 b_0l b_0c] (fun v1 h2 => ∃ a3 a3l a3c, v1 = .slice a3 a3l a3c ∧ K (.tuple #[.slice a3 a3l a3c, .bool false]) h2) h) ∧ ((decide (((List.length s_1 : Nat) : Int) > 255)) = false → CallsH P F.octs_Int [.slice b_0 b_0l b_0c, .int .i64 1, .int .u64 (IntKind.u64.wrap ((List.length s_1 : Nat) : Int))] (fun v4 h5 => ∃ a6 a6l a6c, v4 = .slice a6 a6l a6c ∧ SemH P (Builtin.append_ #[T.sl_uint8, T.string] T.sl_uint8 #[.slice a6 a6l a6c, .string (mkS s_1)]) (fun v7 h8 => ∃ a9 a9l a9c, v7 = .slice a9 a9l a9c ∧ K (.tuple #[.slice a9 a9l a9c, .bool true]) h8) h5) h)
def octs_Short.plan (K : KT) : Plan := .go
theorem octs_Short.ev_eq : octs_Short.p0 = fun K b_0 b_0l b_0c s_1 h => Ev P Try.f81 (octs_Short.plan K) K [.slice b_0 b_0l b_0c, .string (mkS s_1)] h := by kernel_rfl
theorem octs_Short.obl (K : KT) : Obl P Try.f81 (octs_Short.plan K) K :=
  obl_true (by kernel_rfl)
theorem octs_Short.ok {K : KT} {b_0 : OA} {b_0l : Nat} {b_0c : Nat} {s_1 : List UInt8} {h : Heap} (H : octs_Short.p0 K b_0 b_0l b_0c s_1 h) : CallsH P F.octs_Short [.slice b_0 b_0l b_0c, .string (mkS s_1)] K h :=
  calls_of_Ev (octs_Short.plan K) Try.func81 (by kernel_rfl) (octs_Short.obl K) (by rw [octs_Short.ev_eq] at H; exact H)

/-! waybill/octs.From: 40 -/
def octs_From.p0 (K : KT) (b_0 : OA) (b_0l : Nat) (b_0c : Nat) (h : Heap) : Prop :=
  bd (al h #[.slice b_0 b_0l b_0c, .bool false] T.octs_In) fun h1 => K (.pointer (some (top h))) h1
def octs_From.plan (K : KT) : Plan := .go
theorem octs_From.ev_eq : octs_From.p0 = fun K b_0 b_0l b_0c h => Ev P Try.f40 (octs_From.plan K) K [.slice b_0 b_0l b_0c] h := by kernel_rfl
theorem octs_From.obl (K : KT) : Obl P Try.f40 (octs_From.plan K) K :=
  obl_true (by kernel_rfl)
theorem octs_From.ok {K : KT} {b_0 : OA} {b_0l : Nat} {b_0c : Nat} {h : Heap} (H : octs_From.p0 K b_0 b_0l b_0c h) : CallsH P F.octs_From [.slice b_0 b_0l b_0c] K h :=
  calls_of_Ev (octs_From.plan K) Try.func40 (by kernel_rfl) (octs_From.obl K) (by rw [octs_From.ev_eq] at H; exact H)

/-! (*waybill/octs.In).take: 70 -/
def octs_In_take.j1 (K : KT) (r_0 : OA) (t1 : Int) (t19 : Bool) (h : Heap) : Prop :=
  (t19 = true → ∃ p1, r_0 = some p1 ∧ ∃ h2, stC h (Addr.add p1 0) 0 [.slice none 0 0] = some h2 ∧ ∃ p3, r_0 = some p3 ∧ ∃ h4, stC h2 (Addr.add p3 1) 0 [.bool true] = some h4 ∧ K (.slice none 0 0) h4) ∧ (t19 = false → ∃ p5, r_0 = some p5 ∧ ∃ a6 a6l a6c, hcell h (Addr.add p5 0) = some (.slice a6 a6l a6c) ∧ inB t1 a6c ∧ CallsH P F.slices_Clone_byte_byte [.slice (slA a6 0 a6c 1) (Int.toNat t1) a6c] (fun v7 h8 => ∃ a9 a9l a9c, v7 = .slice a9 a9l a9c ∧ ∃ p10, r_0 = some p10 ∧ ∃ a11 a11l a11c, hcell h8 (Addr.add p10 0) = some (.slice a11 a11l a11c) ∧ inB t1 a11l ∧ ∃ p12, r_0 = some p12 ∧ ∃ h13, stC h8 (Addr.add p12 0) 0 [.slice (slA a11 (Int.toNat t1) a11c 1) (a11l - Int.toNat t1) (a11c - Int.toNat t1)] = some h13 ∧ K (.slice a9 a9l a9c) h13) h)
def octs_In_take.j1.l : Live := [(0, .ptr), (1, .int .u64), (19, .bool)]
def octs_In_take.j1.j (K : KT) : Tup octs_In_take.j1.l → Heap → Prop := fun x h => octs_In_take.j1 K x.1 x.2.1 x.2.2.1 h
def octs_In_take.p0 (K : KT) (r_0 : OA) (t1 : Int) (h : Heap) : Prop :=
  ∃ p14, r_0 = some p14 ∧ ∃ b15, hcell h (Addr.add p14 1) = some (.bool b15) ∧ (b15 = false → ∃ p16, r_0 = some p16 ∧ ∃ a17 a17l a17c, hcell h (Addr.add p16 0) = some (.slice a17 a17l a17c) ∧ octs_In_take.j1 K r_0 t1 (decide (t1 > (IntKind.u64.wrap ((a17l : Nat) : Int)))) h) ∧ (b15 = true → octs_In_take.j1 K r_0 t1 true h)
def octs_In_take.plan (K : KT) : Plan := (.seq .go (.seq (.cut octs_In_take.j1.l (octs_In_take.j1.j K) .go .go) .go))
theorem octs_In_take.ev_eq : octs_In_take.p0 = fun K r_0 t1 h => Ev P Try.f70 (octs_In_take.plan K) K [.pointer r_0, .int .u64 t1] h := by kernel_rfl
theorem octs_In_take.obl (K : KT) : Obl P Try.f70 (octs_In_take.plan K) K :=
  obl_of (R := Imp (octs_In_take.j1.j K) ∧ True) (by kernel_rfl) ⟨imp _, trivial⟩
theorem octs_In_take.ok {K : KT} {r_0 : OA} {t1 : Int} {h : Heap} (H : octs_In_take.p0 K r_0 t1 h) : CallsH P F.octs_In_take [.pointer r_0, .int .u64 t1] K h :=
  calls_of_Ev (octs_In_take.plan K) Try.func70 (by kernel_rfl) (octs_In_take.obl K) (by rw [octs_In_take.ev_eq] at H; exact H)

/-! waybill/octs.number: 69 -/
def octs_number.L1 (K : KT) : Nat → Int → OA → Nat → Nat → Int → Int → Heap → Prop
  | 0, _, _, _, _, _, _, _ => False
  | fuel + 1, v_3, t6, t6l, t6c, t7, t8, h => ((decide (t8 < t7)) = true → ∃ p1, t6 = some p1 ∧ (0 : Int) ≤ t8 ∧ t8 < ((t6l : Nat) : Int) ∧ ∃ n2, hcell h (Addr.add p1 (Int.toNat t8 * 1)) = some (.int .u8 n2) ∧ (0 : Int) ≤ 8 ∧ bd ((bitsI .or .u64 (shlI .u64 v_3 8) (IntKind.u64.wrap n2)) : Int) fun v_3 => (octs_number.L1 K fuel) v_3 t6 t6l t6c t7 (IntKind.i64.wrap (t8 + 1)) h) ∧ ((decide (t8 < t7)) = false → K (.int .u64 v_3) h)
termination_by structural n => n
def octs_number.L1.l : Live := [(3, .int .u64), (6, .slice), (7, .int .i64), (8, .int .i64)]
def octs_number.L1.j (K : KT) : Nat → Tup octs_number.L1.l → Heap → Prop := fun n x h => octs_number.L1 K n x.1 x.2.1.1 x.2.1.2.1 x.2.1.2.2 x.2.2.1 x.2.2.2.1 h
def octs_number.p0 (K : KT) (b_0 : OA) (b_0l : Nat) (b_0c : Nat) (h : Heap) : Prop :=
  ∃ fuel4, octs_number.L1 K fuel4 0 b_0 b_0l b_0c ((b_0l : Nat) : Int) 0 h
def octs_number.plan (K : KT) : Plan := (.seq .go (.seq .go (.seq (.seq .go (.block (.loop octs_number.L1.l (octs_number.L1.j K) (fun n1 => .go)))) .go)))
theorem octs_number.ev_eq : octs_number.p0 = fun K b_0 b_0l b_0c h => Ev P Try.f69 (octs_number.plan K) K [.slice b_0 b_0l b_0c] h := by kernel_rfl
theorem octs_number.obl (K : KT) : Obl P Try.f69 (octs_number.plan K) K :=
  obl_of (R := (∀ x h, ¬ (octs_number.L1.j K) 0 x h) ∧ ImpN (octs_number.L1.j K) ∧ (∀ (n1 : Nat), True) ∧ True) (by kernel_rfl) ⟨fun _ _ H => H, impN _, fun _ => trivial, trivial⟩
theorem octs_number.ok {K : KT} {b_0 : OA} {b_0l : Nat} {b_0c : Nat} {h : Heap} (H : octs_number.p0 K b_0 b_0l b_0c h) : CallsH P F.octs_number [.slice b_0 b_0l b_0c] K h :=
  calls_of_Ev (octs_number.plan K) Try.func69 (by kernel_rfl) (octs_number.obl K) (by rw [octs_number.ev_eq] at H; exact H)

/-! (*waybill/octs.In).Int: 41 -/
def octs_In_Int.p0 (K : KT) (r_0 : OA) (t1 : Int) (h : Heap) : Prop :=
  CallsH P F.octs_width [.int .i64 t1] (fun v1 h2 => ∃ n3, v1 = .int .i64 n3 ∧ CallsH P F.octs_In_take [.pointer r_0, .int .u64 (IntKind.u64.wrap n3)] (fun v4 h5 => ∃ a6 a6l a6c, v4 = .slice a6 a6l a6c ∧ CallsH P F.octs_number [.slice a6 a6l a6c] (fun v7 h8 => ∃ n9, v7 = .int .u64 n9 ∧ K (.int .u64 n9) h8) h5) h2) h
def octs_In_Int.plan (K : KT) : Plan := .go
theorem octs_In_Int.ev_eq : octs_In_Int.p0 = fun K r_0 t1 h => Ev P Try.f41 (octs_In_Int.plan K) K [.pointer r_0, .int .i64 t1] h := by kernel_rfl
theorem octs_In_Int.obl (K : KT) : Obl P Try.f41 (octs_In_Int.plan K) K :=
  obl_true (by kernel_rfl)
theorem octs_In_Int.ok {K : KT} {r_0 : OA} {t1 : Int} {h : Heap} (H : octs_In_Int.p0 K r_0 t1 h) : CallsH P F.octs_In_Int [.pointer r_0, .int .i64 t1] K h :=
  calls_of_Ev (octs_In_Int.plan K) Try.func41 (by kernel_rfl) (octs_In_Int.obl K) (by rw [octs_In_Int.ev_eq] at H; exact H)

/-! (*waybill/octs.In).Ok: 42 -/
def octs_In_Ok.p0 (K : KT) (r_0 : OA) (h : Heap) : Prop :=
  ∃ p1, r_0 = some p1 ∧ ∃ b2, hcell h (Addr.add p1 1) = some (.bool b2) ∧ bd ((!b2) : Bool) fun b3 => K (.bool b3) h
def octs_In_Ok.plan (K : KT) : Plan := .go
theorem octs_In_Ok.ev_eq : octs_In_Ok.p0 = fun K r_0 h => Ev P Try.f42 (octs_In_Ok.plan K) K [.pointer r_0] h := by kernel_rfl
theorem octs_In_Ok.obl (K : KT) : Obl P Try.f42 (octs_In_Ok.plan K) K :=
  obl_true (by kernel_rfl)
theorem octs_In_Ok.ok {K : KT} {r_0 : OA} {h : Heap} (H : octs_In_Ok.p0 K r_0 h) : CallsH P F.octs_In_Ok [.pointer r_0] K h :=
  calls_of_Ev (octs_In_Ok.plan K) Try.func42 (by kernel_rfl) (octs_In_Ok.obl K) (by rw [octs_In_Ok.ev_eq] at H; exact H)

/-! (*waybill/octs.In).measured: 83 -/
def octs_In_measured.j1 (K : KT) (r_0 : OA) (t1 : Int) (t18 : Bool) (h : Heap) : Prop :=
  (t18 = true → CallsH P F.octs_In_take [.pointer r_0, .int .u64 (IntKind.u64.wrap t1)] (fun v1 h2 => ∃ a3 a3l a3c, v1 = .slice a3 a3l a3c ∧ K (.slice a3 a3l a3c) h2) h) ∧ (t18 = false → ∃ p4, r_0 = some p4 ∧ ∃ a5 a5l a5c, hcell h (Addr.add p4 0) = some (.slice a5 a5l a5c) ∧ inB t1 a5c ∧ CallsH P F.octs_number [.slice (slA a5 0 a5c 1) (Int.toNat t1) a5c] (fun v6 h7 => ∃ n8, v6 = .int .u64 n8 ∧ ∃ p9, r_0 = some p9 ∧ ∃ a10 a10l a10c, hcell h7 (Addr.add p9 0) = some (.slice a10 a10l a10c) ∧ ((decide (n8 > (IntKind.u64.wrap (IntKind.i64.wrap (((a10l : Nat) : Int) - t1))))) = true → ∃ p11, r_0 = some p11 ∧ ∃ h12, stC h7 (Addr.add p11 0) 0 [.slice none 0 0] = some h12 ∧ ∃ p13, r_0 = some p13 ∧ ∃ h14, stC h12 (Addr.add p13 1) 0 [.bool true] = some h14 ∧ K (.slice none 0 0) h14) ∧ ((decide (n8 > (IntKind.u64.wrap (IntKind.i64.wrap (((a10l : Nat) : Int) - t1))))) = false → ∃ p15, r_0 = some p15 ∧ ∃ a16 a16l a16c, hcell h7 (Addr.add p15 0) = some (.slice a16 a16l a16c) ∧ inB t1 a16l ∧ ∃ p17, r_0 = some p17 ∧ ∃ h18, stC h7 (Addr.add p17 0) 0 [.slice (slA a16 (Int.toNat t1) a16c 1) (a16l - Int.toNat t1) (a16c - Int.toNat t1)] = some h18 ∧ CallsH P F.octs_In_take [.pointer r_0, .int .u64 n8] (fun v19 h20 => ∃ a21 a21l a21c, v19 = .slice a21 a21l a21c ∧ K (.slice a21 a21l a21c) h20) h18)) h)
def octs_In_measured.j1.l : Live := [(0, .ptr), (1, .int .i64), (18, .bool)]
def octs_In_measured.j1.j (K : KT) : Tup octs_In_measured.j1.l → Heap → Prop := fun x h => octs_In_measured.j1 K x.1 x.2.1 x.2.2.1 h
def octs_In_measured.p0 (K : KT) (r_0 : OA) (t1 : Int) (h : Heap) : Prop :=
  ∃ p22, r_0 = some p22 ∧ ∃ b23, hcell h (Addr.add p22 1) = some (.bool b23) ∧ (b23 = false → ∃ p24, r_0 = some p24 ∧ ∃ a25 a25l a25c, hcell h (Addr.add p24 0) = some (.slice a25 a25l a25c) ∧ octs_In_measured.j1 K r_0 t1 (decide (((a25l : Nat) : Int) < t1)) h) ∧ (b23 = true → octs_In_measured.j1 K r_0 t1 true h)
def octs_In_measured.plan (K : KT) : Plan := (.seq .go (.seq (.cut octs_In_measured.j1.l (octs_In_measured.j1.j K) .go .go) .go))
theorem octs_In_measured.ev_eq : octs_In_measured.p0 = fun K r_0 t1 h => Ev P Try.f83 (octs_In_measured.plan K) K [.pointer r_0, .int .i64 t1] h := by kernel_rfl
theorem octs_In_measured.obl (K : KT) : Obl P Try.f83 (octs_In_measured.plan K) K :=
  obl_of (R := Imp (octs_In_measured.j1.j K) ∧ True) (by kernel_rfl) ⟨imp _, trivial⟩
theorem octs_In_measured.ok {K : KT} {r_0 : OA} {t1 : Int} {h : Heap} (H : octs_In_measured.p0 K r_0 t1 h) : CallsH P F.octs_In_measured [.pointer r_0, .int .i64 t1] K h :=
  calls_of_Ev (octs_In_measured.plan K) Try.func83 (by kernel_rfl) (octs_In_measured.obl K) (by rw [octs_In_measured.ev_eq] at H; exact H)

/-! (*waybill/octs.In).Short: 71 -/
def octs_In_Short.p0 (K : KT) (r_0 : OA) (h : Heap) : Prop :=
  CallsH P F.octs_In_measured [.pointer r_0, .int .i64 1] (fun v1 h2 => ∃ a3 a3l a3c, v1 = .slice a3 a3l a3c ∧ SemH P (Go.convert T.sl_uint8 T.string (.slice a3 a3l a3c)) (fun v4 h5 => ∃ s6, v4 = .string (mkS s6) ∧ K (.string (mkS s6)) h5) h2) h
def octs_In_Short.plan (K : KT) : Plan := .go
theorem octs_In_Short.ev_eq : octs_In_Short.p0 = fun K r_0 h => Ev P Try.f71 (octs_In_Short.plan K) K [.pointer r_0] h := by kernel_rfl
theorem octs_In_Short.obl (K : KT) : Obl P Try.f71 (octs_In_Short.plan K) K :=
  obl_true (by kernel_rfl)
theorem octs_In_Short.ok {K : KT} {r_0 : OA} {h : Heap} (H : octs_In_Short.p0 K r_0 h) : CallsH P F.octs_In_Short [.pointer r_0] K h :=
  calls_of_Ev (octs_In_Short.plan K) Try.func71 (by kernel_rfl) (octs_In_Short.obl K) (by rw [octs_In_Short.ev_eq] at H; exact H)

/-! (*waybill/octs.In).Long: 72 -/
def octs_In_Long.p0 (K : KT) (r_0 : OA) (h : Heap) : Prop :=
  CallsH P F.octs_In_measured [.pointer r_0, .int .i64 4] (fun v1 h2 => ∃ a3 a3l a3c, v1 = .slice a3 a3l a3c ∧ K (.slice a3 a3l a3c) h2) h
def octs_In_Long.plan (K : KT) : Plan := .go
theorem octs_In_Long.ev_eq : octs_In_Long.p0 = fun K r_0 h => Ev P Try.f72 (octs_In_Long.plan K) K [.pointer r_0] h := by kernel_rfl
theorem octs_In_Long.obl (K : KT) : Obl P Try.f72 (octs_In_Long.plan K) K :=
  obl_true (by kernel_rfl)
theorem octs_In_Long.ok {K : KT} {r_0 : OA} {h : Heap} (H : octs_In_Long.p0 K r_0 h) : CallsH P F.octs_In_Long [.pointer r_0] K h :=
  calls_of_Ev (octs_In_Long.plan K) Try.func72 (by kernel_rfl) (octs_In_Long.obl K) (by rw [octs_In_Long.ev_eq] at H; exact H)

/-! (*waybill/octs.In).Left: 45 -/
def octs_In_Left.p0 (K : KT) (r_0 : OA) (h : Heap) : Prop :=
  ∃ p1, r_0 = some p1 ∧ ∃ a2 a2l a2c, hcell h (Addr.add p1 0) = some (.slice a2 a2l a2c) ∧ bd (((a2l : Nat) : Int) : Int) fun n3 => K (.int .i64 n3) h
def octs_In_Left.plan (K : KT) : Plan := .go
theorem octs_In_Left.ev_eq : octs_In_Left.p0 = fun K r_0 h => Ev P Try.f45 (octs_In_Left.plan K) K [.pointer r_0] h := by kernel_rfl
theorem octs_In_Left.obl (K : KT) : Obl P Try.f45 (octs_In_Left.plan K) K :=
  obl_true (by kernel_rfl)
theorem octs_In_Left.ok {K : KT} {r_0 : OA} {h : Heap} (H : octs_In_Left.p0 K r_0 h) : CallsH P F.octs_In_Left [.pointer r_0] K h :=
  calls_of_Ev (octs_In_Left.plan K) Try.func45 (by kernel_rfl) (octs_In_Left.obl K) (by rw [octs_In_Left.ev_eq] at H; exact H)

end Go.Proofs.Ytpfnfmlibpoleaa.Pr
