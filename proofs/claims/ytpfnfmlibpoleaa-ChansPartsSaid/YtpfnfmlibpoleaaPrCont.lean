/- What functions of the package Cont come to, over the heap alone, and that they do: printed by gen.py out of the given program. -/
import Derived.Test.YtpfnfmlibpoleaaPrH
set_option linter.unusedVariables false
set_option maxRecDepth 100000
namespace Go.Proofs.Ytpfnfmlibpoleaa.Pr
open Go Go.Lift Go.Proofs

/-! waybill/cont.Parse: 79 -/
def cont_Parse.j5 (K : KT) (t2 : Addr) (t6 : Addr) (t70 : Bool) (h : Heap) : Prop :=
  (t70 = true → ([.int .u64 0, .int .i64 0, .string (mkS ([] : List UInt8))] : List Value).length = 3 ∧ ∃ h13, stC h t2 0 [.int .u64 0, .int .i64 0, .string (mkS ([] : List UInt8))] = some h13 ∧ ∃ cs14, rdC h13 t2 0 3 = some cs14 ∧ K (.tuple #[.agg (List.toArray cs14), .int .i64 4]) h13) ∧ (t70 = false → ∃ cs15, rdC h t6 0 3 = some cs15 ∧ cs15.length = 3 ∧ ∃ h16, stC h t2 0 cs15 = some h16 ∧ ∃ cs17, rdC h16 t2 0 3 = some cs17 ∧ K (.tuple #[.agg (List.toArray cs17), .int .i64 0]) h16)
def cont_Parse.j5.l : Live := [(2, .addr), (6, .addr), (70, .bool)]
def cont_Parse.j5.j (K : KT) : Tup cont_Parse.j5.l → Heap → Prop := fun x h => cont_Parse.j5 K x.1 x.2.1 x.2.2.1 h
def cont_Parse.j4 (K : KT) (t2 : Addr) (t4 : OA) (t5 : Bool) (t6 : Addr) (h : Heap) : Prop :=
  ((!t5) = false → CallsH P F.octs_In_Ok [.pointer t4] (fun v18 h19 => ∃ b20, v18 = .bool b20 ∧ ((!b20) = false → CallsH P F.octs_In_Left [.pointer t4] (fun v21 h22 => ∃ n23, v21 = .int .i64 n23 ∧ cont_Parse.j5 K t2 t6 (decide (n23 > 0)) h22) h19) ∧ ((!b20) = true → cont_Parse.j5 K t2 t6 true h19)) h) ∧ ((!t5) = true → cont_Parse.j5 K t2 t6 true h)
def cont_Parse.j4.l : Live := [(2, .addr), (4, .ptr), (5, .bool), (6, .addr)]
def cont_Parse.j4.j (K : KT) : Tup cont_Parse.j4.l → Heap → Prop := fun x h => cont_Parse.j4 K x.1 x.2.1 x.2.2.1 x.2.2.2.1 h
def cont_Parse.j3 (K : KT) (t2 : Addr) (t4 : OA) (t5 : Bool) (t6 : Addr) (t7 : Int) (h : Heap) : Prop :=
  (((bitsI .and .u64 t7 4096) != 0) = true → CallsH P F.octs_In_Int [.pointer t4, .int .i64 1] (fun v24 h25 => ∃ n26, v24 = .int .u64 n26 ∧ ∃ h27, stC h25 (Addr.add t6 1) 0 [.int .i64 (IntKind.i64.wrap n26)] = some h27 ∧ (t5 = true → ∃ n28, hcell h27 (Addr.add t6 1) = some (.int .i64 n28) ∧ ((n28 == 1) = false → ∃ n29, hcell h27 (Addr.add t6 1) = some (.int .i64 n29) ∧ bd ((n29 == 2) : Bool) fun b30 => cont_Parse.j4 K t2 t4 b30 t6 h27) ∧ ((n28 == 1) = true → cont_Parse.j4 K t2 t4 true t6 h27)) ∧ (t5 = false → cont_Parse.j4 K t2 t4 false t6 h27)) h) ∧ (((bitsI .and .u64 t7 4096) != 0) = false → cont_Parse.j4 K t2 t4 t5 t6 h)
def cont_Parse.j3.l : Live := [(2, .addr), (4, .ptr), (5, .bool), (6, .addr), (7, .int .u64)]
def cont_Parse.j3.j (K : KT) : Tup cont_Parse.j3.l → Heap → Prop := fun x h => cont_Parse.j3 K x.1 x.2.1 x.2.2.1 x.2.2.2.1 x.2.2.2.2.1 h
def cont_Parse.j2 (K : KT) (t2 : Addr) (t4 : OA) (t5 : Bool) (t6 : Addr) (t7 : Int) (h : Heap) : Prop :=
  (((bitsI .and .u64 t7 32768) != 0) = true → CallsH P F.octs_In_Short [.pointer t4] (fun v31 h32 => ∃ s33, v31 = .string (mkS s33) ∧ ∃ h34, stC h32 (Addr.add t6 2) 0 [.string (mkS s33)] = some h34 ∧ (t5 = true → ∃ s35, hcell h34 (Addr.add t6 2) = some (.string (mkS s35)) ∧ bd ((!(s35 == ([] : List UInt8))) : Bool) fun b36 => cont_Parse.j3 K t2 t4 b36 t6 t7 h34) ∧ (t5 = false → cont_Parse.j3 K t2 t4 false t6 t7 h34)) h) ∧ (((bitsI .and .u64 t7 32768) != 0) = false → cont_Parse.j3 K t2 t4 t5 t6 t7 h)
def cont_Parse.j2.l : Live := [(2, .addr), (4, .ptr), (5, .bool), (6, .addr), (7, .int .u64)]
def cont_Parse.j2.j (K : KT) : Tup cont_Parse.j2.l → Heap → Prop := fun x h => cont_Parse.j2 K x.1 x.2.1 x.2.2.1 x.2.2.2.1 x.2.2.2.2.1 h
def cont_Parse.j1 (K : KT) (t2 : Addr) (t4 : OA) (t5 : Bool) (h : Heap) : Prop :=
  CallsH P F.octs_In_Int [.pointer t4, .int .i64 8] (fun v5 h6 => ∃ n7, v5 = .int .u64 n7 ∧ bd (al h6 #[.int .u64 0, .int .i64 0, .string (mkS ([] : List UInt8))] T.api_Head) fun h8 => ([.int .u64 n7, .int .i64 0, .string (mkS ([] : List UInt8))] : List Value).length = 3 ∧ ∃ h9, stC h8 (top h6) 0 [.int .u64 n7, .int .i64 0, .string (mkS ([] : List UInt8))] = some h9 ∧ CallsH P F.octs_In_Int [.pointer t4, .int .i64 2] (fun v10 h11 => ∃ n12, v10 = .int .u64 n12 ∧ (t5 = true → bd (((bitsI .andNot .u64 n12 36864) == 0) : Bool) fun b37 => cont_Parse.j2 K t2 t4 b37 (top h6) n12 h11) ∧ (t5 = false → cont_Parse.j2 K t2 t4 false (top h6) n12 h11)) h9) h
def cont_Parse.j1.l : Live := [(2, .addr), (4, .ptr), (5, .bool)]
def cont_Parse.j1.j (K : KT) : Tup cont_Parse.j1.l → Heap → Prop := fun x h => cont_Parse.j1 K x.1 x.2.1 x.2.2.1 h
def cont_Parse.p0 (K : KT) (t0 : OA) (t0l : Nat) (t0c : Nat) (h : Heap) : Prop :=
  bd (al h #[.int .u64 0, .int .i64 0, .string (mkS ([] : List UInt8))] T.api_Head) fun h1 => CallsH P F.octs_From [.slice t0 t0l t0c] (fun v2 h3 => ∃ p4, v2 = .pointer p4 ∧ CallsH P F.octs_In_Int [.pointer p4, .int .i64 2] (fun v38 h39 => ∃ n40, v38 = .int .u64 n40 ∧ ((n40 == 60) = true → CallsH P F.octs_In_Int [.pointer p4, .int .i64 2] (fun v41 h42 => ∃ n43, v41 = .int .u64 n43 ∧ bd ((n43 == 0) : Bool) fun b44 => cont_Parse.j1 K (top h) p4 b44 h42) h39) ∧ ((n40 == 60) = false → cont_Parse.j1 K (top h) p4 false h39)) h3) h1
def cont_Parse.plan (K : KT) : Plan := (.seq .go (.seq .go (.cut cont_Parse.j1.l (cont_Parse.j1.j K) .go (.seq .go (.seq .go (.cut cont_Parse.j2.l (cont_Parse.j2.j K) .go (.cut cont_Parse.j3.l (cont_Parse.j3.j K) .go (.cut cont_Parse.j4.l (cont_Parse.j4.j K) .go (.seq (.cut cont_Parse.j5.l (cont_Parse.j5.j K) .go .go) .go)))))))))
theorem cont_Parse.ev_eq : cont_Parse.p0 = fun K t0 t0l t0c h => Ev P Try.f79 (cont_Parse.plan K) K [.slice t0 t0l t0c] h := by kernel_rfl
theorem cont_Parse.obl (K : KT) : Obl P Try.f79 (cont_Parse.plan K) K :=
  obl_of (R := Imp (cont_Parse.j1.j K) ∧ Imp (cont_Parse.j2.j K) ∧ Imp (cont_Parse.j3.j K) ∧ Imp (cont_Parse.j4.j K) ∧ Imp (cont_Parse.j5.j K) ∧ True) (by kernel_rfl) ⟨imp _, ⟨imp _, ⟨imp _, ⟨imp _, ⟨imp _, trivial⟩⟩⟩⟩⟩
theorem cont_Parse.ok {K : KT} {t0 : OA} {t0l : Nat} {t0c : Nat} {h : Heap} (H : cont_Parse.p0 K t0 t0l t0c h) : CallsH P F.cont_Parse [.slice t0 t0l t0c] K h :=
  calls_of_Ev (cont_Parse.plan K) Try.func79 (by kernel_rfl) (cont_Parse.obl K) (by rw [cont_Parse.ev_eq] at H; exact H)

end Go.Proofs.Ytpfnfmlibpoleaa.Pr
