/- What functions of the package Law23Codehard come to, over the heap alone, and that they do: printed by gen.py out of the given program. -/
import Derived.Test.YtpfnfmlibpoleaaPrH
set_option linter.unusedVariables false
set_option maxRecDepth 100000
namespace Go.Proofs.Ytpfnfmlibpoleaa.Pr
open Go Go.Lift Go.Proofs

/-! waybill/waybilllaw23.CodeHard: 3 -/
def waybilllaw23_CodeHard.j1 (K : KT)  (h : Heap) : Prop :=
  CallsH P F.code_Text [.int .i64 200] (fun v1 h2 => ∃ s3, v1 = .string (mkS s3) ∧ ((s3 == ([79, 75] : List UInt8)) = true → CallsH P F.code_Of [.int .i64 3] (fun v4 h5 => ∃ n6, v4 = .int .i64 n6 ∧ ((n6 == 501) = true → CallsH P F.code_Of [.int .i64 4] (fun v7 h8 => ∃ n9, v7 = .int .i64 n9 ∧ ((n9 == 502) = true → CallsH P F.code_Of [.int .i64 5] (fun v10 h11 => ∃ n12, v10 = .int .i64 n12 ∧ ((n12 == 540) = true → CallsH P F.code_Of [.int .i64 6] (fun v13 h14 => ∃ n15, v13 = .int .i64 n15 ∧ bd ((n15 == 506) : Bool) fun b16 => K (.bool b16) h14) h11) ∧ ((n12 == 540) = false → K (.bool false) h11)) h8) ∧ ((n9 == 502) = false → K (.bool false) h8)) h5) ∧ ((n6 == 501) = false → K (.bool false) h5)) h2) ∧ ((s3 == ([79, 75] : List UInt8)) = false → K (.bool false) h2)) h
def waybilllaw23_CodeHard.j1.l : Live := []
def waybilllaw23_CodeHard.j1.j (K : KT) : Tup waybilllaw23_CodeHard.j1.l → Heap → Prop := fun x h => waybilllaw23_CodeHard.j1 K  h
def waybilllaw23_CodeHard.j5 (K : KT) (R2 : Int → Int → Heap → Prop) (t0 : Int) (t3 : Int) (t59 : Bool) (h : Heap) : Prop :=
  (t59 = true → K (.bool false) h) ∧ (t59 = false → bd ((IntKind.i64.wrap ((200 : Int) + (bitsI .and .i64 t0 511))) : Int) fun n17 => bd ((IntKind.i64.wrap (t3 + 1)) : Int) fun n18 => R2 n17 n18 h)
def waybilllaw23_CodeHard.j5.l : Live := [(0, .int .i64), (3, .int .i64), (59, .bool)]
def waybilllaw23_CodeHard.j5.j (K : KT) (R2 : Int → Int → Heap → Prop) : Tup waybilllaw23_CodeHard.j5.l → Heap → Prop := fun x h => waybilllaw23_CodeHard.j5 K R2 x.1 x.2.1 x.2.2.1 h
def waybilllaw23_CodeHard.j4 (K : KT) (R2 : Int → Int → Heap → Prop) (t0 : Int) (t3 : Int) (t4 : Bool) (t5 : Bool) (h : Heap) : Prop :=
  CallsH P F.code_Hard [.int .i64 t0] (fun v19 h20 => ∃ b21, v19 = .bool b21 ∧ ((!(b21 == t5)) = false → CallsH P F.code_Text [.int .i64 t0] (fun v22 h23 => ∃ s24, v22 = .string (mkS s24) ∧ (t4 = false → waybilllaw23_CodeHard.j5 K R2 t0 t3 (!((!(s24 == ([] : List UInt8))) == t5)) h23) ∧ (t4 = true → waybilllaw23_CodeHard.j5 K R2 t0 t3 (!((!(s24 == ([] : List UInt8))) == true)) h23)) h20) ∧ ((!(b21 == t5)) = true → waybilllaw23_CodeHard.j5 K R2 t0 t3 true h20)) h
def waybilllaw23_CodeHard.j4.l : Live := [(0, .int .i64), (3, .int .i64), (4, .bool), (5, .bool)]
def waybilllaw23_CodeHard.j4.j (K : KT) (R2 : Int → Int → Heap → Prop) : Tup waybilllaw23_CodeHard.j4.l → Heap → Prop := fun x h => waybilllaw23_CodeHard.j4 K R2 x.1 x.2.1 x.2.2.1 x.2.2.2.1 h
def waybilllaw23_CodeHard.j3 (K : KT) (R2 : Int → Int → Heap → Prop) (t0 : Int) (t3 : Int) (t4 : Bool) (h : Heap) : Prop :=
  ((decide (t0 ≥ 501)) = true → ((decide (t0 ≤ 506)) = false → ((t0 == 530) = false → bd ((t0 == 540) : Bool) fun b25 => waybilllaw23_CodeHard.j4 K R2 t0 t3 t4 b25 h) ∧ ((t0 == 530) = true → waybilllaw23_CodeHard.j4 K R2 t0 t3 t4 true h)) ∧ ((decide (t0 ≤ 506)) = true → waybilllaw23_CodeHard.j4 K R2 t0 t3 t4 true h)) ∧ ((decide (t0 ≥ 501)) = false → ((t0 == 530) = false → bd ((t0 == 540) : Bool) fun b26 => waybilllaw23_CodeHard.j4 K R2 t0 t3 t4 b26 h) ∧ ((t0 == 530) = true → waybilllaw23_CodeHard.j4 K R2 t0 t3 t4 true h))
def waybilllaw23_CodeHard.j3.l : Live := [(0, .int .i64), (3, .int .i64), (4, .bool)]
def waybilllaw23_CodeHard.j3.j (K : KT) (R2 : Int → Int → Heap → Prop) : Tup waybilllaw23_CodeHard.j3.l → Heap → Prop := fun x h => waybilllaw23_CodeHard.j3 K R2 x.1 x.2.1 x.2.2.1 h
def waybilllaw23_CodeHard.L2 (K : KT) : Nat → Int → Int → Heap → Prop
  | 0, _, _, _ => False
  | fuel + 1, t0, t3, h => ((decide (t3 < 2)) = true → ((t0 == 200) = false → ((t0 == 311) = false → ((t0 == 312) = false → ((t0 == 403) = false → ((t0 == 404) = false → bd ((t0 == 406) : Bool) fun b27 => waybilllaw23_CodeHard.j3 K (waybilllaw23_CodeHard.L2 K fuel) t0 t3 b27 h) ∧ ((t0 == 404) = true → waybilllaw23_CodeHard.j3 K (waybilllaw23_CodeHard.L2 K fuel) t0 t3 true h)) ∧ ((t0 == 403) = true → waybilllaw23_CodeHard.j3 K (waybilllaw23_CodeHard.L2 K fuel) t0 t3 true h)) ∧ ((t0 == 312) = true → waybilllaw23_CodeHard.j3 K (waybilllaw23_CodeHard.L2 K fuel) t0 t3 true h)) ∧ ((t0 == 311) = true → waybilllaw23_CodeHard.j3 K (waybilllaw23_CodeHard.L2 K fuel) t0 t3 true h)) ∧ ((t0 == 200) = true → waybilllaw23_CodeHard.j3 K (waybilllaw23_CodeHard.L2 K fuel) t0 t3 true h)) ∧ ((decide (t3 < 2)) = false → waybilllaw23_CodeHard.j1 K h)
termination_by structural n => n
def waybilllaw23_CodeHard.L2.l : Live := [(0, .int .i64), (3, .int .i64)]
def waybilllaw23_CodeHard.L2.j (K : KT) : Nat → Tup waybilllaw23_CodeHard.L2.l → Heap → Prop := fun n x h => waybilllaw23_CodeHard.L2 K n x.1 x.2.1 h
def waybilllaw23_CodeHard.p0 (K : KT) (t0 : Int) (h : Heap) : Prop :=
  ∃ fuel28, waybilllaw23_CodeHard.L2 K fuel28 t0 0 h
def waybilllaw23_CodeHard.plan (K : KT) : Plan := (.seq .go (.cut waybilllaw23_CodeHard.j1.l (waybilllaw23_CodeHard.j1.j K) (.seq .go (.block (.loop waybilllaw23_CodeHard.L2.l (waybilllaw23_CodeHard.L2.j K) (fun n2 => (.seq .go (.seq (.block (.cut waybilllaw23_CodeHard.j3.l (waybilllaw23_CodeHard.j3.j K (waybilllaw23_CodeHard.L2 K n2)) .go (.cut waybilllaw23_CodeHard.j4.l (waybilllaw23_CodeHard.j4.j K (waybilllaw23_CodeHard.L2 K n2)) .go (.seq (.cut waybilllaw23_CodeHard.j5.l (waybilllaw23_CodeHard.j5.j K (waybilllaw23_CodeHard.L2 K n2)) .go .go) .go)))) .go)))))) .go))
theorem waybilllaw23_CodeHard.ev_eq : waybilllaw23_CodeHard.p0 = fun K t0 h => Ev P Try.f3 (waybilllaw23_CodeHard.plan K) K [.int .i64 t0] h := by kernel_rfl
theorem waybilllaw23_CodeHard.obl (K : KT) : Obl P Try.f3 (waybilllaw23_CodeHard.plan K) K :=
  obl_of (R := (∀ x h, ¬ (waybilllaw23_CodeHard.L2.j K) 0 x h) ∧ ImpN (waybilllaw23_CodeHard.L2.j K) ∧ (∀ (n2 : Nat), Imp (waybilllaw23_CodeHard.j3.j K (waybilllaw23_CodeHard.L2 K n2)) ∧ Imp (waybilllaw23_CodeHard.j4.j K (waybilllaw23_CodeHard.L2 K n2)) ∧ Imp (waybilllaw23_CodeHard.j5.j K (waybilllaw23_CodeHard.L2 K n2)) ∧ True) ∧ Imp (waybilllaw23_CodeHard.j1.j K) ∧ True) (by kernel_rfl) ⟨fun _ _ H => H, impN _, fun _ => ⟨imp _, ⟨imp _, ⟨imp _, trivial⟩⟩⟩, ⟨imp _, trivial⟩⟩
theorem waybilllaw23_CodeHard.ok {K : KT} {t0 : Int} {h : Heap} (H : waybilllaw23_CodeHard.p0 K t0 h) : CallsH P F.waybilllaw23_CodeHard [.int .i64 t0] K h :=
  calls_of_Ev (waybilllaw23_CodeHard.plan K) Try.func3 (by kernel_rfl) (waybilllaw23_CodeHard.obl K) (by rw [waybilllaw23_CodeHard.ev_eq] at H; exact H)

end Go.Proofs.Ytpfnfmlibpoleaa.Pr
