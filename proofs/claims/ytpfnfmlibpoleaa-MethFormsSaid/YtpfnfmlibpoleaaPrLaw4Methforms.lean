/- What functions of the package Law4Methforms come to, over the heap alone, and that they do: printed by gen.py out of the given program. -/
import Derived.Test.YtpfnfmlibpoleaaPrH
set_option linter.unusedVariables false
set_option maxRecDepth 100000
namespace Go.Proofs.Ytpfnfmlibpoleaa.Pr
open Go Go.Lift Go.Proofs

/-! waybill/waybilllaw4.MethForms: 9 -/
def waybilllaw4_MethForms.j2 (K : KT) (t10 : Int) (h : Heap) : Prop :=
  ((t10 == 49) = true → CallsH P F.waybilllaw4_awake [] (fun v1 h2 => ∃ b3, v1 = .bool b3 ∧ K (.bool b3) h2) h) ∧ ((t10 == 49) = false → K (.bool false) h)
def waybilllaw4_MethForms.j2.l : Live := [(10, .int .i64)]
def waybilllaw4_MethForms.j2.j (K : KT) : Tup waybilllaw4_MethForms.j2.l → Heap → Prop := fun x h => waybilllaw4_MethForms.j2 K x.1 h
def waybilllaw4_MethForms.j4 (K : KT) (R3 : Int → Int → Heap → Prop) (t10 : Int) (t11 : Int) (h : Heap) : Prop :=
  bd ((IntKind.i64.wrap (t11 + 10)) : Int) fun n4 => R3 t10 n4 h
def waybilllaw4_MethForms.j4.l : Live := [(10, .int .i64), (11, .int .i64)]
def waybilllaw4_MethForms.j4.j (K : KT) (R3 : Int → Int → Heap → Prop) : Tup waybilllaw4_MethForms.j4.l → Heap → Prop := fun x h => waybilllaw4_MethForms.j4 K R3 x.1 x.2.1 h
def waybilllaw4_MethForms.j6 (K : KT) (R3 : Int → Int → Heap → Prop) (R5 : Int → Int → Int → Heap → Prop) (t10 : Int) (t11 : Int) (t12 : Int) (h : Heap) : Prop :=
  bd ((IntKind.i64.wrap (t12 + 1)) : Int) fun n5 => R5 t10 t11 n5 h
def waybilllaw4_MethForms.j6.l : Live := [(10, .int .i64), (11, .int .i64), (12, .int .i64)]
def waybilllaw4_MethForms.j6.j (K : KT) (R3 : Int → Int → Heap → Prop) (R5 : Int → Int → Int → Heap → Prop) : Tup waybilllaw4_MethForms.j6.l → Heap → Prop := fun x h => waybilllaw4_MethForms.j6 K R3 R5 x.1 x.2.1 x.2.2.1 h
def waybilllaw4_MethForms.L5 (K : KT) (R3 : Int → Int → Heap → Prop) : Nat → Int → Int → Int → Heap → Prop
  | 0, _, _, _, _ => False
  | fuel + 1, t10, t11, t12, h => ((decide (t12 < 130)) = true → CallsH P F.meth_Form [.int .i64 t11, .int .i64 t12] (fun v6 h7 => ∃ s8 b9, v6 = .tuple #[.string (mkS s8), .bool b9] ∧ (b9 = true → bd ((IntKind.i64.wrap (t10 + 1)) : Int) fun n10 => waybilllaw4_MethForms.j6 K R3 (waybilllaw4_MethForms.L5 K R3 fuel) n10 t11 t12 h7) ∧ (b9 = false → waybilllaw4_MethForms.j6 K R3 (waybilllaw4_MethForms.L5 K R3 fuel) t10 t11 t12 h7)) h) ∧ ((decide (t12 < 130)) = false → waybilllaw4_MethForms.j4 K R3 t10 t11 h)
termination_by structural n => n
def waybilllaw4_MethForms.L5.l : Live := [(10, .int .i64), (11, .int .i64), (12, .int .i64)]
def waybilllaw4_MethForms.L5.j (K : KT) (R3 : Int → Int → Heap → Prop) : Nat → Tup waybilllaw4_MethForms.L5.l → Heap → Prop := fun n x h => waybilllaw4_MethForms.L5 K R3 n x.1 x.2.1 x.2.2.1 h
def waybilllaw4_MethForms.L3 (K : KT) : Nat → Int → Int → Heap → Prop
  | 0, _, _, _ => False
  | fuel + 1, t10, t11, h => ((decide (t11 < 100)) = true → ∃ fuel11, waybilllaw4_MethForms.L5 K (waybilllaw4_MethForms.L3 K fuel) fuel11 t10 t11 0 h) ∧ ((decide (t11 < 100)) = false → waybilllaw4_MethForms.j2 K t10 h)
termination_by structural n => n
def waybilllaw4_MethForms.L3.l : Live := [(10, .int .i64), (11, .int .i64)]
def waybilllaw4_MethForms.L3.j (K : KT) : Nat → Tup waybilllaw4_MethForms.L3.l → Heap → Prop := fun n x h => waybilllaw4_MethForms.L3 K n x.1 x.2.1 h
def waybilllaw4_MethForms.j1 (K : KT)  (h : Heap) : Prop :=
  ∃ fuel12, waybilllaw4_MethForms.L3 K fuel12 0 0 h
def waybilllaw4_MethForms.j1.l : Live := []
def waybilllaw4_MethForms.j1.j (K : KT) : Tup waybilllaw4_MethForms.j1.l → Heap → Prop := fun x h => waybilllaw4_MethForms.j1 K  h
def waybilllaw4_MethForms.j8 (K : KT) (R7 : Int → Int → Int → Heap → Prop) (t0 : Int) (t1 : Int) (t5 : Int) (t38 : Bool) (h : Heap) : Prop :=
  (t38 = true → K (.bool false) h) ∧ (t38 = false → bd ((bitsI .and .i64 t0 255) : Int) fun n21 => bd ((bitsI .and .i64 t1 255) : Int) fun n22 => bd ((IntKind.i64.wrap (t5 + 1)) : Int) fun n23 => R7 n21 n22 n23 h)
def waybilllaw4_MethForms.j8.l : Live := [(0, .int .i64), (1, .int .i64), (5, .int .i64), (38, .bool)]
def waybilllaw4_MethForms.j8.j (K : KT) (R7 : Int → Int → Int → Heap → Prop) : Tup waybilllaw4_MethForms.j8.l → Heap → Prop := fun x h => waybilllaw4_MethForms.j8 K R7 x.1 x.2.1 x.2.2.1 x.2.2.2.1 h
def waybilllaw4_MethForms.L7 (K : KT) : Nat → Int → Int → Int → Heap → Prop
  | 0, _, _, _, _ => False
  | fuel + 1, t0, t1, t5, h => ((decide (t5 < 2)) = true → CallsH P F.meth_Form [.int .i64 t0, .int .i64 t1] (fun v13 h14 => ∃ s15 b16, v13 = .tuple #[.string (mkS s15), .bool b16] ∧ CallsH P F.waybillref1_Form [.int .i64 t0, .int .i64 t1] (fun v17 h18 => ∃ s19 b20, v17 = .tuple #[.string (mkS s19), .bool b20] ∧ ((!(s15 == s19)) = false → waybilllaw4_MethForms.j8 K (waybilllaw4_MethForms.L7 K fuel) t0 t1 t5 (!(b16 == b20)) h18) ∧ ((!(s15 == s19)) = true → waybilllaw4_MethForms.j8 K (waybilllaw4_MethForms.L7 K fuel) t0 t1 t5 true h18)) h14) h) ∧ ((decide (t5 < 2)) = false → waybilllaw4_MethForms.j1 K h)
termination_by structural n => n
def waybilllaw4_MethForms.L7.l : Live := [(0, .int .i64), (1, .int .i64), (5, .int .i64)]
def waybilllaw4_MethForms.L7.j (K : KT) : Nat → Tup waybilllaw4_MethForms.L7.l → Heap → Prop := fun n x h => waybilllaw4_MethForms.L7 K n x.1 x.2.1 x.2.2.1 h
def waybilllaw4_MethForms.p0 (K : KT) (t0 : Int) (t1 : Int) (h : Heap) : Prop :=
  ∃ fuel24, waybilllaw4_MethForms.L7 K fuel24 t0 t1 0 h
def waybilllaw4_MethForms.plan (K : KT) : Plan := (.seq .go (.cut waybilllaw4_MethForms.j1.l (waybilllaw4_MethForms.j1.j K) (.seq .go (.block (.loop waybilllaw4_MethForms.L7.l (waybilllaw4_MethForms.L7.j K) (fun n7 => (.seq .go (.seq (.block (.seq .go (.seq .go (.seq (.cut waybilllaw4_MethForms.j8.l (waybilllaw4_MethForms.j8.j K (waybilllaw4_MethForms.L7 K n7)) .go .go) .go)))) .go)))))) (.seq .go (.cut waybilllaw4_MethForms.j2.l (waybilllaw4_MethForms.j2.j K) (.seq .go (.block (.loop waybilllaw4_MethForms.L3.l (waybilllaw4_MethForms.L3.j K) (fun n3 => (.seq .go (.cut waybilllaw4_MethForms.j4.l (waybilllaw4_MethForms.j4.j K (waybilllaw4_MethForms.L3 K n3)) (.block (.seq .go (.block (.loop waybilllaw4_MethForms.L5.l (waybilllaw4_MethForms.L5.j K (waybilllaw4_MethForms.L3 K n3)) (fun n5 => (.seq .go (.cut waybilllaw4_MethForms.j6.l (waybilllaw4_MethForms.j6.j K (waybilllaw4_MethForms.L3 K n3) (waybilllaw4_MethForms.L5 K (waybilllaw4_MethForms.L3 K n3) n5)) .go .go))))))) .go)))))) .go))))
theorem waybilllaw4_MethForms.ev_eq : waybilllaw4_MethForms.p0 = fun K t0 t1 h => Ev P Try.f9 (waybilllaw4_MethForms.plan K) K [.int .i64 t0, .int .i64 t1] h := by kernel_rfl
theorem waybilllaw4_MethForms.obl (K : KT) : Obl P Try.f9 (waybilllaw4_MethForms.plan K) K :=
  obl_of (R := (∀ x h, ¬ (waybilllaw4_MethForms.L7.j K) 0 x h) ∧ ImpN (waybilllaw4_MethForms.L7.j K) ∧ (∀ (n7 : Nat), Imp (waybilllaw4_MethForms.j8.j K (waybilllaw4_MethForms.L7 K n7)) ∧ True) ∧ Imp (waybilllaw4_MethForms.j1.j K) ∧ (∀ x h, ¬ (waybilllaw4_MethForms.L3.j K) 0 x h) ∧ ImpN (waybilllaw4_MethForms.L3.j K) ∧ (∀ (n3 : Nat), (∀ x h, ¬ (waybilllaw4_MethForms.L5.j K (waybilllaw4_MethForms.L3 K n3)) 0 x h) ∧ ImpN (waybilllaw4_MethForms.L5.j K (waybilllaw4_MethForms.L3 K n3)) ∧ (∀ (n5 : Nat), Imp (waybilllaw4_MethForms.j6.j K (waybilllaw4_MethForms.L3 K n3) (waybilllaw4_MethForms.L5 K (waybilllaw4_MethForms.L3 K n3) n5)) ∧ True) ∧ Imp (waybilllaw4_MethForms.j4.j K (waybilllaw4_MethForms.L3 K n3)) ∧ True) ∧ Imp (waybilllaw4_MethForms.j2.j K) ∧ True) (by kernel_rfl) ⟨fun _ _ H => H, impN _, fun _ => ⟨imp _, trivial⟩, ⟨imp _, ⟨fun _ _ H => H, impN _, fun _ => ⟨fun _ _ H => H, impN _, fun _ => ⟨imp _, trivial⟩, ⟨imp _, trivial⟩⟩, ⟨imp _, trivial⟩⟩⟩⟩
theorem waybilllaw4_MethForms.ok {K : KT} {t0 : Int} {t1 : Int} {h : Heap} (H : waybilllaw4_MethForms.p0 K t0 t1 h) : CallsH P F.waybilllaw4_MethForms [.int .i64 t0, .int .i64 t1] K h :=
  calls_of_Ev (waybilllaw4_MethForms.plan K) Try.func9 (by kernel_rfl) (waybilllaw4_MethForms.obl K) (by rw [waybilllaw4_MethForms.ev_eq] at H; exact H)

end Go.Proofs.Ytpfnfmlibpoleaa.Pr
