/- What functions of the package Ref16 come to, over the heap alone, and that they do: printed by gen.py out of the given program. -/
import Derived.Test.YtechpnlbkkfplaaPrH
set_option linter.unusedVariables false
set_option maxRecDepth 100000
namespace Go.Proofs.Ytechpnlbkkfplaa.Pr
open Go Go.Lift Go.Proofs

/-! waybill/waybillref16.in: 80 -/
def waybillref16_in.L1 (K : KT) : Nat → OA → Nat → Nat → Int → Int → Heap → Prop
  | 0, _, _, _, _, _, _ => False
  | fuel + 1, l_0, l_0l, l_0c, t1, i_5, h => ((decide (i_5 < ((l_0l : Nat) : Int))) = true → ∃ p1, l_0 = some p1 ∧ (0 : Int) ≤ i_5 ∧ i_5 < ((l_0l : Nat) : Int) ∧ ∃ n2, hcell h (Addr.add p1 (Int.toNat i_5 * 1)) = some (.int .u64 n2) ∧ ((n2 == t1) = true → K (.bool true) h) ∧ ((n2 == t1) = false → bd ((IntKind.i64.wrap (i_5 + 1)) : Int) fun i_3 => (waybillref16_in.L1 K fuel) l_0 l_0l l_0c t1 i_3 h)) ∧ ((decide (i_5 < ((l_0l : Nat) : Int))) = false → K (.bool false) h)
termination_by structural n => n
def waybillref16_in.L1.l : Live := [(0, .slice), (1, .int .u64), (5, .int .i64)]
def waybillref16_in.L1.j (K : KT) : Nat → Tup waybillref16_in.L1.l → Heap → Prop := fun n x h => waybillref16_in.L1 K n x.1.1 x.1.2.1 x.1.2.2 x.2.1 x.2.2.1 h
def waybillref16_in.p0 (K : KT) (l_0 : OA) (l_0l : Nat) (l_0c : Nat) (t1 : Int) (h : Heap) : Prop :=
  ∃ fuel4, waybillref16_in.L1 K fuel4 l_0 l_0l l_0c t1 0 h
def waybillref16_in.plan (K : KT) : Plan := (.seq .go (.seq (.seq .go (.block (.loop waybillref16_in.L1.l (waybillref16_in.L1.j K) (fun n1 => .go)))) .go))
theorem waybillref16_in.ev_eq : waybillref16_in.p0 = fun K l_0 l_0l l_0c t1 h => Ev P Try.f80 (waybillref16_in.plan K) K [.slice l_0 l_0l l_0c, .int .u64 t1] h := by kernel_rfl
theorem waybillref16_in.obl (K : KT) : Obl P Try.f80 (waybillref16_in.plan K) K :=
  obl_of (R := (∀ x h, ¬ (waybillref16_in.L1.j K) 0 x h) ∧ ImpN (waybillref16_in.L1.j K) ∧ (∀ (n1 : Nat), True) ∧ True) (by kernel_rfl) ⟨fun _ _ H => H, impN _, fun _ => trivial, trivial⟩
theorem waybillref16_in.ok {K : KT} {l_0 : OA} {l_0l : Nat} {l_0c : Nat} {t1 : Int} {h : Heap} (H : waybillref16_in.p0 K l_0 l_0l l_0c t1 h) : CallsH P F.waybillref16_in [.slice l_0 l_0l l_0c, .int .u64 t1] K h :=
  calls_of_Ev (waybillref16_in.plan K) Try.func80 (by kernel_rfl) (waybillref16_in.obl K) (by rw [waybillref16_in.ev_eq] at H; exact H)

/-! waybill/waybillref16.with: 91 -/
def waybillref16_with.j2 (K : KT) (l_0 : OA) (l_0l : Nat) (l_0c : Nat) (s_1 : List UInt8) (k_5 : Int) (t31 : Bool) (h : Heap) : Prop :=
  (t31 = true → K (.slice l_0 l_0l l_0c) h) ∧ (t31 = false → inB k_5 l_0c ∧ inB k_5 l_0l ∧ (bd (al h #[] T.string) fun h1 => (SemH P (Builtin.append_ #[T.sl_string, T.sl_string] T.sl_string #[.slice (some (top h)) 0 0, .slice (slA l_0 0 l_0c 1) (Int.toNat k_5) l_0c]) (fun v2 h3 => ∃ a4 a4l a4c, v2 = .slice a4 a4l a4c ∧ bd (al h3 #[.string (mkS s_1)] T.string) fun h5 => SemH P (Builtin.append_ #[T.sl_string, T.sl_string] T.sl_string #[.slice a4 a4l a4c, .slice (some (top h3)) 1 1]) (fun v6 h7 => ∃ a8 a8l a8c, v6 = .slice a8 a8l a8c ∧ SemH P (Builtin.append_ #[T.sl_string, T.sl_string] T.sl_string #[.slice a8 a8l a8c, .slice (slA l_0 (Int.toNat k_5) l_0c 1) (l_0l - Int.toNat k_5) (l_0c - Int.toNat k_5)]) (fun v9 h10 => ∃ a11 a11l a11c, v9 = .slice a11 a11l a11c ∧ K (.slice a11 a11l a11c) h10) h7) h5) h1) ∧ (bd (al h1 #[.string (mkS s_1)] T.string) fun h12 => SemH P (Builtin.append_ #[T.sl_string, T.sl_string] T.sl_string #[.slice (some (top h)) 0 0, .slice (slA l_0 0 l_0c 1) (Int.toNat k_5) l_0c]) (fun v13 h14 => ∃ a15 a15l a15c, v13 = .slice a15 a15l a15c ∧ SemH P (Builtin.append_ #[T.sl_string, T.sl_string] T.sl_string #[.slice a15 a15l a15c, .slice (some (top h1)) 1 1]) (fun v16 h17 => ∃ a18 a18l a18c, v16 = .slice a18 a18l a18c ∧ SemH P (Builtin.append_ #[T.sl_string, T.sl_string] T.sl_string #[.slice a18 a18l a18c, .slice (slA l_0 (Int.toNat k_5) l_0c 1) (l_0l - Int.toNat k_5) (l_0c - Int.toNat k_5)]) (fun v19 h20 => ∃ a21 a21l a21c, v19 = .slice a21 a21l a21c ∧ K (.slice a21 a21l a21c) h20) h17) h14) h12)) ∧ (bd (al h #[.string (mkS s_1)] T.string) fun h22 => bd (al h22 #[] T.string) fun h23 => SemH P (Builtin.append_ #[T.sl_string, T.sl_string] T.sl_string #[.slice (some (top h22)) 0 0, .slice (slA l_0 0 l_0c 1) (Int.toNat k_5) l_0c]) (fun v24 h25 => ∃ a26 a26l a26c, v24 = .slice a26 a26l a26c ∧ SemH P (Builtin.append_ #[T.sl_string, T.sl_string] T.sl_string #[.slice a26 a26l a26c, .slice (some (top h)) 1 1]) (fun v27 h28 => ∃ a29 a29l a29c, v27 = .slice a29 a29l a29c ∧ SemH P (Builtin.append_ #[T.sl_string, T.sl_string] T.sl_string #[.slice a29 a29l a29c, .slice (slA l_0 (Int.toNat k_5) l_0c 1) (l_0l - Int.toNat k_5) (l_0c - Int.toNat k_5)]) (fun v30 h31 => ∃ a32 a32l a32c, v30 = .slice a32 a32l a32c ∧ K (.slice a32 a32l a32c) h31) h28) h25) h23))
def waybillref16_with.j2.l : Live := [(0, .slice), (1, .str), (5, .int .i64), (31, .bool)]
def waybillref16_with.j2.j (K : KT) : Tup waybillref16_with.j2.l → Heap → Prop := fun x h => waybillref16_with.j2 K x.1.1 x.1.2.1 x.1.2.2 x.2.1 x.2.2.1 x.2.2.2.1 h
def waybillref16_with.j1 (K : KT) (l_0 : OA) (l_0l : Nat) (l_0c : Nat) (s_1 : List UInt8) (k_5 : Int) (h : Heap) : Prop :=
  ((decide (k_5 < ((l_0l : Nat) : Int))) = true → ∃ p33, l_0 = some p33 ∧ (0 : Int) ≤ k_5 ∧ k_5 < ((l_0l : Nat) : Int) ∧ ∃ s34, hcell h (Addr.add p33 (Int.toNat k_5 * 1)) = some (.string (mkS s34)) ∧ waybillref16_with.j2 K l_0 l_0l l_0c s_1 k_5 (s34 == s_1) h) ∧ ((decide (k_5 < ((l_0l : Nat) : Int))) = false → waybillref16_with.j2 K l_0 l_0l l_0c s_1 k_5 false h)
def waybillref16_with.j1.l : Live := [(0, .slice), (1, .str), (5, .int .i64)]
def waybillref16_with.j1.j (K : KT) : Tup waybillref16_with.j1.l → Heap → Prop := fun x h => waybillref16_with.j1 K x.1.1 x.1.2.1 x.1.2.2 x.2.1 x.2.2.1 h
def waybillref16_with.j4 (K : KT) (R3 : OA → Nat → Nat → List UInt8 → Int → Heap → Prop) (l_0 : OA) (l_0l : Nat) (l_0c : Nat) (s_1 : List UInt8) (k_5 : Int) (t17 : Bool) (h : Heap) : Prop :=
  (t17 = true → bd ((IntKind.i64.wrap (k_5 + 1)) : Int) fun k_35 => R3 l_0 l_0l l_0c s_1 k_35 h) ∧ (t17 = false → waybillref16_with.j1 K l_0 l_0l l_0c s_1 k_5 h)
def waybillref16_with.j4.l : Live := [(0, .slice), (1, .str), (5, .int .i64), (17, .bool)]
def waybillref16_with.j4.j (K : KT) (R3 : OA → Nat → Nat → List UInt8 → Int → Heap → Prop) : Tup waybillref16_with.j4.l → Heap → Prop := fun x h => waybillref16_with.j4 K R3 x.1.1 x.1.2.1 x.1.2.2 x.2.1 x.2.2.1 x.2.2.2.1 h
def waybillref16_with.L3 (K : KT) : Nat → OA → Nat → Nat → List UInt8 → Int → Heap → Prop
  | 0, _, _, _, _, _, _ => False
  | fuel + 1, l_0, l_0l, l_0c, s_1, k_5, h => ((decide (k_5 < ((l_0l : Nat) : Int))) = true → ∃ p36, l_0 = some p36 ∧ (0 : Int) ≤ k_5 ∧ k_5 < ((l_0l : Nat) : Int) ∧ ∃ s37, hcell h (Addr.add p36 (Int.toNat k_5 * 1)) = some (.string (mkS s37)) ∧ waybillref16_with.j4 K (waybillref16_with.L3 K fuel) l_0 l_0l l_0c s_1 k_5 (Op.bytesLess s37 s_1) h) ∧ ((decide (k_5 < ((l_0l : Nat) : Int))) = false → waybillref16_with.j4 K (waybillref16_with.L3 K fuel) l_0 l_0l l_0c s_1 k_5 false h)
termination_by structural n => n
def waybillref16_with.L3.l : Live := [(0, .slice), (1, .str), (5, .int .i64)]
def waybillref16_with.L3.j (K : KT) : Nat → Tup waybillref16_with.L3.l → Heap → Prop := fun n x h => waybillref16_with.L3 K n x.1.1 x.1.2.1 x.1.2.2 x.2.1 x.2.2.1 h
def waybillref16_with.p0 (K : KT) (l_0 : OA) (l_0l : Nat) (l_0c : Nat) (s_1 : List UInt8) (h : Heap) : Prop :=
  ∃ fuel38, waybillref16_with.L3 K fuel38 l_0 l_0l l_0c s_1 0 h
def waybillref16_with.plan (K : KT) : Plan := (.seq .go (.seq .go (.cut waybillref16_with.j1.l (waybillref16_with.j1.j K) (.block (.loop waybillref16_with.L3.l (waybillref16_with.L3.j K) (fun n3 => (.seq (.cut waybillref16_with.j4.l (waybillref16_with.j4.j K (waybillref16_with.L3 K n3)) .go .go) .go)))) (.seq (.cut waybillref16_with.j2.l (waybillref16_with.j2.j K) .go .go) (.seq (.orders (.op 1 (.op 2 (.op 3 (.op 5 (.op 8 (.op 9 (.op 10 (.both (.op 0 (.both (.op 4 (.op 6 (.op 7 (.op 11 (.op 12 .nil))))) (.op 6 (.op 4 (.op 7 (.op 11 (.op 12 .nil))))))) (.op 6 (.op 0 (.op 4 (.op 7 (.op 11 (.op 12 .nil))))))))))))))) .go)))))
theorem waybillref16_with.ev_eq : waybillref16_with.p0 = fun K l_0 l_0l l_0c s_1 h => Ev P Try.f91 (waybillref16_with.plan K) K [.slice l_0 l_0l l_0c, .string (mkS s_1)] h := by kernel_rfl
theorem waybillref16_with.obl (K : KT) : Obl P Try.f91 (waybillref16_with.plan K) K :=
  obl_of (R := (∀ x h, ¬ (waybillref16_with.L3.j K) 0 x h) ∧ ImpN (waybillref16_with.L3.j K) ∧ (∀ (n3 : Nat), Imp (waybillref16_with.j4.j K (waybillref16_with.L3 K n3)) ∧ True) ∧ Imp (waybillref16_with.j1.j K) ∧ Imp (waybillref16_with.j2.j K) ∧ DrawOK P Try.f91.ntmps (opsAt 6 (bodyOf Try.f91)) (.op 1 (.op 2 (.op 3 (.op 5 (.op 8 (.op 9 (.op 10 (.both (.op 0 (.both (.op 4 (.op 6 (.op 7 (.op 11 (.op 12 .nil))))) (.op 6 (.op 4 (.op 7 (.op 11 (.op 12 .nil))))))) (.op 6 (.op 0 (.op 4 (.op 7 (.op 11 (.op 12 .nil)))))))))))))) ∧ True) (by kernel_rfl) ⟨fun _ _ H => H, impN _, fun _ => ⟨imp _, trivial⟩, ⟨imp _, ⟨imp _, ⟨draw_ok (by kernel_rfl), trivial⟩⟩⟩⟩
theorem waybillref16_with.ok {K : KT} {l_0 : OA} {l_0l : Nat} {l_0c : Nat} {s_1 : List UInt8} {h : Heap} (H : waybillref16_with.p0 K l_0 l_0l l_0c s_1 h) : CallsH P F.waybillref16_with [.slice l_0 l_0l l_0c, .string (mkS s_1)] K h :=
  calls_of_Ev (waybillref16_with.plan K) Try.func91 (by kernel_rfl) (waybillref16_with.obl K) (by rw [waybillref16_with.ev_eq] at H; exact H)

end Go.Proofs.Ytechpnlbkkfplaa.Pr
