/- What functions of the package Law17Same come to, over the heap alone, and that they do: printed by gen.py out of the given program. -/
import Derived.Test.YtechpnlbkkfplaaPrH
set_option linter.unusedVariables false
set_option maxRecDepth 100000
namespace Go.Proofs.Ytechpnlbkkfplaa.Pr
open Go Go.Lift Go.Proofs

/-! waybill/waybilllaw17.Same: 24 -/
def waybilllaw17_Same.L3 (K : KT) : Nat → OA → Nat → Nat → OA → Nat → Nat → Int → Heap → Prop
  | 0, _, _, _, _, _, _, _, _ => False
  | fuel + 1, c_7, c_7l, c_7c, d_8, d_8l, d_8c, i_10, h => ((decide (i_10 < ((c_7l : Nat) : Int))) = true → ∃ p13, c_7 = some p13 ∧ (0 : Int) ≤ i_10 ∧ i_10 < ((c_7l : Nat) : Int) ∧ ∃ p14, d_8 = some p14 ∧ (0 : Int) ≤ i_10 ∧ i_10 < ((d_8l : Nat) : Int) ∧ ∃ n15, hcell h (Addr.add p13 (Int.toNat i_10 * 1)) = some (.int .u64 n15) ∧ ∃ n16, hcell h (Addr.add p14 (Int.toNat i_10 * 1)) = some (.int .u64 n16) ∧ ((n15 != n16) = true → K (.bool false) h) ∧ ((n15 != n16) = false → bd ((IntKind.i64.wrap (i_10 + 1)) : Int) fun i_17 => (waybilllaw17_Same.L3 K fuel) c_7 c_7l c_7c d_8 d_8l d_8c i_17 h)) ∧ ((decide (i_10 < ((c_7l : Nat) : Int))) = false → K (.bool true) h)
termination_by structural n => n
def waybilllaw17_Same.L3.l : Live := [(7, .slice), (8, .slice), (10, .int .i64)]
def waybilllaw17_Same.L3.j (K : KT) : Nat → Tup waybilllaw17_Same.L3.l → Heap → Prop := fun n x h => waybilllaw17_Same.L3 K n x.1.1 x.1.2.1 x.1.2.2 x.2.1.1 x.2.1.2.1 x.2.1.2.2 x.2.2.1 h
def waybilllaw17_Same.j2 (K : KT) (c_7 : OA) (c_7l : Nat) (c_7c : Nat) (d_8 : OA) (d_8l : Nat) (d_8c : Nat) (h : Heap) : Prop :=
  ∃ fuel18, waybilllaw17_Same.L3 K fuel18 c_7 c_7l c_7c d_8 d_8l d_8c 0 h
def waybilllaw17_Same.j2.l : Live := [(7, .slice), (8, .slice)]
def waybilllaw17_Same.j2.j (K : KT) : Tup waybilllaw17_Same.j2.l → Heap → Prop := fun x h => waybilllaw17_Same.j2 K x.1.1 x.1.2.1 x.1.2.2 x.2.1.1 x.2.1.2.1 x.2.1.2.2 h
def waybilllaw17_Same.L4 (K : KT) : Nat → OA → Nat → Nat → OA → Nat → Nat → OA → Nat → Nat → OA → Nat → Nat → Int → Heap → Prop
  | 0, _, _, _, _, _, _, _, _, _, _, _, _, _, _ => False
  | fuel + 1, a_5, a_5l, a_5c, b_6, b_6l, b_6c, c_7, c_7l, c_7c, d_8, d_8l, d_8c, i_9, h => ((decide (i_9 < ((a_5l : Nat) : Int))) = true → ∃ p19, a_5 = some p19 ∧ (0 : Int) ≤ i_9 ∧ i_9 < ((a_5l : Nat) : Int) ∧ ∃ p20, b_6 = some p20 ∧ (0 : Int) ≤ i_9 ∧ i_9 < ((b_6l : Nat) : Int) ∧ ∃ cs21, rdC h (Addr.add p19 (Int.toNat i_9 * 2)) 0 2 = some cs21 ∧ ∃ cs22, rdC h (Addr.add p20 (Int.toNat i_9 * 2)) 0 2 = some cs22 ∧ SemH P (eqS .neq T.api_Entry (.tmp 42) (.tmp 46) (.agg (List.toArray cs21)) (.agg (List.toArray cs22))) (fun v23 h24 => ∃ b25, v23 = .bool b25 ∧ (b25 = true → K (.bool false) h24) ∧ (b25 = false → bd ((IntKind.i64.wrap (i_9 + 1)) : Int) fun i_26 => (waybilllaw17_Same.L4 K fuel) a_5 a_5l a_5c b_6 b_6l b_6c c_7 c_7l c_7c d_8 d_8l d_8c i_26 h24)) h) ∧ ((decide (i_9 < ((a_5l : Nat) : Int))) = false → waybilllaw17_Same.j2 K c_7 c_7l c_7c d_8 d_8l d_8c h)
termination_by structural n => n
def waybilllaw17_Same.L4.l : Live := [(5, .slice), (6, .slice), (7, .slice), (8, .slice), (9, .int .i64)]
def waybilllaw17_Same.L4.j (K : KT) : Nat → Tup waybilllaw17_Same.L4.l → Heap → Prop := fun n x h => waybilllaw17_Same.L4 K n x.1.1 x.1.2.1 x.1.2.2 x.2.1.1 x.2.1.2.1 x.2.1.2.2 x.2.2.1.1 x.2.2.1.2.1 x.2.2.1.2.2 x.2.2.2.1.1 x.2.2.2.1.2.1 x.2.2.2.1.2.2 x.2.2.2.2.1 h
def waybilllaw17_Same.j1 (K : KT) (a_5 : OA) (a_5l : Nat) (a_5c : Nat) (b_6 : OA) (b_6l : Nat) (b_6c : Nat) (c_7 : OA) (c_7l : Nat) (c_7c : Nat) (d_8 : OA) (d_8l : Nat) (d_8c : Nat) (t32 : Bool) (h : Heap) : Prop :=
  (t32 = true → K (.bool false) h) ∧ (t32 = false → ∃ fuel27, waybilllaw17_Same.L4 K fuel27 a_5 a_5l a_5c b_6 b_6l b_6c c_7 c_7l c_7c d_8 d_8l d_8c 0 h)
def waybilllaw17_Same.j1.l : Live := [(5, .slice), (6, .slice), (7, .slice), (8, .slice), (32, .bool)]
def waybilllaw17_Same.j1.j (K : KT) : Tup waybilllaw17_Same.j1.l → Heap → Prop := fun x h => waybilllaw17_Same.j1 K x.1.1 x.1.2.1 x.1.2.2 x.2.1.1 x.2.1.2.1 x.2.1.2.2 x.2.2.1.1 x.2.2.1.2.1 x.2.2.1.2.2 x.2.2.2.1.1 x.2.2.2.1.2.1 x.2.2.2.1.2.2 x.2.2.2.2.1 h
def waybilllaw17_Same.p0 (K : KT) (l_0 : OA) (w_1 : OA) (h : Heap) : Prop :=
  ((Option.isNone l_0) = true → K (.bool false) h) ∧ ((Option.isNone l_0) = false → CallsH P F.line_Line_Ready [.pointer l_0] (fun v1 h2 => ∃ a3 a3l a3c, v1 = .slice a3 a3l a3c ∧ CallsH P F.waybillref16_Line_Ready [.pointer w_1] (fun v4 h5 => ∃ a6 a6l a6c, v4 = .slice a6 a6l a6c ∧ CallsH P F.line_Line_Held [.pointer l_0] (fun v7 h8 => ∃ a9 a9l a9c, v7 = .slice a9 a9l a9c ∧ CallsH P F.waybillref16_Line_Held [.pointer w_1] (fun v10 h11 => ∃ a12 a12l a12c, v10 = .slice a12 a12l a12c ∧ ((((a3l : Nat) : Int) != ((a6l : Nat) : Int)) = false → waybilllaw17_Same.j1 K a3 a3l a3c a6 a6l a6c a9 a9l a9c a12 a12l a12c (((a9l : Nat) : Int) != ((a12l : Nat) : Int)) h11) ∧ ((((a3l : Nat) : Int) != ((a6l : Nat) : Int)) = true → waybilllaw17_Same.j1 K a3 a3l a3c a6 a6l a6c a9 a9l a9c a12 a12l a12c true h11)) h8) h5) h2) h)
def waybilllaw17_Same.plan (K : KT) : Plan := (.seq .go (.seq .go (.seq .go (.seq .go (.seq (.cut waybilllaw17_Same.j1.l (waybilllaw17_Same.j1.j K) .go .go) (.cut waybilllaw17_Same.j2.l (waybilllaw17_Same.j2.j K) (.seq .go (.block (.loop waybilllaw17_Same.L4.l (waybilllaw17_Same.L4.j K) (fun n4 => (.seq .go (.seq (.block (.seq (.orders (.op 0 (.op 1 (.op 2 (.op 4 (.op 5 (.op 6 (.op 3 (.op 7 (.op 8 .nil)))))))))) .go)) .go)))))) (.seq (.seq .go (.block (.loop waybilllaw17_Same.L3.l (waybilllaw17_Same.L3.j K) (fun n3 => (.seq .go (.seq (.block (.seq (.orders (.op 0 (.op 1 (.op 2 (.op 4 (.op 5 (.op 6 (.op 3 (.op 7 (.op 8 .nil)))))))))) .go)) .go)))))) .go)))))))
theorem waybilllaw17_Same.ev_eq : waybilllaw17_Same.p0 = fun K l_0 w_1 h => Ev P Try.f24 (waybilllaw17_Same.plan K) K [.pointer l_0, .pointer w_1] h := by kernel_rfl
theorem waybilllaw17_Same.obl (K : KT) : Obl P Try.f24 (waybilllaw17_Same.plan K) K :=
  obl_of (R := Imp (waybilllaw17_Same.j1.j K) ∧ (∀ x h, ¬ (waybilllaw17_Same.L4.j K) 0 x h) ∧ ImpN (waybilllaw17_Same.L4.j K) ∧ (∀ (n4 : Nat), DrawOK P Try.f24.ntmps (opsAt 10 (bodyOf Try.f24)) (.op 0 (.op 1 (.op 2 (.op 4 (.op 5 (.op 6 (.op 3 (.op 7 (.op 8 .nil))))))))) ∧ True) ∧ Imp (waybilllaw17_Same.j2.j K) ∧ (∀ x h, ¬ (waybilllaw17_Same.L3.j K) 0 x h) ∧ ImpN (waybilllaw17_Same.L3.j K) ∧ (∀ (n3 : Nat), DrawOK P Try.f24.ntmps (opsAt 15 (bodyOf Try.f24)) (.op 0 (.op 1 (.op 2 (.op 4 (.op 5 (.op 6 (.op 3 (.op 7 (.op 8 .nil))))))))) ∧ True) ∧ True) (by kernel_rfl) ⟨imp _, ⟨fun _ _ H => H, impN _, fun _ => ⟨draw_ok (by kernel_rfl), trivial⟩, ⟨imp _, ⟨fun _ _ H => H, impN _, fun _ => ⟨draw_ok (by kernel_rfl), trivial⟩, trivial⟩⟩⟩⟩
theorem waybilllaw17_Same.ok {K : KT} {l_0 : OA} {w_1 : OA} {h : Heap} (H : waybilllaw17_Same.p0 K l_0 w_1 h) : CallsH P F.waybilllaw17_Same [.pointer l_0, .pointer w_1] K h :=
  calls_of_Ev (waybilllaw17_Same.plan K) Try.func24 (by kernel_rfl) (waybilllaw17_Same.obl K) (by rw [waybilllaw17_Same.ev_eq] at H; exact H)

end Go.Proofs.Ytechpnlbkkfplaa.Pr
