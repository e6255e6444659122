/- What functions of the package SlicesGCon come to, over the heap alone, and that they do: printed by gen.py out of the given program. -/
import Derived.Test.YtechpnlbkkfplaaPrH
set_option linter.unusedVariables false
set_option maxRecDepth 100000
namespace Go.Proofs.Ytechpnlbkkfplaa.Pr
open Go Go.Lift Go.Proofs

/-! slices.IndexFunc[[]waybill/api.Con,waybill/api.Con]: 101 -/
def slices_IndexFunc_api_Con_api_Con.L1 (K : KT) : Nat → OA → Nat → Nat → Value → Int → Int → Heap → Prop
  | 0, _, _, _, _, _, _, _ => False
  | fuel + 1, s_0, s_0l, s_0c, f_1, t7, t8, h => ((decide (t8 < t7)) = true → ∃ p1, s_0 = some p1 ∧ (0 : Int) ≤ t8 ∧ t8 < ((s_0l : Nat) : Int) ∧ ∃ cs2, rdC h (Addr.add p1 (Int.toNat t8 * 5)) 0 5 = some cs2 ∧ CallV P f_1 [.agg (List.toArray cs2)] (fun v3 h4 => ∃ b5, v3 = .bool b5 ∧ (b5 = true → K (.int .i64 t8) h4) ∧ (b5 = false → (slices_IndexFunc_api_Con_api_Con.L1 K fuel) s_0 s_0l s_0c f_1 t7 (IntKind.i64.wrap (t8 + 1)) h4)) h) ∧ ((decide (t8 < t7)) = false → K (.int .i64 (-1)) h)
termination_by structural n => n
def slices_IndexFunc_api_Con_api_Con.L1.l : Live := [(0, .slice), (1, .raw), (7, .int .i64), (8, .int .i64)]
def slices_IndexFunc_api_Con_api_Con.L1.j (K : KT) : Nat → Tup slices_IndexFunc_api_Con_api_Con.L1.l → Heap → Prop := fun n x h => slices_IndexFunc_api_Con_api_Con.L1 K n x.1.1 x.1.2.1 x.1.2.2 x.2.1 x.2.2.1 x.2.2.2.1 h
def slices_IndexFunc_api_Con_api_Con.p0 (K : KT) (s_0 : OA) (s_0l : Nat) (s_0c : Nat) (f_1 : Value) (h : Heap) : Prop :=
  ∃ fuel6, slices_IndexFunc_api_Con_api_Con.L1 K fuel6 s_0 s_0l s_0c f_1 ((s_0l : Nat) : Int) 0 h
def slices_IndexFunc_api_Con_api_Con.plan (K : KT) : Plan := (.seq .go (.seq (.seq .go (.block (.loop slices_IndexFunc_api_Con_api_Con.L1.l (slices_IndexFunc_api_Con_api_Con.L1.j K) (fun n1 => .go)))) .go))
theorem slices_IndexFunc_api_Con_api_Con.ev_eq : slices_IndexFunc_api_Con_api_Con.p0 = fun K s_0 s_0l s_0c f_1 h => Ev P Try.f101 (slices_IndexFunc_api_Con_api_Con.plan K) K [.slice s_0 s_0l s_0c, f_1] h := by kernel_rfl
theorem slices_IndexFunc_api_Con_api_Con.obl (K : KT) : Obl P Try.f101 (slices_IndexFunc_api_Con_api_Con.plan K) K :=
  obl_of (R := (∀ x h, ¬ (slices_IndexFunc_api_Con_api_Con.L1.j K) 0 x h) ∧ ImpN (slices_IndexFunc_api_Con_api_Con.L1.j K) ∧ (∀ (n1 : Nat), True) ∧ True) (by kernel_rfl) ⟨fun _ _ H => H, impN _, fun _ => trivial, trivial⟩
theorem slices_IndexFunc_api_Con_api_Con.ok {K : KT} {s_0 : OA} {s_0l : Nat} {s_0c : Nat} {f_1 : Value} {h : Heap} (H : slices_IndexFunc_api_Con_api_Con.p0 K s_0 s_0l s_0c f_1 h) : CallsH P F.slices_IndexFunc_api_Con_api_Con [.slice s_0 s_0l s_0c, f_1] K h :=
  calls_of_Ev (slices_IndexFunc_api_Con_api_Con.plan K) Try.func101 (by kernel_rfl) (slices_IndexFunc_api_Con_api_Con.obl K) (by rw [slices_IndexFunc_api_Con_api_Con.ev_eq] at H; exact H)

/-! slices.DeleteFunc[[]waybill/api.Con,waybill/api.Con]: 84 -/
def slices_DeleteFunc_api_Con_api_Con.j1 (K : KT) (s_0 : OA) (s_0l : Nat) (s_0c : Nat) (i_5 : Int) (h : Heap) : Prop :=
  inB i_5 s_0l ∧ SemH P (Builtin.clear_ #[T.sl_api_Con] T.unit #[.slice (slA s_0 (Int.toNat i_5) s_0c 5) (s_0l - Int.toNat i_5) (s_0c - Int.toNat i_5)]) (fun v4 h5 => inB i_5 s_0c ∧ bd ((slA s_0 0 s_0c 5) : OA) fun a6 => bd ((Int.toNat i_5) : Nat) fun a6l => bd (s_0c : Nat) fun a6c => K (.slice a6 a6l a6c) h5) h
def slices_DeleteFunc_api_Con_api_Con.j1.l : Live := [(0, .slice), (5, .int .i64)]
def slices_DeleteFunc_api_Con_api_Con.j1.j (K : KT) : Tup slices_DeleteFunc_api_Con_api_Con.j1.l → Heap → Prop := fun x h => slices_DeleteFunc_api_Con_api_Con.j1 K x.1.1 x.1.2.1 x.1.2.2 x.2.1 h
def slices_DeleteFunc_api_Con_api_Con.j3 (K : KT) (R2 : OA → Nat → Nat → Value → Int → Int → Heap → Prop) (s_0 : OA) (s_0l : Nat) (s_0c : Nat) (del_1 : Value) (i_5 : Int) (j_6 : Int) (h : Heap) : Prop :=
  bd ((IntKind.i64.wrap (j_6 + 1)) : Int) fun j_8 => R2 s_0 s_0l s_0c del_1 i_5 j_8 h
def slices_DeleteFunc_api_Con_api_Con.j3.l : Live := [(0, .slice), (1, .raw), (5, .int .i64), (6, .int .i64)]
def slices_DeleteFunc_api_Con_api_Con.j3.j (K : KT) (R2 : OA → Nat → Nat → Value → Int → Int → Heap → Prop) : Tup slices_DeleteFunc_api_Con_api_Con.j3.l → Heap → Prop := fun x h => slices_DeleteFunc_api_Con_api_Con.j3 K R2 x.1.1 x.1.2.1 x.1.2.2 x.2.1 x.2.2.1 x.2.2.2.1 h
def slices_DeleteFunc_api_Con_api_Con.L2 (K : KT) : Nat → OA → Nat → Nat → Value → Int → Int → Heap → Prop
  | 0, _, _, _, _, _, _, _ => False
  | fuel + 1, s_0, s_0l, s_0c, del_1, i_5, j_6, h => ((decide (j_6 < ((s_0l : Nat) : Int))) = true → ∃ p9, s_0 = some p9 ∧ (0 : Int) ≤ j_6 ∧ j_6 < ((s_0l : Nat) : Int) ∧ ∃ cs10, rdC h (Addr.add p9 (Int.toNat j_6 * 5)) 0 5 = some cs10 ∧ bd (al h #[.int .i64 0, .int .i64 0, .string (mkS ([] : List UInt8)), .string (mkS ([] : List UInt8)), .bool false] T.api_Con) fun h11 => cs10.length = 5 ∧ ∃ h12, stC h11 (top h) 0 cs10 = some h12 ∧ ∃ cs13, rdC h12 (top h) 0 5 = some cs13 ∧ CallV P del_1 [.agg (List.toArray cs13)] (fun v14 h15 => ∃ b16, v14 = .bool b16 ∧ ((!b16) = true → ∃ cs17, rdC h15 (top h) 0 5 = some cs17 ∧ ∃ p18, s_0 = some p18 ∧ (0 : Int) ≤ i_5 ∧ i_5 < ((s_0l : Nat) : Int) ∧ cs17.length = 5 ∧ ∃ h19, stC h15 (Addr.add p18 (Int.toNat i_5 * 5)) 0 cs17 = some h19 ∧ bd ((IntKind.i64.wrap (i_5 + 1)) : Int) fun i_20 => slices_DeleteFunc_api_Con_api_Con.j3 K (slices_DeleteFunc_api_Con_api_Con.L2 K fuel) s_0 s_0l s_0c del_1 i_20 j_6 h19) ∧ ((!b16) = false → slices_DeleteFunc_api_Con_api_Con.j3 K (slices_DeleteFunc_api_Con_api_Con.L2 K fuel) s_0 s_0l s_0c del_1 i_5 j_6 h15)) h12) ∧ ((decide (j_6 < ((s_0l : Nat) : Int))) = false → slices_DeleteFunc_api_Con_api_Con.j1 K s_0 s_0l s_0c i_5 h)
termination_by structural n => n
def slices_DeleteFunc_api_Con_api_Con.L2.l : Live := [(0, .slice), (1, .raw), (5, .int .i64), (6, .int .i64)]
def slices_DeleteFunc_api_Con_api_Con.L2.j (K : KT) : Nat → Tup slices_DeleteFunc_api_Con_api_Con.L2.l → Heap → Prop := fun n x h => slices_DeleteFunc_api_Con_api_Con.L2 K n x.1.1 x.1.2.1 x.1.2.2 x.2.1 x.2.2.1 x.2.2.2.1 h
def slices_DeleteFunc_api_Con_api_Con.p0 (K : KT) (s_0 : OA) (s_0l : Nat) (s_0c : Nat) (del_1 : Value) (h : Heap) : Prop :=
  CallsH P F.slices_IndexFunc_api_Con_api_Con [.slice s_0 s_0l s_0c, del_1] (fun v1 h2 => ∃ n3, v1 = .int .i64 n3 ∧ ((n3 == (-1)) = true → K (.slice s_0 s_0l s_0c) h2) ∧ ((n3 == (-1)) = false → bd ((IntKind.i64.wrap (n3 + 1)) : Int) fun j_7 => ∃ fuel21, slices_DeleteFunc_api_Con_api_Con.L2 K fuel21 s_0 s_0l s_0c del_1 n3 j_7 h2)) h
def slices_DeleteFunc_api_Con_api_Con.plan (K : KT) : Plan := (.seq .go (.seq .go (.seq .go (.cut slices_DeleteFunc_api_Con_api_Con.j1.l (slices_DeleteFunc_api_Con_api_Con.j1.j K) (.seq .go (.block (.loop slices_DeleteFunc_api_Con_api_Con.L2.l (slices_DeleteFunc_api_Con_api_Con.L2.j K) (fun n2 => (.seq .go (.cut slices_DeleteFunc_api_Con_api_Con.j3.l (slices_DeleteFunc_api_Con_api_Con.j3.j K (slices_DeleteFunc_api_Con_api_Con.L2 K n2)) .go .go)))))) .go))))
theorem slices_DeleteFunc_api_Con_api_Con.ev_eq : slices_DeleteFunc_api_Con_api_Con.p0 = fun K s_0 s_0l s_0c del_1 h => Ev P Try.f84 (slices_DeleteFunc_api_Con_api_Con.plan K) K [.slice s_0 s_0l s_0c, del_1] h := by kernel_rfl
theorem slices_DeleteFunc_api_Con_api_Con.obl (K : KT) : Obl P Try.f84 (slices_DeleteFunc_api_Con_api_Con.plan K) K :=
  obl_of (R := (∀ x h, ¬ (slices_DeleteFunc_api_Con_api_Con.L2.j K) 0 x h) ∧ ImpN (slices_DeleteFunc_api_Con_api_Con.L2.j K) ∧ (∀ (n2 : Nat), Imp (slices_DeleteFunc_api_Con_api_Con.j3.j K (slices_DeleteFunc_api_Con_api_Con.L2 K n2)) ∧ True) ∧ Imp (slices_DeleteFunc_api_Con_api_Con.j1.j K) ∧ True) (by kernel_rfl) ⟨fun _ _ H => H, impN _, fun _ => ⟨imp _, trivial⟩, ⟨imp _, trivial⟩⟩
theorem slices_DeleteFunc_api_Con_api_Con.ok {K : KT} {s_0 : OA} {s_0l : Nat} {s_0c : Nat} {del_1 : Value} {h : Heap} (H : slices_DeleteFunc_api_Con_api_Con.p0 K s_0 s_0l s_0c del_1 h) : CallsH P F.slices_DeleteFunc_api_Con_api_Con [.slice s_0 s_0l s_0c, del_1] K h :=
  calls_of_Ev (slices_DeleteFunc_api_Con_api_Con.plan K) Try.func84 (by kernel_rfl) (slices_DeleteFunc_api_Con_api_Con.obl K) (by rw [slices_DeleteFunc_api_Con_api_Con.ev_eq] at H; exact H)

end Go.Proofs.Ytechpnlbkkfplaa.Pr
