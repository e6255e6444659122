/- What functions of the package Law19Consturns come to, over the heap alone, and that they do: printed by gen.py out of the given program. -/
import Derived.Test.YtechpnlbkkfplaaPrH
set_option linter.unusedVariables false
set_option maxRecDepth 100000
namespace Go.Proofs.Ytechpnlbkkfplaa.Pr
open Go Go.Lift Go.Proofs

/-! waybill/waybilllaw19.ConsTurns$1: 49 -/
def waybilllaw19_ConsTurns_1.p0 (K : KT) (t0 : List Value) (h : Heap) : Prop :=
  bd (al h (List.toArray t0) T.api_Con) fun h1 => K (.bool true) h1
def waybilllaw19_ConsTurns_1.plan (K : KT) : Plan := .go
theorem waybilllaw19_ConsTurns_1.ev_eq : waybilllaw19_ConsTurns_1.p0 = fun K t0 h => Ev P Try.f49 (waybilllaw19_ConsTurns_1.plan K) K [.agg (List.toArray t0)] h := by kernel_rfl
theorem waybilllaw19_ConsTurns_1.obl (K : KT) : Obl P Try.f49 (waybilllaw19_ConsTurns_1.plan K) K :=
  obl_true (by kernel_rfl)
theorem waybilllaw19_ConsTurns_1.ok {K : KT} {t0 : List Value} {h : Heap} (H : waybilllaw19_ConsTurns_1.p0 K t0 h) : CallsH P F.waybilllaw19_ConsTurns_1 [.agg (List.toArray t0)] K h :=
  calls_of_Ev (waybilllaw19_ConsTurns_1.plan K) Try.func49 (by kernel_rfl) (waybilllaw19_ConsTurns_1.obl K) (by rw [waybilllaw19_ConsTurns_1.ev_eq] at H; exact H)

/-! waybill/waybilllaw19.ConsTurns$2: 51 -/
def waybilllaw19_ConsTurns_2.p0 (K : KT) (t0 : List Value) (h : Heap) : Prop :=
  bd (al h (List.toArray t0) T.api_Con) fun h1 => K (.bool false) h1
def waybilllaw19_ConsTurns_2.plan (K : KT) : Plan := .go
theorem waybilllaw19_ConsTurns_2.ev_eq : waybilllaw19_ConsTurns_2.p0 = fun K t0 h => Ev P Try.f51 (waybilllaw19_ConsTurns_2.plan K) K [.agg (List.toArray t0)] h := by kernel_rfl
theorem waybilllaw19_ConsTurns_2.obl (K : KT) : Obl P Try.f51 (waybilllaw19_ConsTurns_2.plan K) K :=
  obl_true (by kernel_rfl)
theorem waybilllaw19_ConsTurns_2.ok {K : KT} {t0 : List Value} {h : Heap} (H : waybilllaw19_ConsTurns_2.p0 K t0 h) : CallsH P F.waybilllaw19_ConsTurns_2 [.agg (List.toArray t0)] K h :=
  calls_of_Ev (waybilllaw19_ConsTurns_2.plan K) Try.func51 (by kernel_rfl) (waybilllaw19_ConsTurns_2.obl K) (by rw [waybilllaw19_ConsTurns_2.ev_eq] at H; exact H)

/-! waybill/waybilllaw19.ConsTurns: 9 -/
def waybilllaw19_ConsTurns.j4 (K : KT) (t0 : Int) (t1 : Int) (t2 : Int) (t7 : OA) (t13 : OA) (t13l : Nat) (t13c : Nat) (h : Heap) : Prop :=
  CallsH P F.cons_Cons_Turn [.pointer t7, .string (mkS ([113] : List UInt8)), .func (.func F.waybilllaw19_ConsTurns_2) #[] #[]] (fun v10 h11 => ∃ cs12 b13, v10 = .tuple #[.agg (List.toArray cs12), .bool b13] ∧ bd (al h11 #[.int .i64 0, .int .i64 0, .string (mkS ([] : List UInt8)), .string (mkS ([] : List UInt8)), .bool false] T.api_Con) fun h14 => cs12.length = 5 ∧ ∃ h15, stC h14 (top h11) 0 cs12 = some h15 ∧ ((((t13l : Nat) : Int) == t1) = true → ((!b13) = true → CallsH P F.cons_Cons_Of [.pointer t7, .string (mkS ([113] : List UInt8))] (fun v16 h17 => ∃ a18 a18l a18c, v16 = .slice a18 a18l a18c ∧ ((((a18l : Nat) : Int) == t0) = true → (t0 : Int) ≠ 0 ∧ CallsH P F.cons_Cons_Of [.pointer t7, .string (mkS ([113] : List UInt8))] (fun v19 h20 => ∃ a21 a21l a21c, v19 = .slice a21 a21l a21c ∧ ∃ p22, a21 = some p22 ∧ (0 : Int) ≤ 0 ∧ 0 < ((a21l : Nat) : Int) ∧ ∃ n23, hcell h20 (Addr.add (Addr.add p22 (Int.toNat 0 * 5)) 0) = some (.int .i64 n23) ∧ bd ((n23 == (Int.tmod t2 t0)) : Bool) fun b24 => K (.bool b24) h20) h17) ∧ ((((a18l : Nat) : Int) == t0) = false → K (.bool false) h17)) h15) ∧ ((!b13) = false → K (.bool false) h15)) ∧ ((((t13l : Nat) : Int) == t1) = false → K (.bool false) h15)) h
def waybilllaw19_ConsTurns.j4.l : Live := [(0, .int .i64), (1, .int .i64), (2, .int .i64), (7, .ptr), (13, .slice)]
def waybilllaw19_ConsTurns.j4.j (K : KT) : Tup waybilllaw19_ConsTurns.j4.l → Heap → Prop := fun x h => waybilllaw19_ConsTurns.j4 K x.1 x.2.1 x.2.2.1 x.2.2.2.1 x.2.2.2.2.1.1 x.2.2.2.2.1.2.1 x.2.2.2.2.1.2.2 h
def waybilllaw19_ConsTurns.L5 (K : KT) : Nat → Int → Int → Int → OA → OA → Nat → Nat → Int → Heap → Prop
  | 0, _, _, _, _, _, _, _, _, _ => False
  | fuel + 1, t0, t1, t2, t7, t13, t13l, t13c, t14, h => ((decide (t14 < ((t13l : Nat) : Int))) = true → ∃ p25, t13 = some p25 ∧ (0 : Int) ≤ t14 ∧ t14 < ((t13l : Nat) : Int) ∧ ∃ n26, hcell h (Addr.add (Addr.add p25 (Int.toNat t14 * 5)) 0) = some (.int .i64 n26) ∧ ((n26 != (IntKind.i64.wrap (t0 + t14))) = true → K (.bool false) h) ∧ ((n26 != (IntKind.i64.wrap (t0 + t14))) = false → bd ((IntKind.i64.wrap (t14 + 1)) : Int) fun n27 => (waybilllaw19_ConsTurns.L5 K fuel) t0 t1 t2 t7 t13 t13l t13c n27 h)) ∧ ((decide (t14 < ((t13l : Nat) : Int))) = false → waybilllaw19_ConsTurns.j4 K t0 t1 t2 t7 t13 t13l t13c h)
termination_by structural n => n
def waybilllaw19_ConsTurns.L5.l : Live := [(0, .int .i64), (1, .int .i64), (2, .int .i64), (7, .ptr), (13, .slice), (14, .int .i64)]
def waybilllaw19_ConsTurns.L5.j (K : KT) : Nat → Tup waybilllaw19_ConsTurns.L5.l → Heap → Prop := fun n x h => waybilllaw19_ConsTurns.L5 K n x.1 x.2.1 x.2.2.1 x.2.2.2.1 x.2.2.2.2.1.1 x.2.2.2.2.1.2.1 x.2.2.2.2.1.2.2 x.2.2.2.2.2.1 h
def waybilllaw19_ConsTurns.j3 (K : KT) (t0 : Int) (t1 : Int) (t2 : Int) (t7 : OA) (h : Heap) : Prop :=
  CallsH P F.cons_Cons_Of [.pointer t7, .string (mkS ([114] : List UInt8))] (fun v7 h8 => ∃ a9 a9l a9c, v7 = .slice a9 a9l a9c ∧ ∃ fuel28, waybilllaw19_ConsTurns.L5 K fuel28 t0 t1 t2 t7 a9 a9l a9c 0 h8) h
def waybilllaw19_ConsTurns.j3.l : Live := [(0, .int .i64), (1, .int .i64), (2, .int .i64), (7, .ptr)]
def waybilllaw19_ConsTurns.j3.j (K : KT) : Tup waybilllaw19_ConsTurns.j3.l → Heap → Prop := fun x h => waybilllaw19_ConsTurns.j3 K x.1 x.2.1 x.2.2.1 x.2.2.2.1 h
def waybilllaw19_ConsTurns.j7 (K : KT) (R6 : Int → Int → Int → OA → Int → Heap → Prop) (t0 : Int) (t1 : Int) (t2 : Int) (t7 : OA) (t10 : Int) (t66 : Bool) (h : Heap) : Prop :=
  (t66 = true → K (.bool false) h) ∧ (t66 = false → bd ((IntKind.i64.wrap (t10 + 1)) : Int) fun n35 => R6 t0 t1 t2 t7 n35 h)
def waybilllaw19_ConsTurns.j7.l : Live := [(0, .int .i64), (1, .int .i64), (2, .int .i64), (7, .ptr), (10, .int .i64), (66, .bool)]
def waybilllaw19_ConsTurns.j7.j (K : KT) (R6 : Int → Int → Int → OA → Int → Heap → Prop) : Tup waybilllaw19_ConsTurns.j7.l → Heap → Prop := fun x h => waybilllaw19_ConsTurns.j7 K R6 x.1 x.2.1 x.2.2.1 x.2.2.2.1 x.2.2.2.2.1 x.2.2.2.2.2.1 h
def waybilllaw19_ConsTurns.L6 (K : KT) : Nat → Int → Int → Int → OA → Int → Heap → Prop
  | 0, _, _, _, _, _, _ => False
  | fuel + 1, t0, t1, t2, t7, t10, h => ((decide (t10 < t2)) = true → CallsH P F.cons_Cons_Turn [.pointer t7, .string (mkS ([113] : List UInt8)), .func (.func F.waybilllaw19_ConsTurns_1) #[] #[]] (fun v29 h30 => ∃ cs31 b32, v29 = .tuple #[.agg (List.toArray cs31), .bool b32] ∧ bd (al h30 #[.int .i64 0, .int .i64 0, .string (mkS ([] : List UInt8)), .string (mkS ([] : List UInt8)), .bool false] T.api_Con) fun h33 => cs31.length = 5 ∧ ∃ h34, stC h33 (top h30) 0 cs31 = some h34 ∧ ((!b32) = false → (t0 : Int) ≠ 0 ∧ ∃ n36, hcell h34 (Addr.add (top h30) 0) = some (.int .i64 n36) ∧ waybilllaw19_ConsTurns.j7 K (waybilllaw19_ConsTurns.L6 K fuel) t0 t1 t2 t7 t10 (n36 != (Int.tmod t10 t0)) h34) ∧ ((!b32) = true → waybilllaw19_ConsTurns.j7 K (waybilllaw19_ConsTurns.L6 K fuel) t0 t1 t2 t7 t10 true h34)) h) ∧ ((decide (t10 < t2)) = false → waybilllaw19_ConsTurns.j3 K t0 t1 t2 t7 h)
termination_by structural n => n
def waybilllaw19_ConsTurns.L6.l : Live := [(0, .int .i64), (1, .int .i64), (2, .int .i64), (7, .ptr), (10, .int .i64)]
def waybilllaw19_ConsTurns.L6.j (K : KT) : Nat → Tup waybilllaw19_ConsTurns.L6.l → Heap → Prop := fun n x h => waybilllaw19_ConsTurns.L6 K n x.1 x.2.1 x.2.2.1 x.2.2.2.1 x.2.2.2.2.1 h
def waybilllaw19_ConsTurns.j2 (K : KT) (t0 : Int) (t1 : Int) (t2 : Int) (t7 : OA) (h : Heap) : Prop :=
  ∃ fuel37, waybilllaw19_ConsTurns.L6 K fuel37 t0 t1 t2 t7 0 h
def waybilllaw19_ConsTurns.j2.l : Live := [(0, .int .i64), (1, .int .i64), (2, .int .i64), (7, .ptr)]
def waybilllaw19_ConsTurns.j2.j (K : KT) : Tup waybilllaw19_ConsTurns.j2.l → Heap → Prop := fun x h => waybilllaw19_ConsTurns.j2 K x.1 x.2.1 x.2.2.1 x.2.2.2.1 h
def waybilllaw19_ConsTurns.j9 (K : KT) (R8 : Int → Int → Int → OA → Int → Heap → Prop) (t0 : Int) (t1 : Int) (t2 : Int) (t7 : OA) (t8 : Int) (t9 : List UInt8) (h : Heap) : Prop :=
  CallsH P F.cons_Cons_Add [.pointer t7, .agg #[.int .i64 t8, .int .i64 0, .string (mkS ([116] : List UInt8)), .string (mkS t9), .bool false]] (fun v38 h39 => ∃ b40, v38 = .bool b40 ∧ ((!b40) = true → K (.bool false) h39) ∧ ((!b40) = false → bd ((IntKind.i64.wrap (t8 + 1)) : Int) fun n41 => R8 t0 t1 t2 t7 n41 h39)) h
def waybilllaw19_ConsTurns.j9.l : Live := [(0, .int .i64), (1, .int .i64), (2, .int .i64), (7, .ptr), (8, .int .i64), (9, .str)]
def waybilllaw19_ConsTurns.j9.j (K : KT) (R8 : Int → Int → Int → OA → Int → Heap → Prop) : Tup waybilllaw19_ConsTurns.j9.l → Heap → Prop := fun x h => waybilllaw19_ConsTurns.j9 K R8 x.1 x.2.1 x.2.2.1 x.2.2.2.1 x.2.2.2.2.1 x.2.2.2.2.2.1 h
def waybilllaw19_ConsTurns.L8 (K : KT) : Nat → Int → Int → Int → OA → Int → Heap → Prop
  | 0, _, _, _, _, _, _ => False
  | fuel + 1, t0, t1, t2, t7, t8, h => ((decide (t8 < (IntKind.i64.wrap (t0 + t1)))) = true → ((decide (t8 ≥ t0)) = true → waybilllaw19_ConsTurns.j9 K (waybilllaw19_ConsTurns.L8 K fuel) t0 t1 t2 t7 t8 ([114] : List UInt8) h) ∧ ((decide (t8 ≥ t0)) = false → waybilllaw19_ConsTurns.j9 K (waybilllaw19_ConsTurns.L8 K fuel) t0 t1 t2 t7 t8 ([113] : List UInt8) h)) ∧ ((decide (t8 < (IntKind.i64.wrap (t0 + t1)))) = false → waybilllaw19_ConsTurns.j2 K t0 t1 t2 t7 h)
termination_by structural n => n
def waybilllaw19_ConsTurns.L8.l : Live := [(0, .int .i64), (1, .int .i64), (2, .int .i64), (7, .ptr), (8, .int .i64)]
def waybilllaw19_ConsTurns.L8.j (K : KT) : Nat → Tup waybilllaw19_ConsTurns.L8.l → Heap → Prop := fun n x h => waybilllaw19_ConsTurns.L8 K n x.1 x.2.1 x.2.2.1 x.2.2.2.1 x.2.2.2.2.1 h
def waybilllaw19_ConsTurns.j1 (K : KT) (t0 : Int) (t1 : Int) (t2 : Int) (t7 : OA) (t30 : Bool) (h : Heap) : Prop :=
  (t30 = true → K (.bool false) h) ∧ (t30 = false → ∃ fuel42, waybilllaw19_ConsTurns.L8 K fuel42 t0 t1 t2 t7 0 h)
def waybilllaw19_ConsTurns.j1.l : Live := [(0, .int .i64), (1, .int .i64), (2, .int .i64), (7, .ptr), (30, .bool)]
def waybilllaw19_ConsTurns.j1.j (K : KT) : Tup waybilllaw19_ConsTurns.j1.l → Heap → Prop := fun x h => waybilllaw19_ConsTurns.j1 K x.1 x.2.1 x.2.2.1 x.2.2.2.1 x.2.2.2.2.1 h
def waybilllaw19_ConsTurns.p0 (K : KT) (t0 : Int) (t1 : Int) (t2 : Int) (h : Heap) : Prop :=
  bd ((IntKind.i64.wrap ((bitsI .and .i64 t0 7) + 1)) : Int) fun n1 => bd ((bitsI .and .i64 t1 7) : Int) fun n2 => bd ((bitsI .and .i64 t2 63) : Int) fun n3 => CallsH P F.cons_New [] (fun v4 h5 => ∃ p6, v4 = .pointer p6 ∧ ((Option.isNone p6) = false → CallsH P F.waybilllaw19_awake [] (fun v43 h44 => ∃ b45, v43 = .bool b45 ∧ waybilllaw19_ConsTurns.j1 K n1 n2 n3 p6 (!b45) h44) h5) ∧ ((Option.isNone p6) = true → waybilllaw19_ConsTurns.j1 K n1 n2 n3 p6 true h5)) h
def waybilllaw19_ConsTurns.plan (K : KT) : Plan := (.seq .go (.seq .go (.seq .go (.seq (.cut waybilllaw19_ConsTurns.j1.l (waybilllaw19_ConsTurns.j1.j K) .go .go) (.cut waybilllaw19_ConsTurns.j2.l (waybilllaw19_ConsTurns.j2.j K) (.seq .go (.block (.loop waybilllaw19_ConsTurns.L8.l (waybilllaw19_ConsTurns.L8.j K) (fun n8 => (.seq .go (.seq (.block (.seq .go (.cut waybilllaw19_ConsTurns.j9.l (waybilllaw19_ConsTurns.j9.j K (waybilllaw19_ConsTurns.L8 K n8)) .go .go))) .go)))))) (.cut waybilllaw19_ConsTurns.j3.l (waybilllaw19_ConsTurns.j3.j K) (.seq .go (.block (.loop waybilllaw19_ConsTurns.L6.l (waybilllaw19_ConsTurns.L6.j K) (fun n6 => (.seq .go (.seq (.block (.seq .go (.cut waybilllaw19_ConsTurns.j7.l (waybilllaw19_ConsTurns.j7.j K (waybilllaw19_ConsTurns.L6 K n6)) (.orders (.op 0 (.op 1 (.op 2 (.op 3 (.op 5 (.op 6 (.op 7 (.op 4 (.op 8 (.op 9 .nil))))))))))) .go))) .go)))))) (.seq .go (.cut waybilllaw19_ConsTurns.j4.l (waybilllaw19_ConsTurns.j4.j K) (.seq .go (.block (.loop waybilllaw19_ConsTurns.L5.l (waybilllaw19_ConsTurns.L5.j K) (fun n5 => .go)))) (.seq .go (.seq (.orders (.op 0 (.op 1 (.op 2 (.op 3 (.op 4 (.op 5 (.op 6 (.op 7 (.op 8 (.op 9 (.op 12 (.op 10 (.op 11 (.op 13 (.op 14 (.op 15 (.op 16 (.op 21 (.op 22 (.op 23 (.op 17 (.op 18 (.op 19 (.op 20 (.op 24 (.op 25 (.op 26 .nil)))))))))))))))))))))))))))) .go))))))))))
theorem waybilllaw19_ConsTurns.ev_eq : waybilllaw19_ConsTurns.p0 = fun K t0 t1 t2 h => Ev P Try.f9 (waybilllaw19_ConsTurns.plan K) K [.int .i64 t0, .int .i64 t1, .int .i64 t2] h := by kernel_rfl
theorem waybilllaw19_ConsTurns.obl (K : KT) : Obl P Try.f9 (waybilllaw19_ConsTurns.plan K) K :=
  obl_of (R := Imp (waybilllaw19_ConsTurns.j1.j K) ∧ (∀ x h, ¬ (waybilllaw19_ConsTurns.L8.j K) 0 x h) ∧ ImpN (waybilllaw19_ConsTurns.L8.j K) ∧ (∀ (n8 : Nat), Imp (waybilllaw19_ConsTurns.j9.j K (waybilllaw19_ConsTurns.L8 K n8)) ∧ True) ∧ Imp (waybilllaw19_ConsTurns.j2.j K) ∧ (∀ x h, ¬ (waybilllaw19_ConsTurns.L6.j K) 0 x h) ∧ ImpN (waybilllaw19_ConsTurns.L6.j K) ∧ (∀ (n6 : Nat), DrawOK P Try.f9.ntmps (opsAt 17 (bodyOf Try.f9)) (.op 0 (.op 1 (.op 2 (.op 3 (.op 5 (.op 6 (.op 7 (.op 4 (.op 8 (.op 9 .nil)))))))))) ∧ Imp (waybilllaw19_ConsTurns.j7.j K (waybilllaw19_ConsTurns.L6 K n6)) ∧ True) ∧ Imp (waybilllaw19_ConsTurns.j3.j K) ∧ (∀ x h, ¬ (waybilllaw19_ConsTurns.L5.j K) 0 x h) ∧ ImpN (waybilllaw19_ConsTurns.L5.j K) ∧ (∀ (n5 : Nat), True) ∧ Imp (waybilllaw19_ConsTurns.j4.j K) ∧ DrawOK P Try.f9.ntmps (opsAt 26 (bodyOf Try.f9)) (.op 0 (.op 1 (.op 2 (.op 3 (.op 4 (.op 5 (.op 6 (.op 7 (.op 8 (.op 9 (.op 12 (.op 10 (.op 11 (.op 13 (.op 14 (.op 15 (.op 16 (.op 21 (.op 22 (.op 23 (.op 17 (.op 18 (.op 19 (.op 20 (.op 24 (.op 25 (.op 26 .nil))))))))))))))))))))))))))) ∧ True) (by kernel_rfl) ⟨imp _, ⟨fun _ _ H => H, impN _, fun _ => ⟨imp _, trivial⟩, ⟨imp _, ⟨fun _ _ H => H, impN _, fun _ => ⟨draw_ok (by kernel_rfl), ⟨imp _, trivial⟩⟩, ⟨imp _, ⟨fun _ _ H => H, impN _, fun _ => trivial, ⟨imp _, ⟨draw_ok (by kernel_rfl), trivial⟩⟩⟩⟩⟩⟩⟩⟩
theorem waybilllaw19_ConsTurns.ok {K : KT} {t0 : Int} {t1 : Int} {t2 : Int} {h : Heap} (H : waybilllaw19_ConsTurns.p0 K t0 t1 t2 h) : CallsH P F.waybilllaw19_ConsTurns [.int .i64 t0, .int .i64 t1, .int .i64 t2] K h :=
  calls_of_Ev (waybilllaw19_ConsTurns.plan K) Try.func9 (by kernel_rfl) (waybilllaw19_ConsTurns.obl K) (by rw [waybilllaw19_ConsTurns.ev_eq] at H; exact H)

end Go.Proofs.Ytechpnlbkkfplaa.Pr
