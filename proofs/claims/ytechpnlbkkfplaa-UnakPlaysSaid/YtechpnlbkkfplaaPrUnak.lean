/- What functions of the package Unak come to, over the heap alone, and that they do: printed by gen.py out of the given program. -/
import Derived.Test.YtechpnlbkkfplaaPrH
set_option linter.unusedVariables false
set_option maxRecDepth 100000
namespace Go.Proofs.Ytechpnlbkkfplaa.Pr
open Go Go.Lift Go.Proofs

/-! waybill/unak.New: 26 -/
def unak_New.p0 (K : KT)  (h : Heap) : Prop :=
  bd (Array.push h (.map #[] 0)) fun h1 => bd (Array.push h1 (.map #[] 0)) fun h2 => bd (al h2 #[.int .u64 0, .map (some (Array.size h)), .map (some (Array.size h1))] T.unak_Unak) fun h3 => K (.pointer (some (top h2))) h3
def unak_New.plan (K : KT) : Plan := .go
theorem unak_New.ev_eq : unak_New.p0 = fun K  h => Ev P Try.f26 (unak_New.plan K) K [] h := by kernel_rfl
theorem unak_New.obl (K : KT) : Obl P Try.f26 (unak_New.plan K) K :=
  obl_true (by kernel_rfl)
theorem unak_New.ok {K : KT}  {h : Heap} (H : unak_New.p0 K  h) : CallsH P F.unak_New [] K h :=
  calls_of_Ev (unak_New.plan K) Try.func26 (by kernel_rfl) (unak_New.obl K) (by rw [unak_New.ev_eq] at H; exact H)

/-! (*waybill/unak.Unak).Add: 28 -/
def unak_Unak_Add.p0 (K : KT) (u_0 : OA) (t1 : List Value) (h : Heap) : Prop :=
  bd (al h (List.toArray t1) T.api_Hold) fun h1 => ∃ p2, u_0 = some p2 ∧ ∃ n3, hcell h1 (Addr.add p2 0) = some (.int .u64 n3) ∧ ∃ p4, u_0 = some p4 ∧ ∃ h5, stC h1 (Addr.add p4 0) 0 [.int .u64 (IntKind.u64.wrap (n3 + 1))] = some h5 ∧ ∃ p6, u_0 = some p6 ∧ ∃ p7, u_0 = some p7 ∧ ∃ m8, hcell h5 (Addr.add p6 1) = some (.map m8) ∧ ∃ n9, hcell h5 (Addr.add p7 0) = some (.int .u64 n9) ∧ ∃ cs10, rdC h5 (top h) 0 2 = some cs10 ∧ SemH P (unit (Instr.mapUpdate T.map_uint64_api_Hold (.map m8) (.int .u64 n9) (.agg (List.toArray cs10)))) (fun v11 h12 => ∃ p13, u_0 = some p13 ∧ ∃ n14, hcell h12 (Addr.add p13 0) = some (.int .u64 n14) ∧ K (.int .u64 n14) h12) h5
def unak_Unak_Add.plan (K : KT) : Plan := (.seq .go (.seq .go (.seq (.orders (.op 0 (.op 1 (.op 2 (.op 4 (.op 5 (.op 6 (.op 3 (.op 7 (.op 8 (.op 9 .nil))))))))))) .go)))
theorem unak_Unak_Add.ev_eq : unak_Unak_Add.p0 = fun K u_0 t1 h => Ev P Try.f28 (unak_Unak_Add.plan K) K [.pointer u_0, .agg (List.toArray t1)] h := by kernel_rfl
theorem unak_Unak_Add.obl (K : KT) : Obl P Try.f28 (unak_Unak_Add.plan K) K :=
  obl_of (R := DrawOK P Try.f28.ntmps (opsAt 2 (bodyOf Try.f28)) (.op 0 (.op 1 (.op 2 (.op 4 (.op 5 (.op 6 (.op 3 (.op 7 (.op 8 (.op 9 .nil)))))))))) ∧ True) (by kernel_rfl) ⟨draw_ok (by kernel_rfl), trivial⟩
theorem unak_Unak_Add.ok {K : KT} {u_0 : OA} {t1 : List Value} {h : Heap} (H : unak_Unak_Add.p0 K u_0 t1 h) : CallsH P F.unak_Unak_Add [.pointer u_0, .agg (List.toArray t1)] K h :=
  calls_of_Ev (unak_Unak_Add.plan K) Try.func28 (by kernel_rfl) (unak_Unak_Add.obl K) (by rw [unak_Unak_Add.ev_eq] at H; exact H)

/-! (*waybill/unak.Unak).Tag: 35 -/
def unak_Unak_Tag.p0 (K : KT) (u_0 : OA) (h : Heap) : Prop :=
  ∃ p1, u_0 = some p1 ∧ ∃ n2, hcell h (Addr.add p1 0) = some (.int .u64 n2) ∧ ∃ p3, u_0 = some p3 ∧ ∃ h4, stC h (Addr.add p3 0) 0 [.int .u64 (IntKind.u64.wrap (n2 + 1))] = some h4 ∧ ∃ p5, u_0 = some p5 ∧ ∃ n6, hcell h4 (Addr.add p5 0) = some (.int .u64 n6) ∧ K (.int .u64 n6) h4
def unak_Unak_Tag.plan (K : KT) : Plan := .go
theorem unak_Unak_Tag.ev_eq : unak_Unak_Tag.p0 = fun K u_0 h => Ev P Try.f35 (unak_Unak_Tag.plan K) K [.pointer u_0] h := by kernel_rfl
theorem unak_Unak_Tag.obl (K : KT) : Obl P Try.f35 (unak_Unak_Tag.plan K) K :=
  obl_true (by kernel_rfl)
theorem unak_Unak_Tag.ok {K : KT} {u_0 : OA} {h : Heap} (H : unak_Unak_Tag.p0 K u_0 h) : CallsH P F.unak_Unak_Tag [.pointer u_0] K h :=
  calls_of_Ev (unak_Unak_Tag.plan K) Try.func35 (by kernel_rfl) (unak_Unak_Tag.obl K) (by rw [unak_Unak_Tag.ev_eq] at H; exact H)

/-! (*waybill/unak.Unak).open: 75 -/
def unak_Unak_open.p0 (K : KT) (u_0 : OA) (tag_1 : Int) (h : Heap) : Prop :=
  ∃ p1, u_0 = some p1 ∧ ∃ m2, hcell h (Addr.add p1 1) = some (.map m2) ∧ SemH P (Instr.lookup T.map_uint64_api_Hold (.map m2) (.int .u64 tag_1) true) (fun v3 h4 => ∃ cs5 b6, v3 = .tuple #[.agg (List.toArray cs5), .bool b6] ∧ bd (al h4 #[.string (mkS ([] : List UInt8)), .int .u64 0] T.api_Hold) fun h7 => cs5.length = 2 ∧ ∃ h8, stC h7 (top h4) 0 cs5 = some h8 ∧ (b6 = true → ∃ p9, u_0 = some p9 ∧ ∃ m10, hcell h8 (Addr.add p9 2) = some (.map m10) ∧ SemH P (Instr.lookup T.map_uint64_int (.map m10) (.int .u64 tag_1) false) (fun v11 h12 => ∃ n13, v11 = .int .i64 n13 ∧ bd ((n13 == 0) : Bool) fun b14 => K (.bool b14) h12) h8) ∧ (b6 = false → K (.bool false) h8)) h
def unak_Unak_open.plan (K : KT) : Plan := .go
theorem unak_Unak_open.ev_eq : unak_Unak_open.p0 = fun K u_0 tag_1 h => Ev P Try.f75 (unak_Unak_open.plan K) K [.pointer u_0, .int .u64 tag_1] h := by kernel_rfl
theorem unak_Unak_open.obl (K : KT) : Obl P Try.f75 (unak_Unak_open.plan K) K :=
  obl_true (by kernel_rfl)
theorem unak_Unak_open.ok {K : KT} {u_0 : OA} {tag_1 : Int} {h : Heap} (H : unak_Unak_open.p0 K u_0 tag_1 h) : CallsH P F.unak_Unak_open [.pointer u_0, .int .u64 tag_1] K h :=
  calls_of_Ev (unak_Unak_open.plan K) Try.func75 (by kernel_rfl) (unak_Unak_open.obl K) (by rw [unak_Unak_open.ev_eq] at H; exact H)

/-! (*waybill/unak.Unak).Find: 29 -/
def unak_Unak_Find.j3 (K : KT) (R2 : OA → Int → OA → Nat → Nat → OA → Nat → Nat → Int → Int → Heap → Prop) (u_0 : OA) (tag_1 : Int) (out_8 : OA) (out_8l : Nat) (out_8c : Nat) (t32 : OA) (t32l : Nat) (t32c : Nat) (t33 : Int) (t34 : Int) (h : Heap) : Prop :=
  R2 u_0 tag_1 out_8 out_8l out_8c t32 t32l t32c t33 (IntKind.i64.wrap (t34 + 1)) h
def unak_Unak_Find.j3.l : Live := [(0, .ptr), (1, .int .u64), (8, .slice), (32, .slice), (33, .int .i64), (34, .int .i64)]
def unak_Unak_Find.j3.j (K : KT) (R2 : OA → Int → OA → Nat → Nat → OA → Nat → Nat → Int → Int → Heap → Prop) : Tup unak_Unak_Find.j3.l → Heap → Prop := fun x h => unak_Unak_Find.j3 K R2 x.1 x.2.1 x.2.2.1.1 x.2.2.1.2.1 x.2.2.1.2.2 x.2.2.2.1.1 x.2.2.2.1.2.1 x.2.2.2.1.2.2 x.2.2.2.2.1 x.2.2.2.2.2.1 h
def unak_Unak_Find.j4 (K : KT) (R2 : OA → Int → OA → Nat → Nat → OA → Nat → Nat → Int → Int → Heap → Prop) (u_0 : OA) (tag_1 : Int) (out_8 : OA) (out_8l : Nat) (out_8c : Nat) (t_10 : Int) (t32 : OA) (t32l : Nat) (t32c : Nat) (t33 : Int) (t34 : Int) (t49 : Bool) (h : Heap) : Prop :=
  (t49 = true → bd (al h #[.int .u64 t_10] T.uint64) fun h12 => SemH P (Builtin.append_ #[T.sl_uint64, T.sl_uint64] T.sl_uint64 #[.slice out_8 out_8l out_8c, .slice (some (top h)) 1 1]) (fun v13 h14 => ∃ a15 a15l a15c, v13 = .slice a15 a15l a15c ∧ unak_Unak_Find.j3 K R2 u_0 tag_1 a15 a15l a15c t32 t32l t32c t33 t34 h14) h12) ∧ (t49 = false → unak_Unak_Find.j3 K R2 u_0 tag_1 out_8 out_8l out_8c t32 t32l t32c t33 t34 h)
def unak_Unak_Find.j4.l : Live := [(0, .ptr), (1, .int .u64), (8, .slice), (10, .int .u64), (32, .slice), (33, .int .i64), (34, .int .i64), (49, .bool)]
def unak_Unak_Find.j4.j (K : KT) (R2 : OA → Int → OA → Nat → Nat → OA → Nat → Nat → Int → Int → Heap → Prop) : Tup unak_Unak_Find.j4.l → Heap → Prop := fun x h => unak_Unak_Find.j4 K R2 x.1 x.2.1 x.2.2.1.1 x.2.2.1.2.1 x.2.2.1.2.2 x.2.2.2.1 x.2.2.2.2.1.1 x.2.2.2.2.1.2.1 x.2.2.2.2.1.2.2 x.2.2.2.2.2.1 x.2.2.2.2.2.2.1 x.2.2.2.2.2.2.2.1 h
def unak_Unak_Find.L2 (K : KT) : Nat → OA → Int → OA → Nat → Nat → OA → Nat → Nat → Int → Int → Heap → Prop
  | 0, _, _, _, _, _, _, _, _, _, _, _ => False
  | fuel + 1, u_0, tag_1, out_8, out_8l, out_8c, t32, t32l, t32c, t33, t34, h => ((decide (t34 < t33)) = true → ∃ p10, t32 = some p10 ∧ (0 : Int) ≤ t34 ∧ t34 < ((t32l : Nat) : Int) ∧ ∃ n11, hcell h (Addr.add p10 (Int.toNat t34 * 1)) = some (.int .u64 n11) ∧ CallsH P F.unak_Unak_open [.pointer u_0, .int .u64 n11] (fun v16 h17 => ∃ b18, v16 = .bool b18 ∧ (b18 = true → ((tag_1 == 0) = false → unak_Unak_Find.j4 K (unak_Unak_Find.L2 K fuel) u_0 tag_1 out_8 out_8l out_8c n11 t32 t32l t32c t33 t34 (decide (n11 ≤ tag_1)) h17) ∧ ((tag_1 == 0) = true → unak_Unak_Find.j4 K (unak_Unak_Find.L2 K fuel) u_0 tag_1 out_8 out_8l out_8c n11 t32 t32l t32c t33 t34 true h17)) ∧ (b18 = false → unak_Unak_Find.j4 K (unak_Unak_Find.L2 K fuel) u_0 tag_1 out_8 out_8l out_8c n11 t32 t32l t32c t33 t34 false h17)) h) ∧ ((decide (t34 < t33)) = false → K (.tuple #[.slice out_8 out_8l out_8c, .bool true]) h)
termination_by structural n => n
def unak_Unak_Find.L2.l : Live := [(0, .ptr), (1, .int .u64), (8, .slice), (32, .slice), (33, .int .i64), (34, .int .i64)]
def unak_Unak_Find.L2.j (K : KT) : Nat → Tup unak_Unak_Find.L2.l → Heap → Prop := fun n x h => unak_Unak_Find.L2 K n x.1 x.2.1 x.2.2.1.1 x.2.2.1.2.1 x.2.2.1.2.2 x.2.2.2.1.1 x.2.2.2.1.2.1 x.2.2.2.1.2.2 x.2.2.2.2.1 x.2.2.2.2.2.1 h
def unak_Unak_Find.j1 (K : KT) (u_0 : OA) (tag_1 : Int) (many_2 : Bool) (t22 : Bool) (h : Heap) : Prop :=
  (t22 = true → K (.tuple #[.slice none 0 0, .bool false]) h) ∧ (t22 = false → ((!many_2) = true → bd (al h #[.int .u64 tag_1] T.uint64) fun h1 => bd ((some (top h)) : OA) fun a2 => bd (1 : Nat) fun a2l => bd (1 : Nat) fun a2c => K (.tuple #[.slice a2 a2l a2c, .bool true]) h1) ∧ ((!many_2) = false → ∃ p3, u_0 = some p3 ∧ ∃ m4, hcell h (Addr.add p3 1) = some (.map m4) ∧ CallsH P F.maps_Keys_map_uint64_api_Hold_uint64_api_Hold [.map m4] (fun v5 h6 => CallsH P F.slices_Sorted_uint64 [v5] (fun v7 h8 => ∃ a9 a9l a9c, v7 = .slice a9 a9l a9c ∧ ∃ fuel19, unak_Unak_Find.L2 K fuel19 u_0 tag_1 none 0 0 a9 a9l a9c ((a9l : Nat) : Int) 0 h8) h6) h))
def unak_Unak_Find.j1.l : Live := [(0, .ptr), (1, .int .u64), (2, .bool), (22, .bool)]
def unak_Unak_Find.j1.j (K : KT) : Tup unak_Unak_Find.j1.l → Heap → Prop := fun x h => unak_Unak_Find.j1 K x.1 x.2.1 x.2.2.1 x.2.2.2.1 h
def unak_Unak_Find.p0 (K : KT) (u_0 : OA) (tag_1 : Int) (many_2 : Bool) (h : Heap) : Prop :=
  CallsH P F.unak_Unak_open [.pointer u_0, .int .u64 tag_1] (fun v20 h21 => ∃ b22, v20 = .bool b22 ∧ ((!b22) = true → (many_2 = true → unak_Unak_Find.j1 K u_0 tag_1 many_2 (!(tag_1 == 0)) h21) ∧ (many_2 = false → unak_Unak_Find.j1 K u_0 tag_1 many_2 (!false) h21)) ∧ ((!b22) = false → unak_Unak_Find.j1 K u_0 tag_1 many_2 false h21)) h
def unak_Unak_Find.plan (K : KT) : Plan := (.seq .go (.seq (.cut unak_Unak_Find.j1.l (unak_Unak_Find.j1.j K) .go .go) (.seq .go (.seq .go (.seq (.seq .go (.block (.loop unak_Unak_Find.L2.l (unak_Unak_Find.L2.j K) (fun n2 => (.seq .go (.seq .go (.cut unak_Unak_Find.j3.l (unak_Unak_Find.j3.j K (unak_Unak_Find.L2 K n2)) (.block (.seq .go (.cut unak_Unak_Find.j4.l (unak_Unak_Find.j4.j K (unak_Unak_Find.L2 K n2)) .go .go))) .go))))))) .go)))))
theorem unak_Unak_Find.ev_eq : unak_Unak_Find.p0 = fun K u_0 tag_1 many_2 h => Ev P Try.f29 (unak_Unak_Find.plan K) K [.pointer u_0, .int .u64 tag_1, .bool many_2] h := by kernel_rfl
theorem unak_Unak_Find.obl (K : KT) : Obl P Try.f29 (unak_Unak_Find.plan K) K :=
  obl_of (R := Imp (unak_Unak_Find.j1.j K) ∧ (∀ x h, ¬ (unak_Unak_Find.L2.j K) 0 x h) ∧ ImpN (unak_Unak_Find.L2.j K) ∧ (∀ (n2 : Nat), Imp (unak_Unak_Find.j4.j K (unak_Unak_Find.L2 K n2)) ∧ Imp (unak_Unak_Find.j3.j K (unak_Unak_Find.L2 K n2)) ∧ True) ∧ True) (by kernel_rfl) ⟨imp _, ⟨fun _ _ H => H, impN _, fun _ => ⟨imp _, ⟨imp _, trivial⟩⟩, trivial⟩⟩
theorem unak_Unak_Find.ok {K : KT} {u_0 : OA} {tag_1 : Int} {many_2 : Bool} {h : Heap} (H : unak_Unak_Find.p0 K u_0 tag_1 many_2 h) : CallsH P F.unak_Unak_Find [.pointer u_0, .int .u64 tag_1, .bool many_2] K h :=
  calls_of_Ev (unak_Unak_Find.plan K) Try.func29 (by kernel_rfl) (unak_Unak_Find.obl K) (by rw [unak_Unak_Find.ev_eq] at H; exact H)

/-! (*waybill/unak.Unak).Take: 30 -/
def unak_Unak_Take.j2 (K : KT) (R1 : OA → OA → Nat → Nat → OA → Nat → Nat → Int → Int → Heap → Prop) (u_0 : OA) (out_5 : OA) (out_5l : Nat) (out_5c : Nat) (t14 : OA) (t14l : Nat) (t14c : Nat) (t15 : Int) (t16 : Int) (h : Heap) : Prop :=
  R1 u_0 out_5 out_5l out_5c t14 t14l t14c t15 (IntKind.i64.wrap (t16 + 1)) h
def unak_Unak_Take.j2.l : Live := [(0, .ptr), (5, .slice), (14, .slice), (15, .int .i64), (16, .int .i64)]
def unak_Unak_Take.j2.j (K : KT) (R1 : OA → OA → Nat → Nat → OA → Nat → Nat → Int → Int → Heap → Prop) : Tup unak_Unak_Take.j2.l → Heap → Prop := fun x h => unak_Unak_Take.j2 K R1 x.1 x.2.1.1 x.2.1.2.1 x.2.1.2.2 x.2.2.1.1 x.2.2.1.2.1 x.2.2.1.2.2 x.2.2.2.1 x.2.2.2.2.1 h
def unak_Unak_Take.L1 (K : KT) : Nat → OA → OA → Nat → Nat → OA → Nat → Nat → Int → Int → Heap → Prop
  | 0, _, _, _, _, _, _, _, _, _, _ => False
  | fuel + 1, u_0, out_5, out_5l, out_5c, t14, t14l, t14c, t15, t16, h => ((decide (t16 < t15)) = true → ∃ p6, t14 = some p6 ∧ (0 : Int) ≤ t16 ∧ t16 < ((t14l : Nat) : Int) ∧ ∃ n7, hcell h (Addr.add p6 (Int.toNat t16 * 1)) = some (.int .u64 n7) ∧ ∃ p8, u_0 = some p8 ∧ ∃ m9, hcell h (Addr.add p8 1) = some (.map m9) ∧ SemH P (Instr.lookup T.map_uint64_api_Hold (.map m9) (.int .u64 n7) true) (fun v10 h11 => ∃ cs12 b13, v10 = .tuple #[.agg (List.toArray cs12), .bool b13] ∧ bd (al h11 #[.string (mkS ([] : List UInt8)), .int .u64 0] T.api_Hold) fun h14 => cs12.length = 2 ∧ ∃ h15, stC h14 (top h11) 0 cs12 = some h15 ∧ (b13 = true → ∃ cs16, rdC h15 (top h11) 0 2 = some cs16 ∧ ∃ cs17, bldS P T.sl_api_Hold T.api_Hold 1 [(0, .agg (List.toArray cs16))] cs17 ∧ bd (al h15 (List.toArray cs17) T.api_Hold) fun h18 => SemH P (Builtin.append_ #[T.sl_api_Hold, T.sl_api_Hold] T.sl_api_Hold #[.slice out_5 out_5l out_5c, .slice (some (top h15)) 1 1]) (fun v19 h20 => ∃ a21 a21l a21c, v19 = .slice a21 a21l a21c ∧ ∃ p22, u_0 = some p22 ∧ ∃ m23, hcell h20 (Addr.add p22 1) = some (.map m23) ∧ SemH P (Builtin.delete_ #[T.map_uint64_api_Hold, T.uint64] T.unit #[.map m23, .int .u64 n7]) (fun v24 h25 => ∃ p26, u_0 = some p26 ∧ ∃ m27, hcell h25 (Addr.add p26 2) = some (.map m27) ∧ SemH P (Builtin.delete_ #[T.map_uint64_int, T.uint64] T.unit #[.map m27, .int .u64 n7]) (fun v28 h29 => unak_Unak_Take.j2 K (unak_Unak_Take.L1 K fuel) u_0 a21 a21l a21c t14 t14l t14c t15 t16 h29) h25) h20) h18) ∧ (b13 = false → unak_Unak_Take.j2 K (unak_Unak_Take.L1 K fuel) u_0 out_5 out_5l out_5c t14 t14l t14c t15 t16 h15)) h) ∧ ((decide (t16 < t15)) = false → K (.slice out_5 out_5l out_5c) h)
termination_by structural n => n
def unak_Unak_Take.L1.l : Live := [(0, .ptr), (5, .slice), (14, .slice), (15, .int .i64), (16, .int .i64)]
def unak_Unak_Take.L1.j (K : KT) : Nat → Tup unak_Unak_Take.L1.l → Heap → Prop := fun n x h => unak_Unak_Take.L1 K n x.1 x.2.1.1 x.2.1.2.1 x.2.1.2.2 x.2.2.1.1 x.2.2.1.2.1 x.2.2.1.2.2 x.2.2.2.1 x.2.2.2.2.1 h
def unak_Unak_Take.p0 (K : KT) (u_0 : OA) (tags_1 : OA) (tags_1l : Nat) (tags_1c : Nat) (h : Heap) : Prop :=
  CallsH P F.slices_Clone_uint64_uint64 [.slice tags_1 tags_1l tags_1c] (fun v1 h2 => ∃ a3 a3l a3c, v1 = .slice a3 a3l a3c ∧ CallsH P F.slices_Sort_uint64_uint64 [.slice a3 a3l a3c] (fun v4 h5 => v4 = .tuple #[] ∧ ∃ fuel30, unak_Unak_Take.L1 K fuel30 u_0 none 0 0 a3 a3l a3c ((a3l : Nat) : Int) 0 h5) h2) h
def unak_Unak_Take.plan (K : KT) : Plan := (.seq .go (.seq .go (.seq .go (.seq .go (.seq (.seq .go (.block (.loop unak_Unak_Take.L1.l (unak_Unak_Take.L1.j K) (fun n1 => (.seq .go (.seq .go (.cut unak_Unak_Take.j2.l (unak_Unak_Take.j2.j K (unak_Unak_Take.L1 K n1)) .go .go))))))) .go)))))
theorem unak_Unak_Take.ev_eq : unak_Unak_Take.p0 = fun K u_0 tags_1 tags_1l tags_1c h => Ev P Try.f30 (unak_Unak_Take.plan K) K [.pointer u_0, .slice tags_1 tags_1l tags_1c] h := by kernel_rfl
theorem unak_Unak_Take.obl (K : KT) : Obl P Try.f30 (unak_Unak_Take.plan K) K :=
  obl_of (R := (∀ x h, ¬ (unak_Unak_Take.L1.j K) 0 x h) ∧ ImpN (unak_Unak_Take.L1.j K) ∧ (∀ (n1 : Nat), Imp (unak_Unak_Take.j2.j K (unak_Unak_Take.L1 K n1)) ∧ True) ∧ True) (by kernel_rfl) ⟨fun _ _ H => H, impN _, fun _ => ⟨imp _, trivial⟩, trivial⟩
theorem unak_Unak_Take.ok {K : KT} {u_0 : OA} {tags_1 : OA} {tags_1l : Nat} {tags_1c : Nat} {h : Heap} (H : unak_Unak_Take.p0 K u_0 tags_1 tags_1l tags_1c h) : CallsH P F.unak_Unak_Take [.pointer u_0, .slice tags_1 tags_1l tags_1c] K h :=
  calls_of_Ev (unak_Unak_Take.plan K) Try.func30 (by kernel_rfl) (unak_Unak_Take.obl K) (by rw [unak_Unak_Take.ev_eq] at H; exact H)

/-! (*waybill/unak.Unak).Len: 31 -/
def unak_Unak_Len.p0 (K : KT) (u_0 : OA) (h : Heap) : Prop :=
  ∃ p1, u_0 = some p1 ∧ ∃ m2, hcell h (Addr.add p1 1) = some (.map m2) ∧ SemH P (Builtin.len_ #[T.map_uint64_api_Hold] T.int #[.map m2]) (fun v3 h4 => ∃ n5, v3 = .int .i64 n5 ∧ K (.int .i64 n5) h4) h
def unak_Unak_Len.plan (K : KT) : Plan := .go
theorem unak_Unak_Len.ev_eq : unak_Unak_Len.p0 = fun K u_0 h => Ev P Try.f31 (unak_Unak_Len.plan K) K [.pointer u_0] h := by kernel_rfl
theorem unak_Unak_Len.obl (K : KT) : Obl P Try.f31 (unak_Unak_Len.plan K) K :=
  obl_true (by kernel_rfl)
theorem unak_Unak_Len.ok {K : KT} {u_0 : OA} {h : Heap} (H : unak_Unak_Len.p0 K u_0 h) : CallsH P F.unak_Unak_Len [.pointer u_0] K h :=
  calls_of_Ev (unak_Unak_Len.plan K) Try.func31 (by kernel_rfl) (unak_Unak_Len.obl K) (by rw [unak_Unak_Len.ev_eq] at H; exact H)

/-! (*waybill/unak.Unak).All: 32 -/
def unak_Unak_All.p0 (K : KT) (u_0 : OA) (h : Heap) : Prop :=
  ∃ p1, u_0 = some p1 ∧ ∃ m2, hcell h (Addr.add p1 1) = some (.map m2) ∧ CallsH P F.maps_Keys_map_uint64_api_Hold_uint64_api_Hold [.map m2] (fun v3 h4 => CallsH P F.slices_Collect_uint64 [v3] (fun v5 h6 => ∃ a7 a7l a7c, v5 = .slice a7 a7l a7c ∧ CallsH P F.unak_Unak_Take [.pointer u_0, .slice a7 a7l a7c] (fun v8 h9 => ∃ a10 a10l a10c, v8 = .slice a10 a10l a10c ∧ K (.slice a10 a10l a10c) h9) h6) h4) h
def unak_Unak_All.plan (K : KT) : Plan := .go
theorem unak_Unak_All.ev_eq : unak_Unak_All.p0 = fun K u_0 h => Ev P Try.f32 (unak_Unak_All.plan K) K [.pointer u_0] h := by kernel_rfl
theorem unak_Unak_All.obl (K : KT) : Obl P Try.f32 (unak_Unak_All.plan K) K :=
  obl_true (by kernel_rfl)
theorem unak_Unak_All.ok {K : KT} {u_0 : OA} {h : Heap} (H : unak_Unak_All.p0 K u_0 h) : CallsH P F.unak_Unak_All [.pointer u_0] K h :=
  calls_of_Ev (unak_Unak_All.plan K) Try.func32 (by kernel_rfl) (unak_Unak_All.obl K) (by rw [unak_Unak_All.ev_eq] at H; exact H)

/-! (*waybill/unak.Unak).Mark: 33 -/
def unak_Unak_Mark.j2 (K : KT) (R1 : OA → OA → Nat → Nat → Int → Int → Heap → Prop) (u_0 : OA) (t8 : OA) (t8l : Nat) (t8c : Nat) (t9 : Int) (t10 : Int) (h : Heap) : Prop :=
  R1 u_0 t8 t8l t8c t9 (IntKind.i64.wrap (t10 + 1)) h
def unak_Unak_Mark.j2.l : Live := [(0, .ptr), (8, .slice), (9, .int .i64), (10, .int .i64)]
def unak_Unak_Mark.j2.j (K : KT) (R1 : OA → OA → Nat → Nat → Int → Int → Heap → Prop) : Tup unak_Unak_Mark.j2.l → Heap → Prop := fun x h => unak_Unak_Mark.j2 K R1 x.1 x.2.1.1 x.2.1.2.1 x.2.1.2.2 x.2.2.1 x.2.2.2.1 h
def unak_Unak_Mark.L1 (K : KT) : Nat → OA → OA → Nat → Nat → Int → Int → Heap → Prop
  | 0, _, _, _, _, _, _, _ => False
  | fuel + 1, u_0, t8, t8l, t8c, t9, t10, h => ((decide (t10 < t9)) = true → ∃ p1, t8 = some p1 ∧ (0 : Int) ≤ t10 ∧ t10 < ((t8l : Nat) : Int) ∧ ∃ n2, hcell h (Addr.add p1 (Int.toNat t10 * 1)) = some (.int .u64 n2) ∧ ∃ p3, u_0 = some p3 ∧ ∃ m4, hcell h (Addr.add p3 1) = some (.map m4) ∧ SemH P (Instr.lookup T.map_uint64_api_Hold (.map m4) (.int .u64 n2) true) (fun v5 h6 => ∃ cs7 b8, v5 = .tuple #[.agg (List.toArray cs7), .bool b8] ∧ bd (al h6 #[.string (mkS ([] : List UInt8)), .int .u64 0] T.api_Hold) fun h9 => cs7.length = 2 ∧ ∃ h10, stC h9 (top h6) 0 cs7 = some h10 ∧ (b8 = true → ∃ p11, u_0 = some p11 ∧ ∃ m12, hcell h10 (Addr.add p11 2) = some (.map m12) ∧ SemH P (unit (Instr.mapUpdate T.map_uint64_int (.map m12) (.int .u64 n2) (.int .i64 1))) (fun v13 h14 => unak_Unak_Mark.j2 K (unak_Unak_Mark.L1 K fuel) u_0 t8 t8l t8c t9 t10 h14) h10) ∧ (b8 = false → unak_Unak_Mark.j2 K (unak_Unak_Mark.L1 K fuel) u_0 t8 t8l t8c t9 t10 h10)) h) ∧ ((decide (t10 < t9)) = false → K (.tuple #[]) h)
termination_by structural n => n
def unak_Unak_Mark.L1.l : Live := [(0, .ptr), (8, .slice), (9, .int .i64), (10, .int .i64)]
def unak_Unak_Mark.L1.j (K : KT) : Nat → Tup unak_Unak_Mark.L1.l → Heap → Prop := fun n x h => unak_Unak_Mark.L1 K n x.1 x.2.1.1 x.2.1.2.1 x.2.1.2.2 x.2.2.1 x.2.2.2.1 h
def unak_Unak_Mark.p0 (K : KT) (u_0 : OA) (tags_1 : OA) (tags_1l : Nat) (tags_1c : Nat) (h : Heap) : Prop :=
  ∃ fuel15, unak_Unak_Mark.L1 K fuel15 u_0 tags_1 tags_1l tags_1c ((tags_1l : Nat) : Int) 0 h
def unak_Unak_Mark.plan (K : KT) : Plan := (.seq .go (.block (.loop unak_Unak_Mark.L1.l (unak_Unak_Mark.L1.j K) (fun n1 => (.seq .go (.seq .go (.cut unak_Unak_Mark.j2.l (unak_Unak_Mark.j2.j K (unak_Unak_Mark.L1 K n1)) .go .go)))))))
theorem unak_Unak_Mark.ev_eq : unak_Unak_Mark.p0 = fun K u_0 tags_1 tags_1l tags_1c h => Ev P Try.f33 (unak_Unak_Mark.plan K) K [.pointer u_0, .slice tags_1 tags_1l tags_1c] h := by kernel_rfl
theorem unak_Unak_Mark.obl (K : KT) : Obl P Try.f33 (unak_Unak_Mark.plan K) K :=
  obl_of (R := (∀ x h, ¬ (unak_Unak_Mark.L1.j K) 0 x h) ∧ ImpN (unak_Unak_Mark.L1.j K) ∧ (∀ (n1 : Nat), Imp (unak_Unak_Mark.j2.j K (unak_Unak_Mark.L1 K n1)) ∧ True) ∧ True) (by kernel_rfl) ⟨fun _ _ H => H, impN _, fun _ => ⟨imp _, trivial⟩, trivial⟩
theorem unak_Unak_Mark.ok {K : KT} {u_0 : OA} {tags_1 : OA} {tags_1l : Nat} {tags_1c : Nat} {h : Heap} (H : unak_Unak_Mark.p0 K u_0 tags_1 tags_1l tags_1c h) : CallsH P F.unak_Unak_Mark [.pointer u_0, .slice tags_1 tags_1l tags_1c] K h :=
  calls_of_Ev (unak_Unak_Mark.plan K) Try.func33 (by kernel_rfl) (unak_Unak_Mark.obl K) (by rw [unak_Unak_Mark.ev_eq] at H; exact H)

/-! (*waybill/unak.Unak).Clear: 34 -/
def unak_Unak_Clear.p0 (K : KT) (u_0 : OA) (h : Heap) : Prop :=
  bd (Array.push h (.map #[] 0)) fun h1 => ∃ p2, u_0 = some p2 ∧ ∃ h3, stC h1 (Addr.add p2 2) 0 [.map (some (Array.size h))] = some h3 ∧ K (.tuple #[]) h3
def unak_Unak_Clear.plan (K : KT) : Plan := .go
theorem unak_Unak_Clear.ev_eq : unak_Unak_Clear.p0 = fun K u_0 h => Ev P Try.f34 (unak_Unak_Clear.plan K) K [.pointer u_0] h := by kernel_rfl
theorem unak_Unak_Clear.obl (K : KT) : Obl P Try.f34 (unak_Unak_Clear.plan K) K :=
  obl_true (by kernel_rfl)
theorem unak_Unak_Clear.ok {K : KT} {u_0 : OA} {h : Heap} (H : unak_Unak_Clear.p0 K u_0 h) : CallsH P F.unak_Unak_Clear [.pointer u_0] K h :=
  calls_of_Ev (unak_Unak_Clear.plan K) Try.func34 (by kernel_rfl) (unak_Unak_Clear.obl K) (by rw [unak_Unak_Clear.ev_eq] at H; exact H)

end Go.Proofs.Ytechpnlbkkfplaa.Pr
