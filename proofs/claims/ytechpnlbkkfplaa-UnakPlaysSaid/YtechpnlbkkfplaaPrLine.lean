/- What functions of the package Line come to, over the heap alone, and that they do: printed by gen.py out of the given program. -/
import Derived.Test.YtechpnlbkkfplaaPrH
set_option linter.unusedVariables false
set_option maxRecDepth 100000
namespace Go.Proofs.Ytechpnlbkkfplaa.Pr
open Go Go.Lift Go.Proofs

/-! waybill/line.New: 12 -/
def line_New.p0 (K : KT)  (h : Heap) : Prop :=
  bd (Array.push h (.map #[] 0)) fun h1 => bd (Array.push h1 (.map #[] 0)) fun h2 => bd (al h2 #[.map (some (Array.size h)), .map (some (Array.size h1))] T.line_Line) fun h3 => K (.pointer (some (top h2))) h3
def line_New.plan (K : KT) : Plan := .go
theorem line_New.ev_eq : line_New.p0 = fun K  h => Ev P Try.f12 (line_New.plan K) K [] h := by kernel_rfl
theorem line_New.obl (K : KT) : Obl P Try.f12 (line_New.plan K) K :=
  obl_true (by kernel_rfl)
theorem line_New.ok {K : KT}  {h : Heap} (H : line_New.p0 K  h) : CallsH P F.line_New [] K h :=
  calls_of_Ev (line_New.plan K) Try.func12 (by kernel_rfl) (line_New.obl K) (by rw [line_New.ev_eq] at H; exact H)

/-! (*waybill/line.Line).Put: 14 -/
def line_Line_Put.j1 (K : KT) (l_0 : OA) (id_1 : Int) (again_2 : Bool) (t31 : Bool) (h : Heap) : Prop :=
  (t31 = true → K (.bool false) h) ∧ (t31 = false → ∃ p9, l_0 = some p9 ∧ ∃ m10, hcell h (Addr.add p9 0) = some (.map m10) ∧ SemH P (unit (Instr.mapUpdate T.map_uint64_api_Entry (.map m10) (.int .u64 id_1) (.agg #[.int .u64 id_1, .bool again_2]))) (fun v11 h12 => K (.bool true) h12) h)
def line_Line_Put.j1.l : Live := [(0, .ptr), (1, .int .u64), (2, .bool), (31, .bool)]
def line_Line_Put.j1.j (K : KT) : Tup line_Line_Put.j1.l → Heap → Prop := fun x h => line_Line_Put.j1 K x.1 x.2.1 x.2.2.1 x.2.2.2.1 h
def line_Line_Put.p0 (K : KT) (l_0 : OA) (id_1 : Int) (again_2 : Bool) (h : Heap) : Prop :=
  ∃ p1, l_0 = some p1 ∧ ∃ m2, hcell h (Addr.add p1 0) = some (.map m2) ∧ SemH P (Instr.lookup T.map_uint64_api_Entry (.map m2) (.int .u64 id_1) true) (fun v3 h4 => ∃ cs5 b6, v3 = .tuple #[.agg (List.toArray cs5), .bool b6] ∧ bd (al h4 #[.int .u64 0, .bool false] T.api_Entry) fun h7 => cs5.length = 2 ∧ ∃ h8, stC h7 (top h4) 0 cs5 = some h8 ∧ (b6 = false → ((id_1 == 0) = false → ∃ p13, l_0 = some p13 ∧ ∃ m14, hcell h8 (Addr.add p13 1) = some (.map m14) ∧ SemH P (Instr.lookup T.map_uint64_int (.map m14) (.int .u64 id_1) false) (fun v15 h16 => ∃ n17, v15 = .int .i64 n17 ∧ line_Line_Put.j1 K l_0 id_1 again_2 (decide (n17 > 0)) h16) h8) ∧ ((id_1 == 0) = true → line_Line_Put.j1 K l_0 id_1 again_2 true h8)) ∧ (b6 = true → line_Line_Put.j1 K l_0 id_1 again_2 true h8)) h
def line_Line_Put.plan (K : KT) : Plan := (.seq .go (.seq (.seq .go (.cut line_Line_Put.j1.l (line_Line_Put.j1.j K) .go .go)) .go))
theorem line_Line_Put.ev_eq : line_Line_Put.p0 = fun K l_0 id_1 again_2 h => Ev P Try.f14 (line_Line_Put.plan K) K [.pointer l_0, .int .u64 id_1, .bool again_2] h := by kernel_rfl
theorem line_Line_Put.obl (K : KT) : Obl P Try.f14 (line_Line_Put.plan K) K :=
  obl_of (R := Imp (line_Line_Put.j1.j K) ∧ True) (by kernel_rfl) ⟨imp _, trivial⟩
theorem line_Line_Put.ok {K : KT} {l_0 : OA} {id_1 : Int} {again_2 : Bool} {h : Heap} (H : line_Line_Put.p0 K l_0 id_1 again_2 h) : CallsH P F.line_Line_Put [.pointer l_0, .int .u64 id_1, .bool again_2] K h :=
  calls_of_Ev (line_Line_Put.plan K) Try.func14 (by kernel_rfl) (line_Line_Put.obl K) (by rw [line_Line_Put.ev_eq] at H; exact H)

/-! (*waybill/line.Line).Take: 15 -/
def line_Line_Take.j2 (K : KT) (t2 : Addr) (e_6 : Addr) (ok_7 : Bool) (h : Heap) : Prop :=
  ∃ cs10, rdC h e_6 0 2 = some cs10 ∧ cs10.length = 2 ∧ ∃ h11, stC h t2 0 cs10 = some h11 ∧ ∃ cs12, rdC h11 t2 0 2 = some cs12 ∧ K (.tuple #[.agg (List.toArray cs12), .bool ok_7]) h11
def line_Line_Take.j2.l : Live := [(2, .addr), (6, .addr), (7, .bool)]
def line_Line_Take.j2.j (K : KT) : Tup line_Line_Take.j2.l → Heap → Prop := fun x h => line_Line_Take.j2 K x.1 x.2.1 x.2.2.1 h
def line_Line_Take.j1 (K : KT) (l_0 : OA) (t2 : Addr) (least_4 : Int) (h : Heap) : Prop :=
  ∃ p2, l_0 = some p2 ∧ ∃ m3, hcell h (Addr.add p2 0) = some (.map m3) ∧ SemH P (Instr.lookup T.map_uint64_api_Entry (.map m3) (.int .u64 least_4) true) (fun v4 h5 => ∃ cs6 b7, v4 = .tuple #[.agg (List.toArray cs6), .bool b7] ∧ bd (al h5 #[.int .u64 0, .bool false] T.api_Entry) fun h8 => cs6.length = 2 ∧ ∃ h9, stC h8 (top h5) 0 cs6 = some h9 ∧ (b7 = true → ∃ p13, l_0 = some p13 ∧ ∃ m14, hcell h9 (Addr.add p13 0) = some (.map m14) ∧ SemH P (Builtin.delete_ #[T.map_uint64_api_Entry, T.uint64] T.unit #[.map m14, .int .u64 least_4]) (fun v15 h16 => ∃ p17, l_0 = some p17 ∧ ∃ m18, hcell h16 (Addr.add p17 1) = some (.map m18) ∧ SemH P (unit (Instr.mapUpdate T.map_uint64_int (.map m18) (.int .u64 least_4) (.int .i64 1))) (fun v19 h20 => line_Line_Take.j2 K t2 (top h5) b7 h20) h16) h9) ∧ (b7 = false → line_Line_Take.j2 K t2 (top h5) b7 h9)) h
def line_Line_Take.j1.l : Live := [(0, .ptr), (2, .addr), (4, .int .u64)]
def line_Line_Take.j1.j (K : KT) : Tup line_Line_Take.j1.l → Heap → Prop := fun x h => line_Line_Take.j1 K x.1 x.2.1 x.2.2.1 h
def line_Line_Take.j4 (K : KT) (R3 : OA → Addr → Int → Addr → Heap → Prop) (l_0 : OA) (t2 : Addr) (least_4 : Int) (id_5 : Int) (t12 : Addr) (t23 : Bool) (h : Heap) : Prop :=
  (t23 = true → R3 l_0 t2 id_5 t12 h) ∧ (t23 = false → R3 l_0 t2 least_4 t12 h)
def line_Line_Take.j4.l : Live := [(0, .ptr), (2, .addr), (4, .int .u64), (5, .int .u64), (12, .addr), (23, .bool)]
def line_Line_Take.j4.j (K : KT) (R3 : OA → Addr → Int → Addr → Heap → Prop) : Tup line_Line_Take.j4.l → Heap → Prop := fun x h => line_Line_Take.j4 K R3 x.1 x.2.1 x.2.2.1 x.2.2.2.1 x.2.2.2.2.1 x.2.2.2.2.2.1 h
def line_Line_Take.L3 (K : KT) : Nat → OA → Addr → Int → Addr → Heap → Prop
  | 0, _, _, _, _, _ => False
  | fuel + 1, l_0, t2, least_4, t12, h => SemH P (Instr.next (.pointer (some t12)) false T.unit) (fun v26 h27 => (v26 = .tuple #[.bool false] ∧ (false = true → SemH P (Instr.entry (.pointer (some t12))) (fun v28 h29 => ∃ x30 y31 : Value, v28 = .tuple #[x30, y31] ∧ ∃ n32, x30 = .int .u64 n32 ∧ ((least_4 == 0) = false → line_Line_Take.j4 K (line_Line_Take.L3 K fuel) l_0 t2 least_4 n32 t12 (decide (n32 < least_4)) h29) ∧ ((least_4 == 0) = true → line_Line_Take.j4 K (line_Line_Take.L3 K fuel) l_0 t2 least_4 n32 t12 true h29)) h27) ∧ (false = false → line_Line_Take.j1 K l_0 t2 least_4 h27)) ∨ (∃ x33 y34 : Value, v26 = .tuple #[.bool true, x33, y34] ∧ (true = true → SemH P (Instr.entry (.pointer (some t12))) (fun v35 h36 => ∃ x37 y38 : Value, v35 = .tuple #[x37, y38] ∧ ∃ n39, x37 = .int .u64 n39 ∧ ((least_4 == 0) = false → line_Line_Take.j4 K (line_Line_Take.L3 K fuel) l_0 t2 least_4 n39 t12 (decide (n39 < least_4)) h36) ∧ ((least_4 == 0) = true → line_Line_Take.j4 K (line_Line_Take.L3 K fuel) l_0 t2 least_4 n39 t12 true h36)) h27) ∧ (true = false → line_Line_Take.j1 K l_0 t2 least_4 h27))) h
termination_by structural n => n
def line_Line_Take.L3.l : Live := [(0, .ptr), (2, .addr), (4, .int .u64), (12, .addr)]
def line_Line_Take.L3.j (K : KT) : Nat → Tup line_Line_Take.L3.l → Heap → Prop := fun n x h => line_Line_Take.L3 K n x.1 x.2.1 x.2.2.1 x.2.2.2.1 h
def line_Line_Take.p0 (K : KT) (l_0 : OA) (h : Heap) : Prop :=
  bd (al h #[.int .u64 0, .bool false] T.api_Entry) fun h1 => ∃ p21, l_0 = some p21 ∧ ∃ m22, hcell h1 (Addr.add p21 0) = some (.map m22) ∧ SemH P (Instr.range T.map_uint64_api_Entry (.map m22)) (fun v23 h24 => ∃ a25 : Addr, v23 = .pointer (some a25) ∧ ∃ fuel40, line_Line_Take.L3 K fuel40 l_0 (top h) 0 a25 h24) h1
def line_Line_Take.plan (K : KT) : Plan := (.seq .go (.seq .go (.cut line_Line_Take.j1.l (line_Line_Take.j1.j K) (.seq .go (.block (.loop line_Line_Take.L3.l (line_Line_Take.L3.j K) (fun n3 => (.seq .go (.seq .go (.block (.seq .go (.cut line_Line_Take.j4.l (line_Line_Take.j4.j K (line_Line_Take.L3 K n3)) .go .go))))))))) (.seq .go (.cut line_Line_Take.j2.l (line_Line_Take.j2.j K) .go .go)))))
theorem line_Line_Take.ev_eq : line_Line_Take.p0 = fun K l_0 h => Ev P Try.f15 (line_Line_Take.plan K) K [.pointer l_0] h := by kernel_rfl
theorem line_Line_Take.obl (K : KT) : Obl P Try.f15 (line_Line_Take.plan K) K :=
  obl_of (R := (∀ x h, ¬ (line_Line_Take.L3.j K) 0 x h) ∧ ImpN (line_Line_Take.L3.j K) ∧ (∀ (n3 : Nat), Imp (line_Line_Take.j4.j K (line_Line_Take.L3 K n3)) ∧ True) ∧ Imp (line_Line_Take.j1.j K) ∧ Imp (line_Line_Take.j2.j K) ∧ True) (by kernel_rfl) ⟨fun _ _ H => H, impN _, fun _ => ⟨imp _, trivial⟩, ⟨imp _, ⟨imp _, trivial⟩⟩⟩
theorem line_Line_Take.ok {K : KT} {l_0 : OA} {h : Heap} (H : line_Line_Take.p0 K l_0 h) : CallsH P F.line_Line_Take [.pointer l_0] K h :=
  calls_of_Ev (line_Line_Take.plan K) Try.func15 (by kernel_rfl) (line_Line_Take.obl K) (by rw [line_Line_Take.ev_eq] at H; exact H)

/-! (*waybill/line.Line).Back: 16 -/
def line_Line_Back.p0 (K : KT) (l_0 : OA) (id_1 : Int) (h : Heap) : Prop :=
  ∃ p1, l_0 = some p1 ∧ ∃ m2, hcell h (Addr.add p1 1) = some (.map m2) ∧ SemH P (Instr.lookup T.map_uint64_int (.map m2) (.int .u64 id_1) false) (fun v3 h4 => ∃ n5, v3 = .int .i64 n5 ∧ ((n5 == 0) = true → K (.bool false) h4) ∧ ((n5 == 0) = false → ∃ p6, l_0 = some p6 ∧ ∃ m7, hcell h4 (Addr.add p6 1) = some (.map m7) ∧ SemH P (Builtin.delete_ #[T.map_uint64_int, T.uint64] T.unit #[.map m7, .int .u64 id_1]) (fun v8 h9 => ∃ p10, l_0 = some p10 ∧ ∃ m11, hcell h9 (Addr.add p10 0) = some (.map m11) ∧ SemH P (unit (Instr.mapUpdate T.map_uint64_api_Entry (.map m11) (.int .u64 id_1) (.agg #[.int .u64 id_1, .bool true]))) (fun v12 h13 => K (.bool true) h13) h9) h4)) h
def line_Line_Back.plan (K : KT) : Plan := .go
theorem line_Line_Back.ev_eq : line_Line_Back.p0 = fun K l_0 id_1 h => Ev P Try.f16 (line_Line_Back.plan K) K [.pointer l_0, .int .u64 id_1] h := by kernel_rfl
theorem line_Line_Back.obl (K : KT) : Obl P Try.f16 (line_Line_Back.plan K) K :=
  obl_true (by kernel_rfl)
theorem line_Line_Back.ok {K : KT} {l_0 : OA} {id_1 : Int} {h : Heap} (H : line_Line_Back.p0 K l_0 id_1 h) : CallsH P F.line_Line_Back [.pointer l_0, .int .u64 id_1] K h :=
  calls_of_Ev (line_Line_Back.plan K) Try.func16 (by kernel_rfl) (line_Line_Back.obl K) (by rw [line_Line_Back.ev_eq] at H; exact H)

/-! (*waybill/line.Line).Ready: 19 -/
def line_Line_Ready.L1 (K : KT) : Nat → OA → OA → Nat → Nat → OA → Nat → Nat → Int → Int → Heap → Prop
  | 0, _, _, _, _, _, _, _, _, _, _ => False
  | fuel + 1, l_0, out_3, out_3l, out_3c, t11, t11l, t11c, t12, t13, h => ((decide (t13 < t12)) = true → ∃ p8, t11 = some p8 ∧ (0 : Int) ≤ t13 ∧ t13 < ((t11l : Nat) : Int) ∧ ∃ n9, hcell h (Addr.add p8 (Int.toNat t13 * 1)) = some (.int .u64 n9) ∧ ∃ p10, l_0 = some p10 ∧ ∃ m11, hcell h (Addr.add p10 0) = some (.map m11) ∧ SemH P (Instr.lookup T.map_uint64_api_Entry (.map m11) (.int .u64 n9) false) (fun v12 h13 => ∃ cs14, v12 = .agg (List.toArray cs14) ∧ ∃ cs15, bldS P T.sl_api_Entry T.api_Entry 1 [(0, .agg (List.toArray cs14))] cs15 ∧ bd (al h13 (List.toArray cs15) T.api_Entry) fun h16 => SemH P (Builtin.append_ #[T.sl_api_Entry, T.sl_api_Entry] T.sl_api_Entry #[.slice out_3 out_3l out_3c, .slice (some (top h13)) 1 1]) (fun v17 h18 => ∃ a19 a19l a19c, v17 = .slice a19 a19l a19c ∧ (line_Line_Ready.L1 K fuel) l_0 a19 a19l a19c t11 t11l t11c t12 (IntKind.i64.wrap (t13 + 1)) h18) h16) h) ∧ ((decide (t13 < t12)) = false → K (.slice out_3 out_3l out_3c) h)
termination_by structural n => n
def line_Line_Ready.L1.l : Live := [(0, .ptr), (3, .slice), (11, .slice), (12, .int .i64), (13, .int .i64)]
def line_Line_Ready.L1.j (K : KT) : Nat → Tup line_Line_Ready.L1.l → Heap → Prop := fun n x h => line_Line_Ready.L1 K n x.1 x.2.1.1 x.2.1.2.1 x.2.1.2.2 x.2.2.1.1 x.2.2.1.2.1 x.2.2.1.2.2 x.2.2.2.1 x.2.2.2.2.1 h
def line_Line_Ready.p0 (K : KT) (l_0 : OA) (h : Heap) : Prop :=
  ∃ p1, l_0 = some p1 ∧ ∃ m2, hcell h (Addr.add p1 0) = some (.map m2) ∧ CallsH P F.maps_Keys_map_uint64_api_Entry_uint64_api_Entry [.map m2] (fun v3 h4 => CallsH P F.slices_Sorted_uint64 [v3] (fun v5 h6 => ∃ a7 a7l a7c, v5 = .slice a7 a7l a7c ∧ ∃ fuel20, line_Line_Ready.L1 K fuel20 l_0 none 0 0 a7 a7l a7c ((a7l : Nat) : Int) 0 h6) h4) h
def line_Line_Ready.plan (K : KT) : Plan := (.seq .go (.seq .go (.seq (.seq .go (.block (.loop line_Line_Ready.L1.l (line_Line_Ready.L1.j K) (fun n1 => .go)))) .go)))
theorem line_Line_Ready.ev_eq : line_Line_Ready.p0 = fun K l_0 h => Ev P Try.f19 (line_Line_Ready.plan K) K [.pointer l_0] h := by kernel_rfl
theorem line_Line_Ready.obl (K : KT) : Obl P Try.f19 (line_Line_Ready.plan K) K :=
  obl_of (R := (∀ x h, ¬ (line_Line_Ready.L1.j K) 0 x h) ∧ ImpN (line_Line_Ready.L1.j K) ∧ (∀ (n1 : Nat), True) ∧ True) (by kernel_rfl) ⟨fun _ _ H => H, impN _, fun _ => trivial, trivial⟩
theorem line_Line_Ready.ok {K : KT} {l_0 : OA} {h : Heap} (H : line_Line_Ready.p0 K l_0 h) : CallsH P F.line_Line_Ready [.pointer l_0] K h :=
  calls_of_Ev (line_Line_Ready.plan K) Try.func19 (by kernel_rfl) (line_Line_Ready.obl K) (by rw [line_Line_Ready.ev_eq] at H; exact H)

/-! (*waybill/line.Line).Held: 17 -/
def line_Line_Held.p0 (K : KT) (l_0 : OA) (h : Heap) : Prop :=
  ∃ p1, l_0 = some p1 ∧ ∃ m2, hcell h (Addr.add p1 1) = some (.map m2) ∧ CallsH P F.maps_Keys_map_uint64_int_uint64_int [.map m2] (fun v3 h4 => CallsH P F.slices_Sorted_uint64 [v3] (fun v5 h6 => ∃ a7 a7l a7c, v5 = .slice a7 a7l a7c ∧ K (.slice a7 a7l a7c) h6) h4) h
def line_Line_Held.plan (K : KT) : Plan := .go
theorem line_Line_Held.ev_eq : line_Line_Held.p0 = fun K l_0 h => Ev P Try.f17 (line_Line_Held.plan K) K [.pointer l_0] h := by kernel_rfl
theorem line_Line_Held.obl (K : KT) : Obl P Try.f17 (line_Line_Held.plan K) K :=
  obl_true (by kernel_rfl)
theorem line_Line_Held.ok {K : KT} {l_0 : OA} {h : Heap} (H : line_Line_Held.p0 K l_0 h) : CallsH P F.line_Line_Held [.pointer l_0] K h :=
  calls_of_Ev (line_Line_Held.plan K) Try.func17 (by kernel_rfl) (line_Line_Held.obl K) (by rw [line_Line_Held.ev_eq] at H; exact H)

/-! (*waybill/line.Line).Drop: 18 -/
def line_Line_Drop.j1 (K : KT) (l_0 : OA) (id_1 : Int) (ok_6 : Bool) (h : Heap) : Prop :=
  ∃ p9, l_0 = some p9 ∧ ∃ m10, hcell h (Addr.add p9 0) = some (.map m10) ∧ SemH P (Builtin.delete_ #[T.map_uint64_api_Entry, T.uint64] T.unit #[.map m10, .int .u64 id_1]) (fun v11 h12 => ∃ p13, l_0 = some p13 ∧ ∃ m14, hcell h12 (Addr.add p13 1) = some (.map m14) ∧ SemH P (Builtin.delete_ #[T.map_uint64_int, T.uint64] T.unit #[.map m14, .int .u64 id_1]) (fun v15 h16 => K (.bool ok_6) h16) h12) h
def line_Line_Drop.j1.l : Live := [(0, .ptr), (1, .int .u64), (6, .bool)]
def line_Line_Drop.j1.j (K : KT) : Tup line_Line_Drop.j1.l → Heap → Prop := fun x h => line_Line_Drop.j1 K x.1 x.2.1 x.2.2.1 h
def line_Line_Drop.p0 (K : KT) (l_0 : OA) (id_1 : Int) (h : Heap) : Prop :=
  ∃ p1, l_0 = some p1 ∧ ∃ m2, hcell h (Addr.add p1 0) = some (.map m2) ∧ SemH P (Instr.lookup T.map_uint64_api_Entry (.map m2) (.int .u64 id_1) true) (fun v3 h4 => ∃ cs5 b6, v3 = .tuple #[.agg (List.toArray cs5), .bool b6] ∧ bd (al h4 #[.int .u64 0, .bool false] T.api_Entry) fun h7 => cs5.length = 2 ∧ ∃ h8, stC h7 (top h4) 0 cs5 = some h8 ∧ (b6 = false → ∃ p17, l_0 = some p17 ∧ ∃ m18, hcell h8 (Addr.add p17 1) = some (.map m18) ∧ SemH P (Instr.lookup T.map_uint64_int (.map m18) (.int .u64 id_1) false) (fun v19 h20 => ∃ n21, v19 = .int .i64 n21 ∧ bd ((decide (n21 > 0)) : Bool) fun ok_22 => line_Line_Drop.j1 K l_0 id_1 ok_22 h20) h8) ∧ (b6 = true → line_Line_Drop.j1 K l_0 id_1 true h8)) h
def line_Line_Drop.plan (K : KT) : Plan := (.seq .go (.seq .go (.cut line_Line_Drop.j1.l (line_Line_Drop.j1.j K) .go .go)))
theorem line_Line_Drop.ev_eq : line_Line_Drop.p0 = fun K l_0 id_1 h => Ev P Try.f18 (line_Line_Drop.plan K) K [.pointer l_0, .int .u64 id_1] h := by kernel_rfl
theorem line_Line_Drop.obl (K : KT) : Obl P Try.f18 (line_Line_Drop.plan K) K :=
  obl_of (R := Imp (line_Line_Drop.j1.j K) ∧ True) (by kernel_rfl) ⟨imp _, trivial⟩
theorem line_Line_Drop.ok {K : KT} {l_0 : OA} {id_1 : Int} {h : Heap} (H : line_Line_Drop.p0 K l_0 id_1 h) : CallsH P F.line_Line_Drop [.pointer l_0, .int .u64 id_1] K h :=
  calls_of_Ev (line_Line_Drop.plan K) Try.func18 (by kernel_rfl) (line_Line_Drop.obl K) (by rw [line_Line_Drop.ev_eq] at H; exact H)

/-! (*waybill/line.Line).Copy: 25 -/
def line_Line_Copy.p0 (K : KT) (l_0 : OA) (h : Heap) : Prop :=
  ∃ p1, l_0 = some p1 ∧ ∃ p2, l_0 = some p2 ∧ ∃ m3, hcell h (Addr.add p1 0) = some (.map m3) ∧ (CallsH P F.maps_Clone_map_uint64_api_Entry_uint64_api_Entry [.map m3] (fun v4 h5 => ∃ m6, v4 = .map m6 ∧ ∃ m7, hcell h5 (Addr.add p2 1) = some (.map m7) ∧ CallsH P F.maps_Clone_map_uint64_int_uint64_int [.map m7] (fun v8 h9 => ∃ m10, v8 = .map m10 ∧ bd (al h9 #[.map m6, .map m10] T.line_Line) fun h11 => K (.pointer (some (top h9))) h11) h5) h) ∧ (∃ m12, hcell h (Addr.add p2 1) = some (.map m12) ∧ CallsH P F.maps_Clone_map_uint64_api_Entry_uint64_api_Entry [.map m3] (fun v13 h14 => ∃ m15, v13 = .map m15 ∧ CallsH P F.maps_Clone_map_uint64_int_uint64_int [.map m12] (fun v16 h17 => ∃ m18, v16 = .map m18 ∧ bd (al h17 #[.map m15, .map m18] T.line_Line) fun h19 => K (.pointer (some (top h17))) h19) h14) h)
def line_Line_Copy.plan (K : KT) : Plan := (.seq .go (.seq (.orders (.op 0 (.op 1 (.op 2 (.op 5 (.op 6 (.op 7 (.op 3 (.both (.op 4 (.op 8 (.op 9 (.op 10 (.op 11 (.op 12 .nil)))))) (.op 8 (.op 4 (.op 9 (.op 10 (.op 11 (.op 12 .nil))))))))))))))) .go))
theorem line_Line_Copy.ev_eq : line_Line_Copy.p0 = fun K l_0 h => Ev P Try.f25 (line_Line_Copy.plan K) K [.pointer l_0] h := by kernel_rfl
theorem line_Line_Copy.obl (K : KT) : Obl P Try.f25 (line_Line_Copy.plan K) K :=
  obl_of (R := DrawOK P Try.f25.ntmps (opsAt 1 (bodyOf Try.f25)) (.op 0 (.op 1 (.op 2 (.op 5 (.op 6 (.op 7 (.op 3 (.both (.op 4 (.op 8 (.op 9 (.op 10 (.op 11 (.op 12 .nil)))))) (.op 8 (.op 4 (.op 9 (.op 10 (.op 11 (.op 12 .nil)))))))))))))) ∧ True) (by kernel_rfl) ⟨draw_ok (by kernel_rfl), trivial⟩
theorem line_Line_Copy.ok {K : KT} {l_0 : OA} {h : Heap} (H : line_Line_Copy.p0 K l_0 h) : CallsH P F.line_Line_Copy [.pointer l_0] K h :=
  calls_of_Ev (line_Line_Copy.plan K) Try.func25 (by kernel_rfl) (line_Line_Copy.obl K) (by rw [line_Line_Copy.ev_eq] at H; exact H)

end Go.Proofs.Ytechpnlbkkfplaa.Pr
