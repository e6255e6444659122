/- What functions of the package Cons come to, over the heap alone, and that they do: printed by gen.py out of the given program. -/
import Derived.Test.YtechpnlbkkfplaaPrH
set_option linter.unusedVariables false
set_option maxRecDepth 100000
namespace Go.Proofs.Ytechpnlbkkfplaa.Pr
open Go Go.Lift Go.Proofs

/-! waybill/cons.New: 45 -/
def cons_New.p0 (K : KT)  (h : Heap) : Prop :=
  bd (Array.push h (.map #[] 0)) fun h1 => bd (Array.push h1 (.map #[] 0)) fun h2 => bd (al h2 #[.map (some (Array.size h)), .map (some (Array.size h1)), .int .i64 0] T.cons_Cons) fun h3 => K (.pointer (some (top h2))) h3
def cons_New.plan (K : KT) : Plan := .go
theorem cons_New.ev_eq : cons_New.p0 = fun K  h => Ev P Try.f45 (cons_New.plan K) K [] h := by kernel_rfl
theorem cons_New.obl (K : KT) : Obl P Try.f45 (cons_New.plan K) K :=
  obl_true (by kernel_rfl)
theorem cons_New.ok {K : KT}  {h : Heap} (H : cons_New.p0 K  h) : CallsH P F.cons_New [] K h :=
  calls_of_Ev (cons_New.plan K) Try.func45 (by kernel_rfl) (cons_New.obl K) (by rw [cons_New.ev_eq] at H; exact H)

/-! waybill/cons.key: 82 -/
def cons_key.p0 (K : KT) (c_0 : List Value) (h : Heap) : Prop :=
  bd (al h (List.toArray c_0) T.api_Con) fun h1 => bd (al h1 #[.int .i64 0, .int .i64 0, .string (mkS ([] : List UInt8))] T.cons_who) fun h2 => ∃ n3, hcell h2 (Addr.add (top h) 0) = some (.int .i64 n3) ∧ ∃ n4, hcell h2 (Addr.add (top h) 1) = some (.int .i64 n4) ∧ ∃ s5, hcell h2 (Addr.add (top h) 2) = some (.string (mkS s5)) ∧ ([.int .i64 n3, .int .i64 n4, .string (mkS s5)] : List Value).length = 3 ∧ ∃ h6, stC h2 (top h1) 0 [.int .i64 n3, .int .i64 n4, .string (mkS s5)] = some h6 ∧ ∃ cs7, rdC h6 (top h1) 0 3 = some cs7 ∧ K (.agg (List.toArray cs7)) h6
def cons_key.plan (K : KT) : Plan := .go
theorem cons_key.ev_eq : cons_key.p0 = fun K c_0 h => Ev P Try.f82 (cons_key.plan K) K [.agg (List.toArray c_0)] h := by kernel_rfl
theorem cons_key.obl (K : KT) : Obl P Try.f82 (cons_key.plan K) K :=
  obl_true (by kernel_rfl)
theorem cons_key.ok {K : KT} {c_0 : List Value} {h : Heap} (H : cons_key.p0 K c_0 h) : CallsH P F.cons_key [.agg (List.toArray c_0)] K h :=
  calls_of_Ev (cons_key.plan K) Try.func82 (by kernel_rfl) (cons_key.obl K) (by rw [cons_key.ev_eq] at H; exact H)

/-! (*waybill/cons.Cons).Add: 47 -/
def cons_Cons_Add.j2 (K : KT) (s_0 : OA) (c_3 : Addr) (h : Heap) : Prop :=
  ∃ p6, s_0 = some p6 ∧ ∃ p7, s_0 = some p7 ∧ ∃ m8, hcell h (Addr.add p6 1) = some (.map m8) ∧ ∃ n9, hcell h (Addr.add p7 2) = some (.int .i64 n9) ∧ ∃ cs10, rdC h c_3 0 5 = some cs10 ∧ SemH P (unit (Instr.mapUpdate T.map_int_api_Con (.map m8) (.int .i64 n9) (.agg (List.toArray cs10)))) (fun v11 h12 => K (.bool true) h12) h
def cons_Cons_Add.j2.l : Live := [(0, .ptr), (3, .addr)]
def cons_Cons_Add.j2.j (K : KT) : Tup cons_Cons_Add.j2.l → Heap → Prop := fun x h => cons_Cons_Add.j2 K x.1 x.2.1 h
def cons_Cons_Add.j1 (K : KT) (s_0 : OA) (c_3 : Addr) (t12 : Bool) (h : Heap) : Prop :=
  (t12 = true → K (.bool false) h) ∧ (t12 = false → ∃ p2, s_0 = some p2 ∧ ∃ n3, hcell h (Addr.add p2 2) = some (.int .i64 n3) ∧ ∃ p4, s_0 = some p4 ∧ ∃ h5, stC h (Addr.add p4 2) 0 [.int .i64 (IntKind.i64.wrap (n3 + 1))] = some h5 ∧ ∃ p13, s_0 = some p13 ∧ ∃ p14, s_0 = some p14 ∧ ∃ cs15, rdC h5 c_3 0 5 = some cs15 ∧ (∃ m16, hcell h5 (Addr.add p13 0) = some (.map m16) ∧ (CallsH P F.cons_key [.agg (List.toArray cs15)] (fun v17 h18 => ∃ cs19, v17 = .agg (List.toArray cs19) ∧ ∃ n20, hcell h18 (Addr.add p14 2) = some (.int .i64 n20) ∧ SemH P (unit (Instr.mapUpdate T.map_cons_who_int (.map m16) (.agg (List.toArray cs19)) (.int .i64 n20))) (fun v21 h22 => cons_Cons_Add.j2 K s_0 c_3 h22) h18) h5) ∧ (∃ n23, hcell h5 (Addr.add p14 2) = some (.int .i64 n23) ∧ CallsH P F.cons_key [.agg (List.toArray cs15)] (fun v24 h25 => ∃ cs26, v24 = .agg (List.toArray cs26) ∧ SemH P (unit (Instr.mapUpdate T.map_cons_who_int (.map m16) (.agg (List.toArray cs26)) (.int .i64 n23))) (fun v27 h28 => cons_Cons_Add.j2 K s_0 c_3 h28) h25) h5)) ∧ ((CallsH P F.cons_key [.agg (List.toArray cs15)] (fun v29 h30 => ∃ cs31, v29 = .agg (List.toArray cs31) ∧ ∃ m32, hcell h30 (Addr.add p13 0) = some (.map m32) ∧ ∃ n33, hcell h30 (Addr.add p14 2) = some (.int .i64 n33) ∧ SemH P (unit (Instr.mapUpdate T.map_cons_who_int (.map m32) (.agg (List.toArray cs31)) (.int .i64 n33))) (fun v34 h35 => cons_Cons_Add.j2 K s_0 c_3 h35) h30) h5) ∧ (∃ n36, hcell h5 (Addr.add p14 2) = some (.int .i64 n36) ∧ (∃ m37, hcell h5 (Addr.add p13 0) = some (.map m37) ∧ CallsH P F.cons_key [.agg (List.toArray cs15)] (fun v38 h39 => ∃ cs40, v38 = .agg (List.toArray cs40) ∧ SemH P (unit (Instr.mapUpdate T.map_cons_who_int (.map m37) (.agg (List.toArray cs40)) (.int .i64 n36))) (fun v41 h42 => cons_Cons_Add.j2 K s_0 c_3 h42) h39) h5) ∧ (CallsH P F.cons_key [.agg (List.toArray cs15)] (fun v43 h44 => ∃ cs45, v43 = .agg (List.toArray cs45) ∧ ∃ m46, hcell h44 (Addr.add p13 0) = some (.map m46) ∧ SemH P (unit (Instr.mapUpdate T.map_cons_who_int (.map m46) (.agg (List.toArray cs45)) (.int .i64 n36))) (fun v47 h48 => cons_Cons_Add.j2 K s_0 c_3 h48) h44) h5))))
def cons_Cons_Add.j1.l : Live := [(0, .ptr), (3, .addr), (12, .bool)]
def cons_Cons_Add.j1.j (K : KT) : Tup cons_Cons_Add.j1.l → Heap → Prop := fun x h => cons_Cons_Add.j1 K x.1 x.2.1 x.2.2.1 h
def cons_Cons_Add.p0 (K : KT) (s_0 : OA) (c_1 : List Value) (h : Heap) : Prop :=
  bd (al h (List.toArray c_1) T.api_Con) fun h1 => ∃ p49, s_0 = some p49 ∧ ∃ cs50, rdC h1 (top h) 0 5 = some cs50 ∧ (∃ m51, hcell h1 (Addr.add p49 0) = some (.map m51) ∧ CallsH P F.cons_key [.agg (List.toArray cs50)] (fun v52 h53 => ∃ cs54, v52 = .agg (List.toArray cs54) ∧ SemH P (Instr.lookup T.map_cons_who_int (.map m51) (.agg (List.toArray cs54)) false) (fun v55 h56 => ∃ n57, v55 = .int .i64 n57 ∧ cons_Cons_Add.j1 K s_0 (top h) (decide (n57 > 0)) h56) h53) h1) ∧ (CallsH P F.cons_key [.agg (List.toArray cs50)] (fun v58 h59 => ∃ cs60, v58 = .agg (List.toArray cs60) ∧ ∃ m61, hcell h59 (Addr.add p49 0) = some (.map m61) ∧ SemH P (Instr.lookup T.map_cons_who_int (.map m61) (.agg (List.toArray cs60)) false) (fun v62 h63 => ∃ n64, v62 = .int .i64 n64 ∧ cons_Cons_Add.j1 K s_0 (top h) (decide (n64 > 0)) h63) h59) h1)
def cons_Cons_Add.plan (K : KT) : Plan := (.seq .go (.seq (.cut cons_Cons_Add.j1.l (cons_Cons_Add.j1.j K) (.orders (.op 0 (.op 1 (.op 2 (.op 4 (.both (.op 3 (.op 5 (.op 6 (.op 7 .nil)))) (.op 5 (.op 3 (.op 6 (.op 7 .nil)))))))))) .go) (.seq .go (.cut cons_Cons_Add.j2.l (cons_Cons_Add.j2.j K) (.orders (.op 0 (.op 1 (.op 2 (.op 6 (.op 7 (.op 8 (.op 4 (.both (.op 3 (.both (.op 5 (.op 9 (.op 10 .nil))) (.op 9 (.op 5 (.op 10 .nil))))) (.both (.op 5 (.op 3 (.op 9 (.op 10 .nil)))) (.op 9 (.both (.op 3 (.op 5 (.op 10 .nil))) (.op 5 (.op 3 (.op 10 .nil))))))))))))))) (.seq (.orders (.op 0 (.op 1 (.op 2 (.op 4 (.op 5 (.op 6 (.op 3 (.op 7 (.op 8 (.op 9 .nil))))))))))) .go)))))
theorem cons_Cons_Add.ev_eq : cons_Cons_Add.p0 = fun K s_0 c_1 h => Ev P Try.f47 (cons_Cons_Add.plan K) K [.pointer s_0, .agg (List.toArray c_1)] h := by kernel_rfl
theorem cons_Cons_Add.obl (K : KT) : Obl P Try.f47 (cons_Cons_Add.plan K) K :=
  obl_of (R := DrawOK P Try.f47.ntmps (opsAt 1 (bodyOf Try.f47)) (.op 0 (.op 1 (.op 2 (.op 4 (.both (.op 3 (.op 5 (.op 6 (.op 7 .nil)))) (.op 5 (.op 3 (.op 6 (.op 7 .nil))))))))) ∧ Imp (cons_Cons_Add.j1.j K) ∧ DrawOK P Try.f47.ntmps (opsAt 4 (bodyOf Try.f47)) (.op 0 (.op 1 (.op 2 (.op 6 (.op 7 (.op 8 (.op 4 (.both (.op 3 (.both (.op 5 (.op 9 (.op 10 .nil))) (.op 9 (.op 5 (.op 10 .nil))))) (.both (.op 5 (.op 3 (.op 9 (.op 10 .nil)))) (.op 9 (.both (.op 3 (.op 5 (.op 10 .nil))) (.op 5 (.op 3 (.op 10 .nil)))))))))))))) ∧ Imp (cons_Cons_Add.j2.j K) ∧ DrawOK P Try.f47.ntmps (opsAt 5 (bodyOf Try.f47)) (.op 0 (.op 1 (.op 2 (.op 4 (.op 5 (.op 6 (.op 3 (.op 7 (.op 8 (.op 9 .nil)))))))))) ∧ True) (by kernel_rfl) ⟨draw_ok (by kernel_rfl), ⟨imp _, ⟨draw_ok (by kernel_rfl), ⟨imp _, ⟨draw_ok (by kernel_rfl), trivial⟩⟩⟩⟩⟩
theorem cons_Cons_Add.ok {K : KT} {s_0 : OA} {c_1 : List Value} {h : Heap} (H : cons_Cons_Add.p0 K s_0 c_1 h) : CallsH P F.cons_Cons_Add [.pointer s_0, .agg (List.toArray c_1)] K h :=
  calls_of_Ev (cons_Cons_Add.plan K) Try.func47 (by kernel_rfl) (cons_Cons_Add.obl K) (by rw [cons_Cons_Add.ev_eq] at H; exact H)

/-! (*waybill/cons.Cons).row: 85 -/
def cons_Cons_row.L1 (K : KT) : Nat → OA → OA → Nat → Nat → OA → Nat → Nat → Int → Int → Heap → Prop
  | 0, _, _, _, _, _, _, _, _, _, _ => False
  | fuel + 1, s_0, out_3, out_3l, out_3c, t11, t11l, t11c, t12, t13, h => ((decide (t13 < t12)) = true → ∃ p8, t11 = some p8 ∧ (0 : Int) ≤ t13 ∧ t13 < ((t11l : Nat) : Int) ∧ ∃ n9, hcell h (Addr.add p8 (Int.toNat t13 * 1)) = some (.int .i64 n9) ∧ ∃ p10, s_0 = some p10 ∧ ∃ m11, hcell h (Addr.add p10 1) = some (.map m11) ∧ SemH P (Instr.lookup T.map_int_api_Con (.map m11) (.int .i64 n9) false) (fun v12 h13 => ∃ cs14, v12 = .agg (List.toArray cs14) ∧ ∃ cs15, bldS P T.sl_api_Con T.api_Con 1 [(0, .agg (List.toArray cs14))] cs15 ∧ bd (al h13 (List.toArray cs15) T.api_Con) fun h16 => SemH P (Builtin.append_ #[T.sl_api_Con, T.sl_api_Con] T.sl_api_Con #[.slice out_3 out_3l out_3c, .slice (some (top h13)) 1 1]) (fun v17 h18 => ∃ a19 a19l a19c, v17 = .slice a19 a19l a19c ∧ (cons_Cons_row.L1 K fuel) s_0 a19 a19l a19c t11 t11l t11c t12 (IntKind.i64.wrap (t13 + 1)) h18) h16) h) ∧ ((decide (t13 < t12)) = false → K (.slice out_3 out_3l out_3c) h)
termination_by structural n => n
def cons_Cons_row.L1.l : Live := [(0, .ptr), (3, .slice), (11, .slice), (12, .int .i64), (13, .int .i64)]
def cons_Cons_row.L1.j (K : KT) : Nat → Tup cons_Cons_row.L1.l → Heap → Prop := fun n x h => cons_Cons_row.L1 K n x.1 x.2.1.1 x.2.1.2.1 x.2.1.2.2 x.2.2.1.1 x.2.2.1.2.1 x.2.2.1.2.2 x.2.2.2.1 x.2.2.2.2.1 h
def cons_Cons_row.p0 (K : KT) (s_0 : OA) (h : Heap) : Prop :=
  ∃ p1, s_0 = some p1 ∧ ∃ m2, hcell h (Addr.add p1 1) = some (.map m2) ∧ CallsH P F.maps_Keys_map_int_api_Con_int_api_Con [.map m2] (fun v3 h4 => CallsH P F.slices_Sorted_int [v3] (fun v5 h6 => ∃ a7 a7l a7c, v5 = .slice a7 a7l a7c ∧ ∃ fuel20, cons_Cons_row.L1 K fuel20 s_0 none 0 0 a7 a7l a7c ((a7l : Nat) : Int) 0 h6) h4) h
def cons_Cons_row.plan (K : KT) : Plan := (.seq .go (.seq .go (.seq (.seq .go (.block (.loop cons_Cons_row.L1.l (cons_Cons_row.L1.j K) (fun n1 => .go)))) .go)))
theorem cons_Cons_row.ev_eq : cons_Cons_row.p0 = fun K s_0 h => Ev P Try.f85 (cons_Cons_row.plan K) K [.pointer s_0] h := by kernel_rfl
theorem cons_Cons_row.obl (K : KT) : Obl P Try.f85 (cons_Cons_row.plan K) K :=
  obl_of (R := (∀ x h, ¬ (cons_Cons_row.L1.j K) 0 x h) ∧ ImpN (cons_Cons_row.L1.j K) ∧ (∀ (n1 : Nat), True) ∧ True) (by kernel_rfl) ⟨fun _ _ H => H, impN _, fun _ => trivial, trivial⟩
theorem cons_Cons_row.ok {K : KT} {s_0 : OA} {h : Heap} (H : cons_Cons_row.p0 K s_0 h) : CallsH P F.cons_Cons_row [.pointer s_0] K h :=
  calls_of_Ev (cons_Cons_row.plan K) Try.func85 (by kernel_rfl) (cons_Cons_row.obl K) (by rw [cons_Cons_row.ev_eq] at H; exact H)

/-! (*waybill/cons.Cons).Of$1: 86 -/
def cons_Cons_Of_1.p0 (K : KT) (c_0 : List Value) (t1 : Addr) (h : Heap) : Prop :=
  bd (al h (List.toArray c_0) T.api_Con) fun h1 => ∃ s2, hcell h1 (Addr.add (top h) 3) = some (.string (mkS s2)) ∧ ∃ s3, hcell h1 t1 = some (.string (mkS s3)) ∧ bd ((!(s2 == s3)) : Bool) fun b4 => K (.bool b4) h1
def cons_Cons_Of_1.plan (K : KT) : Plan := .go
theorem cons_Cons_Of_1.ev_eq : cons_Cons_Of_1.p0 = fun K c_0 t1 h => Ev P Try.f86 (cons_Cons_Of_1.plan K) K [.agg (List.toArray c_0), .pointer (some t1)] h := by kernel_rfl
theorem cons_Cons_Of_1.obl (K : KT) : Obl P Try.f86 (cons_Cons_Of_1.plan K) K :=
  obl_true (by kernel_rfl)
theorem cons_Cons_Of_1.ok {K : KT} {c_0 : List Value} {t1 : Addr} {h : Heap} (H : cons_Cons_Of_1.p0 K c_0 t1 h) : CallsH P F.cons_Cons_Of_1 [.agg (List.toArray c_0), .pointer (some t1)] K h :=
  calls_of_Ev (cons_Cons_Of_1.plan K) Try.func86 (by kernel_rfl) (cons_Cons_Of_1.obl K) (by rw [cons_Cons_Of_1.ev_eq] at H; exact H)

/-! (*waybill/cons.Cons).Of: 50 -/
def cons_Cons_Of.p0 (K : KT) (s_0 : OA) (queue_1 : List UInt8) (h : Heap) : Prop :=
  bd (al h #[.string (mkS queue_1)] T.string) fun h1 => CallsH P F.cons_Cons_row [.pointer s_0] (fun v2 h3 => ∃ a4 a4l a4c, v2 = .slice a4 a4l a4c ∧ CallsH P F.slices_DeleteFunc_api_Con_api_Con [.slice a4 a4l a4c, .func (.func F.cons_Cons_Of_1) #[] #[.pointer (some (top h))]] (fun v5 h6 => ∃ a7 a7l a7c, v5 = .slice a7 a7l a7c ∧ K (.slice a7 a7l a7c) h6) h3) h1
def cons_Cons_Of.plan (K : KT) : Plan := .go
theorem cons_Cons_Of.ev_eq : cons_Cons_Of.p0 = fun K s_0 queue_1 h => Ev P Try.f50 (cons_Cons_Of.plan K) K [.pointer s_0, .string (mkS queue_1)] h := by kernel_rfl
theorem cons_Cons_Of.obl (K : KT) : Obl P Try.f50 (cons_Cons_Of.plan K) K :=
  obl_true (by kernel_rfl)
theorem cons_Cons_Of.ok {K : KT} {s_0 : OA} {queue_1 : List UInt8} {h : Heap} (H : cons_Cons_Of.p0 K s_0 queue_1 h) : CallsH P F.cons_Cons_Of [.pointer s_0, .string (mkS queue_1)] K h :=
  calls_of_Ev (cons_Cons_Of.plan K) Try.func50 (by kernel_rfl) (cons_Cons_Of.obl K) (by rw [cons_Cons_Of.ev_eq] at H; exact H)

/-! (*waybill/cons.Cons).drop: 83 -/
def cons_Cons_drop.p0 (K : KT) (s_0 : OA) (w_1 : List Value) (h : Heap) : Prop :=
  bd (al h (List.toArray w_1) T.cons_who) fun h1 => ∃ p2, s_0 = some p2 ∧ ∃ m3, hcell h1 (Addr.add p2 0) = some (.map m3) ∧ ∃ cs4, rdC h1 (top h) 0 3 = some cs4 ∧ SemH P (Instr.lookup T.map_cons_who_int (.map m3) (.agg (List.toArray cs4)) false) (fun v5 h6 => ∃ n7, v5 = .int .i64 n7 ∧ ∃ p8, s_0 = some p8 ∧ ∃ m9, hcell h6 (Addr.add p8 0) = some (.map m9) ∧ ∃ cs10, rdC h6 (top h) 0 3 = some cs10 ∧ SemH P (Builtin.delete_ #[T.map_cons_who_int, T.cons_who] T.unit #[.map m9, .agg (List.toArray cs10)]) (fun v11 h12 => ∃ p13, s_0 = some p13 ∧ ∃ m14, hcell h12 (Addr.add p13 1) = some (.map m14) ∧ SemH P (Builtin.delete_ #[T.map_int_api_Con, T.int] T.unit #[.map m14, .int .i64 n7]) (fun v15 h16 => bd ((decide (n7 > 0)) : Bool) fun b17 => K (.bool b17) h16) h12) h6) h1
def cons_Cons_drop.plan (K : KT) : Plan := (.seq .go (.seq (.orders (.op 0 (.op 1 (.op 2 (.op 3 (.op 4 (.op 5 (.op 6 .nil)))))))) (.seq (.orders (.op 0 (.op 1 (.op 2 (.op 3 (.op 4 (.op 5 .nil))))))) .go)))
theorem cons_Cons_drop.ev_eq : cons_Cons_drop.p0 = fun K s_0 w_1 h => Ev P Try.f83 (cons_Cons_drop.plan K) K [.pointer s_0, .agg (List.toArray w_1)] h := by kernel_rfl
theorem cons_Cons_drop.obl (K : KT) : Obl P Try.f83 (cons_Cons_drop.plan K) K :=
  obl_of (R := DrawOK P Try.f83.ntmps (opsAt 1 (bodyOf Try.f83)) (.op 0 (.op 1 (.op 2 (.op 3 (.op 4 (.op 5 (.op 6 .nil))))))) ∧ DrawOK P Try.f83.ntmps (opsAt 2 (bodyOf Try.f83)) (.op 0 (.op 1 (.op 2 (.op 3 (.op 4 (.op 5 .nil)))))) ∧ True) (by kernel_rfl) ⟨draw_ok (by kernel_rfl), ⟨draw_ok (by kernel_rfl), trivial⟩⟩
theorem cons_Cons_drop.ok {K : KT} {s_0 : OA} {w_1 : List Value} {h : Heap} (H : cons_Cons_drop.p0 K s_0 w_1 h) : CallsH P F.cons_Cons_drop [.pointer s_0, .agg (List.toArray w_1)] K h :=
  calls_of_Ev (cons_Cons_drop.plan K) Try.func83 (by kernel_rfl) (cons_Cons_drop.obl K) (by rw [cons_Cons_drop.ev_eq] at H; exact H)

/-! (*waybill/cons.Cons).Turn: 48 -/
def cons_Cons_Turn.j1 (K : KT) (t6 : Addr) (h : Heap) : Prop :=
  ([.int .i64 0, .int .i64 0, .string (mkS ([] : List UInt8)), .string (mkS ([] : List UInt8)), .bool false] : List Value).length = 5 ∧ ∃ h2, stC h t6 0 [.int .i64 0, .int .i64 0, .string (mkS ([] : List UInt8)), .string (mkS ([] : List UInt8)), .bool false] = some h2 ∧ ∃ cs3, rdC h2 t6 0 5 = some cs3 ∧ K (.tuple #[.agg (List.toArray cs3), .bool false]) h2
def cons_Cons_Turn.j1.l : Live := [(6, .addr)]
def cons_Cons_Turn.j1.j (K : KT) : Tup cons_Cons_Turn.j1.l → Heap → Prop := fun x h => cons_Cons_Turn.j1 K x.1 h
def cons_Cons_Turn.j3 (K : KT) (R2 : OA → Value → Addr → OA → Nat → Nat → Int → Int → Heap → Prop) (s_0 : OA) (may_2 : Value) (t6 : Addr) (c_9 : Addr) (t12 : OA) (t12l : Nat) (t12c : Nat) (t13 : Int) (t14 : Int) (t24 : Bool) (h : Heap) : Prop :=
  (t24 = true → ∃ cs11, rdC h c_9 0 5 = some cs11 ∧ CallsH P F.cons_key [.agg (List.toArray cs11)] (fun v12 h13 => ∃ cs14, v12 = .agg (List.toArray cs14) ∧ CallsH P F.cons_Cons_drop [.pointer s_0, .agg (List.toArray cs14)] (fun v15 h16 => ∃ b17, v15 = .bool b17 ∧ ∃ cs18, rdC h16 c_9 0 5 = some cs18 ∧ CallsH P F.cons_Cons_Add [.pointer s_0, .agg (List.toArray cs18)] (fun v19 h20 => ∃ b21, v19 = .bool b21 ∧ ∃ cs22, rdC h20 c_9 0 5 = some cs22 ∧ cs22.length = 5 ∧ ∃ h23, stC h20 t6 0 cs22 = some h23 ∧ ∃ cs24, rdC h23 t6 0 5 = some cs24 ∧ K (.tuple #[.agg (List.toArray cs24), .bool true]) h23) h16) h13) h) ∧ (t24 = false → R2 s_0 may_2 t6 t12 t12l t12c t13 (IntKind.i64.wrap (t14 + 1)) h)
def cons_Cons_Turn.j3.l : Live := [(0, .ptr), (2, .raw), (6, .addr), (9, .addr), (12, .slice), (13, .int .i64), (14, .int .i64), (24, .bool)]
def cons_Cons_Turn.j3.j (K : KT) (R2 : OA → Value → Addr → OA → Nat → Nat → Int → Int → Heap → Prop) : Tup cons_Cons_Turn.j3.l → Heap → Prop := fun x h => cons_Cons_Turn.j3 K R2 x.1 x.2.1 x.2.2.1 x.2.2.2.1 x.2.2.2.2.1.1 x.2.2.2.2.1.2.1 x.2.2.2.2.1.2.2 x.2.2.2.2.2.1 x.2.2.2.2.2.2.1 x.2.2.2.2.2.2.2.1 h
def cons_Cons_Turn.L2 (K : KT) : Nat → OA → Value → Addr → OA → Nat → Nat → Int → Int → Heap → Prop
  | 0, _, _, _, _, _, _, _, _, _ => False
  | fuel + 1, s_0, may_2, t6, t12, t12l, t12c, t13, t14, h => ((decide (t14 < t13)) = true → ∃ p7, t12 = some p7 ∧ (0 : Int) ≤ t14 ∧ t14 < ((t12l : Nat) : Int) ∧ ∃ cs8, rdC h (Addr.add p7 (Int.toNat t14 * 5)) 0 5 = some cs8 ∧ bd (al h #[.int .i64 0, .int .i64 0, .string (mkS ([] : List UInt8)), .string (mkS ([] : List UInt8)), .bool false] T.api_Con) fun h9 => cs8.length = 5 ∧ ∃ h10, stC h9 (top h) 0 cs8 = some h10 ∧ SemH P (eqS .eql T.func_api_Con_bool (.tmp 18) (.const .nilFunc) may_2 .nilFunc) (fun v25 h26 => ∃ b27, v25 = .bool b27 ∧ (b27 = false → ∃ cs28, rdC h26 (top h) 0 5 = some cs28 ∧ CallV P may_2 [.agg (List.toArray cs28)] (fun v29 h30 => ∃ b31, v29 = .bool b31 ∧ cons_Cons_Turn.j3 K (cons_Cons_Turn.L2 K fuel) s_0 may_2 t6 (top h) t12 t12l t12c t13 t14 b31 h30) h26) ∧ (b27 = true → cons_Cons_Turn.j3 K (cons_Cons_Turn.L2 K fuel) s_0 may_2 t6 (top h) t12 t12l t12c t13 t14 true h26)) h10) ∧ ((decide (t14 < t13)) = false → cons_Cons_Turn.j1 K t6 h)
termination_by structural n => n
def cons_Cons_Turn.L2.l : Live := [(0, .ptr), (2, .raw), (6, .addr), (12, .slice), (13, .int .i64), (14, .int .i64)]
def cons_Cons_Turn.L2.j (K : KT) : Nat → Tup cons_Cons_Turn.L2.l → Heap → Prop := fun n x h => cons_Cons_Turn.L2 K n x.1 x.2.1 x.2.2.1 x.2.2.2.1.1 x.2.2.2.1.2.1 x.2.2.2.1.2.2 x.2.2.2.2.1 x.2.2.2.2.2.1 h
def cons_Cons_Turn.p0 (K : KT) (s_0 : OA) (queue_1 : List UInt8) (may_2 : Value) (h : Heap) : Prop :=
  bd (al h #[.int .i64 0, .int .i64 0, .string (mkS ([] : List UInt8)), .string (mkS ([] : List UInt8)), .bool false] T.api_Con) fun h1 => CallsH P F.cons_Cons_Of [.pointer s_0, .string (mkS queue_1)] (fun v4 h5 => ∃ a6 a6l a6c, v4 = .slice a6 a6l a6c ∧ ∃ fuel32, cons_Cons_Turn.L2 K fuel32 s_0 may_2 (top h) a6 a6l a6c ((a6l : Nat) : Int) 0 h5) h1
def cons_Cons_Turn.plan (K : KT) : Plan := (.seq .go (.cut cons_Cons_Turn.j1.l (cons_Cons_Turn.j1.j K) (.seq .go (.block (.loop cons_Cons_Turn.L2.l (cons_Cons_Turn.L2.j K) (fun n2 => (.seq .go (.seq .go (.seq (.block (.seq .go (.cut cons_Cons_Turn.j3.l (cons_Cons_Turn.j3.j K (cons_Cons_Turn.L2 K n2)) .go .go))) .go))))))) .go))
theorem cons_Cons_Turn.ev_eq : cons_Cons_Turn.p0 = fun K s_0 queue_1 may_2 h => Ev P Try.f48 (cons_Cons_Turn.plan K) K [.pointer s_0, .string (mkS queue_1), may_2] h := by kernel_rfl
theorem cons_Cons_Turn.obl (K : KT) : Obl P Try.f48 (cons_Cons_Turn.plan K) K :=
  obl_of (R := (∀ x h, ¬ (cons_Cons_Turn.L2.j K) 0 x h) ∧ ImpN (cons_Cons_Turn.L2.j K) ∧ (∀ (n2 : Nat), Imp (cons_Cons_Turn.j3.j K (cons_Cons_Turn.L2 K n2)) ∧ True) ∧ Imp (cons_Cons_Turn.j1.j K) ∧ True) (by kernel_rfl) ⟨fun _ _ H => H, impN _, fun _ => ⟨imp _, trivial⟩, ⟨imp _, trivial⟩⟩
theorem cons_Cons_Turn.ok {K : KT} {s_0 : OA} {queue_1 : List UInt8} {may_2 : Value} {h : Heap} (H : cons_Cons_Turn.p0 K s_0 queue_1 may_2 h) : CallsH P F.cons_Cons_Turn [.pointer s_0, .string (mkS queue_1), may_2] K h :=
  calls_of_Ev (cons_Cons_Turn.plan K) Try.func48 (by kernel_rfl) (cons_Cons_Turn.obl K) (by rw [cons_Cons_Turn.ev_eq] at H; exact H)

/-! (*waybill/cons.Cons).Queues: 65 -/
def cons_Cons_Queues.j1 (K : KT) (out_3 : OA) (out_3l : Nat) (out_3c : Nat) (h : Heap) : Prop :=
  CallsH P F.slices_Sort_string_string [.slice out_3 out_3l out_3c] (fun v1 h2 => v1 = .tuple #[] ∧ CallsH P F.slices_Compact_string_string [.slice out_3 out_3l out_3c] (fun v3 h4 => ∃ a5 a5l a5c, v3 = .slice a5 a5l a5c ∧ K (.slice a5 a5l a5c) h4) h2) h
def cons_Cons_Queues.j1.l : Live := [(3, .slice)]
def cons_Cons_Queues.j1.j (K : KT) : Tup cons_Cons_Queues.j1.l → Heap → Prop := fun x h => cons_Cons_Queues.j1 K x.1.1 x.1.2.1 x.1.2.2 h
def cons_Cons_Queues.L2 (K : KT) : Nat → OA → Nat → Nat → Addr → Heap → Prop
  | 0, _, _, _, _, _ => False
  | fuel + 1, out_3, out_3l, out_3c, t10, h => SemH P (Instr.next (.pointer (some t10)) false T.unit) (fun v11 h12 => (v11 = .tuple #[.bool false] ∧ (false = true → SemH P (Instr.entry (.pointer (some t10))) (fun v13 h14 => ∃ x15 y16 : Value, v13 = .tuple #[x15, y16] ∧ ∃ cs17, y16 = .agg (List.toArray cs17) ∧ bd (al h14 #[.int .i64 0, .int .i64 0, .string (mkS ([] : List UInt8)), .string (mkS ([] : List UInt8)), .bool false] T.api_Con) fun h18 => cs17.length = 5 ∧ ∃ h19, stC h18 (top h14) 0 cs17 = some h19 ∧ ∃ s20, hcell h19 (Addr.add (top h14) 3) = some (.string (mkS s20)) ∧ bd (al h19 #[.string (mkS s20)] T.string) fun h21 => SemH P (Builtin.append_ #[T.sl_string, T.sl_string] T.sl_string #[.slice out_3 out_3l out_3c, .slice (some (top h19)) 1 1]) (fun v22 h23 => ∃ a24 a24l a24c, v22 = .slice a24 a24l a24c ∧ (cons_Cons_Queues.L2 K fuel) a24 a24l a24c t10 h23) h21) h12) ∧ (false = false → cons_Cons_Queues.j1 K out_3 out_3l out_3c h12)) ∨ (∃ x25 y26 : Value, v11 = .tuple #[.bool true, x25, y26] ∧ (true = true → SemH P (Instr.entry (.pointer (some t10))) (fun v27 h28 => ∃ x29 y30 : Value, v27 = .tuple #[x29, y30] ∧ ∃ cs31, y30 = .agg (List.toArray cs31) ∧ bd (al h28 #[.int .i64 0, .int .i64 0, .string (mkS ([] : List UInt8)), .string (mkS ([] : List UInt8)), .bool false] T.api_Con) fun h32 => cs31.length = 5 ∧ ∃ h33, stC h32 (top h28) 0 cs31 = some h33 ∧ ∃ s34, hcell h33 (Addr.add (top h28) 3) = some (.string (mkS s34)) ∧ bd (al h33 #[.string (mkS s34)] T.string) fun h35 => SemH P (Builtin.append_ #[T.sl_string, T.sl_string] T.sl_string #[.slice out_3 out_3l out_3c, .slice (some (top h33)) 1 1]) (fun v36 h37 => ∃ a38 a38l a38c, v36 = .slice a38 a38l a38c ∧ (cons_Cons_Queues.L2 K fuel) a38 a38l a38c t10 h37) h35) h12) ∧ (true = false → cons_Cons_Queues.j1 K out_3 out_3l out_3c h12))) h
termination_by structural n => n
def cons_Cons_Queues.L2.l : Live := [(3, .slice), (10, .addr)]
def cons_Cons_Queues.L2.j (K : KT) : Nat → Tup cons_Cons_Queues.L2.l → Heap → Prop := fun n x h => cons_Cons_Queues.L2 K n x.1.1 x.1.2.1 x.1.2.2 x.2.1 h
def cons_Cons_Queues.p0 (K : KT) (s_0 : OA) (h : Heap) : Prop :=
  ∃ p6, s_0 = some p6 ∧ ∃ m7, hcell h (Addr.add p6 1) = some (.map m7) ∧ SemH P (Instr.range T.map_int_api_Con (.map m7)) (fun v8 h9 => ∃ a10 : Addr, v8 = .pointer (some a10) ∧ ∃ fuel39, cons_Cons_Queues.L2 K fuel39 none 0 0 a10 h9) h
def cons_Cons_Queues.plan (K : KT) : Plan := (.seq .go (.seq .go (.cut cons_Cons_Queues.j1.l (cons_Cons_Queues.j1.j K) (.seq .go (.block (.loop cons_Cons_Queues.L2.l (cons_Cons_Queues.L2.j K) (fun n2 => .go)))) .go)))
theorem cons_Cons_Queues.ev_eq : cons_Cons_Queues.p0 = fun K s_0 h => Ev P Try.f65 (cons_Cons_Queues.plan K) K [.pointer s_0] h := by kernel_rfl
theorem cons_Cons_Queues.obl (K : KT) : Obl P Try.f65 (cons_Cons_Queues.plan K) K :=
  obl_of (R := (∀ x h, ¬ (cons_Cons_Queues.L2.j K) 0 x h) ∧ ImpN (cons_Cons_Queues.L2.j K) ∧ (∀ (n2 : Nat), True) ∧ Imp (cons_Cons_Queues.j1.j K) ∧ True) (by kernel_rfl) ⟨fun _ _ H => H, impN _, fun _ => trivial, ⟨imp _, trivial⟩⟩
theorem cons_Cons_Queues.ok {K : KT} {s_0 : OA} {h : Heap} (H : cons_Cons_Queues.p0 K s_0 h) : CallsH P F.cons_Cons_Queues [.pointer s_0] K h :=
  calls_of_Ev (cons_Cons_Queues.plan K) Try.func65 (by kernel_rfl) (cons_Cons_Queues.obl K) (by rw [cons_Cons_Queues.ev_eq] at H; exact H)

/-! (*waybill/cons.Cons).DropChan$1: 88 -/
def cons_Cons_DropChan_1.p0 (K : KT) (c_0 : List Value) (t1 : Addr) (t2 : Addr) (h : Heap) : Prop :=
  bd (al h (List.toArray c_0) T.api_Con) fun h1 => ∃ n2, hcell h1 (Addr.add (top h) 0) = some (.int .i64 n2) ∧ ∃ n3, hcell h1 t1 = some (.int .i64 n3) ∧ ((n2 == n3) = true → ∃ n4, hcell h1 (Addr.add (top h) 1) = some (.int .i64 n4) ∧ ∃ n5, hcell h1 t2 = some (.int .i64 n5) ∧ bd ((n4 == n5) : Bool) fun b6 => K (.bool b6) h1) ∧ ((n2 == n3) = false → K (.bool false) h1)
def cons_Cons_DropChan_1.plan (K : KT) : Plan := .go
theorem cons_Cons_DropChan_1.ev_eq : cons_Cons_DropChan_1.p0 = fun K c_0 t1 t2 h => Ev P Try.f88 (cons_Cons_DropChan_1.plan K) K [.agg (List.toArray c_0), .pointer (some t1), .pointer (some t2)] h := by kernel_rfl
theorem cons_Cons_DropChan_1.obl (K : KT) : Obl P Try.f88 (cons_Cons_DropChan_1.plan K) K :=
  obl_true (by kernel_rfl)
theorem cons_Cons_DropChan_1.ok {K : KT} {c_0 : List Value} {t1 : Addr} {t2 : Addr} {h : Heap} (H : cons_Cons_DropChan_1.p0 K c_0 t1 t2 h) : CallsH P F.cons_Cons_DropChan_1 [.agg (List.toArray c_0), .pointer (some t1), .pointer (some t2)] K h :=
  calls_of_Ev (cons_Cons_DropChan_1.plan K) Try.func88 (by kernel_rfl) (cons_Cons_DropChan_1.obl K) (by rw [cons_Cons_DropChan_1.ev_eq] at H; exact H)

/-! (*waybill/cons.Cons).dropAll: 87 -/
def cons_Cons_dropAll.j2 (K : KT) (R1 : OA → Value → OA → Nat → Nat → Int → Int → Heap → Prop) (s_0 : OA) (is_1 : Value) (t7 : OA) (t7l : Nat) (t7c : Nat) (t8 : Int) (t9 : Int) (h : Heap) : Prop :=
  R1 s_0 is_1 t7 t7l t7c t8 (IntKind.i64.wrap (t9 + 1)) h
def cons_Cons_dropAll.j2.l : Live := [(0, .ptr), (1, .raw), (7, .slice), (8, .int .i64), (9, .int .i64)]
def cons_Cons_dropAll.j2.j (K : KT) (R1 : OA → Value → OA → Nat → Nat → Int → Int → Heap → Prop) : Tup cons_Cons_dropAll.j2.l → Heap → Prop := fun x h => cons_Cons_dropAll.j2 K R1 x.1 x.2.1 x.2.2.1.1 x.2.2.1.2.1 x.2.2.1.2.2 x.2.2.2.1 x.2.2.2.2.1 h
def cons_Cons_dropAll.L1 (K : KT) : Nat → OA → Value → OA → Nat → Nat → Int → Int → Heap → Prop
  | 0, _, _, _, _, _, _, _, _ => False
  | fuel + 1, s_0, is_1, t7, t7l, t7c, t8, t9, h => ((decide (t9 < t8)) = true → ∃ p4, t7 = some p4 ∧ (0 : Int) ≤ t9 ∧ t9 < ((t7l : Nat) : Int) ∧ ∃ cs5, rdC h (Addr.add p4 (Int.toNat t9 * 5)) 0 5 = some cs5 ∧ bd (al h #[.int .i64 0, .int .i64 0, .string (mkS ([] : List UInt8)), .string (mkS ([] : List UInt8)), .bool false] T.api_Con) fun h6 => cs5.length = 5 ∧ ∃ h7, stC h6 (top h) 0 cs5 = some h7 ∧ ∃ cs8, rdC h7 (top h) 0 5 = some cs8 ∧ CallV P is_1 [.agg (List.toArray cs8)] (fun v9 h10 => ∃ b11, v9 = .bool b11 ∧ (b11 = true → ∃ cs12, rdC h10 (top h) 0 5 = some cs12 ∧ CallsH P F.cons_key [.agg (List.toArray cs12)] (fun v13 h14 => ∃ cs15, v13 = .agg (List.toArray cs15) ∧ CallsH P F.cons_Cons_drop [.pointer s_0, .agg (List.toArray cs15)] (fun v16 h17 => ∃ b18, v16 = .bool b18 ∧ cons_Cons_dropAll.j2 K (cons_Cons_dropAll.L1 K fuel) s_0 is_1 t7 t7l t7c t8 t9 h17) h14) h10) ∧ (b11 = false → cons_Cons_dropAll.j2 K (cons_Cons_dropAll.L1 K fuel) s_0 is_1 t7 t7l t7c t8 t9 h10)) h7) ∧ ((decide (t9 < t8)) = false → K (.tuple #[]) h)
termination_by structural n => n
def cons_Cons_dropAll.L1.l : Live := [(0, .ptr), (1, .raw), (7, .slice), (8, .int .i64), (9, .int .i64)]
def cons_Cons_dropAll.L1.j (K : KT) : Nat → Tup cons_Cons_dropAll.L1.l → Heap → Prop := fun n x h => cons_Cons_dropAll.L1 K n x.1 x.2.1 x.2.2.1.1 x.2.2.1.2.1 x.2.2.1.2.2 x.2.2.2.1 x.2.2.2.2.1 h
def cons_Cons_dropAll.p0 (K : KT) (s_0 : OA) (is_1 : Value) (h : Heap) : Prop :=
  CallsH P F.cons_Cons_row [.pointer s_0] (fun v1 h2 => ∃ a3 a3l a3c, v1 = .slice a3 a3l a3c ∧ ∃ fuel19, cons_Cons_dropAll.L1 K fuel19 s_0 is_1 a3 a3l a3c ((a3l : Nat) : Int) 0 h2) h
def cons_Cons_dropAll.plan (K : KT) : Plan := (.seq .go (.block (.loop cons_Cons_dropAll.L1.l (cons_Cons_dropAll.L1.j K) (fun n1 => (.seq .go (.seq .go (.cut cons_Cons_dropAll.j2.l (cons_Cons_dropAll.j2.j K (cons_Cons_dropAll.L1 K n1)) .go .go)))))))
theorem cons_Cons_dropAll.ev_eq : cons_Cons_dropAll.p0 = fun K s_0 is_1 h => Ev P Try.f87 (cons_Cons_dropAll.plan K) K [.pointer s_0, is_1] h := by kernel_rfl
theorem cons_Cons_dropAll.obl (K : KT) : Obl P Try.f87 (cons_Cons_dropAll.plan K) K :=
  obl_of (R := (∀ x h, ¬ (cons_Cons_dropAll.L1.j K) 0 x h) ∧ ImpN (cons_Cons_dropAll.L1.j K) ∧ (∀ (n1 : Nat), Imp (cons_Cons_dropAll.j2.j K (cons_Cons_dropAll.L1 K n1)) ∧ True) ∧ True) (by kernel_rfl) ⟨fun _ _ H => H, impN _, fun _ => ⟨imp _, trivial⟩, trivial⟩
theorem cons_Cons_dropAll.ok {K : KT} {s_0 : OA} {is_1 : Value} {h : Heap} (H : cons_Cons_dropAll.p0 K s_0 is_1 h) : CallsH P F.cons_Cons_dropAll [.pointer s_0, is_1] K h :=
  calls_of_Ev (cons_Cons_dropAll.plan K) Try.func87 (by kernel_rfl) (cons_Cons_dropAll.obl K) (by rw [cons_Cons_dropAll.ev_eq] at H; exact H)

/-! (*waybill/cons.Cons).DropChan: 52 -/
def cons_Cons_DropChan.p0 (K : KT) (s_0 : OA) (conn_1 : Int) (ch_2 : Int) (h : Heap) : Prop :=
  bd (al h #[.int .i64 conn_1] T.int) fun h1 => bd (al h1 #[.int .i64 ch_2] T.int) fun h2 => CallsH P F.cons_Cons_dropAll [.pointer s_0, .func (.func F.cons_Cons_DropChan_1) #[] #[.pointer (some (top h)), .pointer (some (top h1))]] (fun v3 h4 => v3 = .tuple #[] ∧ K (.tuple #[]) h4) h2
def cons_Cons_DropChan.plan (K : KT) : Plan := .go
theorem cons_Cons_DropChan.ev_eq : cons_Cons_DropChan.p0 = fun K s_0 conn_1 ch_2 h => Ev P Try.f52 (cons_Cons_DropChan.plan K) K [.pointer s_0, .int .i64 conn_1, .int .i64 ch_2] h := by kernel_rfl
theorem cons_Cons_DropChan.obl (K : KT) : Obl P Try.f52 (cons_Cons_DropChan.plan K) K :=
  obl_true (by kernel_rfl)
theorem cons_Cons_DropChan.ok {K : KT} {s_0 : OA} {conn_1 : Int} {ch_2 : Int} {h : Heap} (H : cons_Cons_DropChan.p0 K s_0 conn_1 ch_2 h) : CallsH P F.cons_Cons_DropChan [.pointer s_0, .int .i64 conn_1, .int .i64 ch_2] K h :=
  calls_of_Ev (cons_Cons_DropChan.plan K) Try.func52 (by kernel_rfl) (cons_Cons_DropChan.obl K) (by rw [cons_Cons_DropChan.ev_eq] at H; exact H)

/-! (*waybill/cons.Cons).DropQueue$1: 89 -/
def cons_Cons_DropQueue_1.p0 (K : KT) (c_0 : List Value) (t1 : Addr) (h : Heap) : Prop :=
  bd (al h (List.toArray c_0) T.api_Con) fun h1 => ∃ s2, hcell h1 (Addr.add (top h) 3) = some (.string (mkS s2)) ∧ ∃ s3, hcell h1 t1 = some (.string (mkS s3)) ∧ bd ((s2 == s3) : Bool) fun b4 => K (.bool b4) h1
def cons_Cons_DropQueue_1.plan (K : KT) : Plan := .go
theorem cons_Cons_DropQueue_1.ev_eq : cons_Cons_DropQueue_1.p0 = fun K c_0 t1 h => Ev P Try.f89 (cons_Cons_DropQueue_1.plan K) K [.agg (List.toArray c_0), .pointer (some t1)] h := by kernel_rfl
theorem cons_Cons_DropQueue_1.obl (K : KT) : Obl P Try.f89 (cons_Cons_DropQueue_1.plan K) K :=
  obl_true (by kernel_rfl)
theorem cons_Cons_DropQueue_1.ok {K : KT} {c_0 : List Value} {t1 : Addr} {h : Heap} (H : cons_Cons_DropQueue_1.p0 K c_0 t1 h) : CallsH P F.cons_Cons_DropQueue_1 [.agg (List.toArray c_0), .pointer (some t1)] K h :=
  calls_of_Ev (cons_Cons_DropQueue_1.plan K) Try.func89 (by kernel_rfl) (cons_Cons_DropQueue_1.obl K) (by rw [cons_Cons_DropQueue_1.ev_eq] at H; exact H)

/-! (*waybill/cons.Cons).DropQueue: 53 -/
def cons_Cons_DropQueue.p0 (K : KT) (s_0 : OA) (queue_1 : List UInt8) (h : Heap) : Prop :=
  bd (al h #[.string (mkS queue_1)] T.string) fun h1 => CallsH P F.cons_Cons_dropAll [.pointer s_0, .func (.func F.cons_Cons_DropQueue_1) #[] #[.pointer (some (top h))]] (fun v2 h3 => v2 = .tuple #[] ∧ K (.tuple #[]) h3) h1
def cons_Cons_DropQueue.plan (K : KT) : Plan := .go
theorem cons_Cons_DropQueue.ev_eq : cons_Cons_DropQueue.p0 = fun K s_0 queue_1 h => Ev P Try.f53 (cons_Cons_DropQueue.plan K) K [.pointer s_0, .string (mkS queue_1)] h := by kernel_rfl
theorem cons_Cons_DropQueue.obl (K : KT) : Obl P Try.f53 (cons_Cons_DropQueue.plan K) K :=
  obl_true (by kernel_rfl)
theorem cons_Cons_DropQueue.ok {K : KT} {s_0 : OA} {queue_1 : List UInt8} {h : Heap} (H : cons_Cons_DropQueue.p0 K s_0 queue_1 h) : CallsH P F.cons_Cons_DropQueue [.pointer s_0, .string (mkS queue_1)] K h :=
  calls_of_Ev (cons_Cons_DropQueue.plan K) Try.func53 (by kernel_rfl) (cons_Cons_DropQueue.obl K) (by rw [cons_Cons_DropQueue.ev_eq] at H; exact H)

/-! (*waybill/cons.Cons).Drop: 54 -/
def cons_Cons_Drop.p0 (K : KT) (s_0 : OA) (conn_1 : Int) (ch_2 : Int) (tag_3 : List UInt8) (h : Heap) : Prop :=
  CallsH P F.cons_Cons_drop [.pointer s_0, .agg #[.int .i64 conn_1, .int .i64 ch_2, .string (mkS tag_3)]] (fun v1 h2 => ∃ b3, v1 = .bool b3 ∧ K (.bool b3) h2) h
def cons_Cons_Drop.plan (K : KT) : Plan := .go
theorem cons_Cons_Drop.ev_eq : cons_Cons_Drop.p0 = fun K s_0 conn_1 ch_2 tag_3 h => Ev P Try.f54 (cons_Cons_Drop.plan K) K [.pointer s_0, .int .i64 conn_1, .int .i64 ch_2, .string (mkS tag_3)] h := by kernel_rfl
theorem cons_Cons_Drop.obl (K : KT) : Obl P Try.f54 (cons_Cons_Drop.plan K) K :=
  obl_true (by kernel_rfl)
theorem cons_Cons_Drop.ok {K : KT} {s_0 : OA} {conn_1 : Int} {ch_2 : Int} {tag_3 : List UInt8} {h : Heap} (H : cons_Cons_Drop.p0 K s_0 conn_1 ch_2 tag_3 h) : CallsH P F.cons_Cons_Drop [.pointer s_0, .int .i64 conn_1, .int .i64 ch_2, .string (mkS tag_3)] K h :=
  calls_of_Ev (cons_Cons_Drop.plan K) Try.func54 (by kernel_rfl) (cons_Cons_Drop.obl K) (by rw [cons_Cons_Drop.ev_eq] at H; exact H)

end Go.Proofs.Ytechpnlbkkfplaa.Pr
