/- methTells_holds: all that the theorem needs, in a few texts (bundle.py; made of the texts that NOTES.md names). -/
import Derived.Below
import Derived.Carry
import Derived.ChangeOld
import Derived.ChangeShapes
import Derived.JoinedCond
import Derived.KernelRfl
import Derived.Laws.Append
import Derived.Laws.Bits64
import Derived.Laws.BitsAllLaws
import Derived.Laws.BitsLemmas
import Derived.Laws.IdiomStrings
import Derived.Laws.Sem
import Derived.Laws.Strings
import Derived.LoopN
import Derived.MapKept
import Derived.OpenShut
import Derived.Orders
import Derived.ProofKit
import Derived.ShutString
import Derived.SizedLaws
import Derived.Test.YtjkiaeccjelklaaChecked
import Derived.Test.YtjkiaeccjelklaaRows
import Derived.WalkKit
import Derived.WideLaws
import Derived.WideShapes
import Derived.Test.YtjkiaeccjelklaaBMethTellsUpto1
import Derived.Test.YtjkiaeccjelklaaBMethTellsUpto2
import Derived.Test.YtjkiaeccjelklaaBMethTellsUpto3
import Derived.Test.YtjkiaeccjelklaaBMethTellsUpto4
import Derived.Test.YtjkiaeccjelklaaBMethTellsUpto5
import Derived.Test.YtjkiaeccjelklaaBMethTellsUpto6
import Derived.Test.YtjkiaeccjelklaaBMethTellsUpto7
import Derived.Test.YtjkiaeccjelklaaBMethTellsUpto8
import Derived.Test.YtjkiaeccjelklaaBMethTellsUpto9
import Derived.Test.YtjkiaeccjelklaaBMethTellsUpto10
import Derived.Test.YtjkiaeccjelklaaBMethTellsUpto11
import Derived.Test.YtjkiaeccjelklaaBMethTellsUpto12
import Derived.Test.YtjkiaeccjelklaaBMethTellsUpto13
section
namespace Go.Proofs.Ytjkiaeccjelklaa.methTells
open Go.ChangeShapes Go.WideShapes Go.ChangeAt Go.RowKit
set_option linter.unusedVariables false
theorem own : ownKnob Try.prog.godebug = none := by kernel_rfl
theorem laidOut : laidOutB Try.prog = true := by kernel_rfl
theorem readable : ∀ t ∈ [22, 28, 3, 23, 24, 3, 26, 3, 5, 3], Try.prog.readableRec t = true ∧ t < Try.prog.types.size := by
  have h : ([22, 28, 3, 23, 24, 3, 26, 3, 5, 3].all fun t => Try.prog.readableRec t && decide (t < Try.prog.types.size)) = true := by kernel_rfl
  intro t ht
  have := List.all_eq_true.1 h t ht
  rw [Bool.and_eq_true, decide_eq_true_eq] at this
  exact this
set_option maxRecDepth 100000 in
theorem contract (H : Type) (enc : TypeId × Value → H) (W : World) (base : Nat) (args : Array Value) (ds gs : List (DataW H)) (before : List MemPlace)
    (hval : ∀ (j : Nat) t v, Try.f3.params[j]? = some t → args[j]? = some v → Value.okWide Try.prog W .any base t v)
    (hW : DataW.Whole enc Try.prog Try.f3.params.toList Rows.methTellsSpec.vars false W args.toList ds gs before) (hk : Rows.uptoSmall H (ds ++ gs) = true) :
    Calls Try.prog 3 args W fun e W' => ∃ v, e = .returned v ∧ Rows.methTellsSpec.post enc Try.prog Try.f3 false true false false W args v W' := by
  have hW' := hW
  obtain ⟨p, q, hA0, hV, rfl, hfz, hnd⟩ := hW
  have hA : DataW.TrodAll enc Try.prog W 0 (fun _ => true) true Try.f3.params.toList args.toList ds p := hA0
  rw [Try.params3] at hA hval
  have hA2 := hA
  obtain ⟨v0, vs0, d0, ds0, p0, q0, hargs, rfl, rfl, h0, r0⟩ := trodAll_cons hA
  obtain ⟨v1, vs1, d1, ds1, p1, q1, rfl, rfl, rfl, h1, r1⟩ := trodAll_cons r0
  obtain ⟨v2, vs2, d2, ds2, p2, q2, rfl, rfl, rfl, h2, r2⟩ := trodAll_cons r1
  obtain ⟨v3, vs3, d3, ds3, p3, q3, rfl, rfl, rfl, h3, r3⟩ := trodAll_cons r2
  obtain ⟨v4, vs4, d4, ds4, p4, q4, rfl, rfl, rfl, h4, r4⟩ := trodAll_cons r3
  obtain ⟨v5, vs5, d5, ds5, p5, q5, rfl, rfl, rfl, h5, r5⟩ := trodAll_cons r4
  obtain ⟨v6, vs6, d6, ds6, p6, q6, rfl, rfl, rfl, h6, r6⟩ := trodAll_cons r5
  obtain ⟨v7, vs7, d7, ds7, p7, q7, rfl, rfl, rfl, h7, r7⟩ := trodAll_cons r6
  obtain ⟨v8, vs8, d8, ds8, p8, q8, rfl, rfl, rfl, h8, r8⟩ := trodAll_cons r7
  obtain ⟨v9, vs9, d9, ds9, p9, q9, rfl, rfl, rfl, h9, r9⟩ := trodAll_cons r8
  obtain ⟨rfl, rfl, rfl⟩ := trodAll_nil r9
  obtain rfl : args = #[v0, v1, v2, v3, v4, v5, v6, v7, v8, v9] := by cases args; simp_all
  obtain ⟨rfl, rfl⟩ := trodVars_none hV
  obtain ⟨s0, xs0, rfl, sl0, le0, mx0, w0⟩ := Go.Lift.arg_sl1 (C := fun n : Int => Value.int .u8 n) (Q := fun n => (Lit.int .u8 n).wf = true) Try.underlying22 (by kernel_rfl) (fun m cs h => Go.Lift.rd_int Try.underlying5 h) (hval 0 22 v0 rfl rfl) h0
  obtain ⟨cs1, rfl, cz1⟩ := okWide_struct Try.underlying28 (hval 1 28 v1 rfl rfl)
  obtain ⟨fu1, g1⟩ := h1
  obtain ⟨c1, c2, y, xN, xS, xF, mT, Dm, e1, rc1, rc2, ⟨lN, leN, wN⟩, ⟨lS, leS, _⟩, ⟨lF, leF, _⟩, m1, m2, m3, m4⟩ := Ar.rd_method g1
  obtain rfl : cs1 = List.toArray (Pr.mcells c1 c2 y) := Array.ext' e1
  obtain ⟨a2, rfl, w2⟩ := Go.Lift.arg_int Try.underlying3 (hval 2 3 v2 rfl rfl) h2
  obtain ⟨s3, xs3, rfl, sl3, le3, mx3, w3⟩ := Go.Lift.arg_sl1 (C := fun n : Int => Value.int .u64 n) (Q := fun n => (Lit.int .u64 n).wf = true) Try.underlying23 (by kernel_rfl) (fun m cs h => Go.Lift.rd_int Try.underlying46 h) (hval 3 23 v3 rfl rfl) h3
  obtain ⟨s4, xs4, rfl, sl4, le4, mx4, w4⟩ := Go.Lift.arg_sl1 (C := fun l : List UInt8 => Value.string (Go.Lift.mkS l)) (Q := fun l => l.length ≤ maxLen) Try.underlying24 (by kernel_rfl) (fun m cs h => Go.Lift.rd_str Try.underlying9 h) (hval 4 24 v4 rfl rfl) h4
  obtain ⟨a5, rfl, w5⟩ := Go.Lift.arg_int Try.underlying3 (hval 5 3 v5 rfl rfl) h5
  obtain ⟨pa, pl, pc, rfl⟩ := okWide_slice Try.underlying26 (hval 6 26 v6 rfl rfl)
  have hb : Rows.uptoBulkAll _ ≤ 1048576 := of_decide_eq_true hk
  simp only [List.cons_append, List.nil_append, Rows.uptoBulkAll] at hb
  have hA3 := hA2
  obtain ⟨fu, g⟩ := h6
  obtain ⟨⟨ta, tl, tc⟩, fs, D, e, k1, k2, k3, k4⟩ := Ar.rd_table (fu + 1) fu _ _ (Nat.lt_succ_self _) g
  simp only [Value.cells, Go.Lift.SV.v, List.cons.injEq, Value.slice.injEq, and_true] at e
  obtain ⟨rfl, rfl, rfl⟩ := e
  obtain ⟨a7, rfl, w7⟩ := Go.Lift.arg_int Try.underlying3 (hval 7 3 v7 rfl rfl) h7
  obtain ⟨a8, rfl, w8⟩ := Go.Lift.arg_int Try.underlying5 (hval 8 5 v8 rfl rfl) h8
  obtain ⟨a9, rfl, w9⟩ := Go.Lift.arg_int Try.underlying3 (hval 9 3 v9 rfl rfl) h9
  clear hA0
  refine (Go.Lift.law_calls (Pr.MethTells.law (h := W.heap) s0 xs0 sl0 le0 mx0 w0 c1 c2 rc1 rc2 y xN lN leN wN xS lS leS xF lF leF mT _ (fun b hb => hb) m1 Dm m2 (fun e => Nat.le_trans (m3 e) (show Rows.uptoBulk d1 ≤ 67108864 by omega)) a2 (Go.Lift.wf_i64 w2) s3 xs3 sl3 le3 mx3 w3 s4 xs4 sl4 le4 mx4 w4 a5 (Go.Lift.wf_i64 w5) (pa, pl, pc) fs _ (fun b hb => hb) k1 D k2 (fun e => Nat.le_trans (k3 e) (show Rows.uptoBulk d6 ≤ 67108864 by omega)) (k4 8) a7 (Go.Lift.wf_i64 w7) a8 (Go.Lift.wf_u8 w8) a9 (Go.Lift.wf_i64 w9)) W rfl).mono fun e W' ⟨he, bel⟩ => ?_
  subst he
  exact ⟨_, rfl, _, _, _, [], _, [], hW', trodAll_mk1 (shut_bool Try.underlying4 _), Go.Lift.trodAll_below laidOut bel readable hA2 (fun x hx => by simpa using hW'.lt x (by simpa using hx)), rfl, bel.frame _, fun h => by cases h⟩
set_option maxRecDepth 100000 in
theorem lifted (os : Os) (started : os.Started) (H : Type) (enc : TypeId × Value → H) (F : Stop.Interp) :
    ReturnsInHanded {} Try.checked os 3 .any ((Rows.OpenSpec.upto Rows.methTellsSpec).pre6 enc Try.prog Try.f3 Rows.methTellsUptoRow.domain false) (((Rows.OpenSpec.upto Rows.methTellsSpec).at F).post enc Try.prog Try.f3 false true false false) := by
  refine returnsInHanded_of_cond (C := Try.checked) (s := Rows.OpenSpec.upto Rows.methTellsSpec) (k := Rows.uptoSmall) rfl own started (by kernel_rfl) Try.func3
    (OpenSpec.witness (enc := enc) (C := Try.checked) (s := Rows.OpenSpec.upto Rows.methTellsSpec) (k := Rows.uptoSmall) rfl false ⟨#[], #[.slice none 0 0, (.agg #[.int .i64 0, .int .i64 0, .slice none 0 0, .slice none 0 0, .slice none 0 0, .slice none 0 0]), .int .i64 0, .slice none 0 0, .slice none 0 0, .int .i64 0, .slice none 0 0, .int .i64 0, .int .u8 0, .int .i64 0], []⟩ 8 (by kernel_rfl) (by kernel_rfl) (by kernel_rfl)
      (x := ([.nil, .agg [.lit (.int .i64 0), .lit (.int .i64 0), .nil, .nil, .nil, .nil], .lit (.int .i64 0), .nil, .nil, .lit (.int .i64 0), .nil, .lit (.int .i64 0), .lit (.int .u8 0), .lit (.int .i64 0)], [], [])) (by kernel_rfl) rfl (by kernel_rfl)) ?_
  intro W base args ds gs before hval hW _ hk _
  exact contract H enc W base args ds gs before hval hW hk
theorem over : Rows.methTellsUptoRow.holds Try.pinned (Rows.OpenSpec.upto Rows.methTellsSpec) :=
  OpenClaim.holds_of_cond 3 Try.f3 rfl rfl rfl rfl rfl rfl rfl ⟨rfl, rfl, rfl, rfl, rfl⟩ rfl rfl rfl rfl rfl (by kernel_rfl) Try.func3 (by kernel_rfl)
    (of_decide_eq_true (by kernel_rfl)) (by unfold Func.isWrapper; first | (rw [if_pos (by decide +kernel)]; kernel_rfl) | (rw [if_neg (by decide +kernel)]; exact ⟨rfl, rfl⟩))
    (fun os started H enc _ F => lifted os started H enc F)
theorem proved : Rows.MethTellsUptoSaid := over
end Go.Proofs.Ytjkiaeccjelklaa.methTells
namespace Go.Proofs.Ytjkiaeccjelklaa
theorem methTells_holds : Rows.MethTellsUptoSaid := methTells.proved
end Go.Proofs.Ytjkiaeccjelklaa
end
