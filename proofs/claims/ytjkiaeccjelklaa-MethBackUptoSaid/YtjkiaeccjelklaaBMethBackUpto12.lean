/- methBack_holds: all that the theorem needs, in a few texts (bundle.py; made of the texts that NOTES.md names). -/
import Derived.Below
import Derived.Carry
import Derived.ChangeOld
import Derived.ChangeShapes
import Derived.JoinedCond
import Derived.KernelRfl
import Derived.Laws.Append
import Derived.Laws.Bits64
import Derived.Laws.BitsAllLaws
import Derived.Laws.BitsLemmas
import Derived.Laws.IdiomStrings
import Derived.Laws.Sem
import Derived.Laws.Strings
import Derived.LoopN
import Derived.MapKept
import Derived.OpenShut
import Derived.Orders
import Derived.ProofKit
import Derived.ShutString
import Derived.SizedLaws
import Derived.Test.YtjkiaeccjelklaaChecked
import Derived.Test.YtjkiaeccjelklaaRows
import Derived.WalkKit
import Derived.WideLaws
import Derived.WideShapes
import Derived.Test.YtjkiaeccjelklaaBMethBackUpto1
import Derived.Test.YtjkiaeccjelklaaBMethBackUpto2
import Derived.Test.YtjkiaeccjelklaaBMethBackUpto3
import Derived.Test.YtjkiaeccjelklaaBMethBackUpto4
import Derived.Test.YtjkiaeccjelklaaBMethBackUpto5
import Derived.Test.YtjkiaeccjelklaaBMethBackUpto6
import Derived.Test.YtjkiaeccjelklaaBMethBackUpto7
import Derived.Test.YtjkiaeccjelklaaBMethBackUpto8
import Derived.Test.YtjkiaeccjelklaaBMethBackUpto9
import Derived.Test.YtjkiaeccjelklaaBMethBackUpto10
import Derived.Test.YtjkiaeccjelklaaBMethBackUpto11
section
namespace Go.Proofs.Ytjkiaeccjelklaa.methBack
open Go.ChangeShapes Go.WideShapes Go.ChangeAt Go.RowKit
set_option linter.unusedVariables false
theorem own : ownKnob Try.prog.godebug = none := by kernel_rfl
theorem laidOut : laidOutB Try.prog = true := by kernel_rfl
theorem readable : ∀ t ∈ [3, 23, 24, 3, 26], Try.prog.readableRec t = true ∧ t < Try.prog.types.size := by
  have h : ([3, 23, 24, 3, 26].all fun t => Try.prog.readableRec t && decide (t < Try.prog.types.size)) = true := by kernel_rfl
  intro t ht
  have := List.all_eq_true.1 h t ht
  rw [Bool.and_eq_true, decide_eq_true_eq] at this
  exact this
set_option maxRecDepth 100000 in
theorem contract (H : Type) (enc : TypeId × Value → H) (W : World) (base : Nat) (args : Array Value) (ds gs : List (DataW H)) (before : List MemPlace)
    (hval : ∀ (j : Nat) t v, Try.f4.params[j]? = some t → args[j]? = some v → Value.okWide Try.prog W .any base t v)
    (hW : DataW.Whole enc Try.prog Try.f4.params.toList Rows.methBackSpec.vars false W args.toList ds gs before) (hk : Rows.uptoSmall H (ds ++ gs) = true) :
    Calls Try.prog 4 args W fun e W' => ∃ v, e = .returned v ∧ Rows.methBackSpec.post enc Try.prog Try.f4 false true false false W args v W' := by
  have hW' := hW
  obtain ⟨p, q, hA0, hV, rfl, hfz, hnd⟩ := hW
  have hA : DataW.TrodAll enc Try.prog W 0 (fun _ => true) true Try.f4.params.toList args.toList ds p := hA0
  rw [Try.params4] at hA hval
  have hA2 := hA
  obtain ⟨v0, vs0, d0, ds0, p0, q0, hargs, rfl, rfl, h0, r0⟩ := trodAll_cons hA
  obtain ⟨v1, vs1, d1, ds1, p1, q1, rfl, rfl, rfl, h1, r1⟩ := trodAll_cons r0
  obtain ⟨v2, vs2, d2, ds2, p2, q2, rfl, rfl, rfl, h2, r2⟩ := trodAll_cons r1
  obtain ⟨v3, vs3, d3, ds3, p3, q3, rfl, rfl, rfl, h3, r3⟩ := trodAll_cons r2
  obtain ⟨v4, vs4, d4, ds4, p4, q4, rfl, rfl, rfl, h4, r4⟩ := trodAll_cons r3
  obtain ⟨rfl, rfl, rfl⟩ := trodAll_nil r4
  obtain rfl : args = #[v0, v1, v2, v3, v4] := by cases args; simp_all
  obtain ⟨rfl, rfl⟩ := trodVars_none hV
  obtain ⟨a0, rfl, w0⟩ := Go.Lift.arg_int Try.underlying3 (hval 0 3 v0 rfl rfl) h0
  obtain ⟨s1, xs1, rfl, sl1, le1, mx1, w1⟩ := Go.Lift.arg_sl1 (C := fun n : Int => Value.int .u64 n) (Q := fun n => (Lit.int .u64 n).wf = true) Try.underlying23 (by kernel_rfl) (fun m cs h => Go.Lift.rd_int Try.underlying46 h) (hval 1 23 v1 rfl rfl) h1
  obtain ⟨s2, xs2, rfl, sl2, le2, mx2, w2⟩ := Go.Lift.arg_sl1 (C := fun l : List UInt8 => Value.string (Go.Lift.mkS l)) (Q := fun l => l.length ≤ maxLen) Try.underlying24 (by kernel_rfl) (fun m cs h => Go.Lift.rd_str Try.underlying9 h) (hval 2 24 v2 rfl rfl) h2
  obtain ⟨a3, rfl, w3⟩ := Go.Lift.arg_int Try.underlying3 (hval 3 3 v3 rfl rfl) h3
  obtain ⟨pa, pl, pc, rfl⟩ := okWide_slice Try.underlying26 (hval 4 26 v4 rfl rfl)
  have hb : Rows.uptoBulkAll _ ≤ 1048576 := of_decide_eq_true hk
  simp only [List.cons_append, List.nil_append, Rows.uptoBulkAll] at hb
  have hA3 := hA2
  obtain ⟨fu, g⟩ := h4
  obtain ⟨⟨ta, tl, tc⟩, fs, D, e, k1, k2, k3, k4⟩ := Ar.rd_table (fu + 1) fu _ _ (Nat.lt_succ_self _) g
  simp only [Value.cells, Go.Lift.SV.v, List.cons.injEq, Value.slice.injEq, and_true] at e
  obtain ⟨rfl, rfl, rfl⟩ := e
  clear hA0
  refine (Go.Lift.law_calls (Pr.MethBack.law (h := W.heap) a0 (Go.Lift.wf_i64 w0) s1 xs1 sl1 le1 mx1 w1 s2 xs2 sl2 le2 mx2 w2 a3 (Go.Lift.wf_i64 w3) (pa, pl, pc) fs _ (fun b hb => hb) k1 D k2 (fun e => Nat.le_trans (k3 e) (show Rows.uptoBulk d4 ≤ 67108864 by omega)) (k4 8)) W rfl).mono fun e W' ⟨he, bel⟩ => ?_
  subst he
  exact ⟨_, rfl, _, _, _, [], _, [], hW', trodAll_mk1 (shut_bool Try.underlying4 _), Go.Lift.trodAll_below laidOut bel readable hA2 (fun x hx => by simpa using hW'.lt x (by simpa using hx)), rfl, bel.frame _, fun h => by cases h⟩
set_option maxRecDepth 100000 in
theorem lifted (os : Os) (started : os.Started) (H : Type) (enc : TypeId × Value → H) (F : Stop.Interp) :
    ReturnsInHanded {} Try.checked os 4 .any ((Rows.OpenSpec.upto Rows.methBackSpec).pre6 enc Try.prog Try.f4 Rows.methBackUptoRow.domain false) (((Rows.OpenSpec.upto Rows.methBackSpec).at F).post enc Try.prog Try.f4 false true false false) := by
  refine returnsInHanded_of_cond (C := Try.checked) (s := Rows.OpenSpec.upto Rows.methBackSpec) (k := Rows.uptoSmall) rfl own started (by kernel_rfl) Try.func4
    (OpenSpec.witness (enc := enc) (C := Try.checked) (s := Rows.OpenSpec.upto Rows.methBackSpec) (k := Rows.uptoSmall) rfl false ⟨#[], #[.int .i64 0, .slice none 0 0, .slice none 0 0, .int .i64 0, .slice none 0 0], []⟩ 8 (by kernel_rfl) (by kernel_rfl) (by kernel_rfl)
      (x := ([.lit (.int .i64 0), .nil, .nil, .lit (.int .i64 0), .nil], [], [])) (by kernel_rfl) rfl (by kernel_rfl)) ?_
  intro W base args ds gs before hval hW _ hk _
  exact contract H enc W base args ds gs before hval hW hk
theorem over : Rows.methBackUptoRow.holds Try.pinned (Rows.OpenSpec.upto Rows.methBackSpec) :=
  OpenClaim.holds_of_cond 4 Try.f4 rfl rfl rfl rfl rfl rfl rfl ⟨rfl, rfl, rfl, rfl, rfl⟩ rfl rfl rfl rfl rfl (by kernel_rfl) Try.func4 (by kernel_rfl)
    (of_decide_eq_true (by kernel_rfl)) (by unfold Func.isWrapper; first | (rw [if_pos (by decide +kernel)]; kernel_rfl) | (rw [if_neg (by decide +kernel)]; exact ⟨rfl, rfl⟩))
    (fun os started H enc _ F => lifted os started H enc F)
theorem proved : Rows.MethBackUptoSaid := over
end Go.Proofs.Ytjkiaeccjelklaa.methBack
namespace Go.Proofs.Ytjkiaeccjelklaa
theorem methBack_holds : Rows.MethBackUptoSaid := methBack.proved
end Go.Proofs.Ytjkiaeccjelklaa
end
