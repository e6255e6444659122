/- routPlays_holds: all that the theorem needs, in a few texts (bundle.py; made of the texts that NOTES.md names). -/
import Derived.Below
import Derived.Carry
import Derived.ChangeOld
import Derived.ChangeShapes
import Derived.DeepKeys4
import Derived.HandedShaped
import Derived.KernelRfl
import Derived.LaidMore
import Derived.Laws.Append
import Derived.Laws.Bits64
import Derived.Laws.BitsAllLaws
import Derived.Laws.BitsLemmas
import Derived.Laws.IdiomStrings
import Derived.Laws.Sem
import Derived.Laws.Strings
import Derived.Laws.StructEq
import Derived.Lib.ItoaNum
import Derived.Lib.LaidIn
import Derived.Lib.LaidU8
import Derived.LoopIn
import Derived.LoopN
import Derived.LoopNIn
import Derived.MapKept
import Derived.Maps.AppendAt
import Derived.Maps.RangeRun
import Derived.OpenShut
import Derived.Orders
import Derived.OwnWalkIn
import Derived.ProofKit
import Derived.RangeFuncGives
import Derived.RangeFuncSeq
import Derived.RegionIn
import Derived.SevenTiedAt
import Derived.Shelf.Abstract
import Derived.Shelf.Lay
import Derived.Shelf.LaysM
import Derived.Shelf.SlIter.Collect
import Derived.Shelf.SlMaps.Clone
import Derived.Shelf.Slices.Cells
import Derived.Shelf.Slices.CompactS
import Derived.Shelf.Slices.In.SortNone
import Derived.Shelf.Small.Bits
import Derived.Shelf.Sort.Plain
import Derived.Shelf.Strconv.Itoa0
import Derived.Shelf.Strings.Count
import Derived.Shelf.Strings.Explode
import Derived.Shelf.Strings.RuneCount
import Derived.Shelf.Strings.Search1
import Derived.Shelf.Strings.Search2
import Derived.Shelf.Strings.Search3
import Derived.Shelf.Strings.Shaped
import Derived.Shelf.Strings.Split
import Derived.Shelf.Strings.SplitShaped
import Derived.Shelf.Unicode.Decode
import Derived.Shelf.Unicode.DecodeAny
import Derived.Shelf.Unicode.DecodeSlow
import Derived.Shelf.Utf8.RuneCount
import Derived.ShutString
import Derived.SizedLaws
import Derived.Sort.KeysCollected
import Derived.Sort.MapsRangeIn
import Derived.Stop.Joined
import Derived.TacticsInMore
import Derived.Test.YtechpnlbkkfplaaGreatDoorCards
import Derived.Test.YtechpnlbkkfplaaGreatDoorChecked
import Derived.Test.YtechpnlbkkfplaaGreatDoorProg
import Derived.Test.YtechpnlbkkfplaaGreatDoorRows
import Derived.Test.YtechpnlbkkfplaaGreatDoorTie
import Derived.WalkKit
import Derived.WideLaws
import Derived.WideShapes
import Derived.Test.YtechpnlbkkfplaaGreatDoorBRoutPlays1
import Derived.Test.YtechpnlbkkfplaaGreatDoorBRoutPlays2
import Derived.Test.YtechpnlbkkfplaaGreatDoorBRoutPlays3
import Derived.Test.YtechpnlbkkfplaaGreatDoorBRoutPlays4
import Derived.Test.YtechpnlbkkfplaaGreatDoorBRoutPlays5
import Derived.Test.YtechpnlbkkfplaaGreatDoorBRoutPlays6
import Derived.Test.YtechpnlbkkfplaaGreatDoorBRoutPlays7
import Derived.Test.YtechpnlbkkfplaaGreatDoorBRoutPlays8
import Derived.Test.YtechpnlbkkfplaaGreatDoorBRoutPlays9
import Derived.Test.YtechpnlbkkfplaaGreatDoorBRoutPlays10
import Derived.Test.YtechpnlbkkfplaaGreatDoorBRoutPlays11
import Derived.Test.YtechpnlbkkfplaaGreatDoorBRoutPlays12
import Derived.Test.YtechpnlbkkfplaaGreatDoorBRoutPlays13
import Derived.Test.YtechpnlbkkfplaaGreatDoorBRoutPlays14
import Derived.Test.YtechpnlbkkfplaaGreatDoorBRoutPlays15
import Derived.Test.YtechpnlbkkfplaaGreatDoorBRoutPlays16
import Derived.Test.YtechpnlbkkfplaaGreatDoorBRoutPlays17
import Derived.Test.YtechpnlbkkfplaaGreatDoorBRoutPlays18
import Derived.Test.YtechpnlbkkfplaaGreatDoorBRoutPlays19
import Derived.Test.YtechpnlbkkfplaaGreatDoorBRoutPlays20
import Derived.Test.YtechpnlbkkfplaaGreatDoorBRoutPlays21
import Derived.Test.YtechpnlbkkfplaaGreatDoorBRoutPlays22
import Derived.Test.YtechpnlbkkfplaaGreatDoorBRoutPlays23
import Derived.Test.YtechpnlbkkfplaaGreatDoorBRoutPlays24
section
namespace Go.Proofs.YtechpnlbkkfplaaGreatDoor
theorem own : ownKnob Tryz.prog.godebug = none := by kernel_rfl
noncomputable def laidWorld (os : Os) : World :=
  let w0 := World.holding Tryz.prog os ⟨#[], #[], []⟩
  let put (h : Array Obj) (g : Nat) (cs : Array Value) : Array Obj := h.modify g fun
    | .cells _ t frozen => .cells cs t frozen
    | o => o
  let h1 := put w0.heap 1 (Lib.firstTab.map fun z => Value.int .u8 z).toArray
  let h2 := put h1 2 ((List.range 16).flatMap fun i => [Value.int .u8 (Lib.accLo i), Value.int .u8 (Lib.accHi i)]).toArray
  { w0 with heap := h2 }
theorem laid_met (os : Os) (args : Array Value) : laidMetH Tryz.prog Rows.routPlaysRow.laid ((laidWorld os).forCall (fun _ _ => 0) ⟨#[], args, []⟩).memory :=
  laidMetH_of_parts3 (fuel := 8) (laidMet_of_run' 8 (by kernel_rfl) (by kernel_rfl)) (by kernel_rfl) (by kernel_rfl)
theorem g_of {W : World} (h : W.ShapedOpen Tryz.prog) : Pr.G W.heap := by
  obtain ⟨m, hm⟩ := Go.Proofs.cell_of_shapedOpen_int (zero := #[.int .i64 0]) (t := 3) (g := 0) h (of_decide_eq_true (by kernel_rfl)) (by kernel_rfl) rfl (by kernel_rfl) (by kernel_rfl) Tryz.underlying3
  exact ⟨m, hm⟩
end Go.Proofs.YtechpnlbkkfplaaGreatDoor
end
section
namespace Go.Proofs.YtechpnlbkkfplaaGreatDoor.routPlays
open Go.ChangeShapes Go.WideShapes Go.ChangeAt Go.RowKit
set_option linter.unusedVariables false
theorem laidOut : laidOutB Tryz.prog = true := by kernel_rfl
theorem readable : ∀ t ∈ [22, 9, 9], Tryz.prog.readableRec t = true ∧ t < Tryz.prog.types.size := by
  have h : ([22, 9, 9].all fun t => Tryz.prog.readableRec t && decide (t < Tryz.prog.types.size)) = true := by kernel_rfl
  intro t ht
  have := List.all_eq_true.1 h t ht
  rw [Bool.and_eq_true, decide_eq_true_eq] at this
  exact this
set_option maxRecDepth 100000 in
theorem lifted (os : Os) (started : os.Started) (H : Type) (enc : TypeId × Value → H) :
    ReturnsInHanded {} Tryz.checked os 3 .any (fun w args => (Rows.routPlaysSpec.pre enc Tryz.prog Tryz.f3 [] false w args ∧ laidMetH Tryz.prog Rows.routPlaysRow.laid w) ∧ sizedMet enc Tryz.prog Tryz.f3 (OpenSpec.ofChange Rows.routPlaysSpec) false w args)
      (Rows.routPlaysSpec.post enc Tryz.prog Tryz.f3 false true false false) := by
  refine Go.Lift.row_laid (C := Tryz.checked) (X := fun w _ => laidMetH Tryz.prog Rows.routPlaysRow.laid w) own started (by kernel_rfl) Tryz.func3
    (ChangeSpec.witness_shaped (enc := enc) (C := Tryz.checked) (os := os) (X := fun w _ => laidMetH Tryz.prog Rows.routPlaysRow.laid w) false (laidWorld os) #[.slice none 0 0, .string ⟨#[]⟩, .string ⟨#[]⟩] 8 rfl (World.shaped_of_RefB (by kernel_rfl) (by kernel_rfl)) (by kernel_rfl) (by kernel_rfl) (by kernel_rfl) (laid_met os _)) ?_
  intro W base args ds gs before hval0 hW _ _ hsh
  have hval : ∀ (j : Nat) t v, Tryz.f3.params[j]? = some t → args[j]? = some v → Value.okWide Tryz.prog W .any base t v := hval0
  have hW' := hW
  obtain ⟨p, q, hA0, hV, rfl, hfz, hnd⟩ := hW
  have hA : DataW.TrodAll enc Tryz.prog W 0 (fun _ => true) true Tryz.f3.params.toList args.toList ds p := hA0
  rw [Tryz.params3] at hA hval
  have hA2 := hA
  obtain ⟨v0, vs0, d0, ds0, p0, q0, hargs, rfl, rfl, h0, r0⟩ := trodAll_cons hA
  obtain ⟨v1, vs1, d1, ds1, p1, q1, rfl, rfl, rfl, h1, r1⟩ := trodAll_cons r0
  obtain ⟨v2, vs2, d2, ds2, p2, q2, rfl, rfl, rfl, h2, r2⟩ := trodAll_cons r1
  obtain ⟨rfl, rfl, rfl⟩ := trodAll_nil r2
  obtain rfl : args = #[v0, v1, v2] := by cases args; simp_all
  obtain ⟨rfl, rfl⟩ := trodVars_none hV
  obtain ⟨s0, xs0, rfl, sl0, le0, mx0, w0⟩ := Go.Lift.arg_slN (C := Ar.c_Op16) (Q := Ar.q_Op16) Tryz.underlying22 Ar.n_Op16 (fun m cs h => Ar.r_Op16 h) (hval 0 22 v0 rfl rfl) h0
  obtain ⟨a1, rfl, w1⟩ := Go.Lift.arg_str Tryz.underlying9 (hval 1 9 v1 rfl rfl) h1
  obtain ⟨a2, rfl, w2⟩ := Go.Lift.arg_str Tryz.underlying9 (hval 2 9 v2 rfl rfl) h2
  clear hA0 hval0
  refine (Go.Lift.law_calls (Pr.RoutPlays.law (h := W.heap) s0 xs0 sl0 le0 mx0 w0 a1 w1 a2 w2 (g_of hsh)) W rfl).mono fun e W' ⟨he, bel⟩ => ?_
  subst he
  exact ⟨_, rfl, _, _, _, [], _, [], hW', trodAll_mk1 (shut_bool Tryz.underlying4 _), Go.Lift.trodAll_below laidOut bel readable hA2 (fun x hx => by simpa using hW'.lt x (by simpa using hx)), rfl, bel.frame _, fun h => by cases h⟩
theorem over : Rows.RoutPlaysSaid :=
  OpenClaim.holds_of_wide 3 Tryz.f3 rfl rfl rfl rfl rfl rfl rfl ⟨rfl, rfl, rfl, rfl, rfl⟩ rfl rfl rfl rfl rfl (by kernel_rfl) Tryz.func3 (by kernel_rfl)
    (of_decide_eq_true (by kernel_rfl)) (by unfold Func.isWrapper; first | (rw [if_pos (by decide +kernel)]; kernel_rfl) | (rw [if_neg (by decide +kernel)]; exact ⟨rfl, rfl⟩))
    (fun os started H enc _ => lifted os started H enc)
end Go.Proofs.YtechpnlbkkfplaaGreatDoor.routPlays
namespace Go.Proofs.YtechpnlbkkfplaaGreatDoor
theorem routPlays_holds : Rows.RoutPlaysCardSaid :=
  Claim7.holds_tied_plain_at .later [] [.data, .pinned] true (true, "3b43a5e02b293320574cfb1716a99f0faa6bcbe4b0090fe61ed4517e65ee3473") true
    routPlays.over (fun _ h => by cases h) (by kernel_rfl) (fun _ h => by cases h) routPlays_row_tie rfl ⟨rfl, rfl⟩ (by kernel_rfl) rfl
    (fun f fn hf hfn => by
      obtain rfl : f = 3 := Option.some.inj ((show Tryz.prog.funcNamed "waybill/waybilllaw16.RoutPlays" = some 3 by kernel_rfl).symm.trans hf) |>.symm
      obtain rfl : fn = Tryz.f3 := (Option.some.inj (Tryz.func3.symm.trans hfn)).symm
      exact ⟨by kernel_rfl, fun j t ht => by
        rw [Tryz.params3] at ht
        have hm : t ∈ [22, 9, 9] := by
          have := Array.mem_of_getElem? ht
          simpa using this
        have hall : ([22, 9, 9].all fun u => !Tryz.prog.wantsStandIn u) = true := by kernel_rfl
        exact (show Tryz.prog.wantsStandIn t = false by simpa using List.all_eq_true.1 hall t hm)⟩)
    (by kernel_rfl)
end Go.Proofs.YtechpnlbkkfplaaGreatDoor
end
