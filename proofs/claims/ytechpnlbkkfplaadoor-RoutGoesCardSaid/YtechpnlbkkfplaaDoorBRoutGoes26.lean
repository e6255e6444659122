/- routGoes_holds: all that the theorem needs, in a few texts (bundle.py; made of the texts that NOTES.md names). -/
import Derived.Below
import Derived.ChangeOld
import Derived.DeepKeys4
import Derived.HandedShaped
import Derived.KernelRfl
import Derived.LaidMore
import Derived.Laws.Append
import Derived.Laws.Bits64
import Derived.Laws.BitsAllLaws
import Derived.Laws.BitsLemmas
import Derived.Laws.IdiomStrings
import Derived.Laws.Sem
import Derived.Laws.Strings
import Derived.Laws.StructEq
import Derived.Lib.ItoaNum
import Derived.Lib.LaidIn
import Derived.Lib.LaidU8
import Derived.LoopIn
import Derived.LoopN
import Derived.LoopNIn
import Derived.MapKept
import Derived.Maps.AppendAt
import Derived.OpenShut
import Derived.Orders
import Derived.OwnWalkIn
import Derived.ProofKit
import Derived.RangeFuncGives
import Derived.RangeFuncSeq
import Derived.RegionIn
import Derived.SevenTiedAt
import Derived.Shelf.Abstract
import Derived.Shelf.Lay
import Derived.Shelf.LaysM
import Derived.Shelf.SlIter.Collect
import Derived.Shelf.Slices.Cells
import Derived.Shelf.Slices.CompactS
import Derived.Shelf.Slices.In.SortNone
import Derived.Shelf.Small.Bits
import Derived.Shelf.Sort.Plain
import Derived.Shelf.Strconv.Itoa0
import Derived.Shelf.Strings.Count
import Derived.Shelf.Strings.Explode
import Derived.Shelf.Strings.RuneCount
import Derived.Shelf.Strings.Search1
import Derived.Shelf.Strings.Search2
import Derived.Shelf.Strings.Search3
import Derived.Shelf.Strings.Shaped
import Derived.Shelf.Strings.Split
import Derived.Shelf.Strings.SplitShaped
import Derived.Shelf.Unicode.Decode
import Derived.Shelf.Unicode.DecodeAny
import Derived.Shelf.Unicode.DecodeSlow
import Derived.Shelf.Utf8.RuneCount
import Derived.ShutString
import Derived.SizedLaws
import Derived.Sort.KeysCollected
import Derived.Sort.MapsRangeIn
import Derived.Stop.Joined
import Derived.TacticsInMore
import Derived.Test.YtechpnlbkkfplaaDoorCards
import Derived.Test.YtechpnlbkkfplaaDoorChecked
import Derived.Test.YtechpnlbkkfplaaDoorProg
import Derived.Test.YtechpnlbkkfplaaDoorRows
import Derived.Test.YtechpnlbkkfplaaDoorTie
import Derived.WalkKit
import Derived.WideLaws
import Derived.Test.YtechpnlbkkfplaaDoorBRoutGoes1
import Derived.Test.YtechpnlbkkfplaaDoorBRoutGoes2
import Derived.Test.YtechpnlbkkfplaaDoorBRoutGoes3
import Derived.Test.YtechpnlbkkfplaaDoorBRoutGoes4
import Derived.Test.YtechpnlbkkfplaaDoorBRoutGoes5
import Derived.Test.YtechpnlbkkfplaaDoorBRoutGoes6
import Derived.Test.YtechpnlbkkfplaaDoorBRoutGoes7
import Derived.Test.YtechpnlbkkfplaaDoorBRoutGoes8
import Derived.Test.YtechpnlbkkfplaaDoorBRoutGoes9
import Derived.Test.YtechpnlbkkfplaaDoorBRoutGoes11
import Derived.Test.YtechpnlbkkfplaaDoorBRoutGoes12
import Derived.Test.YtechpnlbkkfplaaDoorBRoutGoes14
import Derived.Test.YtechpnlbkkfplaaDoorBRoutGoes16
import Derived.Test.YtechpnlbkkfplaaDoorBRoutGoes17
import Derived.Test.YtechpnlbkkfplaaDoorBRoutGoes18
import Derived.Test.YtechpnlbkkfplaaDoorBRoutGoes19
import Derived.Test.YtechpnlbkkfplaaDoorBRoutGoes20
import Derived.Test.YtechpnlbkkfplaaDoorBRoutGoes21
import Derived.Test.YtechpnlbkkfplaaDoorBRoutGoes22
section
namespace Go.Proofs.YtechpnlbkkfplaaDoor
theorem own : ownKnob Tryd.prog.godebug = none := by kernel_rfl
noncomputable def laidWorld (os : Os) : World :=
  let w0 := World.holding Tryd.prog os ⟨#[], #[], []⟩
  let put (h : Array Obj) (g : Nat) (cs : Array Value) : Array Obj := h.modify g fun
    | .cells _ t frozen => .cells cs t frozen
    | o => o
  let h1 := put w0.heap 1 (Lib.firstTab.map fun z => Value.int .u8 z).toArray
  let h2 := put h1 2 ((List.range 16).flatMap fun i => [Value.int .u8 (Lib.accLo i), Value.int .u8 (Lib.accHi i)]).toArray
  { w0 with heap := h2 }
theorem laid_met (os : Os) (args : Array Value) : laidMetH Tryd.prog Rows.routOwnRow.laid ((laidWorld os).forCall (fun _ _ => 0) ⟨#[], args, []⟩).memory :=
  laidMetH_of_parts3 (fuel := 8) (laidMet_of_run' 8 (by kernel_rfl) (by kernel_rfl)) (by kernel_rfl) (by kernel_rfl)
theorem g_of {W : World} (h : W.ShapedOpen Tryd.prog) : Pr.G W.heap := by
  obtain ⟨m, hm⟩ := Go.Proofs.cell_of_shapedOpen_int (zero := #[.int .i64 0]) (t := 3) (g := 0) h (of_decide_eq_true (by kernel_rfl)) (by kernel_rfl) rfl (by kernel_rfl) (by kernel_rfl) Tryd.underlying3
  exact ⟨m, hm⟩
end Go.Proofs.YtechpnlbkkfplaaDoor
end
