/- The start of a call that meets what the rows list: the library's two tables as they are laid. -/
import Derived.Test.YtechpnlbkkfplaaDoorRows
import Derived.Test.YtechpnlbkkfplaaDoorTie
import Derived.Test.YtechpnlbkkfplaaDoorCards
import Derived.Test.YtechpnlbkkfplaaDoorLawRoutOwn
import Derived.Test.YtechpnlbkkfplaaDoorLiftRow
import Derived.WalkKit
import Derived.ProofKit
import Derived.OpenShut
import Derived.ShutString
import Derived.ChangeOld
import Derived.Below
import Derived.SizedLaws
import Derived.LaidMore
import Derived.Lib.LaidIn
import Derived.Lib.LaidU8
import Derived.Stop.Joined
import Derived.SevenTiedAt
namespace Go.Proofs.YtechpnlbkkfplaaDoor
theorem own : ownKnob Tryd.prog.godebug = none := by kernel_rfl
/-- The settled world, the two tables holding what the rows list. -/
noncomputable def laidWorld (os : Os) : World :=
  let w0 := World.holding Tryd.prog os ⟨#[], #[], []⟩
  let put (h : Array Obj) (g : Nat) (cs : Array Value) : Array Obj := h.modify g fun
    | .cells _ t frozen => .cells cs t frozen
    | o => o
  let h1 := put w0.heap 1 (Lib.firstTab.map fun z => Value.int .u8 z).toArray
  let h2 := put h1 2 ((List.range 16).flatMap fun i => [Value.int .u8 (Lib.accLo i), Value.int .u8 (Lib.accHi i)]).toArray
  { w0 with heap := h2 }
theorem laid_met (os : Os) (args : Array Value) : laidMetH Tryd.prog Rows.routOwnRow.laid ((laidWorld os).forCall (fun _ _ => 0) ⟨#[], args, []⟩).memory :=
  laidMetH_of_parts3 (fuel := 8) (laidMet_of_run' 8 (by kernel_rfl) (by kernel_rfl)) (by kernel_rfl) (by kernel_rfl)
theorem g_of {W : World} (h : W.ShapedOpen Tryd.prog) : Pr.G W.heap := by
  obtain ⟨m, hm⟩ := Go.Proofs.cell_of_shapedOpen_int (zero := #[.int .i64 0]) (t := 3) (g := 0) h (of_decide_eq_true (by kernel_rfl)) (by kernel_rfl) rfl (by kernel_rfl) (by kernel_rfl) Tryd.underlying3
  exact ⟨m, hm⟩
end Go.Proofs.YtechpnlbkkfplaaDoor
