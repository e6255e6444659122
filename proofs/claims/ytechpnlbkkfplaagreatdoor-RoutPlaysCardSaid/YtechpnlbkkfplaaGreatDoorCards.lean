/-
  DERIVED. GIVEN WITH THE SEED: THE CARDS: each row of YtechpnlbkkfplaaGreatDoorRows.lean that lists a variable, with what it lists TIED to the program's text (the seventh form; the later family's looks); each row that meets fmt, with fmt's text TOLD by the authors' own Lean function (tested against real Go, not proved from fmt's source: count such statements apart). THE CARD IS WHAT COUNTS. Prove the row's statement (the work); the ties are given (YtechpnlbkkfplaaGreatDoorTie.lean); close each card by the builder's one call (the guide's Derived/Test/ToyasCard.lean, 'card_holds'). Laid BY PROGRAM, IN A SANDBOX (cutbox-door.mjs). By AI agents, Wed Nov 11 2026. No macro, syntax, notation, axiom, sorry.
-/
import Derived.Test.YtechpnlbkkfplaaGreatDoorRows
import GoSem.ClaimSeven
namespace Go.Proofs.YtechpnlbkkfplaaGreatDoor
namespace Rows

/-- THE TIED CARD OF 'waybilllaw16.RoutPlays'. -/
def routPlaysCard : Claim7 := { stood := { row := routPlaysRow, standIns := [], harness := (true, "3b43a5e02b293320574cfb1716a99f0faa6bcbe4b0090fe61ed4517e65ee3473"), looks := true }, kinds := [], alts := [], laidByText := true, laidKinds := [.data, .pinned], laidTests := true, laidLooks := .later }
def RoutPlaysCardSaid : Prop := Claim7.holds Tryz.pinned (.plain (OpenSpec.ofChange routPlaysSpec)) routPlaysCard

/-- THE SECOND FORM's CARD OF 'waybilllaw16.RoutPlays'. -/
def routPlaysUptoCard : Claim7 := { stood := { row := routPlaysUptoRow, standIns := [], harness := (true, "3b43a5e02b293320574cfb1716a99f0faa6bcbe4b0090fe61ed4517e65ee3473"), looks := true }, kinds := [], alts := [], laidByText := true, laidKinds := [.data, .pinned], laidTests := true, laidLooks := .later }
def RoutPlaysUptoCardSaid : Prop := Claim7.holds Tryz.pinned (.plain (OpenSpec.upto routPlaysSpec)) routPlaysUptoCard
end Rows
end Go.Proofs.YtechpnlbkkfplaaGreatDoor
