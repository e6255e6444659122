/-
  DERIVED. GIVEN WITH THE SEED: THE CARDS: each row of YtechpnlbkkfplaaDoorRows.lean that lists a variable, with what it lists TIED to the program's text (the seventh form; the later family's looks); each row that meets fmt, with fmt's text TOLD by the authors' own Lean function (tested against real Go, not proved from fmt's source: count such statements apart). THE CARD IS WHAT COUNTS. Prove the row's statement (the work); the ties are given (YtechpnlbkkfplaaDoorTie.lean); close each card by the builder's one call (the guide's Derived/Test/ToyasCard.lean, 'card_holds'). Laid BY PROGRAM, IN A SANDBOX (cutbox-door.mjs). By AI agents, Wed Nov 11 2026. No macro, syntax, notation, axiom, sorry.
-/
import Derived.Test.YtechpnlbkkfplaaDoorRows
import GoSem.ClaimSeven
namespace Go.Proofs.YtechpnlbkkfplaaDoor
namespace Rows

/-- THE TIED CARD OF 'waybilllaw16.RoutOwn'. -/
def routOwnCard : Claim7 := { stood := { row := routOwnRow, standIns := [], harness := (true, "e860a1c6566f283abbc037506b46c738d6329e5f48b3c39f74289d1b2675b348"), looks := true }, kinds := [], alts := [], laidByText := true, laidKinds := [.data, .pinned], laidTests := true, laidLooks := .later }
def RoutOwnCardSaid : Prop := Claim7.holds Tryd.pinned (.plain (OpenSpec.ofChange routOwnSpec)) routOwnCard

/-- THE TIED CARD OF 'waybilllaw16.RoutKinds'. -/
def routKindsCard : Claim7 := { stood := { row := routKindsRow, standIns := [], harness := (true, "e860a1c6566f283abbc037506b46c738d6329e5f48b3c39f74289d1b2675b348"), looks := true }, kinds := [], alts := [], laidByText := true, laidKinds := [.data, .pinned], laidTests := true, laidLooks := .later }
def RoutKindsCardSaid : Prop := Claim7.holds Tryd.pinned (.plain (OpenSpec.ofChange routKindsSpec)) routKindsCard

/-- THE TIED CARD OF 'waybilllaw16.RoutGoes'. -/
def routGoesCard : Claim7 := { stood := { row := routGoesRow, standIns := [], harness := (true, "e860a1c6566f283abbc037506b46c738d6329e5f48b3c39f74289d1b2675b348"), looks := true }, kinds := [], alts := [], laidByText := true, laidKinds := [.data, .pinned], laidTests := true, laidLooks := .later }
def RoutGoesCardSaid : Prop := Claim7.holds Tryd.pinned (.plain (OpenSpec.ofChange routGoesSpec)) routGoesCard

/-- THE SECOND FORM's CARD OF 'waybilllaw16.RoutOwn'. -/
def routOwnUptoCard : Claim7 := { stood := { row := routOwnUptoRow, standIns := [], harness := (true, "e860a1c6566f283abbc037506b46c738d6329e5f48b3c39f74289d1b2675b348"), looks := true }, kinds := [], alts := [], laidByText := true, laidKinds := [.data, .pinned], laidTests := true, laidLooks := .later }
def RoutOwnUptoCardSaid : Prop := Claim7.holds Tryd.pinned (.plain (OpenSpec.upto routOwnSpec)) routOwnUptoCard

/-- THE SECOND FORM's CARD OF 'waybilllaw16.RoutKinds'. -/
def routKindsUptoCard : Claim7 := { stood := { row := routKindsUptoRow, standIns := [], harness := (true, "e860a1c6566f283abbc037506b46c738d6329e5f48b3c39f74289d1b2675b348"), looks := true }, kinds := [], alts := [], laidByText := true, laidKinds := [.data, .pinned], laidTests := true, laidLooks := .later }
def RoutKindsUptoCardSaid : Prop := Claim7.holds Tryd.pinned (.plain (OpenSpec.upto routKindsSpec)) routKindsUptoCard

/-- THE SECOND FORM's CARD OF 'waybilllaw16.RoutGoes'. -/
def routGoesUptoCard : Claim7 := { stood := { row := routGoesUptoRow, standIns := [], harness := (true, "e860a1c6566f283abbc037506b46c738d6329e5f48b3c39f74289d1b2675b348"), looks := true }, kinds := [], alts := [], laidByText := true, laidKinds := [.data, .pinned], laidTests := true, laidLooks := .later }
def RoutGoesUptoCardSaid : Prop := Claim7.holds Tryd.pinned (.plain (OpenSpec.upto routGoesSpec)) routGoesUptoCard
end Rows
end Go.Proofs.YtechpnlbkkfplaaDoor
