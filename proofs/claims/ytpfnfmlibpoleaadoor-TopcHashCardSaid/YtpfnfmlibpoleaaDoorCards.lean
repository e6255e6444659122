/-
  DERIVED. GIVEN WITH THE SEED: THE CARDS: each row of YtpfnfmlibpoleaaDoorRows.lean that lists a variable, with what it lists TIED to the program's text (the seventh form; the later family's looks); each row that meets fmt, with fmt's text TOLD by the authors' own Lean function (tested against real Go, not proved from fmt's source: count such statements apart). THE CARD IS WHAT COUNTS. Prove the row's statement (the work); the ties are given (YtpfnfmlibpoleaaDoorTie.lean); close each card by the builder's one call (the guide's Derived/Test/ToyasCard.lean, 'card_holds'). Laid BY PROGRAM, IN A SANDBOX (cutbox-door.mjs). By AI agents, Wed Nov 11 2026. No macro, syntax, notation, axiom, sorry.
-/
import Derived.Test.YtpfnfmlibpoleaaDoorRows
import GoSem.ClaimSeven
namespace Go.Proofs.YtpfnfmlibpoleaaDoor
namespace Rows

/-- THE TIED CARD OF 'waybilllaw6.TopcJoins'. -/
def topcJoinsCard : Claim7 := { stood := { row := topcJoinsRow, standIns := [], harness := (true, "c099147a0489bbb41de3232c41f4c18efea63d95bb80ac1fffe0fe7a45e6f055"), looks := false }, kinds := [], alts := [], laidByText := true, laidKinds := [.data, .pinned], laidTests := true, laidLooks := .later }
def TopcJoinsCardSaid : Prop := Claim7.holds Tryd.pinned (.plain (OpenSpec.ofChange topcJoinsSpec)) topcJoinsCard

/-- THE TIED CARD OF 'waybilllaw6.TopcTells'. -/
def topcTellsCard : Claim7 := { stood := { row := topcTellsRow, standIns := [], harness := (true, "c099147a0489bbb41de3232c41f4c18efea63d95bb80ac1fffe0fe7a45e6f055"), looks := false }, kinds := [], alts := [], laidByText := true, laidKinds := [.data, .pinned], laidTests := true, laidLooks := .later }
def TopcTellsCardSaid : Prop := Claim7.holds Tryd.pinned (.plain (OpenSpec.ofChange topcTellsSpec)) topcTellsCard

/-- THE TIED CARD OF 'waybilllaw6.TopcWords'. -/
def topcWordsCard : Claim7 := { stood := { row := topcWordsRow, standIns := [], harness := (true, "c099147a0489bbb41de3232c41f4c18efea63d95bb80ac1fffe0fe7a45e6f055"), looks := false }, kinds := [], alts := [], laidByText := true, laidKinds := [.data, .pinned], laidTests := true, laidLooks := .later }
def TopcWordsCardSaid : Prop := Claim7.holds Tryd.pinned (.plain (OpenSpec.ofChange topcWordsSpec)) topcWordsCard

/-- THE TIED CARD OF 'waybilllaw6.TopcStars'. -/
def topcStarsCard : Claim7 := { stood := { row := topcStarsRow, standIns := [], harness := (true, "c099147a0489bbb41de3232c41f4c18efea63d95bb80ac1fffe0fe7a45e6f055"), looks := false }, kinds := [], alts := [], laidByText := true, laidKinds := [.data, .pinned], laidTests := true, laidLooks := .later }
def TopcStarsCardSaid : Prop := Claim7.holds Tryd.pinned (.plain (OpenSpec.ofChange topcStarsSpec)) topcStarsCard

/-- THE TIED CARD OF 'waybilllaw6.TopcHash'. -/
def topcHashCard : Claim7 := { stood := { row := topcHashRow, standIns := [], harness := (true, "c099147a0489bbb41de3232c41f4c18efea63d95bb80ac1fffe0fe7a45e6f055"), looks := false }, kinds := [], alts := [], laidByText := true, laidKinds := [.data, .pinned], laidTests := true, laidLooks := .later }
def TopcHashCardSaid : Prop := Claim7.holds Tryd.pinned (.plain (OpenSpec.ofChange topcHashSpec)) topcHashCard

/-- THE SECOND FORM's CARD OF 'waybilllaw6.TopcJoins'. -/
def topcJoinsUptoCard : Claim7 := { stood := { row := topcJoinsUptoRow, standIns := [], harness := (true, "c099147a0489bbb41de3232c41f4c18efea63d95bb80ac1fffe0fe7a45e6f055"), looks := false }, kinds := [], alts := [], laidByText := true, laidKinds := [.data, .pinned], laidTests := true, laidLooks := .later }
def TopcJoinsUptoCardSaid : Prop := Claim7.holds Tryd.pinned (.plain (OpenSpec.upto topcJoinsSpec)) topcJoinsUptoCard

/-- THE SECOND FORM's CARD OF 'waybilllaw6.TopcTells'. -/
def topcTellsUptoCard : Claim7 := { stood := { row := topcTellsUptoRow, standIns := [], harness := (true, "c099147a0489bbb41de3232c41f4c18efea63d95bb80ac1fffe0fe7a45e6f055"), looks := false }, kinds := [], alts := [], laidByText := true, laidKinds := [.data, .pinned], laidTests := true, laidLooks := .later }
def TopcTellsUptoCardSaid : Prop := Claim7.holds Tryd.pinned (.plain (OpenSpec.upto topcTellsSpec)) topcTellsUptoCard

/-- THE SECOND FORM's CARD OF 'waybilllaw6.TopcWords'. -/
def topcWordsUptoCard : Claim7 := { stood := { row := topcWordsUptoRow, standIns := [], harness := (true, "c099147a0489bbb41de3232c41f4c18efea63d95bb80ac1fffe0fe7a45e6f055"), looks := false }, kinds := [], alts := [], laidByText := true, laidKinds := [.data, .pinned], laidTests := true, laidLooks := .later }
def TopcWordsUptoCardSaid : Prop := Claim7.holds Tryd.pinned (.plain (OpenSpec.upto topcWordsSpec)) topcWordsUptoCard

/-- THE SECOND FORM's CARD OF 'waybilllaw6.TopcStars'. -/
def topcStarsUptoCard : Claim7 := { stood := { row := topcStarsUptoRow, standIns := [], harness := (true, "c099147a0489bbb41de3232c41f4c18efea63d95bb80ac1fffe0fe7a45e6f055"), looks := false }, kinds := [], alts := [], laidByText := true, laidKinds := [.data, .pinned], laidTests := true, laidLooks := .later }
def TopcStarsUptoCardSaid : Prop := Claim7.holds Tryd.pinned (.plain (OpenSpec.upto topcStarsSpec)) topcStarsUptoCard

/-- THE SECOND FORM's CARD OF 'waybilllaw6.TopcHash'. -/
def topcHashUptoCard : Claim7 := { stood := { row := topcHashUptoRow, standIns := [], harness := (true, "c099147a0489bbb41de3232c41f4c18efea63d95bb80ac1fffe0fe7a45e6f055"), looks := false }, kinds := [], alts := [], laidByText := true, laidKinds := [.data, .pinned], laidTests := true, laidLooks := .later }
def TopcHashUptoCardSaid : Prop := Claim7.holds Tryd.pinned (.plain (OpenSpec.upto topcHashSpec)) topcHashUptoCard
end Rows
end Go.Proofs.YtpfnfmlibpoleaaDoor
