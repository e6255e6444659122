/-
  DERIVED. GIVEN WITH THE SEED: THE CARDS: each row of YtofpbcakppjgcaaGreatDoorRows.lean that lists a variable, with what it lists TIED to the program's text (the seventh form; the later family's looks); each row that meets fmt, with fmt's text TOLD by the authors' own Lean function (tested against real Go, not proved from fmt's source: count such statements apart). THE CARD IS WHAT COUNTS. Prove the row's statement (the work); the ties are given (YtofpbcakppjgcaaGreatDoorTie.lean); close each card by the builder's one call (the guide's Derived/Test/ToyasCard.lean, 'card_holds'). Laid BY PROGRAM, IN A SANDBOX (cutbox-door.mjs). By AI agents, Wed Nov 11 2026. No macro, syntax, notation, axiom, sorry.
-/
import Derived.Test.YtofpbcakppjgcaaGreatDoorRows
import GoSem.ClaimSeven
namespace Go.Proofs.YtofpbcakppjgcaaGreatDoor
namespace Rows

/-- THE TIED CARD OF 'waybilllaw20.BrokModes'. -/
def brokModesCard : Claim7 := { stood := { row := brokModesRow, standIns := [], harness := (true, "9318c8c336fd0a56339470ec9b044f3699fb3862a90de7f9994af0bc6ee2a5e6"), looks := true }, kinds := [], alts := [], laidByText := true, laidKinds := [.data, .pinned], laidTests := true, laidLooks := .later }
def BrokModesCardSaid : Prop := Claim7.holds Tryz.pinned (.plain (OpenSpec.ofChange brokModesSpec)) brokModesCard

/-- THE TIED CARD OF 'waybilllaw20.BrokTakes'. -/
def brokTakesCard : Claim7 := { stood := { row := brokTakesRow, standIns := [], harness := (true, "9318c8c336fd0a56339470ec9b044f3699fb3862a90de7f9994af0bc6ee2a5e6"), looks := true }, kinds := [], alts := [], laidByText := true, laidKinds := [.data, .pinned], laidTests := true, laidLooks := .later }
def BrokTakesCardSaid : Prop := Claim7.holds Tryz.pinned (.plain (OpenSpec.ofChange brokTakesSpec)) brokTakesCard

/-- THE TIED CARD OF 'waybilllaw20.BrokKeeps'. -/
def brokKeepsCard : Claim7 := { stood := { row := brokKeepsRow, standIns := [], harness := (true, "9318c8c336fd0a56339470ec9b044f3699fb3862a90de7f9994af0bc6ee2a5e6"), looks := true }, kinds := [], alts := [], laidByText := true, laidKinds := [.data, .pinned], laidTests := true, laidLooks := .later }
def BrokKeepsCardSaid : Prop := Claim7.holds Tryz.pinned (.plain (OpenSpec.ofChange brokKeepsSpec)) brokKeepsCard

/-- THE TIED CARD OF 'waybilllaw20.BrokSame'. -/
def brokSameCard : Claim7 := { stood := { row := brokSameRow, standIns := [], harness := (true, "9318c8c336fd0a56339470ec9b044f3699fb3862a90de7f9994af0bc6ee2a5e6"), looks := true }, kinds := [], alts := [], laidByText := true, laidKinds := [.data, .pinned], laidTests := true, laidLooks := .later }
def BrokSameCardSaid : Prop := Claim7.holds Tryz.pinned (.plain (OpenSpec.ofChange brokSameSpec)) brokSameCard

/-- THE TIED CARD OF 'waybilllaw20.BrokGone'. -/
def brokGoneCard : Claim7 := { stood := { row := brokGoneRow, standIns := [], harness := (true, "9318c8c336fd0a56339470ec9b044f3699fb3862a90de7f9994af0bc6ee2a5e6"), looks := true }, kinds := [], alts := [], laidByText := true, laidKinds := [.data, .pinned], laidTests := true, laidLooks := .later }
def BrokGoneCardSaid : Prop := Claim7.holds Tryz.pinned (.plain (OpenSpec.ofChange brokGoneSpec)) brokGoneCard

/-- THE TIED CARD OF 'waybilllaw20.BrokOnce'. -/
def brokOnceCard : Claim7 := { stood := { row := brokOnceRow, standIns := [], harness := (true, "9318c8c336fd0a56339470ec9b044f3699fb3862a90de7f9994af0bc6ee2a5e6"), looks := true }, kinds := [], alts := [], laidByText := true, laidKinds := [.data, .pinned], laidTests := true, laidLooks := .later }
def BrokOnceCardSaid : Prop := Claim7.holds Tryz.pinned (.plain (OpenSpec.ofChange brokOnceSpec)) brokOnceCard

/-- THE TIED CARD OF 'waybilllaw20.BrokCodes'. -/
def brokCodesCard : Claim7 := { stood := { row := brokCodesRow, standIns := [], harness := (true, "9318c8c336fd0a56339470ec9b044f3699fb3862a90de7f9994af0bc6ee2a5e6"), looks := true }, kinds := [], alts := [], laidByText := true, laidKinds := [.data, .pinned], laidTests := true, laidLooks := .later }
def BrokCodesCardSaid : Prop := Claim7.holds Tryz.pinned (.plain (OpenSpec.ofChange brokCodesSpec)) brokCodesCard

/-- THE TIED CARD OF 'waybilllaw20.BrokPlays'. -/
def brokPlaysCard : Claim7 := { stood := { row := brokPlaysRow, standIns := [], harness := (true, "9318c8c336fd0a56339470ec9b044f3699fb3862a90de7f9994af0bc6ee2a5e6"), looks := true }, kinds := [], alts := [], laidByText := true, laidKinds := [.data, .pinned], laidTests := true, laidLooks := .later }
def BrokPlaysCardSaid : Prop := Claim7.holds Tryz.pinned (.plain (OpenSpec.ofChange brokPlaysSpec)) brokPlaysCard

/-- THE TIED CARD OF 'waybilllaw21.LoadRefuses'. -/
def loadRefusesCard : Claim7 := { stood := { row := loadRefusesRow, standIns := [], harness := (true, "9318c8c336fd0a56339470ec9b044f3699fb3862a90de7f9994af0bc6ee2a5e6"), looks := true }, kinds := [], alts := [], laidByText := true, laidKinds := [.data, .pinned], laidTests := true, laidLooks := .later }
def LoadRefusesCardSaid : Prop := Claim7.holds Tryz.pinned (.plain (OpenSpec.ofChange loadRefusesSpec)) loadRefusesCard

/-- THE TIED CARD OF 'waybilllaw21.LoadTells'. -/
def loadTellsCard : Claim7 := { stood := { row := loadTellsRow, standIns := [], harness := (true, "9318c8c336fd0a56339470ec9b044f3699fb3862a90de7f9994af0bc6ee2a5e6"), looks := true }, kinds := [], alts := [], laidByText := true, laidKinds := [.data, .pinned], laidTests := true, laidLooks := .later }
def LoadTellsCardSaid : Prop := Claim7.holds Tryz.pinned (.plain (OpenSpec.ofChange loadTellsSpec)) loadTellsCard

/-- THE SECOND FORM's CARD OF 'waybilllaw20.BrokModes'. -/
def brokModesUptoCard : Claim7 := { stood := { row := brokModesUptoRow, standIns := [], harness := (true, "9318c8c336fd0a56339470ec9b044f3699fb3862a90de7f9994af0bc6ee2a5e6"), looks := true }, kinds := [], alts := [], laidByText := true, laidKinds := [.data, .pinned], laidTests := true, laidLooks := .later }
def BrokModesUptoCardSaid : Prop := Claim7.holds Tryz.pinned (.plain (OpenSpec.upto brokModesSpec)) brokModesUptoCard

/-- THE SECOND FORM's CARD OF 'waybilllaw20.BrokTakes'. -/
def brokTakesUptoCard : Claim7 := { stood := { row := brokTakesUptoRow, standIns := [], harness := (true, "9318c8c336fd0a56339470ec9b044f3699fb3862a90de7f9994af0bc6ee2a5e6"), looks := true }, kinds := [], alts := [], laidByText := true, laidKinds := [.data, .pinned], laidTests := true, laidLooks := .later }
def BrokTakesUptoCardSaid : Prop := Claim7.holds Tryz.pinned (.plain (OpenSpec.upto brokTakesSpec)) brokTakesUptoCard

/-- THE SECOND FORM's CARD OF 'waybilllaw20.BrokKeeps'. -/
def brokKeepsUptoCard : Claim7 := { stood := { row := brokKeepsUptoRow, standIns := [], harness := (true, "9318c8c336fd0a56339470ec9b044f3699fb3862a90de7f9994af0bc6ee2a5e6"), looks := true }, kinds := [], alts := [], laidByText := true, laidKinds := [.data, .pinned], laidTests := true, laidLooks := .later }
def BrokKeepsUptoCardSaid : Prop := Claim7.holds Tryz.pinned (.plain (OpenSpec.upto brokKeepsSpec)) brokKeepsUptoCard

/-- THE SECOND FORM's CARD OF 'waybilllaw20.BrokSame'. -/
def brokSameUptoCard : Claim7 := { stood := { row := brokSameUptoRow, standIns := [], harness := (true, "9318c8c336fd0a56339470ec9b044f3699fb3862a90de7f9994af0bc6ee2a5e6"), looks := true }, kinds := [], alts := [], laidByText := true, laidKinds := [.data, .pinned], laidTests := true, laidLooks := .later }
def BrokSameUptoCardSaid : Prop := Claim7.holds Tryz.pinned (.plain (OpenSpec.upto brokSameSpec)) brokSameUptoCard

/-- THE SECOND FORM's CARD OF 'waybilllaw20.BrokGone'. -/
def brokGoneUptoCard : Claim7 := { stood := { row := brokGoneUptoRow, standIns := [], harness := (true, "9318c8c336fd0a56339470ec9b044f3699fb3862a90de7f9994af0bc6ee2a5e6"), looks := true }, kinds := [], alts := [], laidByText := true, laidKinds := [.data, .pinned], laidTests := true, laidLooks := .later }
def BrokGoneUptoCardSaid : Prop := Claim7.holds Tryz.pinned (.plain (OpenSpec.upto brokGoneSpec)) brokGoneUptoCard

/-- THE SECOND FORM's CARD OF 'waybilllaw20.BrokOnce'. -/
def brokOnceUptoCard : Claim7 := { stood := { row := brokOnceUptoRow, standIns := [], harness := (true, "9318c8c336fd0a56339470ec9b044f3699fb3862a90de7f9994af0bc6ee2a5e6"), looks := true }, kinds := [], alts := [], laidByText := true, laidKinds := [.data, .pinned], laidTests := true, laidLooks := .later }
def BrokOnceUptoCardSaid : Prop := Claim7.holds Tryz.pinned (.plain (OpenSpec.upto brokOnceSpec)) brokOnceUptoCard

/-- THE SECOND FORM's CARD OF 'waybilllaw20.BrokCodes'. -/
def brokCodesUptoCard : Claim7 := { stood := { row := brokCodesUptoRow, standIns := [], harness := (true, "9318c8c336fd0a56339470ec9b044f3699fb3862a90de7f9994af0bc6ee2a5e6"), looks := true }, kinds := [], alts := [], laidByText := true, laidKinds := [.data, .pinned], laidTests := true, laidLooks := .later }
def BrokCodesUptoCardSaid : Prop := Claim7.holds Tryz.pinned (.plain (OpenSpec.upto brokCodesSpec)) brokCodesUptoCard

/-- THE SECOND FORM's CARD OF 'waybilllaw20.BrokPlays'. -/
def brokPlaysUptoCard : Claim7 := { stood := { row := brokPlaysUptoRow, standIns := [], harness := (true, "9318c8c336fd0a56339470ec9b044f3699fb3862a90de7f9994af0bc6ee2a5e6"), looks := true }, kinds := [], alts := [], laidByText := true, laidKinds := [.data, .pinned], laidTests := true, laidLooks := .later }
def BrokPlaysUptoCardSaid : Prop := Claim7.holds Tryz.pinned (.plain (OpenSpec.upto brokPlaysSpec)) brokPlaysUptoCard

/-- THE SECOND FORM's CARD OF 'waybilllaw21.LoadRefuses'. -/
def loadRefusesUptoCard : Claim7 := { stood := { row := loadRefusesUptoRow, standIns := [], harness := (true, "9318c8c336fd0a56339470ec9b044f3699fb3862a90de7f9994af0bc6ee2a5e6"), looks := true }, kinds := [], alts := [], laidByText := true, laidKinds := [.data, .pinned], laidTests := true, laidLooks := .later }
def LoadRefusesUptoCardSaid : Prop := Claim7.holds Tryz.pinned (.plain (OpenSpec.upto loadRefusesSpec)) loadRefusesUptoCard

/-- THE SECOND FORM's CARD OF 'waybilllaw21.LoadTells'. -/
def loadTellsUptoCard : Claim7 := { stood := { row := loadTellsUptoRow, standIns := [], harness := (true, "9318c8c336fd0a56339470ec9b044f3699fb3862a90de7f9994af0bc6ee2a5e6"), looks := true }, kinds := [], alts := [], laidByText := true, laidKinds := [.data, .pinned], laidTests := true, laidLooks := .later }
def LoadTellsUptoCardSaid : Prop := Claim7.holds Tryz.pinned (.plain (OpenSpec.upto loadTellsSpec)) loadTellsUptoCard
end Rows
end Go.Proofs.YtofpbcakppjgcaaGreatDoor
