/-
  NARROWER THAN 'FOR EVERY INPUT', by the rows' own cells (each row's printed sentence says how): BrokModes: laid · BrokTakes: laid · BrokKeeps: laid · BrokSame: laid · BrokGone: laid · BrokOnce: laid · BrokCodes: laid · BrokPlays: laid · LoadRefuses: laid · LoadTells: laid.
  DERIVED. THE GIVEN ROWS OF THIS SEAT. 10 by the template 'for every input the law returns true; each argument reads behind the call as it read before'; 0 by the template 'total and deterministic' (their statements: YtofpbcakppjgcaaGreatDoorTotals.lean).
  GIVEN WITH THE SEED: the statements are not yours to turn. If you find one false, say at which input.
  Laid BY PROGRAM, IN A SANDBOX (cutbox-rows.mjs): the forced cells as the released guide's own fill.sh prints them over the translation 0fb829d34cc1e5be… (all of the seat's roots in one cut). By AI agents, Wed Nov 11 2026. No macro, syntax, notation, axiom, sorry.
-/
import Derived.Test.YtofpbcakppjgcaaGreatDoorChecked
import GoSem.PinnedTables
import GoSem.Claim
import GoSem.ClaimJoined
import GoSem.ClaimMapViews
import Derived.JoinedTies
import Derived.KernelRfl
namespace Go.Proofs.YtofpbcakppjgcaaGreatDoor
/- THE CELL 'sum', in the pinned program and in every row, IS THE sha256 OF THE DUMP (.gsa) THAT YtofpbcakppjgcaaGreatDoorProg.lean LOADS. Nothing in Lean hashes anything: it is a label: what it is worth is what the hold of that sum in a sandbox is worth. -/
noncomputable def Tryz.pinned : Pinned := { name := "ytofpbcakppjgcaagreatdoor", sum := "0fb829d34cc1e5beb5f6e014767be56e135135a36a087fd1ef29d45c1653c007", checked := Tryz.checked }
namespace Rows
def none {H : Type} : Left H := { results := [], args := [] }

/- WHAT THE LISTED PACKAGE-LEVEL VARIABLES READ AS WHEN THE CALL BEGINS. Each datum BY PROGRAM (the guide's laid-datum.mjs) off the statement by which the dump's own 'gosem.cut.vars' lays the variable. In a bare row this is a premise. The card (YtofpbcakppjgcaaGreatDoorCards.lean) ties it to the program's text. -/
def laid_unicode_utf8_acceptRanges {H : Type} : DataW H := .agg [.agg [.lit (.int .u8 128), .lit (.int .u8 191)], .agg [.lit (.int .u8 160), .lit (.int .u8 191)], .agg [.lit (.int .u8 128), .lit (.int .u8 159)], .agg [.lit (.int .u8 144), .lit (.int .u8 191)], .agg [.lit (.int .u8 128), .lit (.int .u8 143)], .agg [.lit (.int .u8 0), .lit (.int .u8 0)], .agg [.lit (.int .u8 0), .lit (.int .u8 0)], .agg [.lit (.int .u8 0), .lit (.int .u8 0)], .agg [.lit (.int .u8 0), .lit (.int .u8 0)], .agg [.lit (.int .u8 0), .lit (.int .u8 0)], .agg [.lit (.int .u8 0), .lit (.int .u8 0)], .agg [.lit (.int .u8 0), .lit (.int .u8 0)], .agg [.lit (.int .u8 0), .lit (.int .u8 0)], .agg [.lit (.int .u8 0), .lit (.int .u8 0)], .agg [.lit (.int .u8 0), .lit (.int .u8 0)], .agg [.lit (.int .u8 0), .lit (.int .u8 0)]]
/-- One of Go's own tables, pinned by name: the form's constant. -/
def laid_unicode_utf8_first : DataW Unit := Go.Pinned.utf8First

/-- 'waybilllaw20.BrokModes': WHATEVER THE INPUT: true; the input reads as it did. -/
def brokModesSpec : ChangeSpec := { name := "brokModes", fn := fun _ => fun
  | [d1, d2] => { results := [.lit (.bool true)], args := [d1, d2] }
  | _ => none }
def brokModesRow : OpenClaim := { program := "ytofpbcakppjgcaagreatdoor", sum := "0fb829d34cc1e5beb5f6e014767be56e135135a36a087fd1ef29d45c1653c007", func := "waybill/waybilllaw20.BrokModes", spec := "brokModes", inPlace := ["internal/bytealg.CountString", "internal/bytealg.IndexByteString", "internal/bytealg.IndexString", "internal/bytealg.abigen_runtime_cmpstring"], unfollowed := true, recurses := true, named := ["unicode/utf8.first", "unicode/utf8.acceptRanges", "internal/bytealg.MaxLen"], plainKeys := false, apart := false, laid := [("unicode/utf8.acceptRanges", laid_unicode_utf8_acceptRanges), ("unicode/utf8.first", laid_unicode_utf8_first)] }
def BrokModesSaid : Prop := brokModesRow.holds Tryz.pinned (OpenSpec.ofChange brokModesSpec)

/-- ITS FALSE NEIGHBOUR: 'it returns false'. Refute it at one input. -/
def brokModesWrong : ChangeSpec := { name := "brokModes", fn := fun _ => fun
  | [d1, d2] => { results := [.lit (.bool false)], args := [d1, d2] }
  | _ => none }
def BrokModesWrongFalsely : Prop := brokModesRow.holds Tryz.pinned (OpenSpec.ofChange brokModesWrong)

/-- 'waybilllaw20.BrokTakes': WHATEVER THE INPUT: true; the input reads as it did. -/
def brokTakesSpec : ChangeSpec := { name := "brokTakes", fn := fun _ => fun
  | [d1, d2] => { results := [.lit (.bool true)], args := [d1, d2] }
  | _ => none }
def brokTakesRow : OpenClaim := { program := "ytofpbcakppjgcaagreatdoor", sum := "0fb829d34cc1e5beb5f6e014767be56e135135a36a087fd1ef29d45c1653c007", func := "waybill/waybilllaw20.BrokTakes", spec := "brokTakes", inPlace := ["internal/bytealg.CountString", "internal/bytealg.IndexByteString", "internal/bytealg.IndexString", "internal/bytealg.abigen_runtime_cmpstring"], unfollowed := true, recurses := true, named := ["unicode/utf8.first", "unicode/utf8.acceptRanges", "internal/bytealg.MaxLen"], plainKeys := false, apart := false, laid := [("unicode/utf8.acceptRanges", laid_unicode_utf8_acceptRanges), ("unicode/utf8.first", laid_unicode_utf8_first)] }
def BrokTakesSaid : Prop := brokTakesRow.holds Tryz.pinned (OpenSpec.ofChange brokTakesSpec)

/-- ITS FALSE NEIGHBOUR: 'it returns false'. Refute it at one input. -/
def brokTakesWrong : ChangeSpec := { name := "brokTakes", fn := fun _ => fun
  | [d1, d2] => { results := [.lit (.bool false)], args := [d1, d2] }
  | _ => none }
def BrokTakesWrongFalsely : Prop := brokTakesRow.holds Tryz.pinned (OpenSpec.ofChange brokTakesWrong)

/-- 'waybilllaw20.BrokKeeps': WHATEVER THE INPUT: true; the input reads as it did. -/
def brokKeepsSpec : ChangeSpec := { name := "brokKeeps", fn := fun _ => fun
  | [d] => { results := [.lit (.bool true)], args := [d] }
  | _ => none }
def brokKeepsRow : OpenClaim := { program := "ytofpbcakppjgcaagreatdoor", sum := "0fb829d34cc1e5beb5f6e014767be56e135135a36a087fd1ef29d45c1653c007", func := "waybill/waybilllaw20.BrokKeeps", spec := "brokKeeps", inPlace := ["internal/bytealg.CountString", "internal/bytealg.IndexByteString", "internal/bytealg.IndexString", "internal/bytealg.abigen_runtime_cmpstring"], unfollowed := true, recurses := true, named := ["unicode/utf8.first", "unicode/utf8.acceptRanges", "internal/bytealg.MaxLen"], plainKeys := false, apart := false, laid := [("unicode/utf8.acceptRanges", laid_unicode_utf8_acceptRanges), ("unicode/utf8.first", laid_unicode_utf8_first)] }
def BrokKeepsSaid : Prop := brokKeepsRow.holds Tryz.pinned (OpenSpec.ofChange brokKeepsSpec)

/-- ITS FALSE NEIGHBOUR: 'it returns false'. Refute it at one input. -/
def brokKeepsWrong : ChangeSpec := { name := "brokKeeps", fn := fun _ => fun
  | [d] => { results := [.lit (.bool false)], args := [d] }
  | _ => none }
def BrokKeepsWrongFalsely : Prop := brokKeepsRow.holds Tryz.pinned (OpenSpec.ofChange brokKeepsWrong)

/-- 'waybilllaw20.BrokSame': WHATEVER THE INPUT: true; the input reads as it did. -/
def brokSameSpec : ChangeSpec := { name := "brokSame", fn := fun _ => fun
  | [d1, d2] => { results := [.lit (.bool true)], args := [d1, d2] }
  | _ => none }
def brokSameRow : OpenClaim := { program := "ytofpbcakppjgcaagreatdoor", sum := "0fb829d34cc1e5beb5f6e014767be56e135135a36a087fd1ef29d45c1653c007", func := "waybill/waybilllaw20.BrokSame", spec := "brokSame", inPlace := ["internal/bytealg.CountString", "internal/bytealg.IndexByteString", "internal/bytealg.IndexString", "internal/bytealg.abigen_runtime_cmpstring"], unfollowed := true, recurses := true, named := ["unicode/utf8.first", "unicode/utf8.acceptRanges", "internal/bytealg.MaxLen"], plainKeys := false, apart := false, laid := [("unicode/utf8.acceptRanges", laid_unicode_utf8_acceptRanges), ("unicode/utf8.first", laid_unicode_utf8_first)] }
def BrokSameSaid : Prop := brokSameRow.holds Tryz.pinned (OpenSpec.ofChange brokSameSpec)

/-- ITS FALSE NEIGHBOUR: 'it returns false'. Refute it at one input. -/
def brokSameWrong : ChangeSpec := { name := "brokSame", fn := fun _ => fun
  | [d1, d2] => { results := [.lit (.bool false)], args := [d1, d2] }
  | _ => none }
def BrokSameWrongFalsely : Prop := brokSameRow.holds Tryz.pinned (OpenSpec.ofChange brokSameWrong)

/-- 'waybilllaw20.BrokGone': WHATEVER THE INPUT: true; the input reads as it did. -/
def brokGoneSpec : ChangeSpec := { name := "brokGone", fn := fun _ => fun
  | [d1, d2, d3] => { results := [.lit (.bool true)], args := [d1, d2, d3] }
  | _ => none }
def brokGoneRow : OpenClaim := { program := "ytofpbcakppjgcaagreatdoor", sum := "0fb829d34cc1e5beb5f6e014767be56e135135a36a087fd1ef29d45c1653c007", func := "waybill/waybilllaw20.BrokGone", spec := "brokGone", inPlace := ["internal/bytealg.CountString", "internal/bytealg.IndexByteString", "internal/bytealg.IndexString", "internal/bytealg.abigen_runtime_cmpstring"], unfollowed := true, recurses := true, named := ["unicode/utf8.first", "unicode/utf8.acceptRanges", "internal/bytealg.MaxLen"], plainKeys := false, apart := false, laid := [("unicode/utf8.acceptRanges", laid_unicode_utf8_acceptRanges), ("unicode/utf8.first", laid_unicode_utf8_first)] }
def BrokGoneSaid : Prop := brokGoneRow.holds Tryz.pinned (OpenSpec.ofChange brokGoneSpec)

/-- ITS FALSE NEIGHBOUR: 'it returns false'. Refute it at one input. -/
def brokGoneWrong : ChangeSpec := { name := "brokGone", fn := fun _ => fun
  | [d1, d2, d3] => { results := [.lit (.bool false)], args := [d1, d2, d3] }
  | _ => none }
def BrokGoneWrongFalsely : Prop := brokGoneRow.holds Tryz.pinned (OpenSpec.ofChange brokGoneWrong)

/-- 'waybilllaw20.BrokOnce': WHATEVER THE INPUT: true; the input reads as it did. -/
def brokOnceSpec : ChangeSpec := { name := "brokOnce", fn := fun _ => fun
  | [d] => { results := [.lit (.bool true)], args := [d] }
  | _ => none }
def brokOnceRow : OpenClaim := { program := "ytofpbcakppjgcaagreatdoor", sum := "0fb829d34cc1e5beb5f6e014767be56e135135a36a087fd1ef29d45c1653c007", func := "waybill/waybilllaw20.BrokOnce", spec := "brokOnce", inPlace := ["internal/bytealg.CountString", "internal/bytealg.IndexByteString", "internal/bytealg.IndexString", "internal/bytealg.abigen_runtime_cmpstring"], unfollowed := true, recurses := true, named := ["unicode/utf8.first", "unicode/utf8.acceptRanges", "internal/bytealg.MaxLen"], plainKeys := false, apart := false, laid := [("unicode/utf8.acceptRanges", laid_unicode_utf8_acceptRanges), ("unicode/utf8.first", laid_unicode_utf8_first)] }
def BrokOnceSaid : Prop := brokOnceRow.holds Tryz.pinned (OpenSpec.ofChange brokOnceSpec)

/-- ITS FALSE NEIGHBOUR: 'it returns false'. Refute it at one input. -/
def brokOnceWrong : ChangeSpec := { name := "brokOnce", fn := fun _ => fun
  | [d] => { results := [.lit (.bool false)], args := [d] }
  | _ => none }
def BrokOnceWrongFalsely : Prop := brokOnceRow.holds Tryz.pinned (OpenSpec.ofChange brokOnceWrong)

/-- 'waybilllaw20.BrokCodes': WHATEVER THE INPUT: true; the input reads as it did. -/
def brokCodesSpec : ChangeSpec := { name := "brokCodes", fn := fun _ => fun
  | [d] => { results := [.lit (.bool true)], args := [d] }
  | _ => none }
def brokCodesRow : OpenClaim := { program := "ytofpbcakppjgcaagreatdoor", sum := "0fb829d34cc1e5beb5f6e014767be56e135135a36a087fd1ef29d45c1653c007", func := "waybill/waybilllaw20.BrokCodes", spec := "brokCodes", inPlace := ["internal/bytealg.CountString", "internal/bytealg.IndexByteString", "internal/bytealg.IndexString", "internal/bytealg.abigen_runtime_cmpstring"], unfollowed := true, recurses := true, named := ["unicode/utf8.first", "unicode/utf8.acceptRanges", "internal/bytealg.MaxLen"], plainKeys := false, apart := false, laid := [("unicode/utf8.acceptRanges", laid_unicode_utf8_acceptRanges), ("unicode/utf8.first", laid_unicode_utf8_first)] }
def BrokCodesSaid : Prop := brokCodesRow.holds Tryz.pinned (OpenSpec.ofChange brokCodesSpec)

/-- ITS FALSE NEIGHBOUR: 'it returns false'. Refute it at one input. -/
def brokCodesWrong : ChangeSpec := { name := "brokCodes", fn := fun _ => fun
  | [d] => { results := [.lit (.bool false)], args := [d] }
  | _ => none }
def BrokCodesWrongFalsely : Prop := brokCodesRow.holds Tryz.pinned (OpenSpec.ofChange brokCodesWrong)

/-- 'waybilllaw20.BrokPlays': WHATEVER THE INPUT: true; the input reads as it did. -/
def brokPlaysSpec : ChangeSpec := { name := "brokPlays", fn := fun _ => fun
  | [d] => { results := [.lit (.bool true)], args := [d] }
  | _ => none }
def brokPlaysRow : OpenClaim := { program := "ytofpbcakppjgcaagreatdoor", sum := "0fb829d34cc1e5beb5f6e014767be56e135135a36a087fd1ef29d45c1653c007", func := "waybill/waybilllaw20.BrokPlays", spec := "brokPlays", inPlace := ["internal/bytealg.CountString", "internal/bytealg.IndexByteString", "internal/bytealg.IndexString", "internal/bytealg.abigen_runtime_cmpstring", "maps.clone"], unfollowed := true, recurses := true, named := ["unicode/utf8.first", "unicode/utf8.acceptRanges", "internal/bytealg.MaxLen"], plainKeys := false, apart := false, laid := [("unicode/utf8.acceptRanges", laid_unicode_utf8_acceptRanges), ("unicode/utf8.first", laid_unicode_utf8_first)] }
def BrokPlaysSaid : Prop := brokPlaysRow.holds Tryz.pinned (OpenSpec.ofChange brokPlaysSpec)

/-- ITS FALSE NEIGHBOUR: 'it returns false'. Refute it at one input. -/
def brokPlaysWrong : ChangeSpec := { name := "brokPlays", fn := fun _ => fun
  | [d] => { results := [.lit (.bool false)], args := [d] }
  | _ => none }
def BrokPlaysWrongFalsely : Prop := brokPlaysRow.holds Tryz.pinned (OpenSpec.ofChange brokPlaysWrong)

/-- 'waybilllaw21.LoadRefuses': WHATEVER THE INPUT: true; the input reads as it did. -/
def loadRefusesSpec : ChangeSpec := { name := "loadRefuses", fn := fun _ => fun
  | [d] => { results := [.lit (.bool true)], args := [d] }
  | _ => none }
def loadRefusesRow : OpenClaim := { program := "ytofpbcakppjgcaagreatdoor", sum := "0fb829d34cc1e5beb5f6e014767be56e135135a36a087fd1ef29d45c1653c007", func := "waybill/waybilllaw21.LoadRefuses", spec := "loadRefuses", inPlace := ["internal/bytealg.CountString", "internal/bytealg.IndexByteString", "internal/bytealg.IndexString", "internal/bytealg.abigen_runtime_cmpstring"], unfollowed := true, recurses := true, named := ["unicode/utf8.first", "unicode/utf8.acceptRanges", "internal/bytealg.MaxLen"], plainKeys := false, apart := false, laid := [("unicode/utf8.acceptRanges", laid_unicode_utf8_acceptRanges), ("unicode/utf8.first", laid_unicode_utf8_first)] }
def LoadRefusesSaid : Prop := loadRefusesRow.holds Tryz.pinned (OpenSpec.ofChange loadRefusesSpec)

/-- ITS FALSE NEIGHBOUR: 'it returns false'. Refute it at one input. -/
def loadRefusesWrong : ChangeSpec := { name := "loadRefuses", fn := fun _ => fun
  | [d] => { results := [.lit (.bool false)], args := [d] }
  | _ => none }
def LoadRefusesWrongFalsely : Prop := loadRefusesRow.holds Tryz.pinned (OpenSpec.ofChange loadRefusesWrong)

/-- 'waybilllaw21.LoadTells': WHATEVER THE INPUT: true; the input reads as it did. -/
def loadTellsSpec : ChangeSpec := { name := "loadTells", fn := fun _ => fun
  | [d1, d2, d3, d4, d5] => { results := [.lit (.bool true)], args := [d1, d2, d3, d4, d5] }
  | _ => none }
def loadTellsRow : OpenClaim := { program := "ytofpbcakppjgcaagreatdoor", sum := "0fb829d34cc1e5beb5f6e014767be56e135135a36a087fd1ef29d45c1653c007", func := "waybill/waybilllaw21.LoadTells", spec := "loadTells", inPlace := ["internal/bytealg.CountString", "internal/bytealg.IndexByteString", "internal/bytealg.IndexString", "internal/bytealg.abigen_runtime_cmpstring"], unfollowed := true, recurses := true, named := ["unicode/utf8.first", "unicode/utf8.acceptRanges", "internal/bytealg.MaxLen"], plainKeys := false, apart := false, laid := [("unicode/utf8.acceptRanges", laid_unicode_utf8_acceptRanges), ("unicode/utf8.first", laid_unicode_utf8_first)] }
def LoadTellsSaid : Prop := loadTellsRow.holds Tryz.pinned (OpenSpec.ofChange loadTellsSpec)

/-- ITS FALSE NEIGHBOUR: 'it returns false'. Refute it at one input. -/
def loadTellsWrong : ChangeSpec := { name := "loadTells", fn := fun _ => fun
  | [d1, d2, d3, d4, d5] => { results := [.lit (.bool false)], args := [d1, d2, d3, d4, d5] }
  | _ => none }
def LoadTellsWrongFalsely : Prop := loadTellsRow.holds Tryz.pinned (OpenSpec.ofChange loadTellsWrong)

/- THE SECOND FORM. 'bulk': how many values and letters a reading holds, each counted each time it is reached (what is shared counts as often as it is met; a slice's spare places count too). A statement '..UptoSaid' is the law's where the arguments, and the package variables that the reading takes, are together of bulk at most 1048576: NARROWER than '..Said'. Prove '..Said' where nothing that the law and all that it calls make is longer than what came in: it says more and counts as full. Else prove '..UptoSaid'. A law counts once. -/
mutual
def uptoBulk {H : Type} : DataW H → Nat
  | .lit (.string bytes) => bytes.length + 1
  | .lit _ => 1
  | .nil => 1
  | .ptr d => uptoBulk d + 1
  | .slice elems spare => uptoBulkAll elems + uptoBulkAll spare + 1
  | .agg parts => uptoBulkAll parts + 1
  | .iface _ d => uptoBulk d + 1
  | .map entries => uptoBulkEntries entries + 1
  | .held _ => 1
def uptoBulkAll {H : Type} : List (DataW H) → Nat
  | [] => 0
  | d :: r => uptoBulk d + uptoBulkAll r
def uptoBulkEntries {H : Type} : List (Lit × DataW H) → Nat
  | [] => 0
  | x :: r => uptoBulkEntry x + uptoBulkEntries r
def uptoBulkEntry {H : Type} : Lit × DataW H → Nat
  | (.string bytes, d) => bytes.length + uptoBulk d + 1
  | (_, d) => uptoBulk d + 1
 end
def uptoSmall : (H : Type) → List (DataW H) → Bool := fun _ ds => decide (uptoBulkAll ds ≤ 1048576)
def OpenSpec.upto (s : _root_.Go.ChangeSpec) : _root_.Go.OpenSpec := { _root_.Go.OpenSpec.ofChange s with cond := some uptoSmall }

/-- 'waybilllaw20.BrokModes', WHERE WHAT IT READS IS OF BULK AT MOST 1048576: true; the input reads as it did. -/
def brokModesUptoRow : OpenClaim := { program := "ytofpbcakppjgcaagreatdoor", sum := "0fb829d34cc1e5beb5f6e014767be56e135135a36a087fd1ef29d45c1653c007", func := "waybill/waybilllaw20.BrokModes", spec := "brokModes", inPlace := ["internal/bytealg.CountString", "internal/bytealg.IndexByteString", "internal/bytealg.IndexString", "internal/bytealg.abigen_runtime_cmpstring"], unfollowed := true, recurses := true, named := ["unicode/utf8.first", "unicode/utf8.acceptRanges", "internal/bytealg.MaxLen"], plainKeys := false, apart := false, laid := [("unicode/utf8.acceptRanges", laid_unicode_utf8_acceptRanges), ("unicode/utf8.first", laid_unicode_utf8_first)], narrowed := true }
def BrokModesUptoSaid : Prop := brokModesUptoRow.holds Tryz.pinned (OpenSpec.upto brokModesSpec)

/-- 'waybilllaw20.BrokTakes', WHERE WHAT IT READS IS OF BULK AT MOST 1048576: true; the input reads as it did. -/
def brokTakesUptoRow : OpenClaim := { program := "ytofpbcakppjgcaagreatdoor", sum := "0fb829d34cc1e5beb5f6e014767be56e135135a36a087fd1ef29d45c1653c007", func := "waybill/waybilllaw20.BrokTakes", spec := "brokTakes", inPlace := ["internal/bytealg.CountString", "internal/bytealg.IndexByteString", "internal/bytealg.IndexString", "internal/bytealg.abigen_runtime_cmpstring"], unfollowed := true, recurses := true, named := ["unicode/utf8.first", "unicode/utf8.acceptRanges", "internal/bytealg.MaxLen"], plainKeys := false, apart := false, laid := [("unicode/utf8.acceptRanges", laid_unicode_utf8_acceptRanges), ("unicode/utf8.first", laid_unicode_utf8_first)], narrowed := true }
def BrokTakesUptoSaid : Prop := brokTakesUptoRow.holds Tryz.pinned (OpenSpec.upto brokTakesSpec)

/-- 'waybilllaw20.BrokKeeps', WHERE WHAT IT READS IS OF BULK AT MOST 1048576: true; the input reads as it did. -/
def brokKeepsUptoRow : OpenClaim := { program := "ytofpbcakppjgcaagreatdoor", sum := "0fb829d34cc1e5beb5f6e014767be56e135135a36a087fd1ef29d45c1653c007", func := "waybill/waybilllaw20.BrokKeeps", spec := "brokKeeps", inPlace := ["internal/bytealg.CountString", "internal/bytealg.IndexByteString", "internal/bytealg.IndexString", "internal/bytealg.abigen_runtime_cmpstring"], unfollowed := true, recurses := true, named := ["unicode/utf8.first", "unicode/utf8.acceptRanges", "internal/bytealg.MaxLen"], plainKeys := false, apart := false, laid := [("unicode/utf8.acceptRanges", laid_unicode_utf8_acceptRanges), ("unicode/utf8.first", laid_unicode_utf8_first)], narrowed := true }
def BrokKeepsUptoSaid : Prop := brokKeepsUptoRow.holds Tryz.pinned (OpenSpec.upto brokKeepsSpec)

/-- 'waybilllaw20.BrokSame', WHERE WHAT IT READS IS OF BULK AT MOST 1048576: true; the input reads as it did. -/
def brokSameUptoRow : OpenClaim := { program := "ytofpbcakppjgcaagreatdoor", sum := "0fb829d34cc1e5beb5f6e014767be56e135135a36a087fd1ef29d45c1653c007", func := "waybill/waybilllaw20.BrokSame", spec := "brokSame", inPlace := ["internal/bytealg.CountString", "internal/bytealg.IndexByteString", "internal/bytealg.IndexString", "internal/bytealg.abigen_runtime_cmpstring"], unfollowed := true, recurses := true, named := ["unicode/utf8.first", "unicode/utf8.acceptRanges", "internal/bytealg.MaxLen"], plainKeys := false, apart := false, laid := [("unicode/utf8.acceptRanges", laid_unicode_utf8_acceptRanges), ("unicode/utf8.first", laid_unicode_utf8_first)], narrowed := true }
def BrokSameUptoSaid : Prop := brokSameUptoRow.holds Tryz.pinned (OpenSpec.upto brokSameSpec)

/-- 'waybilllaw20.BrokGone', WHERE WHAT IT READS IS OF BULK AT MOST 1048576: true; the input reads as it did. -/
def brokGoneUptoRow : OpenClaim := { program := "ytofpbcakppjgcaagreatdoor", sum := "0fb829d34cc1e5beb5f6e014767be56e135135a36a087fd1ef29d45c1653c007", func := "waybill/waybilllaw20.BrokGone", spec := "brokGone", inPlace := ["internal/bytealg.CountString", "internal/bytealg.IndexByteString", "internal/bytealg.IndexString", "internal/bytealg.abigen_runtime_cmpstring"], unfollowed := true, recurses := true, named := ["unicode/utf8.first", "unicode/utf8.acceptRanges", "internal/bytealg.MaxLen"], plainKeys := false, apart := false, laid := [("unicode/utf8.acceptRanges", laid_unicode_utf8_acceptRanges), ("unicode/utf8.first", laid_unicode_utf8_first)], narrowed := true }
def BrokGoneUptoSaid : Prop := brokGoneUptoRow.holds Tryz.pinned (OpenSpec.upto brokGoneSpec)

/-- 'waybilllaw20.BrokOnce', WHERE WHAT IT READS IS OF BULK AT MOST 1048576: true; the input reads as it did. -/
def brokOnceUptoRow : OpenClaim := { program := "ytofpbcakppjgcaagreatdoor", sum := "0fb829d34cc1e5beb5f6e014767be56e135135a36a087fd1ef29d45c1653c007", func := "waybill/waybilllaw20.BrokOnce", spec := "brokOnce", inPlace := ["internal/bytealg.CountString", "internal/bytealg.IndexByteString", "internal/bytealg.IndexString", "internal/bytealg.abigen_runtime_cmpstring"], unfollowed := true, recurses := true, named := ["unicode/utf8.first", "unicode/utf8.acceptRanges", "internal/bytealg.MaxLen"], plainKeys := false, apart := false, laid := [("unicode/utf8.acceptRanges", laid_unicode_utf8_acceptRanges), ("unicode/utf8.first", laid_unicode_utf8_first)], narrowed := true }
def BrokOnceUptoSaid : Prop := brokOnceUptoRow.holds Tryz.pinned (OpenSpec.upto brokOnceSpec)

/-- 'waybilllaw20.BrokCodes', WHERE WHAT IT READS IS OF BULK AT MOST 1048576: true; the input reads as it did. -/
def brokCodesUptoRow : OpenClaim := { program := "ytofpbcakppjgcaagreatdoor", sum := "0fb829d34cc1e5beb5f6e014767be56e135135a36a087fd1ef29d45c1653c007", func := "waybill/waybilllaw20.BrokCodes", spec := "brokCodes", inPlace := ["internal/bytealg.CountString", "internal/bytealg.IndexByteString", "internal/bytealg.IndexString", "internal/bytealg.abigen_runtime_cmpstring"], unfollowed := true, recurses := true, named := ["unicode/utf8.first", "unicode/utf8.acceptRanges", "internal/bytealg.MaxLen"], plainKeys := false, apart := false, laid := [("unicode/utf8.acceptRanges", laid_unicode_utf8_acceptRanges), ("unicode/utf8.first", laid_unicode_utf8_first)], narrowed := true }
def BrokCodesUptoSaid : Prop := brokCodesUptoRow.holds Tryz.pinned (OpenSpec.upto brokCodesSpec)

/-- 'waybilllaw20.BrokPlays', WHERE WHAT IT READS IS OF BULK AT MOST 1048576: true; the input reads as it did. -/
def brokPlaysUptoRow : OpenClaim := { program := "ytofpbcakppjgcaagreatdoor", sum := "0fb829d34cc1e5beb5f6e014767be56e135135a36a087fd1ef29d45c1653c007", func := "waybill/waybilllaw20.BrokPlays", spec := "brokPlays", inPlace := ["internal/bytealg.CountString", "internal/bytealg.IndexByteString", "internal/bytealg.IndexString", "internal/bytealg.abigen_runtime_cmpstring", "maps.clone"], unfollowed := true, recurses := true, named := ["unicode/utf8.first", "unicode/utf8.acceptRanges", "internal/bytealg.MaxLen"], plainKeys := false, apart := false, laid := [("unicode/utf8.acceptRanges", laid_unicode_utf8_acceptRanges), ("unicode/utf8.first", laid_unicode_utf8_first)], narrowed := true }
def BrokPlaysUptoSaid : Prop := brokPlaysUptoRow.holds Tryz.pinned (OpenSpec.upto brokPlaysSpec)

/-- 'waybilllaw21.LoadRefuses', WHERE WHAT IT READS IS OF BULK AT MOST 1048576: true; the input reads as it did. -/
def loadRefusesUptoRow : OpenClaim := { program := "ytofpbcakppjgcaagreatdoor", sum := "0fb829d34cc1e5beb5f6e014767be56e135135a36a087fd1ef29d45c1653c007", func := "waybill/waybilllaw21.LoadRefuses", spec := "loadRefuses", inPlace := ["internal/bytealg.CountString", "internal/bytealg.IndexByteString", "internal/bytealg.IndexString", "internal/bytealg.abigen_runtime_cmpstring"], unfollowed := true, recurses := true, named := ["unicode/utf8.first", "unicode/utf8.acceptRanges", "internal/bytealg.MaxLen"], plainKeys := false, apart := false, laid := [("unicode/utf8.acceptRanges", laid_unicode_utf8_acceptRanges), ("unicode/utf8.first", laid_unicode_utf8_first)], narrowed := true }
def LoadRefusesUptoSaid : Prop := loadRefusesUptoRow.holds Tryz.pinned (OpenSpec.upto loadRefusesSpec)

/-- 'waybilllaw21.LoadTells', WHERE WHAT IT READS IS OF BULK AT MOST 1048576: true; the input reads as it did. -/
def loadTellsUptoRow : OpenClaim := { program := "ytofpbcakppjgcaagreatdoor", sum := "0fb829d34cc1e5beb5f6e014767be56e135135a36a087fd1ef29d45c1653c007", func := "waybill/waybilllaw21.LoadTells", spec := "loadTells", inPlace := ["internal/bytealg.CountString", "internal/bytealg.IndexByteString", "internal/bytealg.IndexString", "internal/bytealg.abigen_runtime_cmpstring"], unfollowed := true, recurses := true, named := ["unicode/utf8.first", "unicode/utf8.acceptRanges", "internal/bytealg.MaxLen"], plainKeys := false, apart := false, laid := [("unicode/utf8.acceptRanges", laid_unicode_utf8_acceptRanges), ("unicode/utf8.first", laid_unicode_utf8_first)], narrowed := true }
def LoadTellsUptoSaid : Prop := loadTellsUptoRow.holds Tryz.pinned (OpenSpec.upto loadTellsSpec)

end Rows
end Go.Proofs.YtofpbcakppjgcaaGreatDoor
