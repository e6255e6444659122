/-
  NARROWER THAN 'FOR EVERY INPUT', by the rows' own cells (each row's printed sentence says how): TopcJoins: laid · TopcTells: laid · TopcWords: laid · TopcStars: laid · TopcHash: laid.
  DERIVED. THE GIVEN ROWS OF THIS SEAT. 5 by the template 'for every input the law returns true; each argument reads behind the call as it read before'; 0 by the template 'total and deterministic' (their statements: YtpfnfmlibpoleaaDoorTotals.lean).
  GIVEN WITH THE SEED: the statements are not yours to turn. If you find one false, say at which input.
  Laid BY PROGRAM, IN A SANDBOX (cutbox-rows.mjs): the forced cells as the released guide's own fill.sh prints them over the translation 3ad0b86eb621caf7… (all of the seat's roots in one cut). By AI agents, Wed Nov 11 2026. No macro, syntax, notation, axiom, sorry.
-/
import Derived.Test.YtpfnfmlibpoleaaDoorChecked
import GoSem.PinnedTables
import GoSem.Claim
import GoSem.ClaimJoined
import GoSem.ClaimMapViews
import Derived.JoinedTies
import Derived.KernelRfl
namespace Go.Proofs.YtpfnfmlibpoleaaDoor
/- THE CELL 'sum', in the pinned program and in every row, IS THE sha256 OF THE DUMP (.gsa) THAT YtpfnfmlibpoleaaDoorProg.lean LOADS. Nothing in Lean hashes anything: it is a label: what it is worth is what the hold of that sum in a sandbox is worth. -/
noncomputable def Tryd.pinned : Pinned := { name := "ytpfnfmlibpoleaadoor", sum := "3ad0b86eb621caf79d75d95c8b9631dc70ed1b25176e4ab3c2e3715816028eda", checked := Tryd.checked }
namespace Rows
def none {H : Type} : Left H := { results := [], args := [] }

/- WHAT THE LISTED PACKAGE-LEVEL VARIABLES READ AS WHEN THE CALL BEGINS. Each datum BY PROGRAM (the guide's laid-datum.mjs) off the statement by which the dump's own 'gosem.cut.vars' lays the variable. In a bare row this is a premise. The card (YtpfnfmlibpoleaaDoorCards.lean) ties it to the program's text. -/
def laid_unicode_utf8_acceptRanges {H : Type} : DataW H := .agg [.agg [.lit (.int .u8 128), .lit (.int .u8 191)], .agg [.lit (.int .u8 160), .lit (.int .u8 191)], .agg [.lit (.int .u8 128), .lit (.int .u8 159)], .agg [.lit (.int .u8 144), .lit (.int .u8 191)], .agg [.lit (.int .u8 128), .lit (.int .u8 143)], .agg [.lit (.int .u8 0), .lit (.int .u8 0)], .agg [.lit (.int .u8 0), .lit (.int .u8 0)], .agg [.lit (.int .u8 0), .lit (.int .u8 0)], .agg [.lit (.int .u8 0), .lit (.int .u8 0)], .agg [.lit (.int .u8 0), .lit (.int .u8 0)], .agg [.lit (.int .u8 0), .lit (.int .u8 0)], .agg [.lit (.int .u8 0), .lit (.int .u8 0)], .agg [.lit (.int .u8 0), .lit (.int .u8 0)], .agg [.lit (.int .u8 0), .lit (.int .u8 0)], .agg [.lit (.int .u8 0), .lit (.int .u8 0)], .agg [.lit (.int .u8 0), .lit (.int .u8 0)]]
/-- One of Go's own tables, pinned by name: the form's constant. -/
def laid_unicode_utf8_first : DataW Unit := Go.Pinned.utf8First

/-- 'waybilllaw6.TopcJoins': WHATEVER THE INPUT: true; the input reads as it did. -/
def topcJoinsSpec : ChangeSpec := { name := "topcJoins", fn := fun _ => fun
  | [d1, d2, d3, d4] => { results := [.lit (.bool true)], args := [d1, d2, d3, d4] }
  | _ => none }
def topcJoinsRow : OpenClaim := { program := "ytpfnfmlibpoleaadoor", sum := "3ad0b86eb621caf79d75d95c8b9631dc70ed1b25176e4ab3c2e3715816028eda", func := "waybill/waybilllaw6.TopcJoins", spec := "topcJoins", inPlace := ["internal/bytealg.CountString", "internal/bytealg.IndexByteString", "internal/bytealg.IndexString"], named := ["unicode/utf8.first", "unicode/utf8.acceptRanges", "internal/bytealg.MaxLen"], apart := false, laid := [("unicode/utf8.acceptRanges", laid_unicode_utf8_acceptRanges), ("unicode/utf8.first", laid_unicode_utf8_first)] }
def TopcJoinsSaid : Prop := topcJoinsRow.holds Tryd.pinned (OpenSpec.ofChange topcJoinsSpec)

/-- ITS FALSE NEIGHBOUR: 'it returns false'. Refute it at one input. -/
def topcJoinsWrong : ChangeSpec := { name := "topcJoins", fn := fun _ => fun
  | [d1, d2, d3, d4] => { results := [.lit (.bool false)], args := [d1, d2, d3, d4] }
  | _ => none }
def TopcJoinsWrongFalsely : Prop := topcJoinsRow.holds Tryd.pinned (OpenSpec.ofChange topcJoinsWrong)

/-- 'waybilllaw6.TopcTells': WHATEVER THE INPUT: true; the input reads as it did. -/
def topcTellsSpec : ChangeSpec := { name := "topcTells", fn := fun _ => fun
  | [d1, d2] => { results := [.lit (.bool true)], args := [d1, d2] }
  | _ => none }
def topcTellsRow : OpenClaim := { program := "ytpfnfmlibpoleaadoor", sum := "3ad0b86eb621caf79d75d95c8b9631dc70ed1b25176e4ab3c2e3715816028eda", func := "waybill/waybilllaw6.TopcTells", spec := "topcTells", inPlace := ["internal/bytealg.CountString", "internal/bytealg.IndexByteString", "internal/bytealg.IndexString"], named := ["unicode/utf8.first", "unicode/utf8.acceptRanges", "internal/bytealg.MaxLen"], apart := false, laid := [("unicode/utf8.acceptRanges", laid_unicode_utf8_acceptRanges), ("unicode/utf8.first", laid_unicode_utf8_first)] }
def TopcTellsSaid : Prop := topcTellsRow.holds Tryd.pinned (OpenSpec.ofChange topcTellsSpec)

/-- ITS FALSE NEIGHBOUR: 'it returns false'. Refute it at one input. -/
def topcTellsWrong : ChangeSpec := { name := "topcTells", fn := fun _ => fun
  | [d1, d2] => { results := [.lit (.bool false)], args := [d1, d2] }
  | _ => none }
def TopcTellsWrongFalsely : Prop := topcTellsRow.holds Tryd.pinned (OpenSpec.ofChange topcTellsWrong)

/-- 'waybilllaw6.TopcWords': WHATEVER THE INPUT: true; the input reads as it did. -/
def topcWordsSpec : ChangeSpec := { name := "topcWords", fn := fun _ => fun
  | [d] => { results := [.lit (.bool true)], args := [d] }
  | _ => none }
def topcWordsRow : OpenClaim := { program := "ytpfnfmlibpoleaadoor", sum := "3ad0b86eb621caf79d75d95c8b9631dc70ed1b25176e4ab3c2e3715816028eda", func := "waybill/waybilllaw6.TopcWords", spec := "topcWords", inPlace := ["internal/bytealg.CountString", "internal/bytealg.IndexByteString", "internal/bytealg.IndexString"], named := ["unicode/utf8.first", "unicode/utf8.acceptRanges", "internal/bytealg.MaxLen"], apart := false, laid := [("unicode/utf8.acceptRanges", laid_unicode_utf8_acceptRanges), ("unicode/utf8.first", laid_unicode_utf8_first)] }
def TopcWordsSaid : Prop := topcWordsRow.holds Tryd.pinned (OpenSpec.ofChange topcWordsSpec)

/-- ITS FALSE NEIGHBOUR: 'it returns false'. Refute it at one input. -/
def topcWordsWrong : ChangeSpec := { name := "topcWords", fn := fun _ => fun
  | [d] => { results := [.lit (.bool false)], args := [d] }
  | _ => none }
def TopcWordsWrongFalsely : Prop := topcWordsRow.holds Tryd.pinned (OpenSpec.ofChange topcWordsWrong)

/-- 'waybilllaw6.TopcStars': WHATEVER THE INPUT: true; the input reads as it did. -/
def topcStarsSpec : ChangeSpec := { name := "topcStars", fn := fun _ => fun
  | [d1, d2, d3, d4] => { results := [.lit (.bool true)], args := [d1, d2, d3, d4] }
  | _ => none }
def topcStarsRow : OpenClaim := { program := "ytpfnfmlibpoleaadoor", sum := "3ad0b86eb621caf79d75d95c8b9631dc70ed1b25176e4ab3c2e3715816028eda", func := "waybill/waybilllaw6.TopcStars", spec := "topcStars", inPlace := ["internal/bytealg.CountString", "internal/bytealg.IndexByteString", "internal/bytealg.IndexString"], named := ["unicode/utf8.first", "unicode/utf8.acceptRanges", "internal/bytealg.MaxLen"], apart := false, laid := [("unicode/utf8.acceptRanges", laid_unicode_utf8_acceptRanges), ("unicode/utf8.first", laid_unicode_utf8_first)] }
def TopcStarsSaid : Prop := topcStarsRow.holds Tryd.pinned (OpenSpec.ofChange topcStarsSpec)

/-- ITS FALSE NEIGHBOUR: 'it returns false'. Refute it at one input. -/
def topcStarsWrong : ChangeSpec := { name := "topcStars", fn := fun _ => fun
  | [d1, d2, d3, d4] => { results := [.lit (.bool false)], args := [d1, d2, d3, d4] }
  | _ => none }
def TopcStarsWrongFalsely : Prop := topcStarsRow.holds Tryd.pinned (OpenSpec.ofChange topcStarsWrong)

/-- 'waybilllaw6.TopcHash': WHATEVER THE INPUT: true; the input reads as it did. -/
def topcHashSpec : ChangeSpec := { name := "topcHash", fn := fun _ => fun
  | [d1, d2, d3] => { results := [.lit (.bool true)], args := [d1, d2, d3] }
  | _ => none }
def topcHashRow : OpenClaim := { program := "ytpfnfmlibpoleaadoor", sum := "3ad0b86eb621caf79d75d95c8b9631dc70ed1b25176e4ab3c2e3715816028eda", func := "waybill/waybilllaw6.TopcHash", spec := "topcHash", inPlace := ["internal/bytealg.CountString", "internal/bytealg.IndexByteString", "internal/bytealg.IndexString"], named := ["unicode/utf8.first", "unicode/utf8.acceptRanges", "internal/bytealg.MaxLen"], apart := false, laid := [("unicode/utf8.acceptRanges", laid_unicode_utf8_acceptRanges), ("unicode/utf8.first", laid_unicode_utf8_first)] }
def TopcHashSaid : Prop := topcHashRow.holds Tryd.pinned (OpenSpec.ofChange topcHashSpec)

/-- ITS FALSE NEIGHBOUR: 'it returns false'. Refute it at one input. -/
def topcHashWrong : ChangeSpec := { name := "topcHash", fn := fun _ => fun
  | [d1, d2, d3] => { results := [.lit (.bool false)], args := [d1, d2, d3] }
  | _ => none }
def TopcHashWrongFalsely : Prop := topcHashRow.holds Tryd.pinned (OpenSpec.ofChange topcHashWrong)

/- THE SECOND FORM. 'bulk': how many values and letters a reading holds, each counted each time it is reached (what is shared counts as often as it is met; a slice's spare places count too). A statement '..UptoSaid' is the law's where the arguments, and the package variables that the reading takes, are together of bulk at most 1048576: NARROWER than '..Said'. Prove '..Said' where nothing that the law and all that it calls make is longer than what came in: it says more and counts as full. Else prove '..UptoSaid'. A law counts once. -/
mutual
def uptoBulk {H : Type} : DataW H → Nat
  | .lit (.string bytes) => bytes.length + 1
  | .lit _ => 1
  | .nil => 1
  | .ptr d => uptoBulk d + 1
  | .slice elems spare => uptoBulkAll elems + uptoBulkAll spare + 1
  | .agg parts => uptoBulkAll parts + 1
  | .iface _ d => uptoBulk d + 1
  | .map entries => uptoBulkEntries entries + 1
  | .held _ => 1
def uptoBulkAll {H : Type} : List (DataW H) → Nat
  | [] => 0
  | d :: r => uptoBulk d + uptoBulkAll r
def uptoBulkEntries {H : Type} : List (Lit × DataW H) → Nat
  | [] => 0
  | x :: r => uptoBulkEntry x + uptoBulkEntries r
def uptoBulkEntry {H : Type} : Lit × DataW H → Nat
  | (.string bytes, d) => bytes.length + uptoBulk d + 1
  | (_, d) => uptoBulk d + 1
 end
def uptoSmall : (H : Type) → List (DataW H) → Bool := fun _ ds => decide (uptoBulkAll ds ≤ 1048576)
def OpenSpec.upto (s : _root_.Go.ChangeSpec) : _root_.Go.OpenSpec := { _root_.Go.OpenSpec.ofChange s with cond := some uptoSmall }

/-- 'waybilllaw6.TopcJoins', WHERE WHAT IT READS IS OF BULK AT MOST 1048576: true; the input reads as it did. -/
def topcJoinsUptoRow : OpenClaim := { program := "ytpfnfmlibpoleaadoor", sum := "3ad0b86eb621caf79d75d95c8b9631dc70ed1b25176e4ab3c2e3715816028eda", func := "waybill/waybilllaw6.TopcJoins", spec := "topcJoins", inPlace := ["internal/bytealg.CountString", "internal/bytealg.IndexByteString", "internal/bytealg.IndexString"], named := ["unicode/utf8.first", "unicode/utf8.acceptRanges", "internal/bytealg.MaxLen"], apart := false, laid := [("unicode/utf8.acceptRanges", laid_unicode_utf8_acceptRanges), ("unicode/utf8.first", laid_unicode_utf8_first)], narrowed := true }
def TopcJoinsUptoSaid : Prop := topcJoinsUptoRow.holds Tryd.pinned (OpenSpec.upto topcJoinsSpec)

/-- 'waybilllaw6.TopcTells', WHERE WHAT IT READS IS OF BULK AT MOST 1048576: true; the input reads as it did. -/
def topcTellsUptoRow : OpenClaim := { program := "ytpfnfmlibpoleaadoor", sum := "3ad0b86eb621caf79d75d95c8b9631dc70ed1b25176e4ab3c2e3715816028eda", func := "waybill/waybilllaw6.TopcTells", spec := "topcTells", inPlace := ["internal/bytealg.CountString", "internal/bytealg.IndexByteString", "internal/bytealg.IndexString"], named := ["unicode/utf8.first", "unicode/utf8.acceptRanges", "internal/bytealg.MaxLen"], apart := false, laid := [("unicode/utf8.acceptRanges", laid_unicode_utf8_acceptRanges), ("unicode/utf8.first", laid_unicode_utf8_first)], narrowed := true }
def TopcTellsUptoSaid : Prop := topcTellsUptoRow.holds Tryd.pinned (OpenSpec.upto topcTellsSpec)

/-- 'waybilllaw6.TopcWords', WHERE WHAT IT READS IS OF BULK AT MOST 1048576: true; the input reads as it did. -/
def topcWordsUptoRow : OpenClaim := { program := "ytpfnfmlibpoleaadoor", sum := "3ad0b86eb621caf79d75d95c8b9631dc70ed1b25176e4ab3c2e3715816028eda", func := "waybill/waybilllaw6.TopcWords", spec := "topcWords", inPlace := ["internal/bytealg.CountString", "internal/bytealg.IndexByteString", "internal/bytealg.IndexString"], named := ["unicode/utf8.first", "unicode/utf8.acceptRanges", "internal/bytealg.MaxLen"], apart := false, laid := [("unicode/utf8.acceptRanges", laid_unicode_utf8_acceptRanges), ("unicode/utf8.first", laid_unicode_utf8_first)], narrowed := true }
def TopcWordsUptoSaid : Prop := topcWordsUptoRow.holds Tryd.pinned (OpenSpec.upto topcWordsSpec)

/-- 'waybilllaw6.TopcStars', WHERE WHAT IT READS IS OF BULK AT MOST 1048576: true; the input reads as it did. -/
def topcStarsUptoRow : OpenClaim := { program := "ytpfnfmlibpoleaadoor", sum := "3ad0b86eb621caf79d75d95c8b9631dc70ed1b25176e4ab3c2e3715816028eda", func := "waybill/waybilllaw6.TopcStars", spec := "topcStars", inPlace := ["internal/bytealg.CountString", "internal/bytealg.IndexByteString", "internal/bytealg.IndexString"], named := ["unicode/utf8.first", "unicode/utf8.acceptRanges", "internal/bytealg.MaxLen"], apart := false, laid := [("unicode/utf8.acceptRanges", laid_unicode_utf8_acceptRanges), ("unicode/utf8.first", laid_unicode_utf8_first)], narrowed := true }
def TopcStarsUptoSaid : Prop := topcStarsUptoRow.holds Tryd.pinned (OpenSpec.upto topcStarsSpec)

/-- 'waybilllaw6.TopcHash', WHERE WHAT IT READS IS OF BULK AT MOST 1048576: true; the input reads as it did. -/
def topcHashUptoRow : OpenClaim := { program := "ytpfnfmlibpoleaadoor", sum := "3ad0b86eb621caf79d75d95c8b9631dc70ed1b25176e4ab3c2e3715816028eda", func := "waybill/waybilllaw6.TopcHash", spec := "topcHash", inPlace := ["internal/bytealg.CountString", "internal/bytealg.IndexByteString", "internal/bytealg.IndexString"], named := ["unicode/utf8.first", "unicode/utf8.acceptRanges", "internal/bytealg.MaxLen"], apart := false, laid := [("unicode/utf8.acceptRanges", laid_unicode_utf8_acceptRanges), ("unicode/utf8.first", laid_unicode_utf8_first)], narrowed := true }
def TopcHashUptoSaid : Prop := topcHashUptoRow.holds Tryd.pinned (OpenSpec.upto topcHashSpec)

end Rows
end Go.Proofs.YtpfnfmlibpoleaaDoor
