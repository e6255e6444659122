/-
  NARROWER THAN 'FOR EVERY INPUT', by the rows' own cells (each row's printed sentence says how): MethTells: loops · MethBack: loops.
  DERIVED. THE GIVEN ROWS OF THIS SEAT. 10 by the template 'for every input the law returns true; each argument reads behind the call as it read before'; 0 by the template 'total and deterministic' (their statements: YtpfnfmlibpoleaaTotals.lean).
  GIVEN WITH THE SEED: the statements are not yours to turn. If you find one false, say at which input.
  Laid BY PROGRAM, IN A SANDBOX (cutbox-rows.mjs): the forced cells as the released guide's own fill.sh prints them over the translation e0cf7e0340813136… (all of the seat's roots in one cut). By AI agents, Wed Nov 11 2026. No macro, syntax, notation, axiom, sorry.
-/
import Derived.Test.YtpfnfmlibpoleaaChecked
import GoSem.Claim
import GoSem.ClaimJoined
import GoSem.ClaimMapViews
import Derived.JoinedTies
import Derived.KernelRfl
namespace Go.Proofs.Ytpfnfmlibpoleaa
/- THE CELL 'sum', in the pinned program and in every row, IS THE sha256 OF THE DUMP (.gsa) THAT YtpfnfmlibpoleaaProg.lean LOADS. Nothing in Lean hashes anything: it is a label: what it is worth is what the hold of that sum in a sandbox is worth. -/
noncomputable def Try.pinned : Pinned := { name := "ytpfnfmlibpoleaa", sum := "e0cf7e034081313666a1948fb331e162f95654fe21fe53c76b3d21cf9e634889", checked := Try.checked }
namespace Rows
def none {H : Type} : Left H := { results := [], args := [] }

/-- 'waybilllaw23.CodeHard': WHATEVER THE INPUT: true; the input reads as it did. -/
def codeHardSpec : ChangeSpec := { name := "codeHard", fn := fun _ => fun
  | [d] => { results := [.lit (.bool true)], args := [d] }
  | _ => none }
def codeHardRow : OpenClaim := { program := "ytpfnfmlibpoleaa", sum := "e0cf7e034081313666a1948fb331e162f95654fe21fe53c76b3d21cf9e634889", func := "waybill/waybilllaw23.CodeHard", spec := "codeHard", plainKeys := false, apart := false }
def CodeHardSaid : Prop := codeHardRow.holds Try.pinned (OpenSpec.ofChange codeHardSpec)

/-- ITS FALSE NEIGHBOUR: 'it returns false'. Refute it at one input. -/
def codeHardWrong : ChangeSpec := { name := "codeHard", fn := fun _ => fun
  | [d] => { results := [.lit (.bool false)], args := [d] }
  | _ => none }
def CodeHardWrongFalsely : Prop := codeHardRow.holds Try.pinned (OpenSpec.ofChange codeHardWrong)

/-- 'waybilllaw23.CodeTells': WHATEVER THE INPUT: true; the input reads as it did. -/
def codeTellsSpec : ChangeSpec := { name := "codeTells", fn := fun _ => fun
  | [d1, d2] => { results := [.lit (.bool true)], args := [d1, d2] }
  | _ => none }
def codeTellsRow : OpenClaim := { program := "ytpfnfmlibpoleaa", sum := "e0cf7e034081313666a1948fb331e162f95654fe21fe53c76b3d21cf9e634889", func := "waybill/waybilllaw23.CodeTells", spec := "codeTells", plainKeys := false, apart := false }
def CodeTellsSaid : Prop := codeTellsRow.holds Try.pinned (OpenSpec.ofChange codeTellsSpec)

/-- ITS FALSE NEIGHBOUR: 'it returns false'. Refute it at one input. -/
def codeTellsWrong : ChangeSpec := { name := "codeTells", fn := fun _ => fun
  | [d1, d2] => { results := [.lit (.bool false)], args := [d1, d2] }
  | _ => none }
def CodeTellsWrongFalsely : Prop := codeTellsRow.holds Try.pinned (OpenSpec.ofChange codeTellsWrong)

/-- 'waybilllaw4.MethFlags': WHATEVER THE INPUT: true; the input reads as it did. -/
def methFlagsSpec : ChangeSpec := { name := "methFlags", fn := fun _ => fun
  | [d1, d2] => { results := [.lit (.bool true)], args := [d1, d2] }
  | _ => none }
def methFlagsRow : OpenClaim := { program := "ytpfnfmlibpoleaa", sum := "e0cf7e034081313666a1948fb331e162f95654fe21fe53c76b3d21cf9e634889", func := "waybill/waybilllaw4.MethFlags", spec := "methFlags", recurses := true, plainKeys := false, apart := false }
def MethFlagsSaid : Prop := methFlagsRow.holds Try.pinned (OpenSpec.ofChange methFlagsSpec)

/-- ITS FALSE NEIGHBOUR: 'it returns false'. Refute it at one input. -/
def methFlagsWrong : ChangeSpec := { name := "methFlags", fn := fun _ => fun
  | [d1, d2] => { results := [.lit (.bool false)], args := [d1, d2] }
  | _ => none }
def MethFlagsWrongFalsely : Prop := methFlagsRow.holds Try.pinned (OpenSpec.ofChange methFlagsWrong)

/-- 'waybilllaw4.MethNames': WHATEVER THE INPUT: true; the input reads as it did. -/
def methNamesSpec : ChangeSpec := { name := "methNames", fn := fun _ => fun
  | [d1, d2, d3, d4] => { results := [.lit (.bool true)], args := [d1, d2, d3, d4] }
  | _ => none }
def methNamesRow : OpenClaim := { program := "ytpfnfmlibpoleaa", sum := "e0cf7e034081313666a1948fb331e162f95654fe21fe53c76b3d21cf9e634889", func := "waybill/waybilllaw4.MethNames", spec := "methNames", recurses := true, plainKeys := false, apart := false }
def MethNamesSaid : Prop := methNamesRow.holds Try.pinned (OpenSpec.ofChange methNamesSpec)

/-- ITS FALSE NEIGHBOUR: 'it returns false'. Refute it at one input. -/
def methNamesWrong : ChangeSpec := { name := "methNames", fn := fun _ => fun
  | [d1, d2, d3, d4] => { results := [.lit (.bool false)], args := [d1, d2, d3, d4] }
  | _ => none }
def MethNamesWrongFalsely : Prop := methNamesRow.holds Try.pinned (OpenSpec.ofChange methNamesWrong)

/-- 'waybilllaw4.MethTells': WHATEVER THE INPUT: true; the input reads as it did. -/
def methTellsSpec : ChangeSpec := { name := "methTells", fn := fun _ => fun
  | [d1, d2, d3, d4, d5, d6, d7, d8, d9, d10] => { results := [.lit (.bool true)], args := [d1, d2, d3, d4, d5, d6, d7, d8, d9, d10] }
  | _ => none }
def methTellsRow : OpenClaim := { program := "ytpfnfmlibpoleaa", sum := "e0cf7e034081313666a1948fb331e162f95654fe21fe53c76b3d21cf9e634889", func := "waybill/waybilllaw4.MethTells", spec := "methTells", recurses := true, loops := true, plainKeys := false, apart := false }
def MethTellsSaid : Prop := methTellsRow.holds Try.pinned (OpenSpec.ofChange methTellsSpec)

/-- ITS FALSE NEIGHBOUR: 'it returns false'. Refute it at one input. -/
def methTellsWrong : ChangeSpec := { name := "methTells", fn := fun _ => fun
  | [d1, d2, d3, d4, d5, d6, d7, d8, d9, d10] => { results := [.lit (.bool false)], args := [d1, d2, d3, d4, d5, d6, d7, d8, d9, d10] }
  | _ => none }
def MethTellsWrongFalsely : Prop := methTellsRow.holds Try.pinned (OpenSpec.ofChange methTellsWrong)

/-- 'waybilllaw4.MethBack': WHATEVER THE INPUT: true; the input reads as it did. -/
def methBackSpec : ChangeSpec := { name := "methBack", fn := fun _ => fun
  | [d1, d2, d3, d4, d5] => { results := [.lit (.bool true)], args := [d1, d2, d3, d4, d5] }
  | _ => none }
def methBackRow : OpenClaim := { program := "ytpfnfmlibpoleaa", sum := "e0cf7e034081313666a1948fb331e162f95654fe21fe53c76b3d21cf9e634889", func := "waybill/waybilllaw4.MethBack", spec := "methBack", recurses := true, loops := true, plainKeys := false, apart := false }
def MethBackSaid : Prop := methBackRow.holds Try.pinned (OpenSpec.ofChange methBackSpec)

/-- ITS FALSE NEIGHBOUR: 'it returns false'. Refute it at one input. -/
def methBackWrong : ChangeSpec := { name := "methBack", fn := fun _ => fun
  | [d1, d2, d3, d4, d5] => { results := [.lit (.bool false)], args := [d1, d2, d3, d4, d5] }
  | _ => none }
def MethBackWrongFalsely : Prop := methBackRow.holds Try.pinned (OpenSpec.ofChange methBackWrong)

/-- 'waybilllaw4.MethForms': WHATEVER THE INPUT: true; the input reads as it did. -/
def methFormsSpec : ChangeSpec := { name := "methForms", fn := fun _ => fun
  | [d1, d2] => { results := [.lit (.bool true)], args := [d1, d2] }
  | _ => none }
def methFormsRow : OpenClaim := { program := "ytpfnfmlibpoleaa", sum := "e0cf7e034081313666a1948fb331e162f95654fe21fe53c76b3d21cf9e634889", func := "waybill/waybilllaw4.MethForms", spec := "methForms", recurses := true, plainKeys := false, apart := false }
def MethFormsSaid : Prop := methFormsRow.holds Try.pinned (OpenSpec.ofChange methFormsSpec)

/-- ITS FALSE NEIGHBOUR: 'it returns false'. Refute it at one input. -/
def methFormsWrong : ChangeSpec := { name := "methForms", fn := fun _ => fun
  | [d1, d2] => { results := [.lit (.bool false)], args := [d1, d2] }
  | _ => none }
def MethFormsWrongFalsely : Prop := methFormsRow.holds Try.pinned (OpenSpec.ofChange methFormsWrong)

/-- 'waybilllaw4.MethAsks': WHATEVER THE INPUT: true; the input reads as it did. -/
def methAsksSpec : ChangeSpec := { name := "methAsks", fn := fun _ => fun
  | [d1, d2, d3, d4, d5] => { results := [.lit (.bool true)], args := [d1, d2, d3, d4, d5] }
  | _ => none }
def methAsksRow : OpenClaim := { program := "ytpfnfmlibpoleaa", sum := "e0cf7e034081313666a1948fb331e162f95654fe21fe53c76b3d21cf9e634889", func := "waybill/waybilllaw4.MethAsks", spec := "methAsks", recurses := true, plainKeys := false, apart := false }
def MethAsksSaid : Prop := methAsksRow.holds Try.pinned (OpenSpec.ofChange methAsksSpec)

/-- ITS FALSE NEIGHBOUR: 'it returns false'. Refute it at one input. -/
def methAsksWrong : ChangeSpec := { name := "methAsks", fn := fun _ => fun
  | [d1, d2, d3, d4, d5] => { results := [.lit (.bool false)], args := [d1, d2, d3, d4, d5] }
  | _ => none }
def MethAsksWrongFalsely : Prop := methAsksRow.holds Try.pinned (OpenSpec.ofChange methAsksWrong)

/-- 'waybilllaw24.ChansWrong': WHATEVER THE INPUT: true; the input reads as it did. -/
def chansWrongSpec : ChangeSpec := { name := "chansWrong", fn := fun _ => fun
  | [d1, d2] => { results := [.lit (.bool true)], args := [d1, d2] }
  | _ => none }
def chansWrongRow : OpenClaim := { program := "ytpfnfmlibpoleaa", sum := "e0cf7e034081313666a1948fb331e162f95654fe21fe53c76b3d21cf9e634889", func := "waybill/waybilllaw24.ChansWrong", spec := "chansWrong", recurses := true, plainKeys := false, apart := false }
def ChansWrongSaid : Prop := chansWrongRow.holds Try.pinned (OpenSpec.ofChange chansWrongSpec)

/-- ITS FALSE NEIGHBOUR: 'it returns false'. Refute it at one input. -/
def chansWrongWrong : ChangeSpec := { name := "chansWrong", fn := fun _ => fun
  | [d1, d2] => { results := [.lit (.bool false)], args := [d1, d2] }
  | _ => none }
def ChansWrongWrongFalsely : Prop := chansWrongRow.holds Try.pinned (OpenSpec.ofChange chansWrongWrong)

/-- 'waybilllaw24.ChansParts': WHATEVER THE INPUT: true; the input reads as it did. -/
def chansPartsSpec : ChangeSpec := { name := "chansParts", fn := fun _ => fun
  | [d1, d2, d3] => { results := [.lit (.bool true)], args := [d1, d2, d3] }
  | _ => none }
def chansPartsRow : OpenClaim := { program := "ytpfnfmlibpoleaa", sum := "e0cf7e034081313666a1948fb331e162f95654fe21fe53c76b3d21cf9e634889", func := "waybill/waybilllaw24.ChansParts", spec := "chansParts", recurses := true, plainKeys := false, apart := false }
def ChansPartsSaid : Prop := chansPartsRow.holds Try.pinned (OpenSpec.ofChange chansPartsSpec)

/-- ITS FALSE NEIGHBOUR: 'it returns false'. Refute it at one input. -/
def chansPartsWrong : ChangeSpec := { name := "chansParts", fn := fun _ => fun
  | [d1, d2, d3] => { results := [.lit (.bool false)], args := [d1, d2, d3] }
  | _ => none }
def ChansPartsWrongFalsely : Prop := chansPartsRow.holds Try.pinned (OpenSpec.ofChange chansPartsWrong)

/- THE SECOND FORM. 'bulk': how many values and letters a reading holds, each counted each time it is reached (what is shared counts as often as it is met; a slice's spare places count too). A statement '..UptoSaid' is the law's where the arguments, and the package variables that the reading takes, are together of bulk at most 1048576: NARROWER than '..Said'. Prove '..Said' where nothing that the law and all that it calls make is longer than what came in: it says more and counts as full. Else prove '..UptoSaid'. A law counts once. -/
mutual
def uptoBulk {H : Type} : DataW H → Nat
  | .lit (.string bytes) => bytes.length + 1
  | .lit _ => 1
  | .nil => 1
  | .ptr d => uptoBulk d + 1
  | .slice elems spare => uptoBulkAll elems + uptoBulkAll spare + 1
  | .agg parts => uptoBulkAll parts + 1
  | .iface _ d => uptoBulk d + 1
  | .map entries => uptoBulkEntries entries + 1
  | .held _ => 1
def uptoBulkAll {H : Type} : List (DataW H) → Nat
  | [] => 0
  | d :: r => uptoBulk d + uptoBulkAll r
def uptoBulkEntries {H : Type} : List (Lit × DataW H) → Nat
  | [] => 0
  | x :: r => uptoBulkEntry x + uptoBulkEntries r
def uptoBulkEntry {H : Type} : Lit × DataW H → Nat
  | (.string bytes, d) => bytes.length + uptoBulk d + 1
  | (_, d) => uptoBulk d + 1
 end
def uptoSmall : (H : Type) → List (DataW H) → Bool := fun _ ds => decide (uptoBulkAll ds ≤ 1048576)
def OpenSpec.upto (s : _root_.Go.ChangeSpec) : _root_.Go.OpenSpec := { _root_.Go.OpenSpec.ofChange s with cond := some uptoSmall }

/-- 'waybilllaw23.CodeHard', WHERE WHAT IT READS IS OF BULK AT MOST 1048576: true; the input reads as it did. -/
def codeHardUptoRow : OpenClaim := { program := "ytpfnfmlibpoleaa", sum := "e0cf7e034081313666a1948fb331e162f95654fe21fe53c76b3d21cf9e634889", func := "waybill/waybilllaw23.CodeHard", spec := "codeHard", plainKeys := false, apart := false, narrowed := true }
def CodeHardUptoSaid : Prop := codeHardUptoRow.holds Try.pinned (OpenSpec.upto codeHardSpec)

/-- 'waybilllaw23.CodeTells', WHERE WHAT IT READS IS OF BULK AT MOST 1048576: true; the input reads as it did. -/
def codeTellsUptoRow : OpenClaim := { program := "ytpfnfmlibpoleaa", sum := "e0cf7e034081313666a1948fb331e162f95654fe21fe53c76b3d21cf9e634889", func := "waybill/waybilllaw23.CodeTells", spec := "codeTells", plainKeys := false, apart := false, narrowed := true }
def CodeTellsUptoSaid : Prop := codeTellsUptoRow.holds Try.pinned (OpenSpec.upto codeTellsSpec)

/-- 'waybilllaw4.MethFlags', WHERE WHAT IT READS IS OF BULK AT MOST 1048576: true; the input reads as it did. -/
def methFlagsUptoRow : OpenClaim := { program := "ytpfnfmlibpoleaa", sum := "e0cf7e034081313666a1948fb331e162f95654fe21fe53c76b3d21cf9e634889", func := "waybill/waybilllaw4.MethFlags", spec := "methFlags", recurses := true, plainKeys := false, apart := false, narrowed := true }
def MethFlagsUptoSaid : Prop := methFlagsUptoRow.holds Try.pinned (OpenSpec.upto methFlagsSpec)

/-- 'waybilllaw4.MethNames', WHERE WHAT IT READS IS OF BULK AT MOST 1048576: true; the input reads as it did. -/
def methNamesUptoRow : OpenClaim := { program := "ytpfnfmlibpoleaa", sum := "e0cf7e034081313666a1948fb331e162f95654fe21fe53c76b3d21cf9e634889", func := "waybill/waybilllaw4.MethNames", spec := "methNames", recurses := true, plainKeys := false, apart := false, narrowed := true }
def MethNamesUptoSaid : Prop := methNamesUptoRow.holds Try.pinned (OpenSpec.upto methNamesSpec)

/-- 'waybilllaw4.MethTells', WHERE WHAT IT READS IS OF BULK AT MOST 1048576: true; the input reads as it did. -/
def methTellsUptoRow : OpenClaim := { program := "ytpfnfmlibpoleaa", sum := "e0cf7e034081313666a1948fb331e162f95654fe21fe53c76b3d21cf9e634889", func := "waybill/waybilllaw4.MethTells", spec := "methTells", recurses := true, loops := true, plainKeys := false, apart := false, narrowed := true }
def MethTellsUptoSaid : Prop := methTellsUptoRow.holds Try.pinned (OpenSpec.upto methTellsSpec)

/-- 'waybilllaw4.MethBack', WHERE WHAT IT READS IS OF BULK AT MOST 1048576: true; the input reads as it did. -/
def methBackUptoRow : OpenClaim := { program := "ytpfnfmlibpoleaa", sum := "e0cf7e034081313666a1948fb331e162f95654fe21fe53c76b3d21cf9e634889", func := "waybill/waybilllaw4.MethBack", spec := "methBack", recurses := true, loops := true, plainKeys := false, apart := false, narrowed := true }
def MethBackUptoSaid : Prop := methBackUptoRow.holds Try.pinned (OpenSpec.upto methBackSpec)

/-- 'waybilllaw4.MethForms', WHERE WHAT IT READS IS OF BULK AT MOST 1048576: true; the input reads as it did. -/
def methFormsUptoRow : OpenClaim := { program := "ytpfnfmlibpoleaa", sum := "e0cf7e034081313666a1948fb331e162f95654fe21fe53c76b3d21cf9e634889", func := "waybill/waybilllaw4.MethForms", spec := "methForms", recurses := true, plainKeys := false, apart := false, narrowed := true }
def MethFormsUptoSaid : Prop := methFormsUptoRow.holds Try.pinned (OpenSpec.upto methFormsSpec)

/-- 'waybilllaw4.MethAsks', WHERE WHAT IT READS IS OF BULK AT MOST 1048576: true; the input reads as it did. -/
def methAsksUptoRow : OpenClaim := { program := "ytpfnfmlibpoleaa", sum := "e0cf7e034081313666a1948fb331e162f95654fe21fe53c76b3d21cf9e634889", func := "waybill/waybilllaw4.MethAsks", spec := "methAsks", recurses := true, plainKeys := false, apart := false, narrowed := true }
def MethAsksUptoSaid : Prop := methAsksUptoRow.holds Try.pinned (OpenSpec.upto methAsksSpec)

/-- 'waybilllaw24.ChansWrong', WHERE WHAT IT READS IS OF BULK AT MOST 1048576: true; the input reads as it did. -/
def chansWrongUptoRow : OpenClaim := { program := "ytpfnfmlibpoleaa", sum := "e0cf7e034081313666a1948fb331e162f95654fe21fe53c76b3d21cf9e634889", func := "waybill/waybilllaw24.ChansWrong", spec := "chansWrong", recurses := true, plainKeys := false, apart := false, narrowed := true }
def ChansWrongUptoSaid : Prop := chansWrongUptoRow.holds Try.pinned (OpenSpec.upto chansWrongSpec)

/-- 'waybilllaw24.ChansParts', WHERE WHAT IT READS IS OF BULK AT MOST 1048576: true; the input reads as it did. -/
def chansPartsUptoRow : OpenClaim := { program := "ytpfnfmlibpoleaa", sum := "e0cf7e034081313666a1948fb331e162f95654fe21fe53c76b3d21cf9e634889", func := "waybill/waybilllaw24.ChansParts", spec := "chansParts", recurses := true, plainKeys := false, apart := false, narrowed := true }
def ChansPartsUptoSaid : Prop := chansPartsUptoRow.holds Try.pinned (OpenSpec.upto chansPartsSpec)

end Rows
end Go.Proofs.Ytpfnfmlibpoleaa
