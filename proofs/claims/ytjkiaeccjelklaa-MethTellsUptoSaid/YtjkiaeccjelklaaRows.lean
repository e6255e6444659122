/-
  NARROWER THAN 'FOR EVERY INPUT', by the rows' own cells (each row's printed sentence says how): MethTells: loops · MethBack: loops.
  DERIVED. THE GIVEN ROWS OF THIS SEAT. 2 by the template 'for every input the law returns true; each argument reads behind the call as it read before'; 0 by the template 'total and deterministic' (their statements: YtjkiaeccjelklaaTotals.lean).
  GIVEN WITH THE SEED: the statements are not yours to turn. If you find one false, say at which input.
  Laid BY PROGRAM, IN A SANDBOX (cutbox-rows.mjs): the forced cells as the released guide's own fill.sh prints them over the translation 41753829976a2273… (all of the seat's roots in one cut). By AI agents, Wed Nov 11 2026. No macro, syntax, notation, axiom, sorry.
-/
import Derived.Test.YtjkiaeccjelklaaChecked
import GoSem.Claim
import GoSem.ClaimJoined
import GoSem.ClaimMapViews
import Derived.JoinedTies
import Derived.KernelRfl
namespace Go.Proofs.Ytjkiaeccjelklaa
/- THE CELL 'sum', in the pinned program and in every row, IS THE sha256 OF THE DUMP (.gsa) THAT YtjkiaeccjelklaaProg.lean LOADS. Nothing in Lean hashes anything: it is a label: what it is worth is what the hold of that sum in a sandbox is worth. -/
noncomputable def Try.pinned : Pinned := { name := "ytjkiaeccjelklaa", sum := "41753829976a22732de5a3a2e3b0b1429d4b9e4f826e3e15c1d1acf6337ba9b5", checked := Try.checked }
namespace Rows
def none {H : Type} : Left H := { results := [], args := [] }

/-- 'waybilllaw4.MethTells': WHATEVER THE INPUT: true; the input reads as it did. -/
def methTellsSpec : ChangeSpec := { name := "methTells", fn := fun _ => fun
  | [d1, d2, d3, d4, d5, d6, d7, d8, d9, d10] => { results := [.lit (.bool true)], args := [d1, d2, d3, d4, d5, d6, d7, d8, d9, d10] }
  | _ => none }
def methTellsRow : OpenClaim := { program := "ytjkiaeccjelklaa", sum := "41753829976a22732de5a3a2e3b0b1429d4b9e4f826e3e15c1d1acf6337ba9b5", func := "waybill/waybilllaw4.MethTells", spec := "methTells", recurses := true, loops := true, plainKeys := false, apart := false }
def MethTellsSaid : Prop := methTellsRow.holds Try.pinned (OpenSpec.ofChange methTellsSpec)

/-- ITS FALSE NEIGHBOUR: 'it returns false'. Refute it at one input. -/
def methTellsWrong : ChangeSpec := { name := "methTells", fn := fun _ => fun
  | [d1, d2, d3, d4, d5, d6, d7, d8, d9, d10] => { results := [.lit (.bool false)], args := [d1, d2, d3, d4, d5, d6, d7, d8, d9, d10] }
  | _ => none }
def MethTellsWrongFalsely : Prop := methTellsRow.holds Try.pinned (OpenSpec.ofChange methTellsWrong)

/-- 'waybilllaw4.MethBack': WHATEVER THE INPUT: true; the input reads as it did. -/
def methBackSpec : ChangeSpec := { name := "methBack", fn := fun _ => fun
  | [d1, d2, d3, d4, d5] => { results := [.lit (.bool true)], args := [d1, d2, d3, d4, d5] }
  | _ => none }
def methBackRow : OpenClaim := { program := "ytjkiaeccjelklaa", sum := "41753829976a22732de5a3a2e3b0b1429d4b9e4f826e3e15c1d1acf6337ba9b5", func := "waybill/waybilllaw4.MethBack", spec := "methBack", recurses := true, loops := true, plainKeys := false, apart := false }
def MethBackSaid : Prop := methBackRow.holds Try.pinned (OpenSpec.ofChange methBackSpec)

/-- ITS FALSE NEIGHBOUR: 'it returns false'. Refute it at one input. -/
def methBackWrong : ChangeSpec := { name := "methBack", fn := fun _ => fun
  | [d1, d2, d3, d4, d5] => { results := [.lit (.bool false)], args := [d1, d2, d3, d4, d5] }
  | _ => none }
def MethBackWrongFalsely : Prop := methBackRow.holds Try.pinned (OpenSpec.ofChange methBackWrong)

/- THE SECOND FORM. 'bulk': how many values and letters a reading holds, each counted each time it is reached (what is shared counts as often as it is met; a slice's spare places count too). A statement '..UptoSaid' is the law's where the arguments, and the package variables that the reading takes, are together of bulk at most 1048576: NARROWER than '..Said'. Prove '..Said' where nothing that the law and all that it calls make is longer than what came in: it says more and counts as full. Else prove '..UptoSaid'. A law counts once. -/
mutual
def uptoBulk {H : Type} : DataW H → Nat
  | .lit (.string bytes) => bytes.length + 1
  | .lit _ => 1
  | .nil => 1
  | .ptr d => uptoBulk d + 1
  | .slice elems spare => uptoBulkAll elems + uptoBulkAll spare + 1
  | .agg parts => uptoBulkAll parts + 1
  | .iface _ d => uptoBulk d + 1
  | .map entries => uptoBulkEntries entries + 1
  | .held _ => 1
def uptoBulkAll {H : Type} : List (DataW H) → Nat
  | [] => 0
  | d :: r => uptoBulk d + uptoBulkAll r
def uptoBulkEntries {H : Type} : List (Lit × DataW H) → Nat
  | [] => 0
  | x :: r => uptoBulkEntry x + uptoBulkEntries r
def uptoBulkEntry {H : Type} : Lit × DataW H → Nat
  | (.string bytes, d) => bytes.length + uptoBulk d + 1
  | (_, d) => uptoBulk d + 1
 end
def uptoSmall : (H : Type) → List (DataW H) → Bool := fun _ ds => decide (uptoBulkAll ds ≤ 1048576)
def OpenSpec.upto (s : _root_.Go.ChangeSpec) : _root_.Go.OpenSpec := { _root_.Go.OpenSpec.ofChange s with cond := some uptoSmall }

/-- 'waybilllaw4.MethTells', WHERE WHAT IT READS IS OF BULK AT MOST 1048576: true; the input reads as it did. -/
def methTellsUptoRow : OpenClaim := { program := "ytjkiaeccjelklaa", sum := "41753829976a22732de5a3a2e3b0b1429d4b9e4f826e3e15c1d1acf6337ba9b5", func := "waybill/waybilllaw4.MethTells", spec := "methTells", recurses := true, loops := true, plainKeys := false, apart := false, narrowed := true }
def MethTellsUptoSaid : Prop := methTellsUptoRow.holds Try.pinned (OpenSpec.upto methTellsSpec)

/-- 'waybilllaw4.MethBack', WHERE WHAT IT READS IS OF BULK AT MOST 1048576: true; the input reads as it did. -/
def methBackUptoRow : OpenClaim := { program := "ytjkiaeccjelklaa", sum := "41753829976a22732de5a3a2e3b0b1429d4b9e4f826e3e15c1d1acf6337ba9b5", func := "waybill/waybilllaw4.MethBack", spec := "methBack", recurses := true, loops := true, plainKeys := false, apart := false, narrowed := true }
def MethBackUptoSaid : Prop := methBackUptoRow.holds Try.pinned (OpenSpec.upto methBackSpec)

end Rows
end Go.Proofs.Ytjkiaeccjelklaa
