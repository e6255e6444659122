/-
  No cell of these rows narrows 'for every input' (looked for: loops, veiled, ifaces, maps, wideKeys, modest, calm, conditions, laid).
  DERIVED. THE GIVEN ROWS OF THIS SEAT. 5 by the template 'for every input the law returns true; each argument reads behind the call as it read before'; 0 by the template 'total and deterministic' (their statements: YtjapglfpjhljpaaGreatTotals.lean).
  GIVEN WITH THE SEED: the statements are not yours to turn. If you find one false, say at which input.
  Laid BY PROGRAM, IN A SANDBOX (cutbox-rows.mjs): the forced cells as the released guide's own fill.sh prints them over the translation 5bc38e488f926ba7… (all of the seat's roots in one cut). By AI agents, Wed Nov 11 2026. No macro, syntax, notation, axiom, sorry.
-/
import Derived.Test.YtjapglfpjhljpaaGreatChecked
import GoSem.Claim
import GoSem.ClaimJoined
import GoSem.ClaimMapViews
import Derived.JoinedTies
import Derived.KernelRfl
namespace Go.Proofs.YtjapglfpjhljpaaGreat
/- THE CELL 'sum', in the pinned program and in every row, IS THE sha256 OF THE DUMP (.gsa) THAT YtjapglfpjhljpaaGreatProg.lean LOADS. Nothing in Lean hashes anything: it is a label: what it is worth is what the hold of that sum in a sandbox is worth. -/
noncomputable def Tryz.pinned : Pinned := { name := "ytjapglfpjhljpaagreat", sum := "5bc38e488f926ba71a19a3fa97e36628589bff3bbe3958e72b62d72a3bac44d5", checked := Tryz.checked }
namespace Rows
def none {H : Type} : Left H := { results := [], args := [] }

/-- 'waybilllaw25.ConnsCuts': WHATEVER THE INPUT: true; the input reads as it did. -/
def connsCutsSpec : ChangeSpec := { name := "connsCuts", fn := fun _ => fun
  | [d1, d2, d3, d4] => { results := [.lit (.bool true)], args := [d1, d2, d3, d4] }
  | _ => none }
def connsCutsRow : OpenClaim := { program := "ytjapglfpjhljpaagreat", sum := "5bc38e488f926ba71a19a3fa97e36628589bff3bbe3958e72b62d72a3bac44d5", func := "waybill/waybilllaw25.ConnsCuts", spec := "connsCuts", unfollowed := true, recurses := true, plainKeys := false, apart := false }
def ConnsCutsSaid : Prop := connsCutsRow.holds Tryz.pinned (OpenSpec.ofChange connsCutsSpec)

/-- ITS FALSE NEIGHBOUR: 'it returns false'. Refute it at one input. -/
def connsCutsWrong : ChangeSpec := { name := "connsCuts", fn := fun _ => fun
  | [d1, d2, d3, d4] => { results := [.lit (.bool false)], args := [d1, d2, d3, d4] }
  | _ => none }
def ConnsCutsWrongFalsely : Prop := connsCutsRow.holds Tryz.pinned (OpenSpec.ofChange connsCutsWrong)

/-- 'waybilllaw25.ConnsChans': WHATEVER THE INPUT: true; the input reads as it did. -/
def connsChansSpec : ChangeSpec := { name := "connsChans", fn := fun _ => fun
  | [d1, d2] => { results := [.lit (.bool true)], args := [d1, d2] }
  | _ => none }
def connsChansRow : OpenClaim := { program := "ytjapglfpjhljpaagreat", sum := "5bc38e488f926ba71a19a3fa97e36628589bff3bbe3958e72b62d72a3bac44d5", func := "waybill/waybilllaw25.ConnsChans", spec := "connsChans", unfollowed := true, recurses := true, plainKeys := false, apart := false }
def ConnsChansSaid : Prop := connsChansRow.holds Tryz.pinned (OpenSpec.ofChange connsChansSpec)

/-- ITS FALSE NEIGHBOUR: 'it returns false'. Refute it at one input. -/
def connsChansWrong : ChangeSpec := { name := "connsChans", fn := fun _ => fun
  | [d1, d2] => { results := [.lit (.bool false)], args := [d1, d2] }
  | _ => none }
def ConnsChansWrongFalsely : Prop := connsChansRow.holds Tryz.pinned (OpenSpec.ofChange connsChansWrong)

/-- 'waybilllaw25.ConnsBegins': WHATEVER THE INPUT: true; the input reads as it did. -/
def connsBeginsSpec : ChangeSpec := { name := "connsBegins", fn := fun _ => fun
  | [d1, d2] => { results := [.lit (.bool true)], args := [d1, d2] }
  | _ => none }
def connsBeginsRow : OpenClaim := { program := "ytjapglfpjhljpaagreat", sum := "5bc38e488f926ba71a19a3fa97e36628589bff3bbe3958e72b62d72a3bac44d5", func := "waybill/waybilllaw25.ConnsBegins", spec := "connsBegins", unfollowed := true, recurses := true, plainKeys := false, apart := false }
def ConnsBeginsSaid : Prop := connsBeginsRow.holds Tryz.pinned (OpenSpec.ofChange connsBeginsSpec)

/-- ITS FALSE NEIGHBOUR: 'it returns false'. Refute it at one input. -/
def connsBeginsWrong : ChangeSpec := { name := "connsBegins", fn := fun _ => fun
  | [d1, d2] => { results := [.lit (.bool false)], args := [d1, d2] }
  | _ => none }
def ConnsBeginsWrongFalsely : Prop := connsBeginsRow.holds Tryz.pinned (OpenSpec.ofChange connsBeginsWrong)

/-- 'waybilllaw25.ConnsSays': WHATEVER THE INPUT: true; the input reads as it did. -/
def connsSaysSpec : ChangeSpec := { name := "connsSays", fn := fun _ => fun
  | [d1, d2, d3, d4] => { results := [.lit (.bool true)], args := [d1, d2, d3, d4] }
  | _ => none }
def connsSaysRow : OpenClaim := { program := "ytjapglfpjhljpaagreat", sum := "5bc38e488f926ba71a19a3fa97e36628589bff3bbe3958e72b62d72a3bac44d5", func := "waybill/waybilllaw25.ConnsSays", spec := "connsSays", unfollowed := true, recurses := true, plainKeys := false, apart := false }
def ConnsSaysSaid : Prop := connsSaysRow.holds Tryz.pinned (OpenSpec.ofChange connsSaysSpec)

/-- ITS FALSE NEIGHBOUR: 'it returns false'. Refute it at one input. -/
def connsSaysWrong : ChangeSpec := { name := "connsSays", fn := fun _ => fun
  | [d1, d2, d3, d4] => { results := [.lit (.bool false)], args := [d1, d2, d3, d4] }
  | _ => none }
def ConnsSaysWrongFalsely : Prop := connsSaysRow.holds Tryz.pinned (OpenSpec.ofChange connsSaysWrong)

/-- 'waybilllaw25.ConnsEnds': WHATEVER THE INPUT: true; the input reads as it did. -/
def connsEndsSpec : ChangeSpec := { name := "connsEnds", fn := fun _ => fun
  | [d1, d2] => { results := [.lit (.bool true)], args := [d1, d2] }
  | _ => none }
def connsEndsRow : OpenClaim := { program := "ytjapglfpjhljpaagreat", sum := "5bc38e488f926ba71a19a3fa97e36628589bff3bbe3958e72b62d72a3bac44d5", func := "waybill/waybilllaw25.ConnsEnds", spec := "connsEnds", unfollowed := true, recurses := true, plainKeys := false, apart := false }
def ConnsEndsSaid : Prop := connsEndsRow.holds Tryz.pinned (OpenSpec.ofChange connsEndsSpec)

/-- ITS FALSE NEIGHBOUR: 'it returns false'. Refute it at one input. -/
def connsEndsWrong : ChangeSpec := { name := "connsEnds", fn := fun _ => fun
  | [d1, d2] => { results := [.lit (.bool false)], args := [d1, d2] }
  | _ => none }
def ConnsEndsWrongFalsely : Prop := connsEndsRow.holds Tryz.pinned (OpenSpec.ofChange connsEndsWrong)

/- THE SECOND FORM. 'bulk': how many values and letters a reading holds, each counted each time it is reached (what is shared counts as often as it is met; a slice's spare places count too). A statement '..UptoSaid' is the law's where the arguments, and the package variables that the reading takes, are together of bulk at most 1048576: NARROWER than '..Said'. Prove '..Said' where nothing that the law and all that it calls make is longer than what came in: it says more and counts as full. Else prove '..UptoSaid'. A law counts once. -/
mutual
def uptoBulk {H : Type} : DataW H → Nat
  | .lit (.string bytes) => bytes.length + 1
  | .lit _ => 1
  | .nil => 1
  | .ptr d => uptoBulk d + 1
  | .slice elems spare => uptoBulkAll elems + uptoBulkAll spare + 1
  | .agg parts => uptoBulkAll parts + 1
  | .iface _ d => uptoBulk d + 1
  | .map entries => uptoBulkEntries entries + 1
  | .held _ => 1
def uptoBulkAll {H : Type} : List (DataW H) → Nat
  | [] => 0
  | d :: r => uptoBulk d + uptoBulkAll r
def uptoBulkEntries {H : Type} : List (Lit × DataW H) → Nat
  | [] => 0
  | x :: r => uptoBulkEntry x + uptoBulkEntries r
def uptoBulkEntry {H : Type} : Lit × DataW H → Nat
  | (.string bytes, d) => bytes.length + uptoBulk d + 1
  | (_, d) => uptoBulk d + 1
 end
def uptoSmall : (H : Type) → List (DataW H) → Bool := fun _ ds => decide (uptoBulkAll ds ≤ 1048576)
def OpenSpec.upto (s : _root_.Go.ChangeSpec) : _root_.Go.OpenSpec := { _root_.Go.OpenSpec.ofChange s with cond := some uptoSmall }

/-- 'waybilllaw25.ConnsCuts', WHERE WHAT IT READS IS OF BULK AT MOST 1048576: true; the input reads as it did. -/
def connsCutsUptoRow : OpenClaim := { program := "ytjapglfpjhljpaagreat", sum := "5bc38e488f926ba71a19a3fa97e36628589bff3bbe3958e72b62d72a3bac44d5", func := "waybill/waybilllaw25.ConnsCuts", spec := "connsCuts", unfollowed := true, recurses := true, plainKeys := false, apart := false, narrowed := true }
def ConnsCutsUptoSaid : Prop := connsCutsUptoRow.holds Tryz.pinned (OpenSpec.upto connsCutsSpec)

/-- 'waybilllaw25.ConnsChans', WHERE WHAT IT READS IS OF BULK AT MOST 1048576: true; the input reads as it did. -/
def connsChansUptoRow : OpenClaim := { program := "ytjapglfpjhljpaagreat", sum := "5bc38e488f926ba71a19a3fa97e36628589bff3bbe3958e72b62d72a3bac44d5", func := "waybill/waybilllaw25.ConnsChans", spec := "connsChans", unfollowed := true, recurses := true, plainKeys := false, apart := false, narrowed := true }
def ConnsChansUptoSaid : Prop := connsChansUptoRow.holds Tryz.pinned (OpenSpec.upto connsChansSpec)

/-- 'waybilllaw25.ConnsBegins', WHERE WHAT IT READS IS OF BULK AT MOST 1048576: true; the input reads as it did. -/
def connsBeginsUptoRow : OpenClaim := { program := "ytjapglfpjhljpaagreat", sum := "5bc38e488f926ba71a19a3fa97e36628589bff3bbe3958e72b62d72a3bac44d5", func := "waybill/waybilllaw25.ConnsBegins", spec := "connsBegins", unfollowed := true, recurses := true, plainKeys := false, apart := false, narrowed := true }
def ConnsBeginsUptoSaid : Prop := connsBeginsUptoRow.holds Tryz.pinned (OpenSpec.upto connsBeginsSpec)

/-- 'waybilllaw25.ConnsSays', WHERE WHAT IT READS IS OF BULK AT MOST 1048576: true; the input reads as it did. -/
def connsSaysUptoRow : OpenClaim := { program := "ytjapglfpjhljpaagreat", sum := "5bc38e488f926ba71a19a3fa97e36628589bff3bbe3958e72b62d72a3bac44d5", func := "waybill/waybilllaw25.ConnsSays", spec := "connsSays", unfollowed := true, recurses := true, plainKeys := false, apart := false, narrowed := true }
def ConnsSaysUptoSaid : Prop := connsSaysUptoRow.holds Tryz.pinned (OpenSpec.upto connsSaysSpec)

/-- 'waybilllaw25.ConnsEnds', WHERE WHAT IT READS IS OF BULK AT MOST 1048576: true; the input reads as it did. -/
def connsEndsUptoRow : OpenClaim := { program := "ytjapglfpjhljpaagreat", sum := "5bc38e488f926ba71a19a3fa97e36628589bff3bbe3958e72b62d72a3bac44d5", func := "waybill/waybilllaw25.ConnsEnds", spec := "connsEnds", unfollowed := true, recurses := true, plainKeys := false, apart := false, narrowed := true }
def ConnsEndsUptoSaid : Prop := connsEndsUptoRow.holds Tryz.pinned (OpenSpec.upto connsEndsSpec)

end Rows
end Go.Proofs.YtjapglfpjhljpaaGreat
