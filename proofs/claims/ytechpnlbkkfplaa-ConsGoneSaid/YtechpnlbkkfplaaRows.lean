/-
  No cell of these rows narrows 'for every input' (looked for: loops, veiled, ifaces, maps, wideKeys, modest, calm, conditions, laid).
  DERIVED. THE GIVEN ROWS OF THIS SEAT. 9 by the template 'for every input the law returns true; each argument reads behind the call as it read before'; 0 by the template 'total and deterministic' (their statements: YtechpnlbkkfplaaTotals.lean).
  GIVEN WITH THE SEED: the statements are not yours to turn. If you find one false, say at which input.
  Laid BY PROGRAM, IN A SANDBOX (cutbox-rows.mjs): the forced cells as the released guide's own fill.sh prints them over the translation c55572af4e83a480… (all of the seat's roots in one cut). By AI agents, Wed Nov 11 2026. No macro, syntax, notation, axiom, sorry.
-/
import Derived.Test.YtechpnlbkkfplaaChecked
import GoSem.Claim
import GoSem.ClaimJoined
import GoSem.ClaimMapViews
import Derived.JoinedTies
import Derived.KernelRfl
namespace Go.Proofs.Ytechpnlbkkfplaa
/- THE CELL 'sum', in the pinned program and in every row, IS THE sha256 OF THE DUMP (.gsa) THAT YtechpnlbkkfplaaProg.lean LOADS. Nothing in Lean hashes anything: it is a label: what it is worth is what the hold of that sum in a sandbox is worth. -/
noncomputable def Try.pinned : Pinned := { name := "ytechpnlbkkfplaa", sum := "c55572af4e83a480c0014f2fde0341860c0a35d167aa5344e192252ea65197ae", checked := Try.checked }
namespace Rows
def none {H : Type} : Left H := { results := [], args := [] }

/-- 'waybilllaw17.LineOrder': WHATEVER THE INPUT: true; the input reads as it did. -/
def lineOrderSpec : ChangeSpec := { name := "lineOrder", fn := fun _ => fun
  | [d1, d2] => { results := [.lit (.bool true)], args := [d1, d2] }
  | _ => none }
def lineOrderRow : OpenClaim := { program := "ytechpnlbkkfplaa", sum := "c55572af4e83a480c0014f2fde0341860c0a35d167aa5344e192252ea65197ae", func := "waybill/waybilllaw17.LineOrder", spec := "lineOrder", unfollowed := true, recurses := true, plainKeys := false, apart := false }
def LineOrderSaid : Prop := lineOrderRow.holds Try.pinned (OpenSpec.ofChange lineOrderSpec)

/-- ITS FALSE NEIGHBOUR: 'it returns false'. Refute it at one input. -/
def lineOrderWrong : ChangeSpec := { name := "lineOrder", fn := fun _ => fun
  | [d1, d2] => { results := [.lit (.bool false)], args := [d1, d2] }
  | _ => none }
def LineOrderWrongFalsely : Prop := lineOrderRow.holds Try.pinned (OpenSpec.ofChange lineOrderWrong)

/-- 'waybilllaw17.LineDrops': WHATEVER THE INPUT: true; the input reads as it did. -/
def lineDropsSpec : ChangeSpec := { name := "lineDrops", fn := fun _ => fun
  | [d1, d2, d3] => { results := [.lit (.bool true)], args := [d1, d2, d3] }
  | _ => none }
def lineDropsRow : OpenClaim := { program := "ytechpnlbkkfplaa", sum := "c55572af4e83a480c0014f2fde0341860c0a35d167aa5344e192252ea65197ae", func := "waybill/waybilllaw17.LineDrops", spec := "lineDrops", unfollowed := true, recurses := true, plainKeys := false, apart := false }
def LineDropsSaid : Prop := lineDropsRow.holds Try.pinned (OpenSpec.ofChange lineDropsSpec)

/-- ITS FALSE NEIGHBOUR: 'it returns false'. Refute it at one input. -/
def lineDropsWrong : ChangeSpec := { name := "lineDrops", fn := fun _ => fun
  | [d1, d2, d3] => { results := [.lit (.bool false)], args := [d1, d2, d3] }
  | _ => none }
def LineDropsWrongFalsely : Prop := lineDropsRow.holds Try.pinned (OpenSpec.ofChange lineDropsWrong)

/-- 'waybilllaw17.LinePlays': WHATEVER THE INPUT: true; the input reads as it did. -/
def linePlaysSpec : ChangeSpec := { name := "linePlays", fn := fun _ => fun
  | [d] => { results := [.lit (.bool true)], args := [d] }
  | _ => none }
def linePlaysRow : OpenClaim := { program := "ytechpnlbkkfplaa", sum := "c55572af4e83a480c0014f2fde0341860c0a35d167aa5344e192252ea65197ae", func := "waybill/waybilllaw17.LinePlays", spec := "linePlays", inPlace := ["maps.clone"], unfollowed := true, recurses := true, plainKeys := false, apart := false }
def LinePlaysSaid : Prop := linePlaysRow.holds Try.pinned (OpenSpec.ofChange linePlaysSpec)

/-- ITS FALSE NEIGHBOUR: 'it returns false'. Refute it at one input. -/
def linePlaysWrong : ChangeSpec := { name := "linePlays", fn := fun _ => fun
  | [d] => { results := [.lit (.bool false)], args := [d] }
  | _ => none }
def LinePlaysWrongFalsely : Prop := linePlaysRow.holds Try.pinned (OpenSpec.ofChange linePlaysWrong)

/-- 'waybilllaw18.UnakOnce': WHATEVER THE INPUT: true; the input reads as it did. -/
def unakOnceSpec : ChangeSpec := { name := "unakOnce", fn := fun _ => fun
  | [d1, d2, d3] => { results := [.lit (.bool true)], args := [d1, d2, d3] }
  | _ => none }
def unakOnceRow : OpenClaim := { program := "ytechpnlbkkfplaa", sum := "c55572af4e83a480c0014f2fde0341860c0a35d167aa5344e192252ea65197ae", func := "waybill/waybilllaw18.UnakOnce", spec := "unakOnce", unfollowed := true, recurses := true, plainKeys := false, apart := false }
def UnakOnceSaid : Prop := unakOnceRow.holds Try.pinned (OpenSpec.ofChange unakOnceSpec)

/-- ITS FALSE NEIGHBOUR: 'it returns false'. Refute it at one input. -/
def unakOnceWrong : ChangeSpec := { name := "unakOnce", fn := fun _ => fun
  | [d1, d2, d3] => { results := [.lit (.bool false)], args := [d1, d2, d3] }
  | _ => none }
def UnakOnceWrongFalsely : Prop := unakOnceRow.holds Try.pinned (OpenSpec.ofChange unakOnceWrong)

/-- 'waybilllaw18.UnakMarks': WHATEVER THE INPUT: true; the input reads as it did. -/
def unakMarksSpec : ChangeSpec := { name := "unakMarks", fn := fun _ => fun
  | [d1, d2] => { results := [.lit (.bool true)], args := [d1, d2] }
  | _ => none }
def unakMarksRow : OpenClaim := { program := "ytechpnlbkkfplaa", sum := "c55572af4e83a480c0014f2fde0341860c0a35d167aa5344e192252ea65197ae", func := "waybill/waybilllaw18.UnakMarks", spec := "unakMarks", unfollowed := true, recurses := true, plainKeys := false, apart := false }
def UnakMarksSaid : Prop := unakMarksRow.holds Try.pinned (OpenSpec.ofChange unakMarksSpec)

/-- ITS FALSE NEIGHBOUR: 'it returns false'. Refute it at one input. -/
def unakMarksWrong : ChangeSpec := { name := "unakMarks", fn := fun _ => fun
  | [d1, d2] => { results := [.lit (.bool false)], args := [d1, d2] }
  | _ => none }
def UnakMarksWrongFalsely : Prop := unakMarksRow.holds Try.pinned (OpenSpec.ofChange unakMarksWrong)

/-- 'waybilllaw18.UnakPlays': WHATEVER THE INPUT: true; the input reads as it did. -/
def unakPlaysSpec : ChangeSpec := { name := "unakPlays", fn := fun _ => fun
  | [d] => { results := [.lit (.bool true)], args := [d] }
  | _ => none }
def unakPlaysRow : OpenClaim := { program := "ytechpnlbkkfplaa", sum := "c55572af4e83a480c0014f2fde0341860c0a35d167aa5344e192252ea65197ae", func := "waybill/waybilllaw18.UnakPlays", spec := "unakPlays", unfollowed := true, recurses := true, plainKeys := false, apart := false }
def UnakPlaysSaid : Prop := unakPlaysRow.holds Try.pinned (OpenSpec.ofChange unakPlaysSpec)

/-- ITS FALSE NEIGHBOUR: 'it returns false'. Refute it at one input. -/
def unakPlaysWrong : ChangeSpec := { name := "unakPlays", fn := fun _ => fun
  | [d] => { results := [.lit (.bool false)], args := [d] }
  | _ => none }
def UnakPlaysWrongFalsely : Prop := unakPlaysRow.holds Try.pinned (OpenSpec.ofChange unakPlaysWrong)

/-- 'waybilllaw19.ConsTurns': WHATEVER THE INPUT: true; the input reads as it did. -/
def consTurnsSpec : ChangeSpec := { name := "consTurns", fn := fun _ => fun
  | [d1, d2, d3] => { results := [.lit (.bool true)], args := [d1, d2, d3] }
  | _ => none }
def consTurnsRow : OpenClaim := { program := "ytechpnlbkkfplaa", sum := "c55572af4e83a480c0014f2fde0341860c0a35d167aa5344e192252ea65197ae", func := "waybill/waybilllaw19.ConsTurns", spec := "consTurns", unfollowed := true, recurses := true, plainKeys := false, apart := false }
def ConsTurnsSaid : Prop := consTurnsRow.holds Try.pinned (OpenSpec.ofChange consTurnsSpec)

/-- ITS FALSE NEIGHBOUR: 'it returns false'. Refute it at one input. -/
def consTurnsWrong : ChangeSpec := { name := "consTurns", fn := fun _ => fun
  | [d1, d2, d3] => { results := [.lit (.bool false)], args := [d1, d2, d3] }
  | _ => none }
def ConsTurnsWrongFalsely : Prop := consTurnsRow.holds Try.pinned (OpenSpec.ofChange consTurnsWrong)

/-- 'waybilllaw19.ConsGone': WHATEVER THE INPUT: true; the input reads as it did. -/
def consGoneSpec : ChangeSpec := { name := "consGone", fn := fun _ => fun
  | [d1, d2] => { results := [.lit (.bool true)], args := [d1, d2] }
  | _ => none }
def consGoneRow : OpenClaim := { program := "ytechpnlbkkfplaa", sum := "c55572af4e83a480c0014f2fde0341860c0a35d167aa5344e192252ea65197ae", func := "waybill/waybilllaw19.ConsGone", spec := "consGone", unfollowed := true, recurses := true, plainKeys := false, apart := false }
def ConsGoneSaid : Prop := consGoneRow.holds Try.pinned (OpenSpec.ofChange consGoneSpec)

/-- ITS FALSE NEIGHBOUR: 'it returns false'. Refute it at one input. -/
def consGoneWrong : ChangeSpec := { name := "consGone", fn := fun _ => fun
  | [d1, d2] => { results := [.lit (.bool false)], args := [d1, d2] }
  | _ => none }
def ConsGoneWrongFalsely : Prop := consGoneRow.holds Try.pinned (OpenSpec.ofChange consGoneWrong)

/-- 'waybilllaw19.ConsPlays': WHATEVER THE INPUT: true; the input reads as it did. -/
def consPlaysSpec : ChangeSpec := { name := "consPlays", fn := fun _ => fun
  | [d] => { results := [.lit (.bool true)], args := [d] }
  | _ => none }
def consPlaysRow : OpenClaim := { program := "ytechpnlbkkfplaa", sum := "c55572af4e83a480c0014f2fde0341860c0a35d167aa5344e192252ea65197ae", func := "waybill/waybilllaw19.ConsPlays", spec := "consPlays", unfollowed := true, recurses := true, plainKeys := false, apart := false }
def ConsPlaysSaid : Prop := consPlaysRow.holds Try.pinned (OpenSpec.ofChange consPlaysSpec)

/-- ITS FALSE NEIGHBOUR: 'it returns false'. Refute it at one input. -/
def consPlaysWrong : ChangeSpec := { name := "consPlays", fn := fun _ => fun
  | [d] => { results := [.lit (.bool false)], args := [d] }
  | _ => none }
def ConsPlaysWrongFalsely : Prop := consPlaysRow.holds Try.pinned (OpenSpec.ofChange consPlaysWrong)

/- THE SECOND FORM. 'bulk': how many values and letters a reading holds, each counted each time it is reached (what is shared counts as often as it is met; a slice's spare places count too). A statement '..UptoSaid' is the law's where the arguments, and the package variables that the reading takes, are together of bulk at most 1048576: NARROWER than '..Said'. Prove '..Said' where nothing that the law and all that it calls make is longer than what came in: it says more and counts as full. Else prove '..UptoSaid'. A law counts once. -/
mutual
def uptoBulk {H : Type} : DataW H → Nat
  | .lit (.string bytes) => bytes.length + 1
  | .lit _ => 1
  | .nil => 1
  | .ptr d => uptoBulk d + 1
  | .slice elems spare => uptoBulkAll elems + uptoBulkAll spare + 1
  | .agg parts => uptoBulkAll parts + 1
  | .iface _ d => uptoBulk d + 1
  | .map entries => uptoBulkEntries entries + 1
  | .held _ => 1
def uptoBulkAll {H : Type} : List (DataW H) → Nat
  | [] => 0
  | d :: r => uptoBulk d + uptoBulkAll r
def uptoBulkEntries {H : Type} : List (Lit × DataW H) → Nat
  | [] => 0
  | x :: r => uptoBulkEntry x + uptoBulkEntries r
def uptoBulkEntry {H : Type} : Lit × DataW H → Nat
  | (.string bytes, d) => bytes.length + uptoBulk d + 1
  | (_, d) => uptoBulk d + 1
 end
def uptoSmall : (H : Type) → List (DataW H) → Bool := fun _ ds => decide (uptoBulkAll ds ≤ 1048576)
def OpenSpec.upto (s : _root_.Go.ChangeSpec) : _root_.Go.OpenSpec := { _root_.Go.OpenSpec.ofChange s with cond := some uptoSmall }

/-- 'waybilllaw17.LineOrder', WHERE WHAT IT READS IS OF BULK AT MOST 1048576: true; the input reads as it did. -/
def lineOrderUptoRow : OpenClaim := { program := "ytechpnlbkkfplaa", sum := "c55572af4e83a480c0014f2fde0341860c0a35d167aa5344e192252ea65197ae", func := "waybill/waybilllaw17.LineOrder", spec := "lineOrder", unfollowed := true, recurses := true, plainKeys := false, apart := false, narrowed := true }
def LineOrderUptoSaid : Prop := lineOrderUptoRow.holds Try.pinned (OpenSpec.upto lineOrderSpec)

/-- 'waybilllaw17.LineDrops', WHERE WHAT IT READS IS OF BULK AT MOST 1048576: true; the input reads as it did. -/
def lineDropsUptoRow : OpenClaim := { program := "ytechpnlbkkfplaa", sum := "c55572af4e83a480c0014f2fde0341860c0a35d167aa5344e192252ea65197ae", func := "waybill/waybilllaw17.LineDrops", spec := "lineDrops", unfollowed := true, recurses := true, plainKeys := false, apart := false, narrowed := true }
def LineDropsUptoSaid : Prop := lineDropsUptoRow.holds Try.pinned (OpenSpec.upto lineDropsSpec)

/-- 'waybilllaw17.LinePlays', WHERE WHAT IT READS IS OF BULK AT MOST 1048576: true; the input reads as it did. -/
def linePlaysUptoRow : OpenClaim := { program := "ytechpnlbkkfplaa", sum := "c55572af4e83a480c0014f2fde0341860c0a35d167aa5344e192252ea65197ae", func := "waybill/waybilllaw17.LinePlays", spec := "linePlays", inPlace := ["maps.clone"], unfollowed := true, recurses := true, plainKeys := false, apart := false, narrowed := true }
def LinePlaysUptoSaid : Prop := linePlaysUptoRow.holds Try.pinned (OpenSpec.upto linePlaysSpec)

/-- 'waybilllaw18.UnakOnce', WHERE WHAT IT READS IS OF BULK AT MOST 1048576: true; the input reads as it did. -/
def unakOnceUptoRow : OpenClaim := { program := "ytechpnlbkkfplaa", sum := "c55572af4e83a480c0014f2fde0341860c0a35d167aa5344e192252ea65197ae", func := "waybill/waybilllaw18.UnakOnce", spec := "unakOnce", unfollowed := true, recurses := true, plainKeys := false, apart := false, narrowed := true }
def UnakOnceUptoSaid : Prop := unakOnceUptoRow.holds Try.pinned (OpenSpec.upto unakOnceSpec)

/-- 'waybilllaw18.UnakMarks', WHERE WHAT IT READS IS OF BULK AT MOST 1048576: true; the input reads as it did. -/
def unakMarksUptoRow : OpenClaim := { program := "ytechpnlbkkfplaa", sum := "c55572af4e83a480c0014f2fde0341860c0a35d167aa5344e192252ea65197ae", func := "waybill/waybilllaw18.UnakMarks", spec := "unakMarks", unfollowed := true, recurses := true, plainKeys := false, apart := false, narrowed := true }
def UnakMarksUptoSaid : Prop := unakMarksUptoRow.holds Try.pinned (OpenSpec.upto unakMarksSpec)

/-- 'waybilllaw18.UnakPlays', WHERE WHAT IT READS IS OF BULK AT MOST 1048576: true; the input reads as it did. -/
def unakPlaysUptoRow : OpenClaim := { program := "ytechpnlbkkfplaa", sum := "c55572af4e83a480c0014f2fde0341860c0a35d167aa5344e192252ea65197ae", func := "waybill/waybilllaw18.UnakPlays", spec := "unakPlays", unfollowed := true, recurses := true, plainKeys := false, apart := false, narrowed := true }
def UnakPlaysUptoSaid : Prop := unakPlaysUptoRow.holds Try.pinned (OpenSpec.upto unakPlaysSpec)

/-- 'waybilllaw19.ConsTurns', WHERE WHAT IT READS IS OF BULK AT MOST 1048576: true; the input reads as it did. -/
def consTurnsUptoRow : OpenClaim := { program := "ytechpnlbkkfplaa", sum := "c55572af4e83a480c0014f2fde0341860c0a35d167aa5344e192252ea65197ae", func := "waybill/waybilllaw19.ConsTurns", spec := "consTurns", unfollowed := true, recurses := true, plainKeys := false, apart := false, narrowed := true }
def ConsTurnsUptoSaid : Prop := consTurnsUptoRow.holds Try.pinned (OpenSpec.upto consTurnsSpec)

/-- 'waybilllaw19.ConsGone', WHERE WHAT IT READS IS OF BULK AT MOST 1048576: true; the input reads as it did. -/
def consGoneUptoRow : OpenClaim := { program := "ytechpnlbkkfplaa", sum := "c55572af4e83a480c0014f2fde0341860c0a35d167aa5344e192252ea65197ae", func := "waybill/waybilllaw19.ConsGone", spec := "consGone", unfollowed := true, recurses := true, plainKeys := false, apart := false, narrowed := true }
def ConsGoneUptoSaid : Prop := consGoneUptoRow.holds Try.pinned (OpenSpec.upto consGoneSpec)

/-- 'waybilllaw19.ConsPlays', WHERE WHAT IT READS IS OF BULK AT MOST 1048576: true; the input reads as it did. -/
def consPlaysUptoRow : OpenClaim := { program := "ytechpnlbkkfplaa", sum := "c55572af4e83a480c0014f2fde0341860c0a35d167aa5344e192252ea65197ae", func := "waybill/waybilllaw19.ConsPlays", spec := "consPlays", unfollowed := true, recurses := true, plainKeys := false, apart := false, narrowed := true }
def ConsPlaysUptoSaid : Prop := consPlaysUptoRow.holds Try.pinned (OpenSpec.upto consPlaysSpec)

end Rows
end Go.Proofs.Ytechpnlbkkfplaa
