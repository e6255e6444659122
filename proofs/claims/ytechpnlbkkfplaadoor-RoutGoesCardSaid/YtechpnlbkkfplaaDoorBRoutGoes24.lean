/- routGoes_holds: all that the theorem needs, in a few texts (bundle.py; made of the texts that NOTES.md names). -/
import Derived.Below
import Derived.Carry
import Derived.ChangeOld
import Derived.ChangeShapes
import Derived.DeepKeys4
import Derived.KernelRfl
import Derived.Laws.Append
import Derived.Laws.Bits64
import Derived.Laws.BitsAllLaws
import Derived.Laws.BitsLemmas
import Derived.Laws.IdiomStrings
import Derived.Laws.Sem
import Derived.Laws.Strings
import Derived.Laws.StructEq
import Derived.Lib.ItoaNum
import Derived.LoopIn
import Derived.LoopN
import Derived.LoopNIn
import Derived.MapKept
import Derived.Maps.AppendAt
import Derived.OpenShut
import Derived.Orders
import Derived.OwnWalkIn
import Derived.RangeFuncGives
import Derived.RangeFuncSeq
import Derived.RegionIn
import Derived.Shelf.Abstract
import Derived.Shelf.Lay
import Derived.Shelf.LaysM
import Derived.Shelf.SlIter.Collect
import Derived.Shelf.Slices.Cells
import Derived.Shelf.Slices.CompactS
import Derived.Shelf.Slices.In.SortNone
import Derived.Shelf.Small.Bits
import Derived.Shelf.Sort.Plain
import Derived.Shelf.Strconv.Itoa0
import Derived.Shelf.Strings.Count
import Derived.Shelf.Strings.Explode
import Derived.Shelf.Strings.RuneCount
import Derived.Shelf.Strings.Search1
import Derived.Shelf.Strings.Search2
import Derived.Shelf.Strings.Search3
import Derived.Shelf.Strings.Shaped
import Derived.Shelf.Strings.Split
import Derived.Shelf.Strings.SplitShaped
import Derived.Shelf.Unicode.Decode
import Derived.Shelf.Unicode.DecodeAny
import Derived.Shelf.Unicode.DecodeSlow
import Derived.Shelf.Utf8.RuneCount
import Derived.Sort.KeysCollected
import Derived.Sort.MapsRangeIn
import Derived.TacticsInMore
import Derived.Test.YtechpnlbkkfplaaDoorChecked
import Derived.Test.YtechpnlbkkfplaaDoorProg
import Derived.WalkKit
import Derived.WideLaws
import Derived.WideShapes
import Derived.Test.YtechpnlbkkfplaaDoorBRoutGoes2
import Derived.Test.YtechpnlbkkfplaaDoorBRoutGoes3
import Derived.Test.YtechpnlbkkfplaaDoorBRoutGoes4
import Derived.Test.YtechpnlbkkfplaaDoorBRoutGoes5
import Derived.Test.YtechpnlbkkfplaaDoorBRoutGoes6
import Derived.Test.YtechpnlbkkfplaaDoorBRoutGoes7
import Derived.Test.YtechpnlbkkfplaaDoorBRoutGoes8
import Derived.Test.YtechpnlbkkfplaaDoorBRoutGoes9
import Derived.Test.YtechpnlbkkfplaaDoorBRoutGoes11
import Derived.Test.YtechpnlbkkfplaaDoorBRoutGoes12
import Derived.Test.YtechpnlbkkfplaaDoorBRoutGoes13
import Derived.Test.YtechpnlbkkfplaaDoorBRoutGoes14
import Derived.Test.YtechpnlbkkfplaaDoorBRoutGoes16
import Derived.Test.YtechpnlbkkfplaaDoorBRoutGoes17
import Derived.Test.YtechpnlbkkfplaaDoorBRoutGoes18
import Derived.Test.YtechpnlbkkfplaaDoorBRoutGoes19
import Derived.Test.YtechpnlbkkfplaaDoorBRoutGoes20
import Derived.Test.YtechpnlbkkfplaaDoorBRoutGoes21
import Derived.Test.YtechpnlbkkfplaaDoorBRoutGoes22
section
set_option linter.unusedVariables false
set_option linter.unusedSimpArgs false
namespace Go.Proofs.YtechpnlbkkfplaaDoor.Pr
open Go Go.Lift Go.Proofs
abbrev nms : List (List UInt8) := [nD, nF, nT]
def rkB (xs : List BN) (i : Nat) : BN := (nms.getD (i % 3) [], (xs.getD i ([], [], [])).2.1, (xs.getD i ([], [], [])).2.2)
def rkT (key : List UInt8) (k : Nat) (b : BN) : Bool := if k = 0 then b.2.2 == key else if k = 1 then true else Pl.matchW (Pl.wordsL b.2.2) (Pl.wordsL key)
structure RK (xs : List BN) (n : Nat) (B : List BN) : Prop where
  mem : ∀ b, b ∈ B ↔ ∃ j, j < n ∧ b = rkB xs j
  len : B.length ≤ n
  key : ∀ b ∈ B, b.2.2.length < 100000
theorem nms_x (k : Nat) (hk : k < 3) : ∃ x, xget X0 (nms.getD k []) = some x ∧ nms.getD k [] ≠ [] ∧ ∀ b key, takesP x b key = rkT key k b := by
  match k, hk with
  | 0, _ => exact ⟨(nD, 1, true), by decide +kernel, by decide, fun b key => rfl⟩
  | 1, _ => exact ⟨(nF, 2, true), by decide +kernel, by decide, fun b key => rfl⟩
  | 2, _ => exact ⟨(nT, 3, true), by decide +kernel, by decide, fun b key => rfl⟩
section
variable {K : KT} {L : List Asr} {h : Heap} {t nm : SV} {xs : List BN} {key : List UInt8} {r : Addr} {B : List BN}
abbrev KL (t nm : SV) (xs : List BN) (L : List Asr) : List Asr := Ow 1 nm (nms.map encS) :: Im 3 t (xs.flatMap bc) :: L
theorem rkB_at {i : Nat} (hi : i < xs.length) : (rkB xs i).2.1 = xs[i].2.1 ∧ (rkB xs i).2.2 = xs[i].2.2 := by
  have e : xs.getD i ([], [], []) = xs[i] := by rw [List.getD_eq_getElem?_getD, List.getElem?_eq_getElem hi]; rfl
  unfold rkB
  rw [e]
  exact ⟨rfl, rfl⟩
theorem tmod3 (i : Nat) : Int.tmod (i : Int) 3 = ((i % 3 : Nat) : Int) := (Int.ofNat_tmod i 3).symm
end
theorem RK.step {xs B : List BN} {n : Nat} (g : RK xs n B) (hk : (rkB xs n).2.2.length < 100000) : (rkB xs n ∈ B → RK xs (n + 1) B) ∧ (rkB xs n ∉ B → RK xs (n + 1) (insB B (rkB xs n))) := by
  refine ⟨fun hm => ⟨fun b => ?_, Nat.le_succ_of_le g.len, g.key⟩, fun hm => ⟨fun b => ?_, ?_, fun b hb => ?_⟩⟩
  · rw [g.mem]
    constructor
    · rintro ⟨j, hj, e⟩; exact ⟨j, by omega, e⟩
    · rintro ⟨j, hj, e⟩
      by_cases h : j = n
      · subst h; rw [e]; exact (g.mem _).1 hm
      · exact ⟨j, by omega, e⟩
  · rw [Ord.mem_ins, g.mem]
    constructor
    · rintro (e | ⟨j, hj, e⟩)
      · exact ⟨n, by omega, e⟩
      · exact ⟨j, by omega, e⟩
    · rintro ⟨j, hj, e⟩
      by_cases h : j = n
      · subst h; exact .inl e
      · exact .inr ⟨j, by omega, e⟩
  · rw [Ord.len_ins]; exact Nat.succ_le_succ g.len
  · rcases Ord.mem_ins.1 hb with e | e
    · rw [e]; exact hk
    · exact g.key b e
section
variable {K : KT} {L : List Asr} {h : Heap} {t nm : SV} {xs : List BN} {key : List UInt8} {r : Addr} {B : List BN}
end
end Go.Proofs.YtechpnlbkkfplaaDoor.Pr
end
