/- routGoes_holds: all that the theorem needs, in a few texts (bundle.py; made of the texts that NOTES.md names). -/
import Derived.Below
import Derived.DeepKeys4
import Derived.KernelRfl
import Derived.Laws.Append
import Derived.Laws.Bits64
import Derived.Laws.BitsAllLaws
import Derived.Laws.BitsLemmas
import Derived.Laws.IdiomStrings
import Derived.Laws.Sem
import Derived.Laws.Strings
import Derived.Laws.StructEq
import Derived.Lib.ItoaNum
import Derived.LoopIn
import Derived.LoopN
import Derived.LoopNIn
import Derived.MapKept
import Derived.Maps.AppendAt
import Derived.Maps.RangeRun
import Derived.Orders
import Derived.OwnWalkIn
import Derived.RangeFuncGives
import Derived.RangeFuncSeq
import Derived.RegionIn
import Derived.Shelf.Abstract
import Derived.Shelf.Lay
import Derived.Shelf.LaysM
import Derived.Shelf.SlIter.Collect
import Derived.Shelf.SlMaps.Clone
import Derived.Shelf.Slices.Cells
import Derived.Shelf.Slices.CompactS
import Derived.Shelf.Slices.In.SortNone
import Derived.Shelf.Small.Bits
import Derived.Shelf.Sort.Plain
import Derived.Shelf.Strconv.Itoa0
import Derived.Shelf.Strings.Count
import Derived.Shelf.Strings.Explode
import Derived.Shelf.Strings.RuneCount
import Derived.Shelf.Strings.Search1
import Derived.Shelf.Strings.Search2
import Derived.Shelf.Strings.Search3
import Derived.Shelf.Strings.Shaped
import Derived.Shelf.Strings.Split
import Derived.Shelf.Strings.SplitShaped
import Derived.Shelf.Unicode.Decode
import Derived.Shelf.Unicode.DecodeAny
import Derived.Shelf.Unicode.DecodeSlow
import Derived.Shelf.Utf8.RuneCount
import Derived.Sort.KeysCollected
import Derived.Sort.MapsRangeIn
import Derived.TacticsInMore
import Derived.Test.YtechpnlbkkfplaaDoorChecked
import Derived.Test.YtechpnlbkkfplaaDoorProg
import Derived.WalkKit
import Derived.WideLaws
import Derived.Test.YtechpnlbkkfplaaDoorBRoutGoes2
import Derived.Test.YtechpnlbkkfplaaDoorBRoutGoes3
import Derived.Test.YtechpnlbkkfplaaDoorBRoutGoes4
import Derived.Test.YtechpnlbkkfplaaDoorBRoutGoes5
import Derived.Test.YtechpnlbkkfplaaDoorBRoutGoes6
import Derived.Test.YtechpnlbkkfplaaDoorBRoutGoes7
import Derived.Test.YtechpnlbkkfplaaDoorBRoutGoes8
import Derived.Test.YtechpnlbkkfplaaDoorBRoutGoes9
import Derived.Test.YtechpnlbkkfplaaDoorBRoutGoes10
import Derived.Test.YtechpnlbkkfplaaDoorBRoutGoes11
import Derived.Test.YtechpnlbkkfplaaDoorBRoutGoes12
import Derived.Test.YtechpnlbkkfplaaDoorBRoutGoes14
import Derived.Test.YtechpnlbkkfplaaDoorBRoutGoes16
import Derived.Test.YtechpnlbkkfplaaDoorBRoutGoes17
import Derived.Test.YtechpnlbkkfplaaDoorBRoutGoes18
import Derived.Test.YtechpnlbkkfplaaDoorBRoutGoes19
import Derived.Test.YtechpnlbkkfplaaDoorBRoutGoes20
import Derived.Test.YtechpnlbkkfplaaDoorBRoutGoes21
import Derived.Test.YtechpnlbkkfplaaDoorBRoutGoes22
section
set_option linter.unusedVariables false
namespace Go.Proofs
open Go.Shelf
shelf_lay_g SlLaysW.n5 Slmc 5 at Tryd 25 as Tryd.cloneX
shelf_lay_g SlLaysW.n5 Slmc 5 at Tryd 26 as Tryd.cloneB
end Go.Proofs
namespace Go.Proofs.YtechpnlbkkfplaaDoor.Pr
open Go Go.Lift Go.Proofs
section
variable {K : KT} {L : List Asr} {h : Heap} {r : Addr} {X : List XN} {B : List BN}
theorem cloneXS {m : Nat} {kvs : List (List UInt8 × XN)} (S : St (Mq Lift.encS vvX m kvs :: L) h) (hK : ∀ h' m', St (Mq Lift.encS vvX m' kvs :: Mq Lift.encS vvX m kvs :: L) h' → K (.map (some m')) h') : CallsH P F.maps_Clone_map_string_api_Exch_string_api_Exch [.map (some m)] K h :=
  S.clone (by kernel_rfl) (fun b es clock w hb => AnyW.maps_Clone Tryd.cloneX b es clock w hb) hK
theorem cloneBS {m : Nat} {kvs : List (BN × Int)} (S : St (Mq kkB vvO m kvs :: L) h) (hK : ∀ h' m', St (Mq kkB vvO m' kvs :: Mq kkB vvO m kvs :: L) h' → K (.map (some m')) h') : CallsH P F.maps_Clone_map_api_Bind_int_api_Bind_int [.map (some m)] K h :=
  S.clone (by kernel_rfl) (fun b es clock w hb => AnyW.maps_Clone Tryd.cloneB b es clock w hb) hK
theorem copyRt (S : St (RtW r X B :: L) h) (hK : ∀ h' c, St (RtW c X B :: RtW r X B :: L) h' → K (.pointer (some c)) h') : CallsH P F.qce [.pointer (some r)] K h := by
  obtain ⟨mx, mb, kx, kb, q, S0⟩ := RtW.out S
  refine qce.ok ?_
  unfold qce.p0
  have fin : ∀ h1 mx' mb', St (Mq kkB vvO mb' kb :: Mq kkB vvO mb kb :: Mq Lift.encS vvX mx' kx :: Mq Lift.encS vvX mx kx :: Bx r [.map (some mx), .map (some mb)] :: L) h1 → K (.pointer (some (top h1))) (al h1 #[.map (some mx'), .map (some mb')] T.rout_Rout) := fun h1 mx' mb' S1 => by
    have S2 := S1.al [.map (some mx'), .map (some mb')] T.rout_Rout
    have S3 : St (RtA (top h1) mx' mb' kx kb (RtA r mx mb kx kb L)) (al h1 [Value.map (some mx'), Value.map (some mb')].toArray T.rout_Rout) := S2.to
    have S4 := RtW.inn q S3
    exact hK _ _ (RtW.inn q (show St (RtA r mx mb kx kb (RtW (top h1) X B :: L)) _ from S4.to)).p1
  refine ⟨r, rfl, r, rfl, some mx, S0.c 0 rfl, ?_⟩
  with_reducible refine And.intro ?_ ⟨some mb, S0.c 1 rfl, ?_⟩
  · refine cloneXS S0.p1 fun h1 mr' S1 => ⟨_, rfl, some mb, S1.p2.c 1 rfl, ?_⟩
    exact cloneBS S1.p3 fun h2 mh' S2 => ⟨_, rfl, fin h2 mr' mh' S2⟩
  · refine cloneXS S0.p1 fun h1 mr' S1 => ⟨_, rfl, ?_⟩
    exact cloneBS S1.p3 fun h2 mh' S2 => ⟨_, rfl, fin h2 mr' mh' S2⟩
theorem bind_guard : P.eqGuardType P.depth T.api_Bind = false := by kernel_rfl
theorem bindNeqS {a b : BN} (x y : Operand) (hK : K (.bool (decide (a ≠ b))) h) : SemH P (eqS .neq T.api_Bind x y (.agg (List.toArray (bc a))) (.agg (List.toArray (bc b)))) K h := by
  intro w hw
  refine ⟨.bool (decide (a ≠ b)), w, ?_, by rw [hw]; exact hK, Rest.refl w⟩
  simp only [eqS, Sem.run_bind, run_eqGuard_agg _ _ _ _ _ _ _ bind_guard, Result.andThen_ok, run_neq_struct, run_equalIn_agg _ _ _ _ _ bind_und bind_held]
  rw [bindFields]
  simp
end
end Go.Proofs.YtechpnlbkkfplaaDoor.Pr
end
