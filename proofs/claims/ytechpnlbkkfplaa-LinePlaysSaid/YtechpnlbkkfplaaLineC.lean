/- line: a copy goes its own way. -/
import Derived.Test.YtechpnlbkkfplaaLineW
import Derived.Test.YtechpnlbkkfplaaLiftCl
import Derived.Shelf.SlMaps.Clone
set_option linter.unusedVariables false
namespace Go.Proofs
open Go.Shelf
shelf_lay_g SlLaysW.n5 Slmc 5 at Try 73 as Try.cloneE
shelf_lay_g SlLaysW.n5 Slmc 5 at Try 74 as Try.cloneI
end Go.Proofs
namespace Go.Proofs.Ytechpnlbkkfplaa.Pr
open Go Go.Lift Go.Proofs
section
variable {K : KT} {L : List Asr} {h : Heap} {l : Addr} {W : LRow}
theorem cloneES {m : Nat} {kvs : List (Int × (Int × Bool))} (S : St (Mq kkU vvE m kvs :: L) h) (hK : ∀ h' m', St (Mq kkU vvE m' kvs :: Mq kkU vvE m kvs :: L) h' → K (.map (some m')) h') : CallsH P F.maps_Clone_map_uint64_api_Entry_uint64_api_Entry [.map (some m)] K h :=
  S.clone (by kernel_rfl) (fun b es clock w hb => AnyW.maps_Clone Try.cloneE b es clock w hb) hK
theorem cloneIS {m : Nat} {kvs : List (Int × Int)} (S : St (Mq kkU vvI m kvs :: L) h) (hK : ∀ h' m', St (Mq kkU vvI m' kvs :: Mq kkU vvI m kvs :: L) h' → K (.map (some m')) h') : CallsH P F.maps_Clone_map_uint64_int_uint64_int [.map (some m)] K h :=
  S.clone (by kernel_rfl) (fun b es clock w hb => AnyW.maps_Clone Try.cloneI b es clock w hb) hK
theorem copyLineW (S : St (LnW l W :: L) h) (hK : ∀ h' l', St (LnW l' W :: LnW l W :: L) h' → K (.pointer (some l')) h') : CallsH P F.line_Line_Copy [.pointer (some l)] K h := by
  obtain ⟨mr, mh, R, H, q, S0⟩ := LnW.out S
  refine line_Line_Copy.ok ?_
  unfold line_Line_Copy.p0
  have fin : ∀ h1 mr' mh', St (Mq kkU vvI mh' H :: Mq kkU vvI mh H :: Mq kkU vvE mr' R :: Mq kkU vvE mr R :: Bx l [.map (some mr), .map (some mh)] :: L) h1 → K (.pointer (some (top h1))) (al h1 #[.map (some mr'), .map (some mh')] T.line_Line) := fun h1 mr' mh' S1 => by
    have S2 := S1.al [.map (some mr'), .map (some mh')] T.line_Line
    have S3 : St (LnA (top h1) mr' mh' R H (LnA l mr mh R H L)) (al h1 [Value.map (some mr'), Value.map (some mh')].toArray T.line_Line) := S2.to
    have S4 := LnW.inn q S3
    exact hK _ _ (LnW.inn q (show St (LnA l mr mh R H (LnW (top h1) W :: L)) _ from S4.to)).p1
  refine ⟨l, rfl, l, rfl, some mr, S0.c 0 rfl, ?_⟩
  with_reducible refine And.intro ?_ ⟨some mh, S0.c 1 rfl, ?_⟩
  · refine cloneES S0.p1 fun h1 mr' S1 => ⟨_, rfl, some mh, S1.p2.c 1 rfl, ?_⟩
    exact cloneIS S1.p3 fun h2 mh' S2 => ⟨_, rfl, fin h2 mr' mh' S2⟩
  · refine cloneES S0.p1 fun h1 mr' S1 => ⟨_, rfl, ?_⟩
    exact cloneIS S1.p3 fun h2 mh' S2 => ⟨_, rfl, fin h2 mr' mh' S2⟩
end
end Go.Proofs.Ytechpnlbkkfplaa.Pr
