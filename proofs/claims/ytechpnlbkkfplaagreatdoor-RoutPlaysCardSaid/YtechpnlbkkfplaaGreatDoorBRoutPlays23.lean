/- routPlays_holds: all that the theorem needs, in a few texts (bundle.py; made of the texts that NOTES.md names). -/
import Derived.Below
import Derived.DeepKeys4
import Derived.KernelRfl
import Derived.Laws.Append
import Derived.Laws.Bits64
import Derived.Laws.BitsAllLaws
import Derived.Laws.BitsLemmas
import Derived.Laws.IdiomStrings
import Derived.Laws.Sem
import Derived.Laws.Strings
import Derived.Laws.StructEq
import Derived.Lib.ItoaNum
import Derived.LoopIn
import Derived.LoopN
import Derived.LoopNIn
import Derived.MapKept
import Derived.Maps.AppendAt
import Derived.Maps.RangeRun
import Derived.Orders
import Derived.OwnWalkIn
import Derived.RangeFuncGives
import Derived.RangeFuncSeq
import Derived.RegionIn
import Derived.Shelf.Abstract
import Derived.Shelf.Lay
import Derived.Shelf.LaysM
import Derived.Shelf.SlIter.Collect
import Derived.Shelf.SlMaps.Clone
import Derived.Shelf.Slices.Cells
import Derived.Shelf.Slices.CompactS
import Derived.Shelf.Slices.In.SortNone
import Derived.Shelf.Small.Bits
import Derived.Shelf.Sort.Plain
import Derived.Shelf.Strconv.Itoa0
import Derived.Shelf.Strings.Count
import Derived.Shelf.Strings.Explode
import Derived.Shelf.Strings.RuneCount
import Derived.Shelf.Strings.Search1
import Derived.Shelf.Strings.Search2
import Derived.Shelf.Strings.Search3
import Derived.Shelf.Strings.Shaped
import Derived.Shelf.Strings.Split
import Derived.Shelf.Strings.SplitShaped
import Derived.Shelf.Unicode.Decode
import Derived.Shelf.Unicode.DecodeAny
import Derived.Shelf.Unicode.DecodeSlow
import Derived.Shelf.Utf8.RuneCount
import Derived.Sort.KeysCollected
import Derived.Sort.MapsRangeIn
import Derived.TacticsInMore
import Derived.Test.YtechpnlbkkfplaaGreatDoorChecked
import Derived.Test.YtechpnlbkkfplaaGreatDoorProg
import Derived.WalkKit
import Derived.WideLaws
import Derived.Test.YtechpnlbkkfplaaGreatDoorBRoutPlays2
import Derived.Test.YtechpnlbkkfplaaGreatDoorBRoutPlays3
import Derived.Test.YtechpnlbkkfplaaGreatDoorBRoutPlays4
import Derived.Test.YtechpnlbkkfplaaGreatDoorBRoutPlays5
import Derived.Test.YtechpnlbkkfplaaGreatDoorBRoutPlays6
import Derived.Test.YtechpnlbkkfplaaGreatDoorBRoutPlays7
import Derived.Test.YtechpnlbkkfplaaGreatDoorBRoutPlays8
import Derived.Test.YtechpnlbkkfplaaGreatDoorBRoutPlays9
import Derived.Test.YtechpnlbkkfplaaGreatDoorBRoutPlays10
import Derived.Test.YtechpnlbkkfplaaGreatDoorBRoutPlays11
import Derived.Test.YtechpnlbkkfplaaGreatDoorBRoutPlays12
import Derived.Test.YtechpnlbkkfplaaGreatDoorBRoutPlays14
import Derived.Test.YtechpnlbkkfplaaGreatDoorBRoutPlays16
import Derived.Test.YtechpnlbkkfplaaGreatDoorBRoutPlays17
import Derived.Test.YtechpnlbkkfplaaGreatDoorBRoutPlays18
import Derived.Test.YtechpnlbkkfplaaGreatDoorBRoutPlays19
import Derived.Test.YtechpnlbkkfplaaGreatDoorBRoutPlays20
import Derived.Test.YtechpnlbkkfplaaGreatDoorBRoutPlays21
import Derived.Test.YtechpnlbkkfplaaGreatDoorBRoutPlays22
section
set_option linter.unusedVariables false
namespace Go.Proofs
open Go.Shelf
shelf_lay_g SlLaysW.n5 Slmc 5 at Tryz 38 as Tryz.cloneX
shelf_lay_g SlLaysW.n5 Slmc 5 at Tryz 39 as Tryz.cloneB
end Go.Proofs
namespace Go.Proofs.YtechpnlbkkfplaaGreatDoor.Pr
open Go Go.Lift Go.Proofs
section
variable {K : KT} {L : List Asr} {h : Heap} {r : Addr} {X : List XN} {B : List BN}
theorem cloneXS {m : Nat} {kvs : List (List UInt8 × XN)} (S : St (Mq Lift.encS vvX m kvs :: L) h) (hK : ∀ h' m', St (Mq Lift.encS vvX m' kvs :: Mq Lift.encS vvX m kvs :: L) h' → K (.map (some m')) h') : CallsH P F.maps_Clone_map_string_api_Exch_string_api_Exch [.map (some m)] K h :=
  S.clone (by kernel_rfl) (fun b es clock w hb => AnyW.maps_Clone Tryz.cloneX b es clock w hb) hK
theorem cloneBS {m : Nat} {kvs : List (BN × Int)} (S : St (Mq kkB vvO m kvs :: L) h) (hK : ∀ h' m', St (Mq kkB vvO m' kvs :: Mq kkB vvO m kvs :: L) h' → K (.map (some m')) h') : CallsH P F.maps_Clone_map_api_Bind_int_api_Bind_int [.map (some m)] K h :=
  S.clone (by kernel_rfl) (fun b es clock w hb => AnyW.maps_Clone Tryz.cloneB b es clock w hb) hK
theorem copyRt (S : St (RtW r X B :: L) h) (hK : ∀ h' c, St (RtW c X B :: RtW r X B :: L) h' → K (.pointer (some c)) h') : CallsH P F.qcx [.pointer (some r)] K h := by
  obtain ⟨mx, mb, kx, kb, q, S0⟩ := RtW.out S
  refine qcx.ok ?_
  unfold qcx.p0
  have fin : ∀ h1 mx' mb', St (Mq kkB vvO mb' kb :: Mq kkB vvO mb kb :: Mq Lift.encS vvX mx' kx :: Mq Lift.encS vvX mx kx :: Bx r [.map (some mx), .map (some mb)] :: L) h1 → K (.pointer (some (top h1))) (al h1 #[.map (some mx'), .map (some mb')] T.rout_Rout) := fun h1 mx' mb' S1 => by
    have S2 := S1.al [.map (some mx'), .map (some mb')] T.rout_Rout
    have S3 : St (RtA (top h1) mx' mb' kx kb (RtA r mx mb kx kb L)) (al h1 [Value.map (some mx'), Value.map (some mb')].toArray T.rout_Rout) := S2.to
    have S4 := RtW.inn q S3
    exact hK _ _ (RtW.inn q (show St (RtA r mx mb kx kb (RtW (top h1) X B :: L)) _ from S4.to)).p1
  refine ⟨r, rfl, r, rfl, some mx, S0.c 0 rfl, ?_⟩
  with_reducible refine And.intro ?_ ⟨some mb, S0.c 1 rfl, ?_⟩
  · refine cloneXS S0.p1 fun h1 mr' S1 => ⟨_, rfl, some mb, S1.p2.c 1 rfl, ?_⟩
    exact cloneBS S1.p3 fun h2 mh' S2 => ⟨_, rfl, fin h2 mr' mh' S2⟩
  · refine cloneXS S0.p1 fun h1 mr' S1 => ⟨_, rfl, ?_⟩
    exact cloneBS S1.p3 fun h2 mh' S2 => ⟨_, rfl, fin h2 mr' mh' S2⟩
theorem bind_guard : P.eqGuardType P.depth T.api_Bind = false := by kernel_rfl
theorem bindNeqS {a b : BN} (x y : Operand) (hK : K (.bool (decide (a ≠ b))) h) : SemH P (eqS .neq T.api_Bind x y (.agg (List.toArray (bc a))) (.agg (List.toArray (bc b)))) K h := by
  intro w hw
  refine ⟨.bool (decide (a ≠ b)), w, ?_, by rw [hw]; exact hK, Rest.refl w⟩
  simp only [eqS, Sem.run_bind, run_eqGuard_agg _ _ _ _ _ _ _ bind_guard, Result.andThen_ok, run_neq_struct, run_equalIn_agg _ _ _ _ _ bind_und bind_held]
  rw [bindFields]
  simp
end
end Go.Proofs.YtechpnlbkkfplaaGreatDoor.Pr
end
section
set_option linter.unusedVariables false
set_option linter.unusedSimpArgs false
namespace Go.Proofs.YtechpnlbkkfplaaGreatDoor.Pr
open Go Go.Lift Go.Proofs
theorem slX : SlT P T.sl_api_Exch T.api_Exch 3 32 zx := slT (by kernel_rfl) (by kernel_rfl)
theorem u_slx : P.underlying T.sl_api_Exch = some (.slice T.api_Exch) := by kernel_rfl
theorem bld_exch' : (fun a b c : Value => Instr.fill (Lift.places P (P.underlying T.sl_api_Exch)) (zrow (zcl P T.api_Exch).toList 1 (P.cellsOf T.api_Exch)).toArray [(0, .agg (List.toArray [a, b, c]))]) = fun a b c => some (List.toArray [a, b, c]) := by kernel_rfl
theorem bld_exch (x : XN) : bldS P T.sl_api_Exch T.api_Exch 1 [(0, .agg (List.toArray (xc x)))] (xc x) := congrFun (congrFun (congrFun bld_exch' _) _) _
theorem xc_len (X : List XN) : (X.flatMap xc).length = X.length * 3 := flat_length xc3 X
theorem bc_len (B : List BN) : (B.flatMap bc).length = B.length * 3 := flat_length bc3 B
abbrev RfL (w : Addr) (sx sb : SV) (X : List XN) (B : List BN) (L : List Asr) : List Asr := Bx w [.slice sx.1 sx.2.1 sx.2.2, .slice sb.1 sb.2.1 sb.2.2] :: Im 3 sx (X.flatMap xc) :: Im 3 sb (B.flatMap bc) :: L
structure RfOk (X : List XN) (B : List BN) : Prop where
  ux : Ord.Ups sort_string.o Prod.fst X
  ub : Ord.Ups sort_bind.o id B
def RfW (w : Addr) (X : List XN) (B : List BN) : Asr := ex fun y : SV × SV => sep (fact (RfOk X B)) (stars [Bx w [.slice y.1.1 y.1.2.1 y.1.2.2, .slice y.2.1 y.2.2.1 y.2.2.2], Im 3 y.1 (X.flatMap xc), Im 3 y.2 (B.flatMap bc)])
section
variable {K : KT} {L : List Asr} {h : Heap} {w : Addr} {X : List XN} {B : List BN} {sx sb : SV}
theorem RfW.out (S : St (RfW w X B :: L) h) : ∃ sx sb, RfOk X B ∧ St (RfL w sx sb X B L) h := by
  obtain ⟨⟨sx, sb⟩, S1⟩ := St.ex S
  obtain ⟨q, S2⟩ := S1.split.fact
  exact ⟨sx, sb, q, S2.open⟩
theorem RfW.inn (q : RfOk X B) (S : St (RfL w sx sb X B L) h) : St (RfW w X B :: L) h :=
  St.ex' (sx, sb) (St.join (St.fact' q (St.close (As := [Bx w [.slice sx.1 sx.2.1 sx.2.2, .slice sb.1 sb.2.1 sb.2.2], Im 3 sx (X.flatMap xc), Im 3 sb (B.flatMap bc)]) S)))
theorem RfL.lx (S : St (RfL w sx sb X B L) h) : Sl 3 h sx.1 sx.2.1 (X.flatMap xc) ∧ sx.2.1 = X.length ∧ sx.2.1 ≤ sx.2.2 := by
  have := (S.iml (m := List.mem_cons_of_mem _ (List.mem_cons_self ..)) : Sl 3 h sx.1 sx.2.1 (X.flatMap xc) ∧ sx.2.1 ≤ sx.2.2)
  have h1 := this.1.1
  rw [xc_len] at h1
  exact ⟨this.1, by omega, this.2⟩
theorem RfL.lb (S : St (RfL w sx sb X B L) h) : Sl 3 h sb.1 sb.2.1 (B.flatMap bc) ∧ sb.2.1 = B.length ∧ sb.2.1 ≤ sb.2.2 := by
  have := (S.iml (m := List.mem_cons_of_mem _ (List.mem_cons_of_mem _ (List.mem_cons_self ..))) : Sl 3 h sb.1 sb.2.1 (B.flatMap bc) ∧ sb.2.1 ≤ sb.2.2)
  have h1 := this.1.1
  rw [bc_len] at h1
  exact ⟨this.1, by omega, this.2⟩
theorem findR_loop {n : List UInt8} (S : St (RfL w sx sb X B L) h) (hl : X.length < 1099511627776) (hK : K (.tuple #[.int .i64 (posX X n : Nat), .bool (hitX X n)]) h) :
    ∀ (fuel i : Nat), posX X n - i < fuel → i ≤ posX X n → qbb.L2 K fuel (some w) n i h
  | 0, _, hf, _ => absurd hf (Nat.not_lt_zero _)
  | fuel + 1, i, hf, hi => by
    obtain ⟨sl, e1, e2⟩ := RfL.lx S
    have hp := Ord.pos_le (o := sort_string.o) (f := Prod.fst) X n
    unfold qbb.L2
    refine ⟨w, rfl, _, _, _, S.c 0 rfl, ?_⟩
    have j1 : i = posX X n → qbb.j1 K (some w) n i h := fun ei => by
      unfold qbb.j1
      unfold hitX Ord.hit at hK
      rw [show Ord.pos sort_string.o Prod.fst X n = posX X n from rfl, ← ei] at hK
      refine ⟨w, rfl, _, _, _, S.c 0 rfl, ?_⟩
      by_cases hlt : i < X.length
      · obtain ⟨p, ep, p0, p1, pc⟩ := ixF xc3 (by decide) sl (i := (i : Int)) (n := i) rfl (List.getElem?_eq_getElem hlt)
        rw [List.getElem?_eq_getElem hlt] at hK
        refine ifT (by simp; omega) ⟨w, rfl, _, _, _, S.c 0 rfl, p, ep, p0, p1, _, pc 0 _ rfl, ?_⟩
        unfold bd
        rw [show (X[i].1 == n) = decide (X[i].1 = n) from by by_cases e : X[i].1 = n <;> simp [e]]
        exact hK
      · rw [List.getElem?_eq_none (by omega)] at hK
        exact ifF (by simp; omega) hK
    by_cases hlt : i < X.length
    · obtain ⟨p, ep, p0, p1, pc⟩ := ixF xc3 (by decide) sl (i := (i : Int)) (n := i) rfl (List.getElem?_eq_getElem hlt)
      refine ifT (by simp; omega) ⟨w, rfl, _, _, _, S.c 0 rfl, p, ep, p0, p1, _, pc 0 _ rfl, ?_⟩
      unfold qbb.j3
      by_cases hi2 : i < posX X n
      · have := Ord.pos_lt (o := sort_string.o) (f := Prod.fst) hi2 (List.getElem?_eq_getElem hlt)
        refine ifT this ?_
        unfold bd
        rw [show IntKind.i64.wrap ((i : Int) + 1) = ((i + 1 : Nat) : Int) from wrapS (by omega) (by omega)]
        exact findR_loop S hl hK fuel (i + 1) (by omega) (by omega)
      · have ei : i = posX X n := by omega
        have : sort_string.o.lt X[i].1 n = false := Ord.pos_at (o := sort_string.o) (f := Prod.fst) (l := X) (by rw [show Ord.pos sort_string.o Prod.fst X n = posX X n from rfl, ← ei]; exact List.getElem?_eq_getElem hlt)
        exact ifF this (j1 ei)
    · refine ifF (by simp; omega) ?_
      unfold qbb.j3
      exact ifF rfl (j1 (by have : posX X n ≤ X.length := hp; omega))
theorem findR {n : List UInt8} (S : St (RfL w sx sb X B L) h) (hl : X.length < 1099511627776) (hK : K (.tuple #[.int .i64 (posX X n : Nat), .bool (hitX X n)]) h) : CallsH P F.qbb [.pointer (some w), .string (mkS n)] K h := by
  refine qbb.ok ?_
  unfold qbb.p0
  exact ⟨_, findR_loop S hl hK (posX X n + 1) 0 (by omega) (by omega)⟩
theorem getR {n : List UInt8} (S : St (RfW w X B :: L) h) (hl : X.length < 1099511627776) (hK : ∀ h', St (RfW w X B :: L) h' → K (.tuple #[.agg (List.toArray (xO (xget X n))), .bool (xget X n).isSome]) h') : CallsH P F.qcd [.pointer (some w), .string (mkS n)] K h := by
  obtain ⟨sx, sb, q, S0⟩ := RfW.out S
  refine qcd.ok ?_
  unfold qcd.p0
  refine St.bd1 (cs := zx) S0 fun S1 => findR S1.tl hl ⟨_, _, rfl, ?_⟩
  have eh := hitX_get q.ux n
  cases hx : xget X n with
  | some x =>
    rw [hx] at eh hK
    obtain ⟨sl, e1, e2⟩ := RfL.lx S1.tl
    have hp := posX_get q.ux hx
    rw [eh]
    refine ⟨fun _ => ⟨w, rfl, _, _, _, S1.p1.c 0 rfl, ixS xc3 (by decide) sl rfl hp ⟨rfl, ?_⟩⟩, fun e => by cases e⟩
    exact S1.wrA (ws := xc x) rfl (xc_one _) fun h2 S2 => S2.rdA (n := 3) rfl (hK h2 (RfW.inn q S2.tl))
  | none =>
    rw [hx] at eh hK
    rw [eh]
    refine ⟨fun e => (by cases e), fun _ => ⟨rfl, ?_⟩⟩
    exact S1.wrA (ws := zx) rfl (fun w hw => xO_one none w hw) fun h2 S2 => S2.rdA (n := 3) rfl (hK h2 (RfW.inn q S2.tl))
theorem str_lt_ne {x y : List UInt8} (h : x ≠ y) (k : Op.bytesLess x y = false) : Op.bytesLess y x = true := by
  cases e : Op.bytesLess y x with
  | true => rfl
  | false => exact absurd (sort_string.le_anti x y e k) h
theorem str_lt_irr (x : List UInt8) : Op.bytesLess x x = false := Ord.lt_irrefl (o := sort_string.o) x
theorem lessR {a b : BN} (S : St L h) (hK : ∀ h', St L h' → K (.bool (sort_bind.o.lt a b)) h') : CallsH P F.qco [.agg (List.toArray (bc a)), .agg (List.toArray (bc b))] K h := by
  refine qco.ok ?_
  unfold qco.p0
  refine St.bd1 (cs := bc a) S fun S1 => St.bd1 (cs := bc b) S1 fun S2 => ⟨_, S2.p1.c 0 rfl, _, S2.c 0 rfl, ?_⟩
  have k := hK _ S2.tl.tl
  have el : sort_bind.o.lt a b = (Op.bytesLess a.1 b.1 || (!Op.bytesLess b.1 a.1 && (Op.bytesLess a.2.1 b.2.1 || (!Op.bytesLess b.2.1 a.2.1 && Op.bytesLess a.2.2 b.2.2)))) := rfl
  rw [el] at k
  by_cases e1 : a.1 = b.1
  · refine ifF (by simp [e1]) ⟨_, S2.p1.c 1 rfl, _, S2.c 1 rfl, ?_⟩
    rw [e1, str_lt_irr] at k
    by_cases e2 : a.2.1 = b.2.1
    · refine ifF (by simp [e2]) ⟨_, S2.p1.c 2 rfl, _, S2.c 2 rfl, ?_⟩
      rw [e2, str_lt_irr] at k
      exact k
    · refine ifT (by simp [e2]) ⟨_, S2.p1.c 1 rfl, _, S2.c 1 rfl, ?_⟩
      cases e3 : Op.bytesLess a.2.1 b.2.1 with
      | true => rw [e3] at k; exact k
      | false => rw [e3, str_lt_ne e2 e3] at k; exact k
  · refine ifT (by simp [e1]) ⟨_, S2.p1.c 0 rfl, _, S2.c 0 rfl, ?_⟩
    cases e3 : Op.bytesLess a.1 b.1 with
    | true => rw [e3] at k; exact k
    | false => rw [e3, str_lt_ne e1 e3] at k; exact k
theorem bindEqS {a b : BN} (x y : Operand) (hK : K (.bool (decide (a = b))) h) : SemH P (eqS .eql T.api_Bind x y (.agg (List.toArray (bc a))) (.agg (List.toArray (bc b)))) K h := by
  intro w hw
  refine ⟨.bool (decide (a = b)), w, ?_, by rw [hw]; exact hK, Rest.refl w⟩
  simp only [eqS, Sem.run_bind, run_eqGuard_agg _ _ _ _ _ _ _ bind_guard, Result.andThen_ok, run_eql_struct, run_equalIn_agg _ _ _ _ _ bind_und bind_held]
  rw [bindFields]
  simp
theorem placeR_loop {b : BN} {t : Addr} (hl : B.length < 1099511627776) (hK : ∀ h', St (Bx t (bc b) :: RfL w sx sb X B L) h' → K (.tuple #[.int .i64 (posB B b : Nat), .bool (hitB B b)]) h') :
    ∀ (fuel i : Nat) (h : Heap), posB B b - i < fuel → i ≤ posB B b → St (Bx t (bc b) :: RfL w sx sb X B L) h → qay.L2 K fuel (some w) t i h
  | 0, _, _, hf, _, _ => absurd hf (Nat.not_lt_zero _)
  | fuel + 1, i, h, hf, hi, S => by
    obtain ⟨sl, e1, e2⟩ := RfL.lb S.tl
    have hp : posB B b ≤ B.length := Ord.pos_le (o := sort_bind.o) (f := id) B b
    unfold qay.L2
    refine ⟨w, rfl, _, _, _, S.p1.c 1 rfl, ?_⟩
    have j1 : ∀ h, i = posB B b → St (Bx t (bc b) :: RfL w sx sb X B L) h → qay.j1 K (some w) t i h := fun h ei S => by
      obtain ⟨sl, e1, e2⟩ := RfL.lb S.tl
      have k := hK h S
      unfold qay.j1
      unfold hitB Ord.hit at k
      rw [show Ord.pos sort_bind.o id B b = posB B b from rfl, ← ei] at k
      refine ⟨w, rfl, _, _, _, S.p1.c 1 rfl, ?_⟩
      by_cases hlt : i < B.length
      · rw [List.getElem?_eq_getElem hlt] at k
        refine ifT (by simp; omega) ⟨w, rfl, _, _, _, S.p1.c 1 rfl, ixS bc3 (by decide) sl rfl (List.getElem?_eq_getElem hlt) ⟨_, S.rall t 3 rfl, bindEqS _ _ ⟨_, rfl, ?_⟩⟩⟩
        exact k
      · rw [List.getElem?_eq_none (by omega)] at k
        exact ifF (by simp; omega) k
    by_cases hlt : i < B.length
    · refine ifT (by simp; omega) ⟨w, rfl, _, _, _, S.p1.c 1 rfl, ixS bc3 (by decide) sl rfl (List.getElem?_eq_getElem hlt) ⟨_, S.rall t 3 rfl, lessR S fun h' S' => ⟨_, rfl, ?_⟩⟩⟩
      unfold qay.j3
      by_cases hi2 : i < posB B b
      · have := Ord.pos_lt (o := sort_bind.o) (f := id) hi2 (List.getElem?_eq_getElem hlt)
        refine ifT this ?_
        unfold bd
        rw [show IntKind.i64.wrap ((i : Int) + 1) = ((i + 1 : Nat) : Int) from wrapS (by omega) (by omega)]
        exact placeR_loop hl hK fuel (i + 1) h' (by omega) (by omega) S'
      · have ei : i = posB B b := by omega
        have : sort_bind.o.lt B[i] b = false := Ord.pos_at (o := sort_bind.o) (f := id) (l := B) (by rw [show Ord.pos sort_bind.o id B b = posB B b from rfl, ← ei]; exact List.getElem?_eq_getElem hlt)
        exact ifF this (j1 h' ei S')
    · refine ifF (by simp; omega) ?_
      unfold qay.j3
      exact ifF rfl (j1 h (by omega) S)
theorem placeR {b : BN} (S : St (RfL w sx sb X B L) h) (hl : B.length < 1099511627776) (hK : ∀ h', St (RfL w sx sb X B L) h' → K (.tuple #[.int .i64 (posB B b : Nat), .bool (hitB B b)]) h') : CallsH P F.qay [.pointer (some w), .agg (List.toArray (bc b))] K h := by
  refine qay.ok ?_
  unfold qay.p0
  exact St.bd1 (cs := bc b) S fun S1 => ⟨_, placeR_loop hl (fun h' S' => hK h' S'.tl) (posB B b + 1) 0 _ (by omega) (by omega) S1⟩
end
end Go.Proofs.YtechpnlbkkfplaaGreatDoor.Pr
end
section
set_option linter.unusedVariables false
set_option linter.unusedSimpArgs false
namespace Go.Proofs.YtechpnlbkkfplaaGreatDoor.Pr
open Go Go.Lift Go.Proofs
section
variable {K : KT} {L : List Asr} {h : Heap} {w : Addr} {X : List XN} {B : List BN} {sx sb : SV}
def insJ {α : Type} (f : α → List Value) (xs : List α) (k : Nat) (x : α) (w : Addr) (cs : List Value) (cs' : SV → List Value) (L : List Asr) (d1 d8 d10 d11 d18 d21 : Bool) (a : Addr) (s1 : SV) (b : Addr) (s2 s3 : SV) (h : Heap) : Prop :=
  St (cond d18 (Ow 3 s3 ((xs.take k ++ x :: xs.drop k).flatMap f)) (cond d11 (Ow 3 s2 ((xs.take k ++ [x]).flatMap f)) (cond d8 (Ow 3 s1 ((xs.take k).flatMap f)) (cond d1 (Ow 3 (some a, 0, 0) []) emp))) ::
    cond d10 (Bx b (f x)) emp :: Bx w (cond d21 (cs' s3) cs) :: L) h
theorem addR3 {t : Addr} {x : XN} {k : Nat} (hk : k ≤ X.length) (hl : X.length < 1000000) (S : St (Bx t (xc x) :: RfL w sx sb X B L) h)
    (hK : ∀ h' s, St (Ow 3 s ((X.take k ++ x :: X.drop k).flatMap xc) :: Bx w [.slice s.1 s.2.1 s.2.2, .slice sb.1 sb.2.1 sb.2.2] :: Im 3 sx (X.flatMap xc) :: Im 3 sb (B.flatMap bc) :: L) h' → K (.bool true) h') : qan.r3 K (some w) t k h := by
  obtain ⟨e1, e2⟩ := (RfL.lx S.tl).2
  exact qan.r3.rule (p11 := w) (a12 := sx.1) (a12l := sx.2.1) (a12c := sx.2.2) (cs21 := xc x) (p36 := w) (a37 := sx.1) (a37l := sx.2.1) (a37c := sx.2.2) (p46 := w)
    (fun d a s1 s1l s1c b s2 s2l s2c s3 s3l s3c h => insJ xc X k x w [.slice sx.1 sx.2.1 sx.2.2, .slice sb.1 sb.2.1 sb.2.2] (fun s => [.slice s.1 s.2.1 s.2.2, .slice sb.1 sb.2.1 sb.2.2]) (Im 3 sx (X.flatMap xc) :: Im 3 sb (B.flatMap bc) :: Bx t (xc x) :: L) (d 1) (d 8) (d 10) (d 11) (d 18) (d 21) a (s1, s1l, s1c) b (s2, s2l, s2c) (s3, s3l, s3c) h)
    (show St (emp :: emp :: Bx w [.slice sx.1 sx.2.1 sx.2.2, .slice sb.1 sb.2.1 sb.2.2] :: Im 3 sx (X.flatMap xc) :: Im 3 sb (B.flatMap bc) :: Bx t (xc x) :: L) h from (St.emp' (St.emp' (show St (Bx w [.slice sx.1 sx.2.1 sx.2.2, .slice sb.1 sb.2.1 sb.2.2] :: Im 3 sx (X.flatMap xc) :: Im 3 sb (B.flatMap bc) :: Bx t (xc x) :: L) h from S.to))))
    (fun d a s1 s1l s1c b s2 s2l s2c s3 s3l s3c h k1 h1 h8 h11 h18 h21 J hk => by
      unfold insJ at J
      rw [h1, h8, h11, h18] at J
      refine St.bd0 (sz := 3) J.tl fun S => hk _ _ ?_
      show insJ xc X k x w _ _ _ true (d 8) (d 10) (d 11) (d 18) (d 21) _ _ _ _ _ _
      unfold insJ
      rw [h8, h11, h18]
      exact S)
    (fun d a s1 s1l s1c b s2 s2l s2c s3 s3l s3c h _ _ _ _ J => rfl)
    (fun d a s1 s1l s1c b s2 s2l s2c s3 s3l s3c h _ _ _ h21 J => by
      unfold insJ at J
      rw [h21] at J
      exact J.p2.c 0 rfl)
    (fun d a s1 s1l s1c b s2 s2l s2c s3 s3l s3c h _ _ _ _ J => ⟨by omega, by omega⟩)
    (fun d a s1 s1l s1c b s2 s2l s2c s3 s3l s3c h k8 h8 h1 h11 h18 h21 J hk => by
      unfold insJ at J
      rw [h1, h8, h11, h18] at J
      rw [Int.toNat_natCast]
      have J : St (Ow 3 (some a, 0, 0) [] :: cond (d 10) (Bx b (xc x)) emp :: Bx w (cond (d 21) _ _) :: Im 3 sx (X.flatMap xc) :: Im 3 sb (B.flatMap bc) :: Bx t (xc x) :: L) h := J
      refine St.appP (l' := sx.2.1) xc3 xc_one (by decide) (by decide) slX rfl u_slx (fun k e => by cases e) J (p := some a) (l := 0) (c := 0) (q := sx.1) (c' := sx.2.2) (xs := X) (by assumption) (by omega) fun p c h' S => ⟨_, _, _, rfl, hk _ _ _ _ ?_⟩
      show insJ xc X k x w _ _ _ (d 1) true (d 10) (d 11) (d 18) (d 21) _ _ _ _ _ _
      unfold insJ
      rw [h11, h18]
      exact S)
    (fun d a s1 s1l s1c b s2 s2l s2c s3 s3l s3c h h10 h11 h18 h21 J => by
      unfold insJ at J
      exact J.p5.rall t 3 rfl)
    (fun d a s1 s1l s1c b s2 s2l s2c s3 s3l s3c h k10 h10 h11 h18 h21 J hk => ⟨xc x, bld_exch x, by
      unfold insJ at J
      rw [h10] at J
      refine St.bd1 (cs := xc x) J.p1.tl fun S => hk _ _ ?_
      show insJ xc X k x w _ _ _ (d 1) (d 8) true (d 11) (d 18) (d 21) _ _ _ _ _ _
      unfold insJ
      exact S.p1⟩)
    (fun d a s1 s1l s1c b s2 s2l s2c s3 s3l s3c h k11 h11 h1 h8 h10 h18 h21 J hk => by
      unfold insJ at J
      rw [h8, h10, h11, h18] at J
      have J : St (Ow 3 (s1, s1l, s1c) ((X.take k).flatMap xc) :: Bx b (xc x) :: Bx w (cond (d 21) _ _) :: Im 3 sx (X.flatMap xc) :: Im 3 sb (B.flatMap bc) :: Bx t (xc x) :: L) h := J
      have el : s1l = k := by have := J.ow.1; rw [flat_length xc3, List.length_take] at this; simp at this; omega
      refine St.appB (x := x) xc_one (by decide) slX rfl u_slx (fun k e => by cases e) J (p := s1) (l := s1l) (c := s1c) (a := b) xc3 (by omega) fun p c h' S => ⟨_, _, _, rfl, hk _ _ _ _ ?_⟩
      show insJ xc X k x w _ _ _ (d 1) (d 8) (d 10) true (d 18) (d 21) _ _ _ _ _ _
      unfold insJ
      rw [h18, h10]
      show St (Ow 3 (p, s1l + 1, c) ((X.take k ++ [x]).flatMap xc) :: _) _
      rw [List.flatMap_append, show [x].flatMap xc = xc x from by simp]
      exact S)
    (fun d a s1 s1l s1c b s2 s2l s2c s3 s3l s3c h _ _ J => rfl)
    (fun d a s1 s1l s1c b s2 s2l s2c s3 s3l s3c h _ h21 J => by
      unfold insJ at J
      rw [h21] at J
      exact J.p2.c 0 rfl)
    (fun d a s1 s1l s1c b s2 s2l s2c s3 s3l s3c h _ _ J => ⟨by omega, by omega⟩)
    (fun d a s1 s1l s1c b s2 s2l s2c s3 s3l s3c h k18 h18 h1 h8 h10 h11 h21 J hk => by
      unfold insJ at J
      rw [h10, h11, h18, h21] at J
      rw [Int.toNat_natCast]
      have J : St (Ow 3 (s2, s2l, s2c) ((X.take k ++ [x]).flatMap xc) :: Bx b (xc x) :: Bx w [.slice sx.1 sx.2.1 sx.2.2, .slice sb.1 sb.2.1 sb.2.2] :: Im 3 sx (X.flatMap xc) :: Im 3 sb (B.flatMap bc) :: Bx t (xc x) :: L) h := J
      have el : s2l = k + 1 := by have := J.ow.1; rw [flat_length xc3, List.length_append, List.length_take] at this; simp at this; omega
      refine St.appT (l' := sx.2.1) xc3 xc_one (by decide) (by decide) slX rfl u_slx (fun k e => by cases e) J (p := s2) (l := s2l) (c := s2c) (q := sx.1) (c' := sx.2.2) (xs := X) (by assumption) (by omega) fun p c h' S => ⟨_, _, _, rfl, hk _ _ _ _ ?_⟩
      show insJ xc X k x w _ _ _ (d 1) (d 8) (d 10) (d 11) true (d 21) _ _ _ _ _ _
      unfold insJ
      rw [h10, h21]
      have ev : (X.take k ++ x :: X.drop k).flatMap xc = (X.take k ++ [x]).flatMap xc ++ (X.drop k).flatMap xc := by rw [← List.flatMap_append]; simp
      rw [ev]
      exact S)
    (fun d a s1 s1l s1c b s2 s2l s2c s3 s3l s3c h _ _ _ _ _ _ J => rfl)
    (fun d a s1 s1l s1c b s2 s2l s2c s3 s3l s3c h k21 h21 h1 h8 h10 h11 h18 J hk => by
      unfold insJ at J
      rw [h10, h18, h21] at J
      have J : St (Ow 3 (s3, s3l, s3c) ((X.take k ++ x :: X.drop k).flatMap xc) :: Bx b (xc x) :: Bx w [.slice sx.1 sx.2.1 sx.2.2, .slice sb.1 sb.2.1 sb.2.2] :: Im 3 sx (X.flatMap xc) :: Im 3 sb (B.flatMap bc) :: Bx t (xc x) :: L) h := J
      refine J.p2.wr 0 (by simp) rfl fun h' S => hk _ ?_
      show insJ xc X k x w _ _ _ (d 1) (d 8) (d 10) (d 11) (d 18) true _ _ _ _ _ _
      unfold insJ
      rw [h10, h18]
      exact S.p1.p2.p1)
    (fun d a s1 s1l s1c b s2 s2l s2c s3 s3l s3c h h1 h8 h10 h11 h18 h21 J => by
      unfold insJ at J
      rw [h10, h18, h21] at J
      unfold qan.j2
      have J : St (Ow 3 (s3, s3l, s3c) ((X.take k ++ x :: X.drop k).flatMap xc) :: Bx b (xc x) :: Bx w [.slice s3 s3l s3c, .slice sb.1 sb.2.1 sb.2.2] :: Im 3 sx (X.flatMap xc) :: Im 3 sb (B.flatMap bc) :: Bx t (xc x) :: L) h := J
      have J : St (Ow 3 (s3, s3l, s3c) ((X.take k ++ x :: X.drop k).flatMap xc) :: Bx w [.slice s3 s3l s3c, .slice sb.1 sb.2.1 sb.2.2] :: Im 3 sx (X.flatMap xc) :: Im 3 sb (B.flatMap bc) :: L) h := J.to
      exact hK h (s3, s3l, s3c) J)
theorem bindR3 {t : Addr} {x : BN} {k : Nat} (hk : k ≤ B.length) (hl : B.length < 1000000) (S : St (Bx t (bc x) :: RfL w sx sb X B L) h)
    (hK : ∀ h' s, St (Ow 3 s ((B.take k ++ x :: B.drop k).flatMap bc) :: Bx w [.slice sx.1 sx.2.1 sx.2.2, .slice s.1 s.2.1 s.2.2] :: Im 3 sx (X.flatMap xc) :: Im 3 sb (B.flatMap bc) :: L) h' → K (.bool true) h') : qal.r3 K (some w) t k h := by
  obtain ⟨e1, e2⟩ := (RfL.lb S.tl).2
  exact qal.r3.rule (p16 := w) (a17 := sb.1) (a17l := sb.2.1) (a17c := sb.2.2) (cs26 := bc x) (p41 := w) (a42 := sb.1) (a42l := sb.2.1) (a42c := sb.2.2) (p51 := w)
    (fun d a s1 s1l s1c b s2 s2l s2c s3 s3l s3c h => insJ bc B k x w [.slice sx.1 sx.2.1 sx.2.2, .slice sb.1 sb.2.1 sb.2.2] (fun s => [.slice sx.1 sx.2.1 sx.2.2, .slice s.1 s.2.1 s.2.2]) (Im 3 sx (X.flatMap xc) :: Im 3 sb (B.flatMap bc) :: Bx t (bc x) :: L) (d 1) (d 8) (d 10) (d 11) (d 18) (d 21) a (s1, s1l, s1c) b (s2, s2l, s2c) (s3, s3l, s3c) h)
    (show St (emp :: emp :: Bx w [.slice sx.1 sx.2.1 sx.2.2, .slice sb.1 sb.2.1 sb.2.2] :: Im 3 sx (X.flatMap xc) :: Im 3 sb (B.flatMap bc) :: Bx t (bc x) :: L) h from (St.emp' (St.emp' (show St (Bx w [.slice sx.1 sx.2.1 sx.2.2, .slice sb.1 sb.2.1 sb.2.2] :: Im 3 sx (X.flatMap xc) :: Im 3 sb (B.flatMap bc) :: Bx t (bc x) :: L) h from S.to))))
    (fun d a s1 s1l s1c b s2 s2l s2c s3 s3l s3c h k1 h1 h8 h11 h18 h21 J hk => by
      unfold insJ at J
      rw [h1, h8, h11, h18] at J
      refine St.bd0 (sz := 3) J.tl fun S => hk _ _ ?_
      show insJ bc B k x w _ _ _ true (d 8) (d 10) (d 11) (d 18) (d 21) _ _ _ _ _ _
      unfold insJ
      rw [h8, h11, h18]
      exact S)
    (fun d a s1 s1l s1c b s2 s2l s2c s3 s3l s3c h _ _ _ _ J => rfl)
    (fun d a s1 s1l s1c b s2 s2l s2c s3 s3l s3c h _ _ _ h21 J => by
      unfold insJ at J
      rw [h21] at J
      exact J.p2.c 1 rfl)
    (fun d a s1 s1l s1c b s2 s2l s2c s3 s3l s3c h _ _ _ _ J => ⟨by omega, by omega⟩)
    (fun d a s1 s1l s1c b s2 s2l s2c s3 s3l s3c h k8 h8 h1 h11 h18 h21 J hk => by
      unfold insJ at J
      rw [h1, h8, h11, h18] at J
      rw [Int.toNat_natCast]
      have J : St (Ow 3 (some a, 0, 0) [] :: cond (d 10) (Bx b (bc x)) emp :: Bx w (cond (d 21) _ _) :: Im 3 sx (X.flatMap xc) :: Im 3 sb (B.flatMap bc) :: Bx t (bc x) :: L) h := J
      refine St.appP (l' := sb.2.1) bc3 bc_one (by decide) (by decide) sl_bind rfl u_slb (fun k e => by cases e) J (p := some a) (l := 0) (c := 0) (q := sb.1) (c' := sb.2.2) (xs := B) (by assumption) (by omega) fun p c h' S => ⟨_, _, _, rfl, hk _ _ _ _ ?_⟩
      show insJ bc B k x w _ _ _ (d 1) true (d 10) (d 11) (d 18) (d 21) _ _ _ _ _ _
      unfold insJ
      rw [h11, h18]
      exact S)
    (fun d a s1 s1l s1c b s2 s2l s2c s3 s3l s3c h h10 h11 h18 h21 J => by
      unfold insJ at J
      exact J.p5.rall t 3 rfl)
    (fun d a s1 s1l s1c b s2 s2l s2c s3 s3l s3c h k10 h10 h11 h18 h21 J hk => ⟨bc x, bld_bind x, by
      unfold insJ at J
      rw [h10] at J
      refine St.bd1 (cs := bc x) J.p1.tl fun S => hk _ _ ?_
      show insJ bc B k x w _ _ _ (d 1) (d 8) true (d 11) (d 18) (d 21) _ _ _ _ _ _
      unfold insJ
      exact S.p1⟩)
    (fun d a s1 s1l s1c b s2 s2l s2c s3 s3l s3c h k11 h11 h1 h8 h10 h18 h21 J hk => by
      unfold insJ at J
      rw [h8, h10, h11, h18] at J
      have J : St (Ow 3 (s1, s1l, s1c) ((B.take k).flatMap bc) :: Bx b (bc x) :: Bx w (cond (d 21) _ _) :: Im 3 sx (X.flatMap xc) :: Im 3 sb (B.flatMap bc) :: Bx t (bc x) :: L) h := J
      have el : s1l = k := by have := J.ow.1; rw [flat_length bc3, List.length_take] at this; simp at this; omega
      refine St.appB (x := x) bc_one (by decide) sl_bind rfl u_slb (fun k e => by cases e) J (p := s1) (l := s1l) (c := s1c) (a := b) bc3 (by omega) fun p c h' S => ⟨_, _, _, rfl, hk _ _ _ _ ?_⟩
      show insJ bc B k x w _ _ _ (d 1) (d 8) (d 10) true (d 18) (d 21) _ _ _ _ _ _
      unfold insJ
      rw [h18, h10]
      show St (Ow 3 (p, s1l + 1, c) ((B.take k ++ [x]).flatMap bc) :: _) _
      rw [List.flatMap_append, show [x].flatMap bc = bc x from by simp]
      exact S)
    (fun d a s1 s1l s1c b s2 s2l s2c s3 s3l s3c h _ _ J => rfl)
    (fun d a s1 s1l s1c b s2 s2l s2c s3 s3l s3c h _ h21 J => by
      unfold insJ at J
      rw [h21] at J
      exact J.p2.c 1 rfl)
    (fun d a s1 s1l s1c b s2 s2l s2c s3 s3l s3c h _ _ J => ⟨by omega, by omega⟩)
    (fun d a s1 s1l s1c b s2 s2l s2c s3 s3l s3c h k18 h18 h1 h8 h10 h11 h21 J hk => by
      unfold insJ at J
      rw [h10, h11, h18, h21] at J
      rw [Int.toNat_natCast]
      have J : St (Ow 3 (s2, s2l, s2c) ((B.take k ++ [x]).flatMap bc) :: Bx b (bc x) :: Bx w [.slice sx.1 sx.2.1 sx.2.2, .slice sb.1 sb.2.1 sb.2.2] :: Im 3 sx (X.flatMap xc) :: Im 3 sb (B.flatMap bc) :: Bx t (bc x) :: L) h := J
      have el : s2l = k + 1 := by have := J.ow.1; rw [flat_length bc3, List.length_append, List.length_take] at this; simp at this; omega
      refine St.appT (l' := sb.2.1) bc3 bc_one (by decide) (by decide) sl_bind rfl u_slb (fun k e => by cases e) J (p := s2) (l := s2l) (c := s2c) (q := sb.1) (c' := sb.2.2) (xs := B) (by assumption) (by omega) fun p c h' S => ⟨_, _, _, rfl, hk _ _ _ _ ?_⟩
      show insJ bc B k x w _ _ _ (d 1) (d 8) (d 10) (d 11) true (d 21) _ _ _ _ _ _
      unfold insJ
      rw [h10, h21]
      have ev : (B.take k ++ x :: B.drop k).flatMap bc = (B.take k ++ [x]).flatMap bc ++ (B.drop k).flatMap bc := by rw [← List.flatMap_append]; simp
      rw [ev]
      exact S)
    (fun d a s1 s1l s1c b s2 s2l s2c s3 s3l s3c h _ _ _ _ _ _ J => rfl)
    (fun d a s1 s1l s1c b s2 s2l s2c s3 s3l s3c h k21 h21 h1 h8 h10 h11 h18 J hk => by
      unfold insJ at J
      rw [h10, h18, h21] at J
      have J : St (Ow 3 (s3, s3l, s3c) ((B.take k ++ x :: B.drop k).flatMap bc) :: Bx b (bc x) :: Bx w [.slice sx.1 sx.2.1 sx.2.2, .slice sb.1 sb.2.1 sb.2.2] :: Im 3 sx (X.flatMap xc) :: Im 3 sb (B.flatMap bc) :: Bx t (bc x) :: L) h := J
      refine J.p2.wr 1 (by simp) rfl fun h' S => hk _ ?_
      show insJ bc B k x w _ _ _ (d 1) (d 8) (d 10) (d 11) (d 18) true _ _ _ _ _ _
      unfold insJ
      rw [h10, h18]
      exact S.p1.p2.p1)
    (fun d a s1 s1l s1c b s2 s2l s2c s3 s3l s3c h h1 h8 h10 h11 h18 h21 J => by
      unfold insJ at J
      rw [h10, h18, h21] at J
      unfold qal.j2
      have J : St (Ow 3 (s3, s3l, s3c) ((B.take k ++ x :: B.drop k).flatMap bc) :: Bx b (bc x) :: Bx w [.slice sx.1 sx.2.1 sx.2.2, .slice s3 s3l s3c] :: Im 3 sx (X.flatMap xc) :: Im 3 sb (B.flatMap bc) :: Bx t (bc x) :: L) h := J
      have J : St (Ow 3 (s3, s3l, s3c) ((B.take k ++ x :: B.drop k).flatMap bc) :: Bx w [.slice sx.1 sx.2.1 sx.2.2, .slice s3 s3l s3c] :: Im 3 sx (X.flatMap xc) :: Im 3 sb (B.flatMap bc) :: L) h := J.to
      exact hK h (s3, s3l, s3c) J)
end
end Go.Proofs.YtechpnlbkkfplaaGreatDoor.Pr
end
section
set_option linter.unusedVariables false
set_option linter.unusedSimpArgs false
namespace Go.Proofs.YtechpnlbkkfplaaGreatDoor.Pr
open Go Go.Lift Go.Proofs
section
variable {K : KT} {L : List Asr} {h : Heap} {w : Addr} {X : List XN} {B : List BN} {sx sb : SV}
theorem addR {x : XN} (S : St (RfW w X B :: L) h) (hl : X.length < 1000000) (hF : ((xget X x.1).isSome = true ∨ x.2.1 < 1 ∨ 3 < x.2.1) → ∀ h', St (RfW w X B :: L) h' → K (.bool false) h')
    (hT : xget X x.1 = none → 1 ≤ x.2.1 ∧ x.2.1 ≤ 3 → ∀ h', St (RfW w (insX X x) B :: L) h' → K (.bool true) h') : CallsH P F.qan [.pointer (some w), .agg (List.toArray (xc x))] K h := by
  obtain ⟨sx, sb, q, S0⟩ := RfW.out S
  refine qan.ok ?_
  unfold qan.p0
  refine St.bd1 (cs := xc x) S0 fun S1 => ⟨_, S1.c 0 rfl, findR S1.tl (by omega) ⟨_, _, rfl, ?_⟩⟩
  have eh := hitX_get q.ux x.1
  have jT : ((xget X x.1).isSome = true ∨ x.2.1 < 1 ∨ 3 < x.2.1) → qan.j1 K (some w) (top h) (posX X x.1 : Nat) true (al h (List.toArray (xc x)) T.api_Exch) := fun e => by
    unfold qan.j1
    exact ifT rfl (hF e _ (RfW.inn q S1.tl))
  cases hx : xget X x.1 with
  | some y =>
    rw [hx] at eh
    rw [eh]
    exact ⟨fun e => (by cases e), fun _ => jT (.inl (by rw [hx]; rfl))⟩
  | none =>
    rw [hx] at eh
    rw [eh]
    refine ⟨fun _ => ⟨_, S1.c 1 rfl, ?_⟩, fun e => by cases e⟩
    by_cases h1 : x.2.1 < 1
    · exact ⟨fun e => absurd e (by simp [h1]), fun _ => jT (.inr (.inl h1))⟩
    · refine ⟨fun _ => ⟨_, S1.c 1 rfl, ?_⟩, fun e => absurd e (by simp [h1])⟩
      by_cases h3 : x.2.1 > 3
      · rw [decide_eq_true h3]; exact jT (.inr (.inr h3))
      · rw [decide_eq_false h3]
        unfold qan.j1
        refine ifF rfl (addR3 (Ord.pos_le ..) hl S1 fun h' s S' => hT hx ⟨by omega, by omega⟩ h' ?_)
        rw [← show insX X x = X.take (posX X x.1) ++ x :: X.drop (posX X x.1) from Ord.pos_ins X x] at S'
        exact RfW.inn (sx := s) ⟨q.ux.ins sort_string.le_anti (xget_none hx), q.ub⟩ (show St (Bx w [.slice s.1 s.2.1 s.2.2, .slice sb.1 sb.2.1 sb.2.2] :: Im 3 s ((insX X x).flatMap xc) :: Im 3 sb (B.flatMap bc) :: L) h' from S'.im.to)
theorem bindR {b : BN} (S : St (RfW w X B :: L) h) (hl : X.length < 1000000 ∧ B.length < 1000000) (hF : (xget X b.1 = none ∨ b.1 = [] ∨ b ∈ B) → ∀ h', St (RfW w X B :: L) h' → K (.bool false) h')
    (hT : (xget X b.1).isSome = true → b.1 ≠ [] → b ∉ B → ∀ h', St (RfW w X (insB B b) :: L) h' → K (.bool true) h') : CallsH P F.qal [.pointer (some w), .agg (List.toArray (bc b))] K h := by
  obtain ⟨sx, sb, q, S0⟩ := RfW.out S
  refine qal.ok ?_
  unfold qal.p0
  refine St.bd1 (cs := bc b) S0 fun S1 => ⟨_, S1.c 0 rfl, findR S1.tl (by omega) ⟨_, _, rfl, _, S1.rall (top h) 3 rfl, ?_⟩⟩
  have eh := hitX_get q.ux b.1
  have eb := hitB_mem q.ub b
  refine placeR (L := Bx (top h) (bc b) :: L) (show St (RfL w sx sb X B (Bx (top h) (bc b) :: L)) _ from S1.to) (by omega) fun h2 S2 => ⟨_, _, rfl, ?_⟩
  have jT : (xget X b.1 = none ∨ b.1 = [] ∨ b ∈ B) → qal.j1 K (some w) (top h) (posB B b : Nat) true h2 := fun e => by
    unfold qal.j1
    exact ifT rfl (hF e _ (RfW.inn (sx := sx) (sb := sb) q S2.to))
  rw [eh, eb]
  cases hx : xget X b.1 with
  | none => exact ⟨fun e => (by cases e), fun _ => jT (.inl hx)⟩
  | some y =>
    refine ⟨fun _ => ?_, fun e => by cases e⟩
    by_cases hm : b ∈ B
    · rw [decide_eq_true hm]
      exact ⟨fun e => (by cases e), fun _ => jT (.inr (.inr hm))⟩
    · rw [decide_eq_false hm]
      refine ⟨fun _ => ⟨_, S2.p3.c 0 rfl, ?_⟩, fun e => by cases e⟩
      by_cases he : b.1 = []
      · rw [show (b.1 == []) = true by simp [he]]
        exact jT (.inr (.inl he))
      · rw [show (b.1 == []) = false by simp [he]]
        unfold qal.j1
        refine ifF rfl (bindR3 (L := L) (Ord.pos_le ..) hl.2 S2.p3 fun h' s S' => hT (by rw [hx]; rfl) he hm h' ?_)
        rw [← show insB B b = B.take (posB B b) ++ b :: B.drop (posB B b) from Ord.pos_ins B b] at S'
        exact RfW.inn (sb := s) ⟨q.ux, q.ub.ins sort_bind.le_anti (by rw [List.map_id]; exact hm)⟩ (show St (Bx w [.slice sx.1 sx.2.1 sx.2.2, .slice s.1 s.2.1 s.2.2] :: Im 3 sx (X.flatMap xc) :: Im 3 s ((insB B b).flatMap bc) :: L) h' from S'.im.to)
theorem finB {L0 R R' : List Asr} {B' : List BN} (S : St L0 h) (w : Addr) {old : Value} [Has (Bx w) L0 [.slice sx.1 sx.2.1 sx.2.2, old] R] {p : OA} {l c : Nat} {vs : List Value} [H : Has (Ow 3 (p, l, c)) R vs R'] [HL : Lift.Sub (Im 3 sx (X.flatMap xc) :: L) R'] {Q : Heap → Prop} (hv : vs = B'.flatMap bc) (q : RfOk X B')
    (hK : ∀ h', St (RfW w X B' :: L) h' → Q h') : ∃ h', stC h (Addr.add w 1) 0 [.slice p l c] = some h' ∧ Q h' :=
  S.put1 w 1 (by simp) rfl fun h' S' => hK h' (by
    have S1 : St (Bx w [.slice sx.1 sx.2.1 sx.2.2, .slice p l c] :: Ow 3 (p, l, c) vs :: R') h' := St.perm S' (List.Perm.cons _ H.perm)
    rw [hv] at S1
    obtain ⟨D, hD⟩ := HL.ex
    have S2 : St (Im 3 (p, l, c) (B'.flatMap bc) :: Bx w [.slice sx.1 sx.2.1 sx.2.2, .slice p l c] :: ((Im 3 sx (X.flatMap xc) :: L) ++ D)) h' := St.perm S1.p1.im (List.Perm.cons _ (List.Perm.cons _ hD))
    have S3 : St (RfL w sx (p, l, c) X B' L ++ D) h' := S2.p1.perm (List.Perm.cons _ (List.Perm.swap ..))
    exact RfW.inn (sx := sx) (sb := (p, l, c)) q (St.left S3))
theorem finX16 {L0 R R' : List Asr} {X' : List XN} (S : St L0 h) (w : Addr) {old : Value} [Has (Bx w) L0 [old, .slice sb.1 sb.2.1 sb.2.2] R] {p : OA} {l c : Nat} {vs : List Value} [H : Has (Ow 3 (p, l, c)) R vs R'] [HL : Lift.Sub (Im 3 sb (B.flatMap bc) :: L) R'] {Q : Heap → Prop} (hv : vs = X'.flatMap xc) (q : RfOk X' B)
    (hK : ∀ h', St (RfW w X' B :: L) h' → Q h') : ∃ h', stC h (Addr.add w 0) 0 [.slice p l c] = some h' ∧ Q h' :=
  S.put1 w 0 (by simp) rfl fun h' S' => hK h' (by
    have S1 : St (Bx w [.slice p l c, .slice sb.1 sb.2.1 sb.2.2] :: Ow 3 (p, l, c) vs :: R') h' := St.perm S' (List.Perm.cons _ H.perm)
    rw [hv] at S1
    obtain ⟨D, hD⟩ := HL.ex
    have S2 : St (Im 3 (p, l, c) (X'.flatMap xc) :: Bx w [.slice p l c, .slice sb.1 sb.2.1 sb.2.2] :: ((Im 3 sb (B.flatMap bc) :: L) ++ D)) h' := St.perm S1.p1.im (List.Perm.cons _ (List.Perm.cons _ hD))
    exact RfW.inn (sx := (p, l, c)) (sb := sb) q (St.left (L := RfL w (p, l, c) sb X' B L) (D := D) S2.p1))
section
variable {R R' : List Asr} {p q : OA} {l c l' c' k : Nat} {ys : List Value} {ty : TypeId}
theorem xAppP {Y : List XN} (S : St L h) [Has (Ow 3 (p, l, c)) L ys R] [In (Im 3 (q, l', c')) L (Y.flatMap xc)] (hk : k ≤ Y.length) (hx : l + Y.length ≤ 1099511627776) (hK : ∀ p' c2 h', St (Ow 3 (p', l + k, c2) (ys ++ (Y.take k).flatMap xc) :: R) h' → K (.slice p' (l + k) c2) h') :
    SemH P (Builtin.append_ #[T.sl_api_Exch, T.sl_api_Exch] ty #[.slice p l c, .slice (slA q 0 c' 3) k c']) K h :=
  St.appP (l' := l') xc3 xc_one (by decide) (by decide) slX rfl u_slx (fun k e => by cases e) S hk hx hK
theorem xAppT {Y : List XN} (S : St L h) [Has (Ow 3 (p, l, c)) L ys R] [In (Im 3 (q, l', c')) L (Y.flatMap xc)] (hk : k ≤ Y.length) (hx : l + Y.length ≤ 1099511627776) (hK : ∀ p' c2 h', St (Ow 3 (p', l + (l' - k), c2) (ys ++ (Y.drop k).flatMap xc) :: R) h' → K (.slice p' (l + (l' - k)) c2) h') :
    SemH P (Builtin.append_ #[T.sl_api_Exch, T.sl_api_Exch] ty #[.slice p l c, .slice (slA q k c' 3) (l' - k) (c' - k)]) K h :=
  St.appT (l' := l') xc3 xc_one (by decide) (by decide) slX rfl u_slx (fun k e => by cases e) S hk hx hK
theorem bAppP {Y : List BN} (S : St L h) [Has (Ow 3 (p, l, c)) L ys R] [In (Im 3 (q, l', c')) L (Y.flatMap bc)] (hk : k ≤ Y.length) (hx : l + Y.length ≤ 1099511627776) (hK : ∀ p' c2 h', St (Ow 3 (p', l + k, c2) (ys ++ (Y.take k).flatMap bc) :: R) h' → K (.slice p' (l + k) c2) h') :
    SemH P (Builtin.append_ #[T.sl_api_Bind, T.sl_api_Bind] ty #[.slice p l c, .slice (slA q 0 c' 3) k c']) K h :=
  St.appP (l' := l') bc3 bc_one (by decide) (by decide) sl_bind rfl u_slb (fun k e => by cases e) S hk hx hK
theorem bAppT {Y : List BN} (S : St L h) [Has (Ow 3 (p, l, c)) L ys R] [In (Im 3 (q, l', c')) L (Y.flatMap bc)] (hk : k ≤ Y.length) (hx : l + Y.length ≤ 1099511627776) (hK : ∀ p' c2 h', St (Ow 3 (p', l + (l' - k), c2) (ys ++ (Y.drop k).flatMap bc) :: R) h' → K (.slice p' (l + (l' - k)) c2) h') :
    SemH P (Builtin.append_ #[T.sl_api_Bind, T.sl_api_Bind] ty #[.slice p l c, .slice (slA q k c' 3) (l' - k) (c' - k)]) K h :=
  St.appT (l' := l') bc3 bc_one (by decide) (by decide) sl_bind rfl u_slb (fun k e => by cases e) S hk hx hK
end
set_option maxHeartbeats 4000000 in
theorem unbindR {b : BN} (S : St (RfW w X B :: L) h) (hl : X.length < 1000000 ∧ B.length < 1000000) (hK : ∀ h', St (RfW w X (B.filter fun c => decide (c ≠ b)) :: L) h' → K (.bool (decide (b ∈ B))) h') : CallsH P F.qca [.pointer (some w), .agg (List.toArray (bc b))] K h := by
  obtain ⟨sx, sb, q, S0⟩ := RfW.out S
  refine qca.ok ?_
  unfold qca.p0
  refine St.bd1 (cs := bc b) S0 fun S1 => ⟨_, S1.rall (top h) 3 rfl, ?_⟩
  refine placeR S1.tl (by omega) fun h2 S => ⟨_, _, rfl, ?_⟩
  have eb := hitB_mem q.ub b
  obtain ⟨-, e1, e2⟩ := RfL.lb S
  rw [eb]
  by_cases hm : b ∈ B
  · rw [decide_eq_true hm] at hK eb ⊢
    obtain ⟨x, hx, -⟩ := Ord.hit_some eb
    have hp : posB B b < B.length := (List.getElem?_eq_some_iff.1 hx).1
    have hp0 : posB B b ≤ B.length := Nat.le_of_lt hp
    have hp1 : posB B b + 1 ≤ B.length := hp
    have hw1 : IntKind.i64.wrap (((posB B b : Nat) : Int) + 1) = ((posB B b + 1 : Nat) : Int) := wrapS (by omega) (by omega)
    have ev : ([] ++ (B.take (posB B b)).flatMap bc ++ (B.drop (posB B b + 1)).flatMap bc) = (B.filter fun c => decide (c ≠ b)).flatMap bc := by
      have e : B.take (posB B b) ++ B.drop (posB B b + 1) = B.filter fun c => decide (c ≠ b) := Ord.pos_del q.ub eb
      rw [List.nil_append, ← List.flatMap_append, e]
    have q' : RfOk X (B.filter fun c => decide (c ≠ b)) := ⟨q.ux, q.ub.filter _⟩
    refine ⟨fun _ => ?_, fun e => by cases e⟩
    simp only [hw1, Int.toNat_natCast]
    repeat' first
      | with_reducible refine And.intro ?_ ?_
      | with_reducible refine ⟨w, rfl, ?_⟩
      | with_reducible refine St.bd0 (sz := 3) S fun S => ?_
      | with_reducible refine ⟨_, _, _, S.rc w 1 rfl, ?_⟩
      | (with_reducible refine finB (sx := sx) (X := X) (L := L) S w ev q' hK)
      | with_reducible refine bAppP (q := sb.1) (l' := sb.2.1) (c' := sb.2.2) (Y := B) S hp0 ?_ fun p c h S => ⟨_, _, _, rfl, ?_⟩
      | with_reducible refine bAppT (q := sb.1) (l' := sb.2.1) (c' := sb.2.2) (Y := B) S hp1 ?_ fun p c h S => ⟨_, _, _, rfl, ?_⟩
      | omega
      | exact ⟨by omega, by omega⟩
  · rw [decide_eq_false hm] at hK ⊢
    refine ⟨fun e => (by cases e), fun _ => hK h2 ?_⟩
    have e : (B.filter fun c => decide (c ≠ b)) = B := List.filter_eq_self.2 fun c hc => decide_eq_true fun e => hm (by rw [← e]; exact hc)
    rw [e]
    exact RfW.inn q S
end
end Go.Proofs.YtechpnlbkkfplaaGreatDoor.Pr
end
section
set_option linter.unusedVariables false
set_option linter.unusedSimpArgs false
namespace Go.Proofs.YtechpnlbkkfplaaGreatDoor.Pr
open Go Go.Lift Go.Proofs
section
variable {K : KT} {L : List Asr} {h : Heap} {w : Addr} {X : List XN} {B : List BN} {sx sb : SV}
theorem newR (S : St L h) (hK : ∀ h' w, St (RfW w X0 [] :: L) h' → K (.pointer (some w)) h') : CallsH P F.qch [] K h := by
  refine qch.ok ?_
  unfold qch.p0
  refine St.bd1 (cs := [.slice none 0 0, .slice none 0 0]) S fun S1 => ?_
  have S2 : St (RfW (top h) [] [] :: L) _ := RfW.inn (sx := (none, 0, 0)) (sb := (none, 0, 0)) ⟨List.Pairwise.nil, List.Pairwise.nil⟩ (show St (RfL (top h) (none, 0, 0) (none, 0, 0) [] [] L) _ from ((S1.imNil 3 0).imNil 3 0).p2)
  have no : ∀ {X : List XN} {n : List UInt8}, xget X n = none → ¬ ((xget X n).isSome = true ∨ (1 : Int) < 1 ∨ (3 : Int) < 1) ∧ ¬ ((xget X n).isSome = true ∨ (2 : Int) < 1 ∨ (3 : Int) < 2) ∧ ¬ ((xget X n).isSome = true ∨ (3 : Int) < 1 ∨ (3 : Int) < 3) := fun e => by rw [e]; decide
  refine addR (x := ([97, 109, 113, 46, 100, 105, 114, 101, 99, 116], 1, true)) S2 (by decide) (fun e => absurd e (no (by decide +kernel)).1) fun _ _ h3 S3 => ⟨_, rfl, ?_⟩
  refine addR (x := ([97, 109, 113, 46, 102, 97, 110, 111, 117, 116], 2, true)) S3 (by decide +kernel) (fun e => absurd e (no (by decide +kernel)).2.1) fun _ _ h4 S4 => ⟨_, rfl, ?_⟩
  refine addR (x := ([97, 109, 113, 46, 116, 111, 112, 105, 99], 3, true)) S4 (by decide +kernel) (fun e => absurd e (no (by decide +kernel)).2.2) fun _ _ h5 S5 => ⟨_, rfl, ?_⟩
  refine addR (x := ([], 1, true)) S5 (by decide +kernel) (fun e => absurd e (no (by decide +kernel)).1) fun _ _ h6 S6 => ⟨_, rfl, hK h6 (top h) ?_⟩
  have e : insX (insX (insX (insX [] ([97, 109, 113, 46, 100, 105, 114, 101, 99, 116], 1, true)) ([97, 109, 113, 46, 102, 97, 110, 111, 117, 116], 2, true)) ([97, 109, 113, 46, 116, 111, 112, 105, 99], 3, true)) ([], 1, true) = X0 := by decide +kernel
  rw [← e]
  exact S6
abbrev partD (ex qu : List UInt8) (bq : Bool) (b : BN) : Bool := if bq then b.2.1 == qu else b.1 == ex
theorem part_loop {ex qu : List UInt8} {bq : Bool} (hl : B.length < 1000000) (q : RfOk X B) (hK : ∀ h' s, St (Ow 3 s ((B.filter (partD ex qu bq)).flatMap bc) :: RfW w X (B.filter fun b => !partD ex qu bq b) :: L) h' → K (.slice s.1 s.2.1 s.2.2) h') :
    ∀ (fuel i : Nat) (o r : SV) (h : Heap), B.length - i < fuel → i ≤ B.length → St (Ow 3 o (((B.take i).filter (partD ex qu bq)).flatMap bc) :: Ow 3 r (((B.take i).filter fun b => !partD ex qu bq b).flatMap bc) :: RfL w sx sb X B L) h →
      qar.L2 K fuel (some w) ex qu bq o.1 o.2.1 o.2.2 r.1 r.2.1 r.2.2 i h
  | 0, _, _, _, _, hf, _, _ => absurd hf (Nat.not_lt_zero _)
  | fuel + 1, i, o, r, h, hf, hi, S => by
    obtain ⟨sl, e1, e2⟩ := RfL.lb S.tl.tl
    have tk : ∀ p : BN → Bool, ((B.take i).filter p).length ≤ i := fun p => Nat.le_trans (List.length_filter_le _ _) (by rw [List.length_take]; omega)
    have lo : o.2.1 ≤ i := by have := S.ow.1; rw [bc_len] at this; have := tk (partD ex qu bq); omega
    have lr : r.2.1 ≤ i := by have := S.p1.ow.1; rw [bc_len] at this; have := tk fun b => !partD ex qu bq b; omega
    unfold qar.L2
    refine ⟨w, rfl, _, _, _, S.p2.c 1 rfl, ?_⟩
    by_cases hlt : i < B.length
    · have hx : B[i]? = some B[i] := List.getElem?_eq_getElem hlt
      obtain ⟨p, ep, p0, p1, pc⟩ := ixF bc3 (by decide) sl (i := (i : Int)) (n := i) rfl hx
      have et : B.take (i + 1) = B.take i ++ [B[i]] := by rw [List.take_add_one, hx]; rfl
      have next : ∀ (o r : SV) h', St (Ow 3 o (((B.take (i + 1)).filter (partD ex qu bq)).flatMap bc) :: Ow 3 r (((B.take (i + 1)).filter fun b => !partD ex qu bq b).flatMap bc) :: RfL w sx sb X B L) h' →
          qar.j3 K (qar.L2 K fuel) (some w) ex qu bq o.1 o.2.1 o.2.2 r.1 r.2.1 r.2.2 i h' := fun o r h' S' => by
        unfold qar.j3
        unfold bd
        rw [show IntKind.i64.wrap ((i : Int) + 1) = ((i + 1 : Nat) : Int) from wrapS (by omega) (by omega)]
        exact part_loop hl q hK fuel (i + 1) o r h' (by omega) (by omega) S'
      have j4 : ∀ c, c = partD ex qu bq B[i] → qar.j4 K (qar.L2 K fuel) (some w) ex qu bq o.1 o.2.1 o.2.2 r.1 r.2.1 r.2.2 i c h := fun c ec => by
        unfold qar.j4
        cases c with
        | true =>
          refine ifT rfl ⟨w, rfl, _, _, _, S.p2.c 1 rfl, ixS bc3 (by decide) sl rfl hx ⟨_, bld_bind _, appBn (p := o.1) (l := o.2.1) (c := o.2.2) S B[i] (by omega) fun p' c' h5 S5 => ⟨_, _, _, rfl, next (p', o.2.1 + 1, c') r h5 ?_⟩⟩⟩
          rw [et, List.filter_append, List.filter_append, List.filter_cons_of_pos ec.symm, List.filter_cons_of_neg (by rw [← ec]; decide), List.filter_nil, List.filter_nil, List.append_nil, List.flatMap_append]
          simpa using S5
        | false =>
          refine ifF rfl ⟨w, rfl, _, _, _, S.p2.c 1 rfl, ixS bc3 (by decide) sl rfl hx ⟨_, bld_bind _, appBn (p := r.1) (l := r.2.1) (c := r.2.2) S.p1 B[i] (by omega) fun p' c' h5 S5 => ⟨_, _, _, rfl, next o (p', r.2.1 + 1, c') h5 ?_⟩⟩⟩
          rw [et, List.filter_append, List.filter_append, List.filter_cons_of_neg (by rw [← ec]; decide), List.filter_cons_of_pos (by rw [← ec]; rfl), List.filter_nil, List.filter_nil, List.append_nil, List.flatMap_append]
          simpa using S5.p1
      refine ifT (by simp; omega) ?_
      cases bq with
      | true =>
        refine ifT rfl ⟨w, rfl, _, _, _, S.p2.c 1 rfl, p, ep, p0, p1, _, pc 1 _ rfl, ?_⟩
        cases hq : (B[i].2.1 == qu) with
        | true => exact ⟨fun e => (by cases e), fun _ => j4 true (by show true = (B[i].2.1 == qu); rw [hq])⟩
        | false => exact ⟨fun _ => ⟨fun e => (by cases e), fun _ => j4 false (by show false = (B[i].2.1 == qu); rw [hq])⟩, fun e => by cases e⟩
      | false => exact ifF rfl ⟨fun _ => ⟨w, rfl, _, _, _, S.p2.c 1 rfl, p, ep, p0, p1, _, pc 0 _ rfl, j4 _ rfl⟩, fun e => by cases e⟩
    · refine ifF (by simp; omega) ?_
      unfold qar.j1
      rw [List.take_of_length_le (by omega)] at S
      refine ⟨w, rfl, S.p2.wr 1 (by simp) rfl fun h' S' => hK h' o ?_⟩
      have S2 : St (Bx w [.slice sx.1 sx.2.1 sx.2.2, .slice r.1 r.2.1 r.2.2] :: Ow 3 o ((B.filter (partD ex qu bq)).flatMap bc) :: Ow 3 r ((B.filter fun b => !partD ex qu bq b).flatMap bc) :: Im 3 sx (X.flatMap xc) :: Im 3 sb (B.flatMap bc) :: L) h' := S'
      exact (RfW.inn (sx := sx) (sb := r) (L := Ow 3 o ((B.filter (partD ex qu bq)).flatMap bc) :: L) ⟨q.ux, q.ub.filter _⟩ (show St (RfL w sx r X (B.filter fun b => !partD ex qu bq b) (Ow 3 o ((B.filter (partD ex qu bq)).flatMap bc) :: L)) h' from S2.p2.im.to)).p1
theorem partR {ex qu : List UInt8} {bq : Bool} (S : St (RfW w X B :: L) h) (hl : B.length < 1000000) (hK : ∀ h' s, St (Ow 3 s ((B.filter (partD ex qu bq)).flatMap bc) :: RfW w X (B.filter fun b => !partD ex qu bq b) :: L) h' → K (.slice s.1 s.2.1 s.2.2) h') :
    CallsH P F.qar [.pointer (some w), .string (mkS ex), .string (mkS qu), .bool bq] K h := by
  obtain ⟨sx, sb, q, S0⟩ := RfW.out S
  refine qar.ok ?_
  unfold qar.p0
  exact ⟨B.length + 1, part_loop hl q hK _ 0 (none, 0, 0) (none, 0, 0) h (by omega) (by omega) ((S0.owNil 3).owNil 3)⟩
theorem freeR {n : List UInt8} (S : St (RfW w X B :: L) h) (hl : B.length < 1000000) (hK : ∀ h' s, St (Ow 3 s ((B.filter fun b => b.2.1 == n).flatMap bc) :: RfW w X (B.filter fun b => !(b.2.1 == n)) :: L) h' → K (.slice s.1 s.2.1 s.2.2) h') :
    CallsH P F.qcc [.pointer (some w), .string (mkS n)] K h := by
  refine qcc.ok ?_
  unfold qcc.p0
  exact partR S hl fun h' s S' => ⟨_, _, _, rfl, hK h' s S'⟩
set_option maxHeartbeats 4000000 in
theorem dropR {n : List UInt8} (S : St (RfW w X B :: L) h) (hl : X.length < 1000000 ∧ B.length < 1000000)
    (hN : xget X n = none → ∀ h', St (RfW w X B :: L) h' → K (.slice none 0 0) h')
    (hK : (xget X n).isSome = true → ∀ h' s, St (Ow 3 s ((B.filter fun b => b.1 == n).flatMap bc) :: RfW w (X.filter fun x => decide (x.1 ≠ n)) (B.filter fun b => !(b.1 == n)) :: L) h' → K (.slice s.1 s.2.1 s.2.2) h') :
    CallsH P F.qbj [.pointer (some w), .string (mkS n)] K h := by
  obtain ⟨sx, sb, q, S⟩ := RfW.out S
  refine qbj.ok ?_
  unfold qbj.p0
  refine findR S (by omega) ⟨_, _, rfl, ?_⟩
  have eh := hitX_get q.ux n
  obtain ⟨-, e1, e2⟩ := RfL.lx S
  rw [eh]
  cases hx : xget X n with
  | none => exact ifT rfl (hN hx h (RfW.inn q S))
  | some x =>
    rw [hx] at eh
    obtain ⟨y, hy, -⟩ := Ord.hit_some eh
    have hp : posX X n < X.length := (List.getElem?_eq_some_iff.1 hy).1
    have hp0 : posX X n ≤ X.length := Nat.le_of_lt hp
    have hp1 : posX X n + 1 ≤ X.length := hp
    have hw1 : IntKind.i64.wrap (((posX X n : Nat) : Int) + 1) = ((posX X n + 1 : Nat) : Int) := wrapS (by omega) (by omega)
    have ev : ([] ++ (X.take (posX X n)).flatMap xc ++ (X.drop (posX X n + 1)).flatMap xc) = (X.filter fun c => decide (c.1 ≠ n)).flatMap xc := by
      have e : X.take (posX X n) ++ X.drop (posX X n + 1) = X.filter fun c => decide (c.1 ≠ n) := Ord.pos_del q.ux eh
      rw [List.nil_append, ← List.flatMap_append, e]
    have q' : RfOk (X.filter fun c => decide (c.1 ≠ n)) B := ⟨q.ux.filter _, q.ub⟩
    have fin : ∀ h', St (RfW w (X.filter fun c => decide (c.1 ≠ n)) B :: L) h' → qbj.j1 K (some w) n h' := fun h' S' => by
      unfold qbj.j1
      exact partR (ex := n) (qu := []) (bq := false) S' hl.2 fun h2 s S2 => ⟨_, _, _, rfl, hK (by rw [hx]; rfl) h2 s S2⟩
    refine ifF rfl ?_
    simp only [hw1, Int.toNat_natCast]
    repeat' first
      | with_reducible refine And.intro ?_ ?_
      | with_reducible refine ⟨w, rfl, ?_⟩
      | with_reducible refine St.bd0 (sz := 3) S fun S => ?_
      | with_reducible refine ⟨_, _, _, S.rc w 0 rfl, ?_⟩
      | (with_reducible refine finX16 (sb := sb) (B := B) (L := L) S w ev q' fin)
      | with_reducible refine xAppP (q := sx.1) (l' := sx.2.1) (c' := sx.2.2) (Y := X) S hp0 ?_ fun p c h S => ⟨_, _, _, rfl, ?_⟩
      | with_reducible refine xAppT (q := sx.1) (l' := sx.2.1) (c' := sx.2.2) (Y := X) S hp1 ?_ fun p c h S => ⟨_, _, _, rfl, ?_⟩
      | omega
      | exact ⟨by omega, by omega⟩
end
end Go.Proofs.YtechpnlbkkfplaaGreatDoor.Pr
end
section
set_option linter.unusedVariables false
set_option linter.unusedSimpArgs false
namespace Go.Proofs.YtechpnlbkkfplaaGreatDoor.Pr
open Go Go.Lift Go.Proofs
abbrev sc (s : List UInt8) : List Value := [.string (mkS s)]
theorem sc1 : ∀ s, (sc s).length = 1 := fun _ => rfl
theorem sc_one (s : List UInt8) : ∀ w ∈ sc s, Lift.one w = true := fun w hw => by rw [List.mem_singleton.1 hw]; rfl
theorem sc_map (l : List (List UInt8)) : l.flatMap sc = l.map Lift.encS := by
  induction l with
  | nil => rfl
  | cons x r ih => rw [List.flatMap_cons, ih]; rfl
abbrev UpS (l : List (List UInt8)) : Prop := Ord.Ups sort_string.o id l
abbrev posS (l : List (List UInt8)) (s : List UInt8) : Nat := Ord.pos sort_string.o id l s
def withL (l : List (List UInt8)) (s : List UInt8) : List (List UInt8) := if Ord.hit sort_string.o id l s then l else Ord.ins sort_string.o id l s
theorem withL_mem {l : List (List UInt8)} (u : UpS l) (s q : List UInt8) : q ∈ withL l s ↔ q = s ∨ q ∈ l := by
  unfold withL
  have := Ord.hit_iff u (k := s)
  rw [List.map_id] at this
  by_cases h : Ord.hit sort_string.o id l s = true
  · rw [if_pos h]
    exact ⟨.inr, fun e => e.elim (fun e => by rw [e]; exact this.1 h) id⟩
  · rw [if_neg h, Ord.mem_ins]
theorem withL_up {l : List (List UInt8)} (u : UpS l) (s : List UInt8) : UpS (withL l s) := by
  unfold withL
  by_cases h : Ord.hit sort_string.o id l s = true
  · rw [if_pos h]; exact u
  · rw [if_neg h]
    exact u.ins sort_string.le_anti fun hm => h ((Ord.hit_iff u).2 hm)
theorem withL_len (l : List (List UInt8)) (s : List UInt8) : (withL l s).length ≤ l.length + 1 := by
  unfold withL
  split
  · omega
  · rw [Ord.len_ins]; exact Nat.le_refl _
theorem fold_with {q : List UInt8} : ∀ {xs l : List (List UInt8)}, UpS l → UpS (xs.foldl withL l) ∧ (q ∈ xs.foldl withL l ↔ q ∈ xs ∨ q ∈ l)
  | [], l, u => ⟨u, by simp⟩
  | x :: xs, l, u => by
    obtain ⟨h1, h2⟩ := fold_with (q := q) (xs := xs) (withL_up u x)
    refine ⟨h1, ?_⟩
    show q ∈ List.foldl withL (withL l x) xs ↔ _
    rw [h2, withL_mem u]
    simp only [List.mem_cons]
    constructor
    · rintro (h | h | h)
      · exact .inl (.inr h)
      · exact .inl (.inl h)
      · exact .inr h
    · rintro ((h | h) | h)
      · exact .inr (.inl h)
      · exact .inl h
      · exact .inr (.inr h)
section
variable {K : KT} {L : List Asr} {h : Heap} {w : Addr} {X : List XN} {B : List BN} {sx sb : SV}
section
variable {R R' : List Asr} {p q : OA} {l c l' c' k : Nat} {ys : List Value} {ty : TypeId} {Y : List (List UInt8)}
theorem sAppP (S : St L h) [Has (Ow 1 (p, l, c)) L ys R] [In (Im 1 (q, l', c')) L (Y.flatMap sc)] (hk : k ≤ Y.length) (hx : l + Y.length ≤ 1099511627776) (hK : ∀ p' c2 h', St (Ow 1 (p', l + k, c2) (ys ++ (Y.take k).flatMap sc) :: R) h' → K (.slice p' (l + k) c2) h') :
    SemH P (Builtin.append_ #[T.sl_string, T.sl_string] ty #[.slice p l c, .slice (slA q 0 c' 1) k c']) K h :=
  St.appP (l' := l') sc1 sc_one (by decide) (by decide) sl_str rfl u_sls (fun k e => by cases e) S hk hx hK
theorem sAppT (S : St L h) [Has (Ow 1 (p, l, c)) L ys R] [In (Im 1 (q, l', c')) L (Y.flatMap sc)] (hk : k ≤ Y.length) (hx : l + Y.length ≤ 1099511627776) (hK : ∀ p' c2 h', St (Ow 1 (p', l + (l' - k), c2) (ys ++ (Y.drop k).flatMap sc) :: R) h' → K (.slice p' (l + (l' - k)) c2) h') :
    SemH P (Builtin.append_ #[T.sl_string, T.sl_string] ty #[.slice p l c, .slice (slA q k c' 1) (l' - k) (c' - k)]) K h :=
  St.appT (l' := l') sc1 sc_one (by decide) (by decide) sl_str rfl u_sls (fun k e => by cases e) S hk hx hK
theorem sAppB (S : St L h) [Has (Ow 1 (p, l, c)) L ys R] {a : Addr} {x : List UInt8} [Has (Bx a) L (sc x) R'] (hx : l ≤ 1099511627776) (hK : ∀ p' c2 h', St (Ow 1 (p', l + 1, c2) (ys ++ sc x) :: R) h' → K (.slice p' (l + 1) c2) h') :
    SemH P (Builtin.append_ #[T.sl_string, T.sl_string] ty #[.slice p l c, .slice (some a) 1 1]) K h :=
  St.appB sc_one (by decide) sl_str rfl u_sls (fun k e => by cases e) S sc1 hx hK
end
theorem finS {L0 R : List Asr} (S : St L0 h) {p : OA} {l c : Nat} {vs : List Value} {l0 : List (List UInt8)} [Has (Ow 1 (p, l, c)) L0 vs R] [HL : Lift.Sub L R] (hv : vs = l0.flatMap sc)
    (hK : ∀ h' t, St (Im 1 t (l0.flatMap sc) :: L) h' → K (.slice t.1 t.2.1 t.2.2) h') : K (.slice p l c) h :=
  hK h (p, l, c) (by
    have S1 := S.fz 1 (p, l, c)
    rw [hv] at S1
    obtain ⟨D, hD⟩ := HL.ex
    exact St.left (L := Im 1 (p, l, c) (l0.flatMap sc) :: L) (D := D) (S1.perm (List.Perm.cons _ hD)))
set_option maxHeartbeats 4000000 in
theorem with_loop {t : SV} {l : List (List UInt8)} {s : List UInt8} (hl : l.length < 1000000) (S : St (Im 1 t (l.flatMap sc) :: L) h)
    (hK : ∀ h' t', St (Im 1 t' ((withL l s).flatMap sc) :: L) h' → K (.slice t'.1 t'.2.1 t'.2.2) h') :
    ∀ (fuel i : Nat), posS l s - i < fuel → i ≤ posS l s → qbc.L3 K fuel t.1 t.2.1 t.2.2 s i h
  | 0, _, hf, _ => absurd hf (Nat.not_lt_zero _)
  | fuel + 1, i, hf, hi => by
    obtain ⟨sl, e2⟩ := S.iml (m := List.mem_cons_self ..)
    have e1 : t.2.1 = l.length := by have := sl.1; rw [flat_length sc1] at this; omega
    have hp : posS l s ≤ l.length := Ord.pos_le (o := sort_string.o) (f := id) l s
    have ixs : ∀ {i : Nat} (hlt : i < l.length) {G : Prop}, (∀ a, t.1 = some a → hcell h (a.add (Int.toNat (i : Int) * 1)) = some (.string (mkS l[i])) → G) → G := fun {i} hlt G k => by
      have hm : (l.map Lift.encS)[i]? = some (Lift.encS l[i]) := by simp [hlt]
      have sl' := sl
      rw [sc_map] at sl'
      obtain ⟨a, ea, _, _, g⟩ := ixV (i := (i : Int)) (n := i) sl' rfl hm (R := fun a => hcell h (a.add (Int.toNat (i : Int) * 1)) = some (Lift.encS l[i])) (fun a _ c => c)
      exact k a ea g
    unfold qbc.L3
    have j1 : i = posS l s → qbc.j1 K t.1 t.2.1 t.2.2 s i h := fun ei => by
      unfold qbc.j1
      have jF : Ord.hit sort_string.o id l s = false → qbc.j2 K t.1 t.2.1 t.2.2 s i false h := fun eh => by
        unfold qbc.j2
        refine ifF rfl ⟨⟨by omega, by omega⟩, ⟨by omega, by omega⟩, ?_⟩
        have hi1 : i ≤ l.length := by omega
        have ev : ([] ++ (l.take i).flatMap sc ++ sc s ++ (l.drop i).flatMap sc) = (withL l s).flatMap sc := by
          unfold withL
          rw [eh, if_neg (by decide), show Ord.ins sort_string.o id l s = l.take (posS l s) ++ s :: l.drop (posS l s) from Ord.pos_ins l s, ← ei, List.flatMap_append, List.flatMap_cons]
          simp
        simp only [Int.toNat_natCast]
        repeat' first
          | with_reducible refine And.intro ?_ ?_
          | with_reducible refine St.bd0 (sz := 1) S fun S => ?_
          | with_reducible refine St.bd1 (cs := sc s) S fun S => ?_
          | with_reducible refine sAppP (q := t.1) (l' := t.2.1) (c' := t.2.2) (Y := l) S hi1 ?_ fun p c h S => ⟨_, _, _, rfl, ?_⟩
          | with_reducible refine sAppT (q := t.1) (l' := t.2.1) (c' := t.2.2) (Y := l) S hi1 ?_ fun p c h S => ⟨_, _, _, rfl, ?_⟩
          | with_reducible refine sAppB (x := s) S ?_ fun p c h S => ⟨_, _, _, rfl, ?_⟩
          | (with_reducible refine finS S ev hK)
          | omega
      by_cases hlt : i < l.length
      · refine ifT (by simp; omega) (ixs hlt fun a ea ca => ⟨a, ea, by omega, by omega, _, ca, ?_⟩)
        have hh : Ord.hit sort_string.o id l s = (l[i] == s) := by
          unfold Ord.hit
          rw [show Ord.pos sort_string.o id l s = posS l s from rfl, ← ei, List.getElem?_eq_getElem hlt]
          show decide (l[i] = s) = _
          by_cases e : l[i] = s <;> simp [e]
        cases he : (l[i] == s) with
        | true =>
          unfold qbc.j2
          refine ifT rfl (hK h t ?_)
          unfold withL
          rw [hh, he]
          exact S
        | false => exact jF (by rw [hh, he])
      · exact ifF (by simp; omega) (jF (by
          unfold Ord.hit
          rw [show Ord.pos sort_string.o id l s = posS l s from rfl, ← ei, List.getElem?_eq_none (by omega)]; rfl))
    by_cases hlt : i < l.length
    · refine ifT (by simp; omega) (ixs hlt fun a ea ca => ⟨a, ea, by omega, by omega, _, ca, ?_⟩)
      unfold qbc.j4
      by_cases hi2 : i < posS l s
      · have : Op.bytesLess l[i] s = true := Ord.pos_lt (o := sort_string.o) (f := id) hi2 (List.getElem?_eq_getElem hlt)
        refine ifT this ?_
        unfold bd
        rw [show IntKind.i64.wrap ((i : Int) + 1) = ((i + 1 : Nat) : Int) from wrapS (by omega) (by omega)]
        exact with_loop hl S hK fuel (i + 1) (by omega) (by omega)
      · have ei : i = posS l s := by omega
        have : Op.bytesLess l[i] s = false := Ord.pos_at (o := sort_string.o) (f := id) (l := l) (k := s) (by rw [show Ord.pos sort_string.o id l s = posS l s from rfl, ← ei]; exact List.getElem?_eq_getElem hlt)
        exact ifF this (j1 ei)
    · refine ifF (by simp; omega) ?_
      unfold qbc.j4
      exact ifF rfl (j1 (by omega))
theorem withR {t : SV} {l : List (List UInt8)} {s : List UInt8} (hl : l.length < 1000000) (S : St (Im 1 t (l.flatMap sc) :: L) h)
    (hK : ∀ h' t', St (Im 1 t' ((withL l s).flatMap sc) :: L) h' → K (.slice t'.1 t'.2.1 t'.2.2) h') : CallsH P F.qbc [.slice t.1 t.2.1 t.2.2, .string (mkS s)] K h := by
  refine qbc.ok ?_
  unfold qbc.p0
  exact ⟨_, with_loop hl S hK (posS l s + 1) 0 (by omega) (by omega)⟩
abbrev toP (x : XN) (exch key : List UInt8) (B : List BN) : List (List UInt8) := (B.filter fun b => b.1 == exch && takesP x b key).map fun b => b.2.1
theorem route_eq {x : XN} {exch key : List UInt8} (q : RfOk X B) (hx : xget X exch = some x) (he : exch ≠ []) : (toP x exch key B).foldl withL [] = routeP X B exch key := by
  have er : routeP X B exch key = ddL (toP x exch key B) := by
    unfold routeP
    rw [hx]
    simp only [if_neg he]
  rw [er]
  have u0 : UpS ([] : List (List UInt8)) := List.Pairwise.nil
  have hs : (toP x exch key B).Pairwise sort_string.o.le := by
    rw [List.pairwise_map]
    have uf : (B.filter fun b => b.1 == exch && takesP x b key).Pairwise fun a b => sort_bind.o.lt a b = true := q.ub.filter _
    refine uf.imp_of_mem fun {a b} ha hb h => ?_
    have ea : a.1 = exch := by have := (List.mem_filter.1 ha).2; rw [Bool.and_eq_true] at this; exact beq_iff_eq.1 this.1
    have eb : b.1 = exch := by have := (List.mem_filter.1 hb).2; rw [Bool.and_eq_true] at this; exact beq_iff_eq.1 this.1
    have h : (sort_string.o.lt a.1 b.1 || (!sort_string.o.lt b.1 a.1 && (sort_string.o.lt a.2.1 b.2.1 || (!sort_string.o.lt b.2.1 a.2.1 && sort_string.o.lt a.2.2 b.2.2)))) = true := h
    rw [ea, eb, Ord.lt_irrefl] at h
    show sort_string.o.lt b.2.1 a.2.1 = false
    cases e : sort_string.o.lt b.2.1 a.2.1 with
    | false => rfl
    | true => rw [e, sort_string.o.asym _ _ e] at h; cases h
  exact Ord.Ups.ext (fold_with (q := []) u0).1 (ddL_up hs) fun y => by rw [(fold_with (q := y) u0).2, ddL_mem]; simp
theorem fold_len : ∀ (xs l : List (List UInt8)), (xs.foldl withL l).length ≤ l.length + xs.length
  | [], l => by simp
  | x :: xs, l => by
    have h1 := fold_len xs (withL l x)
    have h2 := withL_len l x
    simp only [List.foldl_cons, List.length_cons]
    omega
set_option maxHeartbeats 1000000 in
theorem routeR_loop {x : XN} {t7 : Addr} {exch key : List UInt8} (hl : B.length < 1000000) (hk : ∀ b ∈ B, b.2.2.length < 100000) (h2 : key.length < 100000) (hx3 : 1 ≤ x.2.1 ∧ x.2.1 ≤ 3)
    (hK : ∀ h' t, St (Im 1 t (((toP x exch key B).foldl withL []).flatMap sc) :: Bx t7 (xc x) :: RfL w sx sb X B L) h' → K (.slice t.1 t.2.1 t.2.2) h') :
    ∀ (fuel i : Nat) (t : SV) (h : Heap), B.length - i < fuel → i ≤ B.length → St (Im 1 t (((toP x exch key (B.take i)).foldl withL []).flatMap sc) :: Bx t7 (xc x) :: RfL w sx sb X B L) h → qas.L1 K fuel (some w) exch key t7 t.1 t.2.1 t.2.2 i h
  | 0, _, _, _, hf, _, _ => absurd hf (Nat.not_lt_zero _)
  | fuel + 1, i, t, h, hf, hi, S => by
    obtain ⟨sl, e1, e2⟩ := RfL.lb S.tl.tl
    unfold qas.L1
    refine ⟨w, rfl, _, _, _, S.p2.c 1 rfl, ?_⟩
    by_cases hlt : i < B.length
    · have hx : B[i]? = some B[i] := List.getElem?_eq_getElem hlt
      have et : B.take (i + 1) = B.take i ++ [B[i]] := by rw [List.take_add_one, hx]; rfl
      refine ifT (by simp; omega) ⟨w, rfl, _, _, _, S.p2.c 1 rfl, ixS bc3 (by decide) sl rfl hx ?_⟩
      refine St.bd1 (cs := zb) S fun S1 => ⟨rfl, S1.wrA (ws := bc B[i]) rfl (bc_one _) fun h2' S2 => ⟨_, S2.c 0 rfl, ?_⟩⟩
      have next : ∀ (t : SV) h', St (Im 1 t (((toP x exch key (B.take (i + 1))).foldl withL []).flatMap sc) :: Bx t7 (xc x) :: RfL w sx sb X B L) h' → qas.j2 K (qas.L1 K fuel) (some w) exch key t7 t.1 t.2.1 t.2.2 i h' := fun t h' S' => by
        unfold qas.j2
        unfold bd
        rw [show IntKind.i64.wrap ((i : Int) + 1) = ((i + 1 : Nat) : Int) from wrapS (by omega) (by omega)]
        exact routeR_loop hl hk h2 hx3 hK fuel (i + 1) t h' (by omega) (by omega) S'
      have j3 : ∀ (c : Bool) h', c = (B[i].1 == exch && takesP x B[i] key) → St (Bx (top h) (bc B[i]) :: Im 1 t (((toP x exch key (B.take i)).foldl withL []).flatMap sc) :: Bx t7 (xc x) :: RfL w sx sb X B L) h' →
          qas.j3 K (qas.L1 K fuel) (some w) exch key t7 t.1 t.2.1 t.2.2 i (top h) c h' := fun c h' ec S' => by
        unfold qas.j3
        cases c with
        | false =>
          refine ifF rfl (next t h' ?_)
          unfold toP
          rw [et, List.filter_append, List.filter_cons_of_neg (by rw [← ec]; decide), List.filter_nil, List.append_nil]
          exact S'.tl
        | true =>
          have ln : ((toP x exch key (B.take i)).foldl withL []).length < 1000000 := by
            have h3 := fold_len (toP x exch key (B.take i)) []
            have h4 : (toP x exch key (B.take i)).length ≤ (B.take i).length := by unfold toP; rw [List.length_map]; exact List.length_filter_le _ _
            rw [List.length_take] at h4
            simp only [List.length_nil] at h3
            omega
          refine ifT rfl ⟨_, S'.c 1 rfl, withR (L := Bx (top h) (bc B[i]) :: Bx t7 (xc x) :: RfL w sx sb X B L) ln S'.p1 fun h5 t' S5 => ⟨_, _, _, rfl, next t' h5 ?_⟩⟩
          unfold toP
          rw [et, List.filter_append, List.filter_cons_of_pos (p := fun b : BN => b.1 == exch && takesP x b key) ec.symm, List.filter_nil, List.map_append, List.foldl_append]
          exact S5.d1
      cases e0 : (B[i].1 == exch) with
      | false => exact ifF rfl (j3 false _ (by rw [e0]; rfl) S2)
      | true =>
        rw [e0, Bool.true_and] at j3
        unfold takesP at j3
        refine ifT rfl ⟨_, S2.p2.c 1 rfl, ?_⟩
        cases e1' : (x.2.1 == 1) with
        | true =>
          rw [e1', if_pos rfl] at j3
          refine ifT rfl ⟨_, S2.c 2 rfl, ?_⟩
          have nx1 : x.2.1 = 1 := by simpa using e1'
          cases ek : (B[i].2.2 == key) with
          | true => exact ⟨fun e => (by cases e), fun _ => j3 true _ ek.symm S2⟩
          | false => exact ⟨fun _ => ⟨_, S2.p2.c 1 rfl, fun _ => ⟨_, S2.p2.c 1 rfl, fun e => absurd e (by simp [nx1]), fun _ => j3 false _ ek.symm S2⟩, fun e => absurd e (by simp [nx1])⟩, fun e => by cases e⟩
        | false =>
          rw [e1', if_neg (by decide)] at j3
          refine ifF rfl ⟨_, S2.p2.c 1 rfl, ?_⟩
          have nx1 : x.2.1 ≠ 1 := by simpa using e1'
          cases e2' : (x.2.1 == 2) with
          | true =>
            have nx2 : x.2.1 = 2 := by simpa using e2'
            rw [show (x.2.1 == 3) = false by simp [nx2], if_neg (by decide)] at j3
            exact ⟨fun e => (by cases e), fun _ => j3 true _ rfl S2⟩
          | false =>
            have nx2 : x.2.1 ≠ 2 := by simpa using e2'
            have nx3 : x.2.1 = 3 := by omega
            rw [show (x.2.1 == 3) = true by simp [nx3], if_pos rfl] at j3
            refine ⟨fun _ => ⟨_, S2.p2.c 1 rfl, ?_⟩, fun e => by cases e⟩
            refine ifT (by simp [nx3]) ⟨_, S2.c 2 rfl, refMatch.spec (by have := hk _ (List.getElem_mem hlt); omega) h2 fun h' k => ⟨_, rfl, j3 _ h' rfl (St.kept S2 k)⟩⟩
    · refine ifF (by simp; omega) (hK h t ?_)
      rw [List.take_of_length_le (by omega)] at S
      exact S
theorem routeR {exch key : List UInt8} (hl : X.length < 1000000 ∧ B.length < 1000000) (hk : ∀ b ∈ B, b.2.2.length < 100000) (h2 : key.length < 100000) (hx3 : ∀ x ∈ X, 1 ≤ x.2.1 ∧ x.2.1 ≤ 3) (S : St (RfW w X B :: L) h)
    (hK : ∀ h' t, St (Im 1 t ((routeP X B exch key).map Lift.encS) :: RfW w X B :: L) h' → K (.slice t.1 t.2.1 t.2.2) h') : CallsH P F.qas [.pointer (some w), .string (mkS exch), .string (mkS key)] K h := by
  refine qas.ok ?_
  unfold qas.p0
  refine getR S (by omega) fun h1 S1 => ⟨_, _, rfl, ?_⟩
  cases hx : xget X exch with
  | none =>
    refine St.bd1 (cs := zx) S1 fun S2 => ⟨rfl, S2.wrA (ws := zx) rfl (fun w hw => xO_one none w hw) fun h3 S3 => ifT rfl (hK h3 (none, 0, 0) ?_)⟩
    have : routeP X B exch key = [] := by unfold routeP; rw [hx]
    rw [this]
    exact S3.tl.imNil 1 0
  | some x =>
    refine St.bd1 (cs := zx) S1 fun S2 => ⟨rfl, S2.wrA (ws := xc x) rfl (xc_one _) fun h3 S3 => ifF rfl ?_⟩
    by_cases he : exch = []
    · refine ifT (by simp [he]) ?_
      have : routeP X B exch key = [key] := by unfold routeP; rw [hx]; simp [he]
      refine St.bd1 (cs := sc key) S3 fun S4 => ?_
      unfold bd
      refine hK _ (some (top h3), 1, 1) ?_
      rw [this]
      have S5 := (S4.bxOw (n := 1) (sz := 1) rfl).im
      exact S5.d1
    · refine ifF (by simp [he]) ⟨B.length + 1, ?_⟩
      obtain ⟨sx, sb, q, S4⟩ := RfW.out S3.p1
      have S5 : St (Bx (top h1) (xc x) :: RfL w sx sb X B L) h3 := S4.p3
      exact routeR_loop hl.2 hk h2 (hx3 x ((xget_iff q.ux).1 hx).1) (fun h' t S' => hK h' t (by
        rw [← sc_map, ← route_eq q hx he]
        exact (RfW.inn (L := Im 1 t (((toP x exch key B).foldl withL []).flatMap sc) :: L) q (show St (RfL w sx sb X B (Im 1 t (((toP x exch key B).foldl withL []).flatMap sc) :: L)) h' from S'.to)).p1)) _ 0 (none, 0, 0) h3 (by omega) (by omega) (S5.imNil 1 0)
end
end Go.Proofs.YtechpnlbkkfplaaGreatDoor.Pr
end
section
set_option linter.unusedVariables false
set_option linter.unusedSimpArgs false
namespace Go.Proofs.YtechpnlbkkfplaaGreatDoor.Pr
open Go Go.Lift Go.Proofs
section
variable {K : KT} {L : List Asr} {h : Heap} {r w : Addr} {X : List XN} {B : List BN}
theorem unbindRt {b : BN} (S : St (RtW r X B :: L) h) (hK : ∀ h', St (RtW r X (B.filter fun c => decide (c ≠ b)) :: L) h' → K (.bool (decide (b ∈ B))) h') : CallsH P F.qcr [.pointer (some r), .agg (List.toArray (bc b))] K h := by
  obtain ⟨mx, mb, kx, kb, q, S0⟩ := RtW.out S
  refine qcr.ok ?_
  unfold qcr.p0
  refine St.bd1 (cs := bc b) S0 fun S1 => ⟨r, rfl, some mb, S1.p1.c 1 rfl, _, S1.rall (top h) 3 rfl, ?_⟩
  refine St.lookup (k := b) klB umB zI S1.p3 ?_
  simp only [Bool.false_eq_true, if_false]
  rw [q.bg b]
  have fin : ∀ c, c = decide (b ∈ B) → bd (c : Bool) fun was_8 => ∃ p9, some r = some p9 ∧ ∃ m10, hcell (al h (List.toArray (bc b)) T.api_Bind) (Addr.add p9 1) = some (.map m10) ∧ ∃ cs11, rdC (al h (List.toArray (bc b)) T.api_Bind) (top h) 0 3 = some cs11 ∧ SemH P (Builtin.delete_ #[T.map_api_Bind_int, T.api_Bind] T.unit #[.map m10, .agg (List.toArray cs11)]) (fun v12 h13 => K (.bool was_8) h13) (al h (List.toArray (bc b)) T.api_Bind) := fun c ec => by
    unfold bd
    refine ⟨r, rfl, some mb, S1.p1.c 1 rfl, _, S1.rall (top h) 3 rfl, ?_⟩
    refine St.delete (k := b) klB umB S1.p3 fun h8 S8 => ?_
    rw [ec]
    exact hK h8 (RtW.inn (q.delB b) (show St (RtA r mx mb kx (del kb b) L) h8 from S8.to))
  by_cases hm : b ∈ B
  · rw [if_pos hm]
    exact ⟨1, rfl, fin _ (by rw [decide_eq_true hm]; rfl)⟩
  · rw [if_neg hm]
    exact ⟨0, rfl, fin _ (by rw [decide_eq_false hm]; rfl)⟩
theorem exch_fields : P.fieldsOf T.api_Exch = #[⟨"Name", T.string, 0, false, "", "", 0⟩, ⟨"Kind", T.int, 1, false, "", "", 16⟩, ⟨"Lasts", T.bool, 2, false, "", "", 24⟩] := by kernel_rfl
theorem exch_guard : P.eqGuardType P.depth T.api_Exch = false := by kernel_rfl
theorem exch_und : P.underlying T.api_Exch = some (.struct (P.fieldsOf T.api_Exch)) := by kernel_rfl
theorem exch_held : P.stoodInHeld T.api_Exch = false := by kernel_rfl
theorem xu_int : P.underlying T.int = some (.int .i64) := by kernel_rfl
theorem xu_bool : P.underlying T.bool = some .bool := by kernel_rfl
theorem exchFields (a b : XN) (w : World) : (Op.eqFields 9999 (List.toArray (xc a)) (List.toArray (xc b)) (P.fieldsOf T.api_Exch).toList).run P w = .ok (decide (a = b)) w := by
  have p0 : ∀ (z : XN) (w : World), (part T.string (List.toArray (xc z)) 0).run P w = .ok (.string (mkS z.1)) w := fun z w => run_part_scalar (by kernel_rfl) rfl
  have p1 : ∀ (z : XN) (w : World), (part T.int (List.toArray (xc z)) 1).run P w = .ok (.int .i64 z.2.1) w := fun z w => run_part_scalar (by kernel_rfl) rfl
  have p2 : ∀ (z : XN) (w : World), (part T.bool (List.toArray (xc z)) 2).run P w = .ok (.bool z.2.2) w := fun z w => run_part_scalar (by kernel_rfl) rfl
  have i0 := run_equalIn_string (P := P) w 9998 T.string (mkS a.1) (mkS b.1) str_und
  have i1 := run_equalIn_int (P := P) w 9998 T.int .i64 .i64 a.2.1 b.2.1 xu_int
  have i2 := run_equalIn_bool (P := P) w 9998 T.bool a.2.2 b.2.2 xu_bool
  rw [exch_fields]
  have s0 := fun fs => eqFields_step' (w := w) (f := ⟨"Name", T.string, 0, false, "", "", 0⟩) (fs := fs) (by decide) (p0 a w) (p0 b w) i0
  have s1 := fun fs => eqFields_step' (w := w) (f := ⟨"Kind", T.int, 1, false, "", "", 16⟩) (fs := fs) (by decide) (p1 a w) (p1 b w) i1
  have s2 := fun fs => eqFields_step' (w := w) (f := ⟨"Lasts", T.bool, 2, false, "", "", 24⟩) (fs := fs) (by decide) (p2 a w) (p2 b w) i2
  have s9 : (Op.eqFields 9999 (List.toArray (xc a)) (List.toArray (xc b)) []).run P w = .ok true w := by simp [Op.eqFields]
  show (Op.eqFields 9999 _ _ [⟨"Name", T.string, 0, false, "", "", 0⟩, ⟨"Kind", T.int, 1, false, "", "", 16⟩, ⟨"Lasts", T.bool, 2, false, "", "", 24⟩]).run P w = _
  rw [s0, s1, s2, s9]
  obtain ⟨a0, a1, a2⟩ := a
  obtain ⟨b0, b1, b2⟩ := b
  by_cases h0 : a0 = b0 <;> by_cases h1 : a1 = b1 <;> by_cases h2 : a2 = b2 <;> simp [ByteArray.toList_eq, mkS, h0, h1, h2]
theorem exchNeqS {a b : XN} (x y : Operand) (hK : K (.bool (decide (a ≠ b))) h) : SemH P (eqS .neq T.api_Exch x y (.agg (List.toArray (xc a))) (.agg (List.toArray (xc b)))) K h := by
  intro w hw
  refine ⟨.bool (decide (a ≠ b)), w, ?_, by rw [hw]; exact hK, Rest.refl w⟩
  simp only [eqS, Sem.run_bind, run_eqGuard_agg _ _ _ _ _ _ _ exch_guard, Result.andThen_ok, run_neq_struct, run_equalIn_agg _ _ _ _ _ exch_und exch_held]
  rw [exchFields]
  simp
theorem sameBinds_loop {a b : SV} {xs : List BN} (hx : xs.length < 1099511627776) (ha : Sl 3 h a.1 a.2.1 (xs.flatMap bc)) (hb : Sl 3 h b.1 b.2.1 (xs.flatMap bc)) (hK : K (.bool true) h) :
    ∀ (fuel i : Nat), xs.length - i < fuel → i ≤ xs.length → qbn.L1 K fuel a.1 a.2.1 a.2.2 b.1 b.2.1 b.2.2 i h
  | 0, _, hf, _ => absurd hf (Nat.not_lt_zero _)
  | fuel + 1, i, hf, hi => by
    have la : a.2.1 = xs.length := by have := ha.1; rw [flat_length bc3] at this; omega
    unfold qbn.L1
    by_cases hlt : i < xs.length
    · have hx1 : xs[i]? = some xs[i] := List.getElem?_eq_getElem hlt
      obtain ⟨p, e1, e2, e3, cs, e4, rfl⟩ := ixS bc3 (by decide) ha (i := (i : Int)) rfl hx1 (R := fun cs => cs = bc xs[i]) rfl
      obtain ⟨p2, f1, f2, f3, cs2, f4, rfl⟩ := ixS bc3 (by decide) hb (i := (i : Int)) rfl hx1 (R := fun cs => cs = bc xs[i]) rfl
      refine ifT (by simp; omega) ⟨p, e1, e2, e3, p2, f1, f2, f3, _, e4, _, f4, bindNeqS _ _ ⟨_, rfl, ?_⟩⟩
      rw [decide_eq_false (fun h => h rfl)]
      refine ifF rfl ?_
      unfold bd
      rw [show IntKind.i64.wrap ((i : Int) + 1) = ((i + 1 : Nat) : Int) from wrapS (by omega) (by omega)]
      exact sameBinds_loop hx ha hb hK fuel (i + 1) (by omega) (by omega)
    · exact ifF (by simp; omega) hK
theorem sameBindsS {a b : SV} {xs : List BN} (hx : xs.length < 1099511627776) (ha : Sl 3 h a.1 a.2.1 (xs.flatMap bc)) (hb : Sl 3 h b.1 b.2.1 (xs.flatMap bc)) (hK : K (.bool true) h) :
    CallsH P F.qbn [.slice a.1 a.2.1 a.2.2, .slice b.1 b.2.1 b.2.2] K h := by
  have la : a.2.1 = b.2.1 := by have := ha.1; have := hb.1; omega
  refine qbn.ok ?_
  unfold qbn.p0
  exact ifF (by simp [la]) ⟨_, sameBinds_loop hx ha hb hK (xs.length + 1) 0 (by omega) (by omega)⟩
theorem same_loop16 {sx sb : SV} (hl : X.length < 1000000 ∧ B.length < 1000000) (q : RfOk X B) (hK : ∀ h', St (RtW r X B :: RfL w sx sb X B L) h' → K (.bool true) h') :
    ∀ (fuel i : Nat) (o : SV) (h : Heap), X.length - i < fuel → i ≤ X.length → St (Ow 1 o (((X.take i).map Prod.fst).map Lift.encS) :: RtW r X B :: RfL w sx sb X B L) h → qbh.L2 K fuel (some r) (some w) o.1 o.2.1 o.2.2 i h
  | 0, _, _, _, hf, _, _ => absurd hf (Nat.not_lt_zero _)
  | fuel + 1, i, o, h, hf, hi, S => by
    obtain ⟨sl, e1, e2⟩ := RfL.lx S.tl.tl
    have lo : o.2.1 = i := by have := S.ow.1; simp only [List.length_map, List.length_take] at this; omega
    unfold qbh.L2
    refine ⟨w, rfl, _, _, _, S.p2.c 0 rfl, ?_⟩
    by_cases hlt : i < X.length
    · have hx : X[i]? = some X[i] := List.getElem?_eq_getElem hlt
      have et : X.take (i + 1) = X.take i ++ [X[i]] := by rw [List.take_add_one, hx]; rfl
      obtain ⟨p, ep, p0, p1, pc⟩ := ixF xc3 (by decide) sl (i := (i : Int)) (n := i) rfl hx
      refine ifT (by simp; omega) ⟨w, rfl, _, _, _, S.p2.c 0 rfl, p, ep, p0, p1, _, pc 0 _ rfl, ?_⟩
      refine appSt (p := o.1) (l := o.2.1) (c := o.2.2) S X[i].1 (by omega) fun p' c' h3 S3 => ⟨_, _, _, rfl, w, rfl, _, _, _, S3.p2.c 0 rfl, ?_⟩
      obtain ⟨sl3, _, _⟩ := RfL.lx S3.tl.tl
      obtain ⟨p, ep, p0, p1, pc⟩ := ixF xc3 (by decide) sl3 (i := (i : Int)) (n := i) rfl hx
      refine ⟨p, ep, p0, p1, _, pc 0 _ rfl, ?_⟩
      have S3 : St (Ow 1 (p', o.2.1 + 1, c') (((X.take (i + 1)).map Prod.fst).map Lift.encS) :: RtW r X B :: RfL w sx sb X B L) h3 := by
        rw [et, List.map_append, List.map_append]
        exact S3
      refine getRt (n := X[i].1) S3.p1 fun h4 S4 => ⟨_, _, rfl, ?_⟩
      have hg : xget X X[i].1 = some X[i] := (xget_iff q.ux).2 ⟨List.getElem_mem hlt, rfl⟩
      rw [hg]
      refine St.bd1 (cs := zx) S4 fun S5 => ⟨rfl, S5.wrA (ws := xc X[i]) rfl (xc_one _) fun h6 S6 => ifF' rfl ?_⟩
      obtain ⟨sl6, _, _⟩ := RfL.lx S6.tl.tl.tl
      refine ⟨w, rfl, _, S6.rall (top h4) 3 rfl, _, _, _, S6.p3.c 0 rfl, ixS xc3 (by decide) sl6 rfl hx (exchNeqS _ _ ⟨_, rfl, ?_⟩)⟩
      rw [decide_eq_false (fun h => h rfl)]
      unfold qbh.j3
      refine ifF rfl ?_
      unfold bd
      rw [show IntKind.i64.wrap ((i : Int) + 1) = ((i + 1 : Nat) : Int) from wrapS (by omega) (by omega)]
      exact same_loop16 hl q hK fuel (i + 1) (p', o.2.1 + 1, c') h6 (by omega) (by omega) (S6.tl.p1)
    · refine ifF (by simp; omega) ?_
      unfold qbh.j1
      rw [List.take_of_length_le (by omega)] at S
      refine namesRt S.p1 (by omega) fun h2 s S2 => ⟨_, _, _, rfl, ?_⟩
      refine sameTextsS (xs := X.map Prod.fst) (ys := X.map Prod.fst) (a := s) (b := o) (by simp; omega) S2.sl S2.p2.sl ⟨_, rfl, ?_⟩
      rw [decide_eq_true rfl]
      refine ifT rfl ⟨w, rfl, ?_⟩
      with_reducible refine And.intro ?_ ⟨_, _, _, S2.p3.c 1 rfl, ?_⟩
      · refine bindsRt S2.p1 (by omega) fun h3 s3 S3 => ⟨_, _, _, rfl, _, _, _, S3.p4.c 1 rfl, ?_⟩
        obtain ⟨slb, _, _⟩ := RfL.lb S3.tl.tl.tl.tl
        exact sameBindsS (a := s3) (b := sb) (by omega) S3.sl slb ⟨_, rfl, hK h3 (show St (RtW r X B :: RfL w sx sb X B L) h3 from S3.to)⟩
      · refine bindsRt S2.p1 (by omega) fun h3 s3 S3 => ⟨_, _, _, rfl, ?_⟩
        obtain ⟨slb, _, _⟩ := RfL.lb S3.tl.tl.tl.tl
        exact sameBindsS (a := s3) (b := sb) (by omega) S3.sl slb ⟨_, rfl, hK h3 (show St (RtW r X B :: RfL w sx sb X B L) h3 from S3.to)⟩
theorem same16R (S : St (RtW r X B :: RfW w X B :: L) h) (hl : X.length < 1000000 ∧ B.length < 1000000) (hK : ∀ h', St (RtW r X B :: RfW w X B :: L) h' → K (.bool true) h') : CallsH P F.qbh [.pointer (some r), .pointer (some w)] K h := by
  obtain ⟨sx, sb, q, S0⟩ := RfW.out S.p1
  refine qbh.ok ?_
  unfold qbh.p0
  refine ifF rfl ⟨X.length + 1, same_loop16 (sx := sx) (sb := sb) (L := L) hl q (fun h' S' => hK h' (RfW.inn q (show St (RfL w sx sb X B (RtW r X B :: L)) h' from S'.to)).p1) _ 0 (none, 0, 0) h (by omega) (by omega) ?_⟩
  exact (show St (RtW r X B :: RfL w sx sb X B L) h from S0.to).owNil 1
end
end Go.Proofs.YtechpnlbkkfplaaGreatDoor.Pr
end
