/- routPlays_holds: all that the theorem needs, in a few texts (bundle.py; made of the texts that NOTES.md names). -/
import Derived.Below
import Derived.DeepKeys4
import Derived.KernelRfl
import Derived.Laws.Append
import Derived.Laws.Bits64
import Derived.Laws.BitsAllLaws
import Derived.Laws.BitsLemmas
import Derived.Laws.IdiomStrings
import Derived.Laws.Sem
import Derived.Laws.Strings
import Derived.Laws.StructEq
import Derived.Lib.ItoaNum
import Derived.LoopIn
import Derived.LoopN
import Derived.LoopNIn
import Derived.MapKept
import Derived.Maps.AppendAt
import Derived.Orders
import Derived.OwnWalkIn
import Derived.RangeFuncGives
import Derived.RangeFuncSeq
import Derived.RegionIn
import Derived.Shelf.Abstract
import Derived.Shelf.Lay
import Derived.Shelf.LaysM
import Derived.Shelf.SlIter.Collect
import Derived.Shelf.Slices.Cells
import Derived.Shelf.Slices.CompactS
import Derived.Shelf.Slices.In.SortNone
import Derived.Shelf.Small.Bits
import Derived.Shelf.Sort.Plain
import Derived.Shelf.Strconv.Itoa0
import Derived.Shelf.Strings.Count
import Derived.Shelf.Strings.Explode
import Derived.Shelf.Strings.RuneCount
import Derived.Shelf.Strings.Search1
import Derived.Shelf.Strings.Search2
import Derived.Shelf.Strings.Search3
import Derived.Shelf.Strings.Shaped
import Derived.Shelf.Strings.Split
import Derived.Shelf.Strings.SplitShaped
import Derived.Shelf.Unicode.Decode
import Derived.Shelf.Unicode.DecodeAny
import Derived.Shelf.Unicode.DecodeSlow
import Derived.Shelf.Utf8.RuneCount
import Derived.Sort.KeysCollected
import Derived.Sort.MapsRangeIn
import Derived.TacticsInMore
import Derived.Test.YtechpnlbkkfplaaGreatDoorChecked
import Derived.Test.YtechpnlbkkfplaaGreatDoorProg
import Derived.WalkKit
import Derived.WideLaws
import Derived.Test.YtechpnlbkkfplaaGreatDoorBRoutPlays2
import Derived.Test.YtechpnlbkkfplaaGreatDoorBRoutPlays3
import Derived.Test.YtechpnlbkkfplaaGreatDoorBRoutPlays4
import Derived.Test.YtechpnlbkkfplaaGreatDoorBRoutPlays5
import Derived.Test.YtechpnlbkkfplaaGreatDoorBRoutPlays7
import Derived.Test.YtechpnlbkkfplaaGreatDoorBRoutPlays8
import Derived.Test.YtechpnlbkkfplaaGreatDoorBRoutPlays9
import Derived.Test.YtechpnlbkkfplaaGreatDoorBRoutPlays11
import Derived.Test.YtechpnlbkkfplaaGreatDoorBRoutPlays12
import Derived.Test.YtechpnlbkkfplaaGreatDoorBRoutPlays14
import Derived.Test.YtechpnlbkkfplaaGreatDoorBRoutPlays16
import Derived.Test.YtechpnlbkkfplaaGreatDoorBRoutPlays17
import Derived.Test.YtechpnlbkkfplaaGreatDoorBRoutPlays18
import Derived.Test.YtechpnlbkkfplaaGreatDoorBRoutPlays19
import Derived.Test.YtechpnlbkkfplaaGreatDoorBRoutPlays20
import Derived.Test.YtechpnlbkkfplaaGreatDoorBRoutPlays21
section
set_option linter.unusedVariables false
set_option linter.unusedSimpArgs false
namespace Go.Proofs.YtechpnlbkkfplaaGreatDoor.Pr
open Go Go.Lift Go.Proofs
section
variable {K : KT} {L : List Asr} {h : Heap} {r : Addr} {X : List XN} {B : List BN}
theorem St.kept {h' : Heap} (S : St L h) (k : Kept h h') : St L h' := (S.owNew (Own.nil 1 h') (fun a e => by cases e) k).tl
theorem G.old {h0 : Heap} (g : G h0) (S : St L h) (m : Old h0 ∈ L) : G h := g.kept (S.keptOld m)
theorem appBn {p : OA} {l c : Nat} {ys : List Value} (S : St (Ow 3 (p, l, c) ys :: L) h) (x : BN) (hl : l ≤ 1000000) {K : KT} {ty : TypeId} (hK : ∀ p' c' h', St (Ow 3 (p', l + 1, c') (ys ++ bc x) :: L) h' → K (.slice p' (l + 1) c') h') :
    bd (al h (List.toArray (bc x)) T.api_Bind) fun h1 => SemH P (Builtin.append_ #[T.sl_api_Bind, T.sl_api_Bind] ty #[.slice p l c, .slice (some (top h)) 1 1]) K h1 := by
  refine St.bd1 (cs := bc x) S fun S1 => ?_
  have sa : Sl 3 (al h (bc x).toArray T.api_Bind) (some (top h)) 1 (bc x) := ⟨rfl, S1.mem.1⟩
  exact S1.p1.app (s := (p, l, c)) sl_bind rfl u_slb (fun k e => by cases e) (Src.slice (n := 1) (c := 1) sa (bc_one _)) (by show (l + 1) * 48 ≤ _; omega) (by show l + 1 ≤ _; omega) fun p' c' h' S' => hK p' c' h' S'.d1
abbrev TellsB (A : Asr) (d : BN → Bool) (f : Value) : Prop := ∀ (x : BN) (N : List Asr) (h : Heap) (K : KT), St (A :: N) h → (∀ h', St (A :: N) h' → K (.bool (d x)) h') → CallV P f [.agg (List.toArray (bc x))] K h
theorem gone_loop {A : Asr} {d : BN → Bool} {f : Value} (hd : TellsB A d f) {t : SV} (hl : B.length ≤ 1000000) (nd : B.Nodup) (hK : ∀ h' s, St (A :: Ow 3 s ((B.filter d).flatMap bc) :: RtW r X (B.filter fun b => !d b) :: L) h' → K (.slice s.1 s.2.1 s.2.2) h') :
    ∀ (fuel i : Nat) (o : SV) (h : Heap), B.length - i < fuel → i ≤ B.length → St (A :: Ow 3 t (B.flatMap bc) :: Ow 3 o (((B.take i).filter d).flatMap bc) :: RtW r X ((B.take i).filter (fun b => !d b) ++ B.drop i) :: L) h → qbm.L1 K fuel (some r) f o.1 o.2.1 o.2.2 t.1 t.2.1 t.2.2 ((t.2.1 : Nat) : Int) i h
  | 0, _, _, _, hf, _, _ => absurd hf (Nat.not_lt_zero _)
  | fuel + 1, i, o, h, hf, hi, S => by
    have el : t.2.1 = B.length := by have := S.p1.ow.1; rw [flat_length bc3] at this; omega
    unfold qbm.L1
    by_cases hlt : i < B.length
    · have hx : B[i]? = some B[i] := List.getElem?_eq_getElem hlt
      refine ifT (by simp; omega) (ixS bc3 (by decide) S.p1.sl rfl hx ?_)
      refine St.bd1 (cs := zb) S fun S1 => ⟨rfl, S1.wrA (ws := bc B[i]) rfl (bc_one _) fun h2 S2 => S2.rdA (n := 3) rfl ?_⟩
      refine hd _ _ _ _ S2.p1 fun h3 S3 => ⟨_, rfl, ?_⟩
      have et : B.take (i + 1) = B.take i ++ [B[i]] := by rw [List.take_add_one, hx]; rfl
      have ed : B.drop i = B[i] :: B.drop (i + 1) := List.drop_eq_getElem_cons hlt
      have next : ∀ (o : SV) h', St (A :: Ow 3 t (B.flatMap bc) :: Ow 3 o (((B.take (i + 1)).filter d).flatMap bc) :: RtW r X ((B.take (i + 1)).filter (fun b => !d b) ++ B.drop (i + 1)) :: L) h' → qbm.j2 K (qbm.L1 K fuel) (some r) f o.1 o.2.1 o.2.2 t.1 t.2.1 t.2.2 ((t.2.1 : Nat) : Int) i h' := fun o h' S' => by
        unfold qbm.j2
        rw [show IntKind.i64.wrap ((i : Int) + 1) = ((i + 1 : Nat) : Int) from by rw [wrapI (by omega) (by omega)]; omega]
        exact gone_loop hd hl nd hK fuel (i + 1) o h' (by omega) (by omega) S'
      cases hb : d B[i] with
      | false =>
        refine ifF rfl (next o h3 ?_)
        rw [et, List.filter_append, List.filter_append, List.filter_cons_of_neg (by simp [hb]), List.filter_cons_of_pos (by simp [hb]), List.filter_nil, List.filter_nil, List.append_nil, List.append_assoc, List.singleton_append, ← ed]
        exact S3.p1.tl
      | true =>
        have lo : o.2.1 ≤ i := by
          have := S3.p3.ow.1
          rw [flat_length bc3] at this
          have h3 : ((B.take i).filter d).length ≤ (B.take i).length := List.length_filter_le _ _
          rw [List.length_take] at h3
          omega
        refine ifT rfl (S3.p1.rdA (n := 3) rfl ⟨_, bld_bind _, appBn (p := o.1) (l := o.2.1) (c := o.2.2) S3.p3 B[i] (by omega) fun p' c' h5 S5 => ⟨_, _, _, rfl, r, rfl, ?_⟩⟩)
        have S6 : St (RtW r X ((B.take i).filter (fun b => !d b) ++ B.drop i) :: Bx (top h) (bc B[i]) :: A :: Ow 3 t (B.flatMap bc) :: Ow 3 (p', o.2.1 + 1, c') (((B.take i).filter d).flatMap bc ++ bc B[i]) :: L) h5 := S5.to
        obtain ⟨mx, mb, kx, kb, q, S7⟩ := RtW.out S6
        refine ⟨some mb, S7.c 1 rfl, S7.p3.rdA (n := 3) rfl ?_⟩
        refine St.delete (k := B[i]) klB umB S7.p2 fun h8 S8 => next (p', o.2.1 + 1, c') h8 ?_
        have S9 := RtW.inn (q.delB B[i]) (show St (RtA r mx mb kx (del kb B[i]) (Bx (top h) (bc B[i]) :: A :: Ow 3 t (B.flatMap bc) :: Ow 3 (p', o.2.1 + 1, c') (((B.take i).filter d).flatMap bc ++ bc B[i]) :: L)) h8 from S8.to)
        have e : (((B.take i).filter (fun b => !d b) ++ B.drop i).filter fun c => decide (c ≠ B[i])) = (B.take (i + 1)).filter (fun b => !d b) ++ B.drop (i + 1) := by
          rw [et, ed, List.filter_append, List.filter_append, List.filter_cons_of_neg (by simp), List.filter_cons_of_neg (by simp [hb]), List.filter_nil, List.append_nil]
          have hne : ∀ y, y ∈ B.take i ∨ y ∈ B.drop (i + 1) → y ≠ B[i] := fun y hy e => by
            have nd2 := List.nodup_iff_pairwise_ne.1 nd
            rcases hy with hy | hy
            · obtain ⟨j, hj, rfl⟩ := List.mem_iff_getElem.1 hy
              simp only [List.length_take] at hj
              rw [List.getElem_take] at e
              exact List.pairwise_iff_getElem.1 nd2 j i (by omega) hlt (by omega) e
            · obtain ⟨j, hj, rfl⟩ := List.mem_iff_getElem.1 hy
              simp only [List.length_drop] at hj
              rw [List.getElem_drop] at e
              exact List.pairwise_iff_getElem.1 nd2 i (i + 1 + j) hlt (by omega) (by omega) e.symm
          congr 1
          · exact List.filter_eq_self.2 fun y hy => decide_eq_true (hne y (.inl (List.mem_filter.1 hy).1))
          · exact List.filter_eq_self.2 fun y hy => decide_eq_true (hne y (.inr hy))
        rw [e] at S9
        have e2 : ((B.take (i + 1)).filter d).flatMap bc = ((B.take i).filter d).flatMap bc ++ bc B[i] := by
          rw [et, List.filter_append, List.filter_cons_of_pos hb, List.filter_nil, List.flatMap_append]
          simp
        rw [e2]
        exact S9.to
    · refine ifF (by simp; omega) (hK h o ?_)
      rw [List.take_of_length_le (by omega), List.drop_eq_nil_of_le (by omega), List.append_nil] at S
      exact S.to
theorem goneRt {A : Asr} {d : BN → Bool} {f : Value} (hd : TellsB A d f) (S : St (A :: RtW r X B :: L) h) (hl : B.length ≤ 1000000) (hK : ∀ h' s, St (A :: Ow 3 s ((B.filter d).flatMap bc) :: RtW r X (B.filter fun b => !d b) :: L) h' → K (.slice s.1 s.2.1 s.2.2) h') :
    CallsH P F.qbm [.pointer (some r), f] K h := by
  obtain ⟨mx, mb, kx, kb, q, S0⟩ := RtW.out S.p1
  have nb : B.Nodup := by have := q.ub.nodup; rwa [List.map_id] at this
  refine qbm.ok ?_
  unfold qbm.p0
  refine bindsRt (L := A :: L) S.p1 hl fun h2 t S2 => ⟨_, _, _, rfl, B.length + 1, ?_⟩
  exact gone_loop hd hl nb hK _ 0 (none, 0, 0) h2 (by omega) (by omega) (show St (A :: Ow 3 t (B.flatMap bc) :: Ow 3 (none, 0, 0) [] :: RtW r X B :: L) h2 from (S2.owNil 3).to)
end
end Go.Proofs.YtechpnlbkkfplaaGreatDoor.Pr
set_option linter.unusedVariables false
set_option linter.unusedSimpArgs false
namespace Go.Proofs.YtechpnlbkkfplaaGreatDoor.Pr
open Go Go.Lift Go.Proofs
section
variable {K : KT} {L : List Asr} {h : Heap} {r : Addr} {X : List XN} {B : List BN}
theorem drop_1 (a : Addr) (n : List UInt8) : TellsB (Bx a [.string (mkS n)]) (fun b => b.1 == n) (.func (.func F.qcp) #[] #[.pointer (some a)]) := fun x N h K S hK => by
  refine callV_fn (qcp.ok ?_)
  unfold qcp.p0
  refine St.bd1 (cs := bc x) S fun S1 => ⟨_, S1.c 0 rfl, _, S1.p1.c 0 rfl, ?_⟩
  unfold bd
  exact hK _ S1.tl
theorem free_1 (a : Addr) (n : List UInt8) : TellsB (Bx a [.string (mkS n)]) (fun b => b.2.1 == n) (.func (.func F.qcq) #[] #[.pointer (some a)]) := fun x N h K S hK => by
  refine callV_fn (qcq.ok ?_)
  unfold qcq.p0
  refine St.bd1 (cs := bc x) S fun S1 => ⟨_, S1.c 1 rfl, _, S1.p1.c 0 rfl, ?_⟩
  unfold bd
  exact hK _ S1.tl
theorem dropRt {n : List UInt8} (S : St (RtW r X B :: L) h) (hl : B.length ≤ 1000000) (hK : ∀ h' s, St (Ow 3 s ((B.filter fun b => b.1 == n).flatMap bc) :: RtW r (X.filter fun x => decide (x.1 ≠ n)) (B.filter fun b => !(b.1 == n)) :: L) h' → K (.slice s.1 s.2.1 s.2.2) h') :
    CallsH P F.qcy [.pointer (some r), .string (mkS n)] K h := by
  obtain ⟨mx, mb, kx, kb, q, S0⟩ := RtW.out S
  refine qcy.ok ?_
  unfold qcy.p0
  refine St.bd1 (cs := [.string (mkS n)]) S0 fun S1 => ⟨r, rfl, some mx, S1.p1.c 0 rfl, n, S1.c 0 rfl, ?_⟩
  refine St.delete (k := n) klS umX S1.p2 fun h2 S2 => ?_
  have S3 := RtW.inn (q.delX n) (show St (RtA r mx mb (del kx n) kb (Bx (top h) [.string (mkS n)] :: L)) h2 from S2.to)
  exact goneRt (drop_1 (top h) n) S3.p1 hl fun h3 s S4 => ⟨_, _, _, rfl, hK h3 s S4.tl⟩
theorem freeRt {n : List UInt8} (S : St (RtW r X B :: L) h) (hl : B.length ≤ 1000000) (hK : ∀ h' s, St (Ow 3 s ((B.filter fun b => b.2.1 == n).flatMap bc) :: RtW r X (B.filter fun b => !(b.2.1 == n)) :: L) h' → K (.slice s.1 s.2.1 s.2.2) h') :
    CallsH P F.qcw [.pointer (some r), .string (mkS n)] K h := by
  refine qcw.ok ?_
  unfold qcw.p0
  refine St.bd1 (cs := [.string (mkS n)]) S fun S1 => ?_
  exact goneRt (free_1 (top h) n) S1 hl fun h3 s S4 => ⟨_, _, _, rfl, hK h3 s S4.tl⟩
def takesP (x : XN) (b : BN) (key : List UInt8) : Bool := if x.2.1 == 1 then b.2.2 == key else if x.2.1 == 3 then Pl.matchW (Pl.wordsL b.2.2) (Pl.wordsL key) else true
theorem takesRt {h0 : Heap} (g : G h0) (m : Old h0 ∈ L) {x : XN} {b : BN} {key : List UInt8} (S : St L h) (h1 : b.2.2.length < 100000) (h2 : key.length < 100000) (hK : ∀ h', St L h' → K (.bool (takesP x b key)) h') :
    CallsH P F.qda [.agg (List.toArray (xc x)), .agg (List.toArray (bc b)), .string (mkS key)] K h := by
  refine qda.ok ?_
  unfold qda.p0
  refine St.bd1 (cs := xc x) S fun S1 => St.bd1 (cs := bc b) S1 fun S2 => ⟨_, S2.p1.c 1 rfl, ?_⟩
  unfold bd
  unfold takesP at hK
  cases e1 : (x.2.1 == 1) with
  | true =>
    rw [e1] at hK
    exact ifT rfl ⟨_, S2.c 2 rfl, hK _ S2.tl.tl⟩
  | false =>
    rw [e1, if_neg (by decide)] at hK
    refine ifF rfl ?_
    cases e3 : (x.2.1 == 3) with
    | true =>
      rw [e3, if_pos rfl] at hK
      refine ifT rfl ⟨_, S2.c 2 rfl, Match.spec (g.old S2.tl.tl m) h1 h2 fun h' k => ⟨_, rfl, hK h' (St.kept S2.tl.tl k)⟩⟩
    | false =>
      rw [e3, if_neg (by decide)] at hK
      exact ifF rfl (hK _ S2.tl.tl)
def routeP (X : List XN) (B : List BN) (exch key : List UInt8) : List (List UInt8) := match xget X exch with
  | none => []
  | some x => if exch = [] then [key] else ddL ((B.filter fun b => b.1 == exch && takesP x b key).map fun b => b.2.1)
theorem appSt {p : OA} {l c : Nat} {ys : List Value} (S : St (Ow 1 (p, l, c) ys :: L) h) (x : List UInt8) (hl : l ≤ 1000000) {K : KT} {ty : TypeId} (hK : ∀ p' c' h', St (Ow 1 (p', l + 1, c') (ys ++ [encS x]) :: L) h' → K (.slice p' (l + 1) c') h') :
    bd (al h (List.toArray [.string (mkS x)]) T.string) fun h1 => SemH P (Builtin.append_ #[T.sl_string, T.sl_string] ty #[.slice p l c, .slice (some (top h)) 1 1]) K h1 := by
  refine St.bd1 (cs := [.string (mkS x)]) S fun S1 => ?_
  have sa : Sl 1 (al h (List.toArray [.string (mkS x)]) T.string) (some (top h)) 1 [encS x] := ⟨rfl, S1.mem.1⟩
  exact S1.p1.app (s := (p, l, c)) sl_str rfl u_sls (fun k e => by cases e) (Src.slice (n := 1) (c := 1) sa (by simp [Lift.one])) (by show (l + 1) * 16 ≤ _; omega) (by show l + 1 ≤ _; omega) fun p' c' h' S' => hK p' c' h' S'.d1
theorem route_loop {h0 : Heap} (g : G h0) (m : Old h0 ∈ L) {x : XN} {t7 : Addr} {exch key : List UInt8} {t : SV} (hl : B.length ≤ 1000000) (hk : ∀ b ∈ B, b.2.2.length < 100000) (h2 : key.length < 100000)
    (hK : ∀ h' s, St (Ow 1 s ((ddL ((B.filter fun b => b.1 == exch && takesP x b key).map fun b => b.2.1)).map encS) :: L) h' → K (.slice s.1 s.2.1 s.2.2) h') :
    ∀ (fuel i : Nat) (o : SV) (h : Heap), B.length - i < fuel → i ≤ B.length → St (Bx t7 (xc x) :: Ow 3 t (B.flatMap bc) :: Ow 1 o ((((B.take i).filter fun b => b.1 == exch && takesP x b key).map fun b => b.2.1).map encS) :: L) h → qbd.L2 K fuel exch key t7 o.1 o.2.1 o.2.2 t.1 t.2.1 t.2.2 ((t.2.1 : Nat) : Int) i h
  | 0, _, _, _, hf, _, _ => absurd hf (Nat.not_lt_zero _)
  | fuel + 1, i, o, h, hf, hi, S => by
    have el : t.2.1 = B.length := by have := S.p1.ow.1; rw [flat_length bc3] at this; omega
    unfold qbd.L2
    by_cases hlt : i < B.length
    · have hx : B[i]? = some B[i] := List.getElem?_eq_getElem hlt
      refine ifT (by simp; omega) (ixS bc3 (by decide) S.p1.sl rfl hx ?_)
      refine St.bd1 (cs := zb) S fun S1 => ⟨rfl, S1.wrA (ws := bc B[i]) rfl (bc_one _) fun h2' S2 => ⟨_, S2.c 0 rfl, ?_⟩⟩
      have et : B.take (i + 1) = B.take i ++ [B[i]] := by rw [List.take_add_one, hx]; rfl
      have next : ∀ (o : SV) h', St (Bx t7 (xc x) :: Ow 3 t (B.flatMap bc) :: Ow 1 o ((((B.take (i + 1)).filter fun b => b.1 == exch && takesP x b key).map fun b => b.2.1).map encS) :: L) h' → qbd.j3 K (qbd.L2 K fuel) exch key t7 o.1 o.2.1 o.2.2 t.1 t.2.1 t.2.2 ((t.2.1 : Nat) : Int) i h' := fun o h' S' => by
        unfold qbd.j3
        rw [show IntKind.i64.wrap ((i : Int) + 1) = ((i + 1 : Nat) : Int) from by rw [wrapI (by omega) (by omega)]; omega]
        exact route_loop g m hl hk h2 hK fuel (i + 1) o h' (by omega) (by omega) S'
      have j4 : ∀ (c : Bool) h', c = (B[i].1 == exch && takesP x B[i] key) → St (Bx (top h) (bc B[i]) :: Bx t7 (xc x) :: Ow 3 t (B.flatMap bc) :: Ow 1 o ((((B.take i).filter fun b => b.1 == exch && takesP x b key).map fun b => b.2.1).map encS) :: L) h' → qbd.j4 K (qbd.L2 K fuel) exch key t7 o.1 o.2.1 o.2.2 (top h) t.1 t.2.1 t.2.2 ((t.2.1 : Nat) : Int) i c h' := fun c h' ec S' => by
        unfold qbd.j4
        cases c with
        | false =>
          refine ifF rfl (next o h' ?_)
          rw [et, List.filter_append, List.filter_cons_of_neg (by rw [← ec]; decide), List.filter_nil, List.append_nil]
          exact S'.tl
        | true =>
          have lo : o.2.1 ≤ i := by
            have := S'.p3.ow.1
            have h3 : ((B.take i).filter fun b => b.1 == exch && takesP x b key).length ≤ (B.take i).length := List.length_filter_le _ _
            rw [List.length_take] at h3
            simp only [List.length_map] at this
            omega
          refine ifT rfl ⟨_, S'.c 1 rfl, appSt (p := o.1) (l := o.2.1) (c := o.2.2) S'.p3 B[i].2.1 (by omega) fun p' c' h5 S5 => ⟨_, _, _, rfl, next (p', o.2.1 + 1, c') h5 ?_⟩⟩
          rw [et, List.filter_append, List.filter_cons_of_pos (p := fun b => b.1 == exch && takesP x b key) (a := B[i]) ec.symm, List.filter_nil, List.map_append, List.map_append, List.map_cons, List.map_nil, List.map_cons, List.map_nil]
          exact S5.to
      cases hb : (B[i].1 == exch) with
      | false => exact ifF rfl (j4 false h2' (by rw [hb]; rfl) S2)
      | true =>
        refine ifT rfl (S2.p1.rdA (n := 3) rfl (S2.rdA (n := 3) rfl ?_))
        have S2' : St (Bx (top h) (bc B[i]) :: Bx t7 (xc x) :: Ow 3 t (B.flatMap bc) :: Ow 1 o ((((B.take i).filter fun b => b.1 == exch && takesP x b key).map fun b => b.2.1).map encS) :: L) h2' := S2
        refine takesRt g (List.mem_cons_of_mem _ (List.mem_cons_of_mem _ (List.mem_cons_of_mem _ (List.mem_cons_of_mem _ m)))) S2' (hk _ (List.getElem_mem hlt)) h2 fun h6 S6 => ⟨_, rfl, j4 _ h6 (by rw [hb]; rfl) S6⟩
    · refine ifF (by simp; omega) ?_
      unfold qbd.j1
      rw [List.take_of_length_le (by omega)] at S
      have hln : ((B.filter fun b => b.1 == exch && takesP x b key).map fun b => b.2.1).length < 1099511627776 := by
        rw [List.length_map]
        exact Nat.lt_of_le_of_lt (List.length_filter_le _ _) (by omega)
      exact compactS (t := o) hln (fun h' s S' => ⟨_, _, _, rfl, hK h' s S'⟩) S.tl.tl
theorem routeRt {h0 : Heap} (g : G h0) (m : Old h0 ∈ L) {exch key : List UInt8} (hl : B.length ≤ 1000000) (hk : ∀ b ∈ B, b.2.2.length < 100000) (h2 : key.length < 100000) (S : St (RtW r X B :: L) h)
    (hK : ∀ h' s, St (Ow 1 s ((routeP X B exch key).map encS) :: RtW r X B :: L) h' → K (.slice s.1 s.2.1 s.2.2) h') : CallsH P F.qbd [.pointer (some r), .string (mkS exch), .string (mkS key)] K h := by
  obtain ⟨mx, mb, kx, kb, q, S0⟩ := RtW.out S
  refine qbd.ok ?_
  unfold qbd.p0
  have eg := q.xg exch
  refine ⟨r, rfl, some mx, S0.c 0 rfl, lookX S0 ?_⟩
  rw [eg]
  refine St.bd1 (cs := zx) S0 fun S1 => ⟨xO_len _, S1.wrA (by rw [xO_len]; rfl) (xO_one _) fun h3 S3 => ?_⟩
  have S4 : St (RtW r X B :: Bx (top h) (xO (xget X exch)) :: L) h3 := RtW.inn q (show St (RtA r mx mb kx kb (Bx (top h) (xO (xget X exch)) :: L)) h3 from S3.to)
  unfold bd
  unfold routeP at hK
  cases hx : xget X exch with
  | none =>
    rw [hx] at hK
    exact ifT rfl (hK h3 (none, 0, 0) (S4.d1.owNil 1))
  | some x =>
    rw [hx] at hK S4
    have S4 : St (RtW r X B :: Bx (top h) (xc x) :: L) h3 := S4
    refine ifF rfl ?_
    cases he : (exch == ([] : List UInt8)) with
    | true =>
      have he' : exch = [] := by simpa using he
      simp only [if_pos he'] at hK
      refine ifT rfl ?_
      have S5 : St (Bx (top h3) [.string (mkS key)] :: RtW r X B :: Bx (top h) (xc x) :: L) (al h3 #[.string (mkS key)] T.string) := S4.al [.string (mkS key)] T.string
      exact hK _ (some (top h3), 1, 1) (S5.bxOw (n := 1) (sz := 1) rfl).p2.tl
    | false =>
      have he' : exch ≠ [] := by simpa using he
      simp only [if_neg he'] at hK
      refine ifF rfl (bindsRt S4 hl fun h5 t S5 => ⟨_, _, _, rfl, B.length + 1, ?_⟩)
      refine route_loop (L := RtW r X B :: L) g (List.mem_cons_of_mem _ m) hl hk h2 (fun h' s S' => hK h' s S') _ 0 (none, 0, 0) h5 (by omega) (by omega) ?_
      exact (show St (Bx (top h) (xc x) :: Ow 3 t (B.flatMap bc) :: Ow 1 (none, 0, 0) [] :: RtW r X B :: L) h5 from (S5.owNil 1).to)
end
end Go.Proofs.YtechpnlbkkfplaaGreatDoor.Pr
end
section
set_option linter.unusedVariables false
set_option linter.unusedSimpArgs false
namespace Go.Proofs.YtechpnlbkkfplaaGreatDoor.Pr
open Go Go.Lift Go.Proofs
abbrev nD : List UInt8 := [97, 109, 113, 46, 100, 105, 114, 101, 99, 116]
abbrev nF : List UInt8 := [97, 109, 113, 46, 102, 97, 110, 111, 117, 116]
abbrev nT : List UInt8 := [97, 109, 113, 46, 116, 111, 112, 105, 99]
theorem okB_lt {b : BN} (h0 : b.1.length < 1000) (h1 : b.2.1.length < 1000) (h2 : b.2.2.length < 1000) : okB b := by
  unfold okB maxLen; omega
section
variable {K : KT} {L : List Asr} {h : Heap}
theorem awake16S {h0 : Heap} (g : G h0) (m : Old h0 ∈ L) (S : St L h) (hK : ∀ h', St L h' → K (.bool true) h') : CallsH P F.qcn [] K h := by
  refine qcn.ok ?_
  unfold qcn.p0
  have okb : okB (nT, [113], [97, 46, 35]) := okB_lt (by decide) (by decide) (by decide)
  have hT : (xget X0 nT).isSome = true := by decide +kernel
  refine newRt S fun h1 r S1 => ⟨_, rfl, ifF rfl ?_⟩
  refine bindRt (b := (nT, [113], [97, 46, 35])) S1 okb (fun e => ?_) fun _ _ _ h2 S2 => ⟨_, rfl, ?_⟩
  · exfalso
    rcases e with e | e | e
    · have e : xget X0 nT = none := e
      rw [e] at hT; cases hT
    · cases e
    · cases e
  refine bindRt (b := (nT, [113], [97, 46, 35])) S2 okb (fun _ h3 S3 => ⟨_, rfl, ?_⟩) fun _ _ e => absurd (List.mem_singleton.2 rfl) e
  have S3 : St (RtW r X0 [(nT, [113], [97, 46, 35])] :: L) h3 := S3
  refine getRt (n := nF) S3 fun h4 S4 => ⟨_, _, rfl, ?_⟩
  have eF : xget X0 nF = some (nF, 2, true) := by decide +kernel
  rw [eF]
  refine St.bd1 (cs := zx) S4 fun S5 => ⟨rfl, S5.wrA (ws := xc (nF, 2, true)) rfl (xc_one _) fun h6 S6 => ?_⟩
  refine ifT rfl (ifT rfl (ifT rfl ⟨_, S6.c 1 rfl, ifT rfl ⟨_, S6.c 2 rfl, ifT rfl ?_⟩⟩))
  have hk : ∀ b ∈ [((nT, [113], [97, 46, 35]) : BN)], b.2.2.length < 100000 := fun b hb => by rw [List.mem_singleton.1 hb]; decide
  refine routeRt (exch := []) (key := [107]) g m (by decide) hk (by decide) S6.tl fun h7 s S7 => ⟨_, _, _, rfl, ?_⟩
  have e1 : routeP X0 [(nT, [113], [97, 46, 35])] [] [107] = [[107]] := by decide +kernel
  rw [e1] at S7
  refine St.bd1 (cs := [.string (mkS [107])]) S7 fun S8 => ?_
  refine sameTextsS (a := s) (b := (some (top h7), 1, 1)) (xs := [[107]]) (ys := [[107]]) (by decide) S8.p1.sl ⟨rfl, S8.mem.1⟩ ⟨_, rfl, ifT (by decide) ?_⟩
  refine routeRt (exch := nT) (key := [97, 46, 98]) g (List.mem_cons_of_mem _ (List.mem_cons_of_mem _ m)) (by decide) hk (by decide) S8.p2 fun h9 s S9 => ⟨_, _, _, rfl, ?_⟩
  have e2 : routeP X0 [(nT, [113], [97, 46, 35])] nT [97, 46, 98] = [[113]] := by decide +kernel
  rw [e2] at S9
  refine St.bd1 (cs := [.string (mkS [113])]) S9 fun S10 => ?_
  refine sameTextsS (a := s) (b := (some (top h9), 1, 1)) (xs := [[113]]) (ys := [[113]]) (by decide) S10.p1.sl ⟨rfl, S10.mem.1⟩ ⟨_, rfl, ifT (by decide) ?_⟩
  refine namesRt S10.p2 (by decide) fun h11 s S11 => ⟨_, _, _, rfl, ?_⟩
  have el : s.2.1 = 4 := by have := S11.ow.1; simpa using this.symm
  rw [el]
  exact hK h11 (show St L h11 from S11.to)
end
end Go.Proofs.YtechpnlbkkfplaaGreatDoor.Pr
end
