/- routPlays_holds: all that the theorem needs, in a few texts (bundle.py; made of the texts that NOTES.md names). -/
import Derived.Below
import Derived.Carry
import Derived.ChangeOld
import Derived.ChangeShapes
import Derived.DeepKeys4
import Derived.KernelRfl
import Derived.Laws.Append
import Derived.Laws.Bits64
import Derived.Laws.BitsAllLaws
import Derived.Laws.BitsLemmas
import Derived.Laws.IdiomStrings
import Derived.Laws.Sem
import Derived.Laws.Strings
import Derived.Laws.StructEq
import Derived.Lib.ItoaNum
import Derived.LoopIn
import Derived.LoopN
import Derived.LoopNIn
import Derived.MapKept
import Derived.Maps.AppendAt
import Derived.Maps.RangeRun
import Derived.OpenShut
import Derived.Orders
import Derived.OwnWalkIn
import Derived.RangeFuncGives
import Derived.RangeFuncSeq
import Derived.RegionIn
import Derived.Shelf.Abstract
import Derived.Shelf.Lay
import Derived.Shelf.LaysM
import Derived.Shelf.SlIter.Collect
import Derived.Shelf.SlMaps.Clone
import Derived.Shelf.Slices.Cells
import Derived.Shelf.Slices.CompactS
import Derived.Shelf.Slices.In.SortNone
import Derived.Shelf.Small.Bits
import Derived.Shelf.Sort.Plain
import Derived.Shelf.Strconv.Itoa0
import Derived.Shelf.Strings.Count
import Derived.Shelf.Strings.Explode
import Derived.Shelf.Strings.RuneCount
import Derived.Shelf.Strings.Search1
import Derived.Shelf.Strings.Search2
import Derived.Shelf.Strings.Search3
import Derived.Shelf.Strings.Shaped
import Derived.Shelf.Strings.Split
import Derived.Shelf.Strings.SplitShaped
import Derived.Shelf.Unicode.Decode
import Derived.Shelf.Unicode.DecodeAny
import Derived.Shelf.Unicode.DecodeSlow
import Derived.Shelf.Utf8.RuneCount
import Derived.Sort.KeysCollected
import Derived.Sort.MapsRangeIn
import Derived.TacticsInMore
import Derived.Test.YtechpnlbkkfplaaGreatDoorChecked
import Derived.Test.YtechpnlbkkfplaaGreatDoorProg
import Derived.WalkKit
import Derived.WideLaws
import Derived.WideShapes
import Derived.Test.YtechpnlbkkfplaaGreatDoorBRoutPlays2
import Derived.Test.YtechpnlbkkfplaaGreatDoorBRoutPlays3
import Derived.Test.YtechpnlbkkfplaaGreatDoorBRoutPlays4
import Derived.Test.YtechpnlbkkfplaaGreatDoorBRoutPlays5
import Derived.Test.YtechpnlbkkfplaaGreatDoorBRoutPlays6
import Derived.Test.YtechpnlbkkfplaaGreatDoorBRoutPlays7
import Derived.Test.YtechpnlbkkfplaaGreatDoorBRoutPlays8
import Derived.Test.YtechpnlbkkfplaaGreatDoorBRoutPlays9
import Derived.Test.YtechpnlbkkfplaaGreatDoorBRoutPlays10
import Derived.Test.YtechpnlbkkfplaaGreatDoorBRoutPlays11
import Derived.Test.YtechpnlbkkfplaaGreatDoorBRoutPlays12
import Derived.Test.YtechpnlbkkfplaaGreatDoorBRoutPlays13
import Derived.Test.YtechpnlbkkfplaaGreatDoorBRoutPlays14
import Derived.Test.YtechpnlbkkfplaaGreatDoorBRoutPlays16
import Derived.Test.YtechpnlbkkfplaaGreatDoorBRoutPlays17
import Derived.Test.YtechpnlbkkfplaaGreatDoorBRoutPlays18
import Derived.Test.YtechpnlbkkfplaaGreatDoorBRoutPlays19
import Derived.Test.YtechpnlbkkfplaaGreatDoorBRoutPlays20
import Derived.Test.YtechpnlbkkfplaaGreatDoorBRoutPlays21
import Derived.Test.YtechpnlbkkfplaaGreatDoorBRoutPlays22
import Derived.Test.YtechpnlbkkfplaaGreatDoorBRoutPlays23
section
set_option linter.unusedVariables false
set_option linter.unusedSimpArgs false
namespace Go.Proofs.YtechpnlbkkfplaaGreatDoor.Pr
open Go Go.Lift Go.Proofs
abbrev ON := Int × List UInt8 × Int × Bool × List UInt8 × List UInt8 × List UInt8
abbrev oc (x : ON) : List Value := [.int .i64 x.1, .string (mkS x.2.1), .int .i64 x.2.2.1, .bool x.2.2.2.1, .string (mkS x.2.2.2.2.1), .string (mkS x.2.2.2.2.2.1), .string (mkS x.2.2.2.2.2.2)]
theorem oc7 : ∀ x : ON, (oc x).length = 7 := fun _ => rfl
theorem oc_one (x : ON) : ∀ w ∈ oc x, Lift.one w = true := by simp [Lift.one]
abbrev oX (x : ON) : XN := (x.2.1, x.2.2.1, x.2.2.2.1)
abbrev oB (x : ON) : BN := (x.2.2.2.2.1, x.2.2.2.2.2.1, x.2.2.2.2.2.2)
abbrev zo : List Value := oc (0, [], 0, false, [], [], [])
structure RpI (X : List XN) (B : List BN) (i : Nat) : Prop where
  lx : X.length ≤ 4 + i
  lb : B.length ≤ i
  kx : ∀ x ∈ X, 1 ≤ x.2.1 ∧ x.2.1 ≤ 3
  kb : ∀ b ∈ B, b.2.2.length < 100000 ∧ (xget X b.1).isSome = true
theorem RpI.up {X B i} (q : RpI X B i) : RpI X B (i + 1) := ⟨by have := q.lx; omega, by have := q.lb; omega, q.kx, q.kb⟩
theorem xget_mem {X : List XN} {n : List UInt8} (h : (xget X n).isSome = true) : n ∈ X.map Prod.fst := by
  cases e : xget X n with
  | none => rw [e] at h; cases h
  | some x => unfold xget at e; exact List.mem_map.2 ⟨x, List.mem_of_find?_eq_some e, by have := List.find?_some e; simpa using this⟩
theorem mem_xget {X : List XN} {n : List UInt8} (h : n ∈ X.map Prod.fst) : (xget X n).isSome = true := by
  obtain ⟨x, hx, rfl⟩ := List.mem_map.1 h
  unfold xget
  rw [List.find?_isSome]
  exact ⟨x, hx, by simp⟩
theorem RpI.add {X B i} (q : RpI X B i) {x : XN} (hx : 1 ≤ x.2.1 ∧ x.2.1 ≤ 3) : RpI (insX X x) B (i + 1) := by
  refine ⟨by rw [Ord.len_ins]; have := q.lx; omega, by have := q.lb; omega, fun y hy => ?_, fun b hb => ⟨(q.kb b hb).1, ?_⟩⟩
  · rcases Ord.mem_ins.1 hy with e | e
    · rw [e]; exact hx
    · exact q.kx y e
  · obtain ⟨y, hy, e⟩ := List.mem_map.1 (xget_mem (q.kb b hb).2)
    exact mem_xget (List.mem_map.2 ⟨y, Ord.mem_ins.2 (.inr hy), e⟩)
theorem RpI.bind {X B i} (q : RpI X B i) {b : BN} (hb : b.2.2.length < 100000) (hx : (xget X b.1).isSome = true) : RpI X (insB B b) (i + 1) := by
  refine ⟨by have := q.lx; omega, by rw [Ord.len_ins]; have := q.lb; omega, q.kx, fun c hc => ?_⟩
  rcases Ord.mem_ins.1 hc with e | e
  · rw [e]; exact ⟨hb, hx⟩
  · exact q.kb c e
theorem RpI.filt {X B i} (q : RpI X B i) (p : BN → Bool) : RpI X (B.filter p) (i + 1) :=
  ⟨by have := q.lx; omega, by have := List.length_filter_le p B; have := q.lb; omega, q.kx, fun c hc => q.kb c (List.mem_filter.1 hc).1⟩
theorem RpI.drop {X B i} (q : RpI X B i) (n : List UInt8) : RpI (X.filter fun x => decide (x.1 ≠ n)) (B.filter fun b => !(b.1 == n)) (i + 1) := by
  refine ⟨by have := List.length_filter_le (fun x : XN => decide (x.1 ≠ n)) X; have := q.lx; omega, by have := List.length_filter_le (fun b : BN => !(b.1 == n)) B; have := q.lb; omega, fun x hx => q.kx x (List.mem_filter.1 hx).1, fun c hc => ?_⟩
  obtain ⟨h1, h2⟩ := List.mem_filter.1 hc
  refine ⟨(q.kb c h1).1, ?_⟩
  obtain ⟨y, hy, e⟩ := List.mem_map.1 (xget_mem (q.kb c h1).2)
  exact mem_xget (List.mem_map.2 ⟨y, List.mem_filter.2 ⟨hy, by rw [e]; simpa using h2⟩, e⟩)
theorem RpI.none {X B i} (q : RpI X B i) {n : List UInt8} (h : xget X n = none) : (X.filter fun x => decide (x.1 ≠ n)) = X ∧ (B.filter fun b => !(b.1 == n)) = B ∧ (B.filter fun b => b.1 == n) = [] := by
  have hb : ∀ b ∈ B, b.1 ≠ n := fun b hb e => by have := (q.kb b hb).2; rw [e, h] at this; cases this
  refine ⟨List.filter_eq_self.2 fun x hx => decide_eq_true fun e => ?_, List.filter_eq_self.2 fun b hm => by simpa using hb b hm, List.filter_eq_nil_iff.2 fun b hm => by simpa using hb b hm⟩
  have := mem_xget (X := X) (n := n) (List.mem_map.2 ⟨x, hx, e⟩)
  rw [h] at this; cases this
def g3 {α : Type} (k : Nat) (a b c : α) : α := if k = 0 then a else if k = 1 then b else c
theorem get3 {k : Nat} (hk : k < 3) {a b c : List UInt8} : ([.string (mkS a), .string (mkS b), .string (mkS c)] : List Value)[k]? = some (.string (mkS (g3 k a b c))) := by
  match k, hk with
  | 0, _ => rfl
  | 1, _ => rfl
  | 2, _ => rfl
section
variable {K : KT} {L : List Asr} {h : Heap} {r w : Addr} {X : List XN} {B : List BN} {t : SV} {xs : List ON} {e k : List UInt8}
theorem shortS {x : ON} (S : St L h) (hF : ∀ h', St L h' → K (.bool false) h')
    (hT : x.2.1.length ≤ 100 ∧ x.2.2.2.2.1.length ≤ 100 ∧ x.2.2.2.2.2.1.length ≤ 100 ∧ x.2.2.2.2.2.2.length ≤ 100 → ∀ h', St L h' → K (.bool true) h') : CallsH P F.qcl [.agg (List.toArray (oc x))] K h := by
  refine qcl.ok ?_
  unfold qcl.p0
  refine St.bd1 (cs := oc x) S fun S1 => ⟨_, S1.cc 1 0 rfl, ?_⟩
  by_cases h1 : x.2.1.length ≤ 100
  · refine ifT (by simp; omega) ⟨_, S1.cc 4 0 rfl, ?_⟩
    by_cases h2 : x.2.2.2.2.1.length ≤ 100
    · refine ifT (by simp; omega) ⟨_, S1.cc 4 1 rfl, ?_⟩
      by_cases h3 : x.2.2.2.2.2.1.length ≤ 100
      · refine ifT (by simp; omega) ⟨_, S1.cc 4 2 rfl, ?_⟩
        unfold bd
        by_cases h4 : x.2.2.2.2.2.2.length ≤ 100
        · rw [decide_eq_true (by omega)]; exact hT ⟨h1, h2, h3, h4⟩ _ S1.tl
        · rw [decide_eq_false (by omega)]; exact hF _ S1.tl
      · exact ifF (by simp; omega) (hF _ S1.tl)
    · exact ifF (by simp; omega) (hF _ S1.tl)
  · exact ifF (by simp; omega) (hF _ S1.tl)
abbrev MP (t : SV) (xs : List ON) (L : List Asr) : List Asr := Im 7 t (xs.flatMap oc) :: L
theorem rp_routes {h0 : Heap} (g : G h0) (m : Old h0 ∈ L) {x : ON} {t10 : Addr} {i : Nat} {R4 : OA → Nat → Nat → List UInt8 → List UInt8 → OA → OA → Int → Heap → Prop} (hi : i < 60) (q : RpI X B (i + 1)) (le : e.length ≤ 100) (lk : k.length ≤ 100)
    (lx : x.2.2.2.2.2.2.length ≤ 100)
    (hK : ∀ h', St (RtW r X B :: RfW w X B :: MP t xs L) h' → R4 t.1 t.2.1 t.2.2 e k (some r) (some w) ((i + 1 : Nat) : Int) h') :
    ∀ (fuel j : Nat) (h : Heap), 3 - j < fuel → j ≤ 3 → St (Bx t10 (oc x) :: RtW r X B :: RfW w X B :: MP t xs L) h → qaa.L8 K R4 fuel t.1 t.2.1 t.2.2 e k (some r) (some w) i t10 j h
  | 0, _, _, hf, _, _ => absurd hf (Nat.not_lt_zero _)
  | fuel + 1, j, h, hf, hj, S => by
    have hX := q.lx
    have hB := q.lb
    unfold qaa.L8
    by_cases hlt : j < 3
    · have j9 : ∀ (a b : List UInt8) h', b.length ≤ 100 → St (Bx t10 (oc x) :: RtW r X B :: RfW w X B :: MP t xs L) h' → qaa.j9 K R4 (qaa.L8 K R4 fuel) t.1 t.2.1 t.2.2 e k (some r) (some w) i t10 j a b h' := fun a b h' hb S' => by
        unfold qaa.j9
        have m2 : Old h0 ∈ Bx t10 (oc x) :: RfW w X B :: MP t xs L := List.mem_cons_of_mem _ (List.mem_cons_of_mem _ (List.mem_cons_of_mem _ m))
        refine routeRt (exch := a) (key := b) g m2 (by omega) (fun b hb => (q.kb b hb).1) (by omega) S'.p1 fun h2 s S2 => ⟨_, _, _, rfl, ?_⟩
        refine routeR (exch := a) (key := b) (by omega) (fun b hb => (q.kb b hb).1) (by omega) q.kx S2.p3 fun h3 s' S3 => ⟨_, _, _, rfl, ?_⟩
        have ln : (routeP X B a b).length < 1099511627776 := by
          have := S3.p2.ow.1
          have h4 := S3.p2.ow.2.1
          unfold routeP
          split
          · simp
          · split
            · simp
            · unfold ddL
              rw [rF_len]
              refine Nat.lt_of_le_of_lt (cnt_le _ _) ?_
              rw [List.length_map]
              have := List.length_filter_le (fun c : BN => c.1 == a && takesP ‹XN› c b) B
              omega
        refine sameTextsS (xs := routeP X B a b) (ys := routeP X B a b) (a := s) (b := s') ln S3.p2.sl (S3.iml (m := List.mem_cons_self ..)).1 ⟨_, rfl, ?_⟩
        rw [decide_eq_true rfl]
        refine ifF rfl ?_
        unfold bd
        rw [show IntKind.i64.wrap ((j : Int) + 1) = ((j + 1 : Nat) : Int) from wrapS (by omega) (by omega)]
        exact rp_routes g m hi q le lk lx hK fuel (j + 1) h3 (by omega) (by omega) S3.to
      have lg : (g3 j k x.2.2.2.2.2.2 k).length ≤ 100 := by
        match j, hlt with
        | 0, _ => exact lk
        | 1, _ => exact lx
        | 2, _ => exact lk
      have h0' : (0 : Int) ≤ (j : Int) := by omega
      have h3' : (j : Int) < 3 := by omega
      have h3n : (j : Int) < ((3 : Nat) : Int) := by omega
      have fin : ∀ h', St (Bx t10 (oc x) :: RtW r X B :: RfW w X B :: MP t xs L) h' → qaa.j9 K R4 (qaa.L8 K R4 fuel) t.1 t.2.1 t.2.2 e k (some r) (some w) i t10 j (g3 j e x.2.1 x.2.2.2.2.1) (g3 j k x.2.2.2.2.2.2 k) h' := fun h' S' => j9 _ _ h' lg S'
      refine ifT (by simp; omega) ?_
      simp only [Int.toNat_natCast, Nat.mul_one]
      repeat' first
        | with_reducible refine And.intro ?_ ?_
        | with_reducible refine ⟨_, S.rcc t10 1 0 rfl, ?_⟩
        | with_reducible refine ⟨_, S.rcc t10 4 0 rfl, ?_⟩
        | with_reducible refine ⟨_, S.rcc t10 4 2 rfl, ?_⟩
        | with_reducible refine St.bd1 (cs := [.string (mkS e), .string (mkS x.2.1), .string (mkS x.2.2.2.2.1)]) S fun S => ?_
        | with_reducible refine St.bd1 (cs := [.string (mkS k), .string (mkS x.2.2.2.2.2.2), .string (mkS k)]) S fun S => ?_
        | with_reducible exact h0'
        | with_reducible exact h3'
        | with_reducible exact h3n
        | with_reducible refine ⟨_, rfl, ?_⟩
        | with_reducible refine ⟨_, S.rc _ j (get3 hlt), ?_⟩
        | with_reducible exact fin _ S.to
    · have : j = 3 := by omega
      subst this
      refine ifF (by decide) ?_
      unfold qaa.j6
      unfold bd
      rw [show IntKind.i64.wrap ((i : Int) + 1) = ((i + 1 : Nat) : Int) from wrapS (by omega) (by omega)]
      exact hK h S.tl
abbrev nCopy : List UInt8 := [116, 104, 101, 32, 99, 111, 112, 121, 39, 115, 32, 111, 119, 110]
abbrev nCopyQ : List UInt8 := [116, 104, 101, 32, 99, 111, 112, 121, 39, 115]
theorem rp_copy {h0 : Heap} (m : Old h0 ∈ L) {i : Nat} (hi : i ≤ 60) (q : RpI X B i) (S : St (RtW r X B :: RfW w X B :: MP t xs L) h) (hK : ∀ h', St (MP t xs L) h' → K (.bool true) h') : qaa.j3 K (some r) (some w) h := by
  have hX := q.lx
  have hB := q.lb
  unfold qaa.j3
  refine copyRt S fun h1 c S1 => ⟨_, rfl, ?_⟩
  refine same16R (r := c) (L := RtW r X B :: MP t xs L) (show St (RtW c X B :: RfW w X B :: RtW r X B :: MP t xs L) h1 from S1.to) (by omega) fun h2 S2 => ⟨_, rfl, ifF rfl ?_⟩
  have fin : ∀ X' B' h', St (RtW c X' B' :: RfW w X B :: RtW r X B :: MP t xs L) h' → CallsH P F.qbh [.pointer (some r), .pointer (some w)] (fun v h' => ∃ b, v = .bool b ∧ K (.bool b) h') h' := fun X' B' h' S' => by
    exact same16R (show St (RtW r X B :: RfW w X B :: MP t xs L) h' from S'.to) (by omega) fun h3 S3 => ⟨_, rfl, hK h3 S3.tl.tl⟩
  have bnd : ∀ X' h', St (RtW c X' B :: RfW w X B :: RtW r X B :: MP t xs L) h' → CallsH P F.qbk [.pointer (some c), .agg #[.string (mkS nD), .string (mkS nCopyQ), .string (mkS ([111, 119, 110] : List UInt8))]] (fun v19 h20 => ∃ b21, v19 = .bool b21 ∧ CallsH P F.qbh [.pointer (some r), .pointer (some w)] (fun v22 h23 => ∃ b24, v22 = .bool b24 ∧ K (.bool b24) h23) h20) h' := fun X' h' S' => by
    exact bindRt (b := (nD, nCopyQ, [111, 119, 110])) S' (okB_lt (by decide) (by decide) (by decide)) (fun _ h3 S3 => ⟨_, rfl, fin _ _ h3 S3⟩) fun _ _ _ h3 S3 => ⟨_, rfl, fin _ _ h3 S3⟩
  exact addRt (x := (nCopy, 1, false)) S2 (by decide) (fun _ h3 S3 => ⟨_, rfl, bnd _ h3 S3⟩) fun _ _ h3 S3 => ⟨_, rfl, bnd _ h3 S3⟩
theorem rp_call {h0 : Heap} (g : G h0) (m : Old h0 ∈ L) {x : ON} {t10 : Addr} {i : Nat} {R4 : OA → Nat → Nat → List UInt8 → List UInt8 → OA → OA → Int → Heap → Prop} (hi : i < 60) (q : RpI X B i) (le : e.length ≤ 100) (lk : k.length ≤ 100)
    (lx : x.2.1.length ≤ 100 ∧ x.2.2.2.2.1.length ≤ 100 ∧ x.2.2.2.2.2.1.length ≤ 100 ∧ x.2.2.2.2.2.2.length ≤ 100)
    (hK : ∀ X' B' h', RpI X' B' (i + 1) → St (RtW r X' B' :: RfW w X' B' :: MP t xs L) h' → R4 t.1 t.2.1 t.2.2 e k (some r) (some w) ((i + 1 : Nat) : Int) h')
    (S : St (Bx t10 (oc x) :: RtW r X B :: RfW w X B :: MP t xs L) h) (c : Bool) (hc : c = true ↔ x.1 = 0 ∨ x.1 = 1) : qaa.j10 K R4 t.1 t.2.1 t.2.2 e k (some r) (some w) i t10 x.1 c h := by
  have hX := q.lx
  have hB := q.lb
  have next : ∀ X' B' h', RpI X' B' (i + 1) → St (Bx t10 (oc x) :: RtW r X' B' :: RfW w X' B' :: MP t xs L) h' → qaa.j7 K R4 t.1 t.2.1 t.2.2 e k (some r) (some w) i t10 h' := fun X' B' h' q' S' => by
    have hX' := q'.lx
    have hB' := q'.lb
    unfold qaa.j7
    refine same16R (L := Bx t10 (oc x) :: MP t xs L) (show St (RtW r X' B' :: RfW w X' B' :: Bx t10 (oc x) :: MP t xs L) h' from S'.p1.p2.p1) (by omega) fun h2 S2 => ⟨_, rfl, ifF rfl ⟨4, ?_⟩⟩
    exact rp_routes g m hi q' le lk lx.2.2.2 (fun h3 S3 => hK X' B' h3 q' S3) 4 0 h2 (by omega) (by omega) S2.p2
  have rX : ∀ {L' : List Asr} {h : Heap} {R : List Asr} [Has (Bx t10) L' (oc x) R] (S : St L' h), rdC h (t10.add 1) 0 3 = some (xc (oX x)) := fun S => by
    obtain ⟨cs, e1, e2⟩ := (S.get (Bx t10)).rdP 1 (n := 3) (by simp) (R := fun cs => cs = xc (oX x)) rfl
    rw [e1, e2]
  have rB : ∀ {L' : List Asr} {h : Heap} {R : List Asr} [Has (Bx t10) L' (oc x) R] (S : St L' h), rdC h (t10.add 4) 0 3 = some (bc (oB x)) := fun S => by
    obtain ⟨cs, e1, e2⟩ := (S.get (Bx t10)).rdP 4 (n := 3) (by simp) (R := fun cs => cs = bc (oB x)) rfl
    rw [e1, e2]
  unfold qaa.j10
  cases c with
  | true =>
    refine ifT rfl ⟨_, rX S, ?_⟩
    have j11 : ∀ X' B' (b : Bool) h', RpI X' B' (i + 1) → St (Bx t10 (oc x) :: RtW r X' B' :: RfW w X' B' :: MP t xs L) h' → qaa.j11 K R4 t.1 t.2.1 t.2.2 e k (some r) (some w) i t10 (!(b == b)) h' := fun X' B' b h' q' S' => by
      unfold qaa.j11
      exact ifF (by cases b <;> rfl) (next X' B' h' q' S')
    have go : ∀ {Q1 : Bool → Bool → Heap → Prop}, (∀ X' B' b h', RpI X' B' (i + 1) → St (Bx t10 (oc x) :: RtW r X' B' :: RfW w X' B' :: MP t xs L) h' → Q1 b b h') → ∀ {C : Bool → Heap → Prop}, (∀ X' b h', St (RtW r X' B :: Bx t10 (oc x) :: RfW w X B :: MP t xs L) h' → CallsH P F.qan [.pointer (some w), .agg (List.toArray (xc (oX x)))] (fun v h' => ∃ b2, v = .bool b2 ∧ Q1 b b2 h') h' → C b h') → CallsH P F.qbo [.pointer (some r), .agg (List.toArray (xc (oX x)))] (fun v h' => ∃ b, v = .bool b ∧ C b h') h := fun hQ C hC => by
      refine addRt (x := oX x) S.p1 (by show x.2.1.length ≤ maxLen; unfold maxLen; omega) (fun e1 h2 S2 => ⟨_, rfl, hC X false h2 S2 ?_⟩) fun e1 e2 h2 S2 => ⟨_, rfl, hC _ true h2 S2 ?_⟩
      · refine addR (x := oX x) S2.p2 (by omega) (fun _ h3 S3 => ⟨_, rfl, hQ X B false h3 q.up ?_⟩) fun f1 f2 => ?_
        · exact S3.to
        · exfalso
          rcases e1 with e1 | e1 | e1
          · rw [f1] at e1; cases e1
          · exact absurd f2.1 (by omega)
          · exact absurd f2.2 (by omega)
      · refine addR (x := oX x) S2.p2 (by omega) (fun f1 => ?_) fun _ _ h3 S3 => ⟨_, rfl, hQ _ B true h3 (q.add e2) ?_⟩
        · exfalso
          rcases f1 with f1 | f1 | f1
          · rw [e1] at f1; cases f1
          · exact absurd e2.1 (by omega)
          · exact absurd e2.2 (by omega)
        · exact S3.to
    with_reducible refine And.intro ?_ ⟨_, rX S, ?_⟩
    · exact go (Q1 := fun b b2 h' => qaa.j11 K R4 t.1 t.2.1 t.2.2 e k (some r) (some w) i t10 (!(b == b2)) h') j11 fun X' b h' S' c => ⟨_, rX S', c⟩
    · exact go (Q1 := fun b b2 h' => qaa.j11 K R4 t.1 t.2.1 t.2.2 e k (some r) (some w) i t10 (!(b == b2)) h') j11 fun X' b h' S' c => c
  | false =>
    refine ifF rfl ?_
    unfold bd
    by_cases n2 : x.1 = 2
    · -- an exchange goes
      have jn : ∀ X' B' h', RpI X' B' (i + 1) → St (Bx t10 (oc x) :: RtW r X' B' :: RfW w X' B' :: MP t xs L) h' → qaa.j12 K R4 t.1 t.2.1 t.2.2 e k (some r) (some w) i t10 (!true) h' := fun X' B' h' q' S' => by
        unfold qaa.j12
        exact ifF rfl (next X' B' h' q' S')
      have go : ∀ {Q1 : OA → Nat → Nat → OA → Nat → Nat → Heap → Prop}, (∀ (s s' : SV) (B' : List BN) X2 B2 h', B'.length < 1000000 → RpI X2 B2 (i + 1) → St (Im 3 s (B'.flatMap bc) :: Im 3 s' (B'.flatMap bc) :: Bx t10 (oc x) :: RtW r X2 B2 :: RfW w X2 B2 :: MP t xs L) h' → Q1 s.1 s.2.1 s.2.2 s'.1 s'.2.1 s'.2.2 h') →
          ∀ {C : OA → Nat → Nat → Heap → Prop}, (∀ (s : SV) (B' : List BN) X2 B2 h', St (Ow 3 s (B'.flatMap bc) :: RtW r X2 B2 :: Bx t10 (oc x) :: RfW w X B :: MP t xs L) h' → CallsH P F.qbj [.pointer (some w), .string (mkS x.2.1)] (fun v h' => ∃ a l c, v = .slice a l c ∧ Q1 s.1 s.2.1 s.2.2 a l c h') h' → C s.1 s.2.1 s.2.2 h') →
          CallsH P F.qcy [.pointer (some r), .string (mkS x.2.1)] (fun v h' => ∃ a l c, v = .slice a l c ∧ C a l c h') h := fun {Q1} hQ {C} hC => by
        refine dropRt (n := x.2.1) S.p1 (by omega) fun h2 s S2 => ⟨_, _, _, rfl, hC s _ _ _ h2 S2 ?_⟩
        have lf := List.length_filter_le (fun b : BN => b.1 == x.2.1) B
        refine dropR (n := x.2.1) (w := w) (X := X) (B := B) (L := Ow 3 s ((B.filter fun b => b.1 == x.2.1).flatMap bc) :: RtW r (X.filter fun y => decide (y.1 ≠ x.2.1)) (B.filter fun b => !(b.1 == x.2.1)) :: Bx t10 (oc x) :: MP t xs L) S2.to (by omega) (fun hn h3 S3 => ?_) fun hs h3 s' S3 => ⟨_, _, _, rfl, hQ s s' (B.filter fun b => b.1 == x.2.1) _ _ h3 (by omega) (q.drop x.2.1) ?_⟩
        · obtain ⟨e1, e2, e3⟩ := q.none hn
          rw [e1, e2, e3] at S3
          exact ⟨_, _, _, rfl, hQ s (none, 0, 0) [] X B h3 (by decide) q.up ((show St (Im 3 s (([] : List BN).flatMap bc) :: Bx t10 (oc x) :: RtW r X B :: RfW w X B :: MP t xs L) h3 from (S3.p1.im).to).imNil 3 0).p1⟩
        · exact (S3.im.p2.im).to
      have sm : ∀ (s s' : SV) (B' : List BN) X2 B2 h', B'.length < 1000000 → RpI X2 B2 (i + 1) → St (Im 3 s (B'.flatMap bc) :: Im 3 s' (B'.flatMap bc) :: Bx t10 (oc x) :: RtW r X2 B2 :: RfW w X2 B2 :: MP t xs L) h' →
          CallsH P F.qbn [.slice s.1 s.2.1 s.2.2, .slice s'.1 s'.2.1 s'.2.2] (fun v h' => ∃ b, v = .bool b ∧ qaa.j12 K R4 t.1 t.2.1 t.2.2 e k (some r) (some w) i t10 (!b) h') h' := fun s s' B' X2 B2 h' hl q' S' =>
        sameBindsS (a := s) (b := s') (xs := B') (by omega) (S'.iml (m := List.mem_cons_self ..)).1 (S'.iml (m := List.mem_cons_of_mem _ (List.mem_cons_self ..))).1 ⟨_, rfl, jn X2 B2 h' q' S'.tl.tl⟩
      refine ifT (by simp [n2]) ⟨_, S.cc 1 0 rfl, ?_⟩
      with_reducible refine And.intro ?_ ⟨_, S.cc 1 0 rfl, ?_⟩
      · exact go (Q1 := fun a b c a' b' c' h' => CallsH P F.qbn [.slice a b c, .slice a' b' c'] (fun v h' => ∃ b, v = .bool b ∧ qaa.j12 K R4 t.1 t.2.1 t.2.2 e k (some r) (some w) i t10 (!b) h') h') sm fun s B' X2 B2 h' S' c => ⟨_, S'.p2.cc 1 0 rfl, c⟩
      · exact go (Q1 := fun a b c a' b' c' h' => CallsH P F.qbn [.slice a b c, .slice a' b' c'] (fun v h' => ∃ b, v = .bool b ∧ qaa.j12 K R4 t.1 t.2.1 t.2.2 e k (some r) (some w) i t10 (!b) h') h') sm fun s B' X2 B2 h' S' c => c
    · refine ifF (by simpa using n2) ?_
      by_cases n6 : x.1 = 6
      · -- a binding goes
        have jn : ∀ X' B' (b : Bool) h', RpI X' B' (i + 1) → St (Bx t10 (oc x) :: RtW r X' B' :: RfW w X' B' :: MP t xs L) h' → qaa.j13 K R4 t.1 t.2.1 t.2.2 e k (some r) (some w) i t10 (!(b == b)) h' := fun X' B' b h' q' S' => by
          unfold qaa.j13
          exact ifF (by cases b <;> rfl) (next X' B' h' q' S')
        have go : ∀ {C : Bool → Heap → Prop}, (∀ B' b h', St (RtW r X B' :: Bx t10 (oc x) :: RfW w X B :: MP t xs L) h' → CallsH P F.qca [.pointer (some w), .agg (List.toArray (bc (oB x)))] (fun v h' => ∃ b2, v = .bool b2 ∧ qaa.j13 K R4 t.1 t.2.1 t.2.2 e k (some r) (some w) i t10 (!(b == b2)) h') h' → C b h') → CallsH P F.qcr [.pointer (some r), .agg (List.toArray (bc (oB x)))] (fun v h' => ∃ b, v = .bool b ∧ C b h') h := fun {C} hC => by
          refine unbindRt (b := oB x) S.p1 fun h2 S2 => ⟨_, rfl, hC _ _ h2 S2 ?_⟩
          exact unbindR (b := oB x) (w := w) (X := X) (B := B) (L := RtW r X (B.filter fun c => decide (c ≠ oB x)) :: Bx t10 (oc x) :: MP t xs L) S2.to (by omega) fun h3 S3 => ⟨_, rfl, jn X _ _ h3 (q.filt fun c => decide (c ≠ oB x)) S3.to⟩
        refine ifT (by simp [n6]) ⟨_, rB S, ?_⟩
        with_reducible refine And.intro ?_ ⟨_, rB S, ?_⟩
        · exact go fun B' b h' S' c => ⟨_, rB S', c⟩
        · exact go fun B' b h' S' c => c
      · refine ifF (by simpa using n6) ?_
        by_cases n7 : x.1 = 7
        · -- a queue goes
          have sm : ∀ (s s' : SV) (B' : List BN) X2 B2 h', B'.length < 1000000 → RpI X2 B2 (i + 1) → St (Im 3 s (B'.flatMap bc) :: Im 3 s' (B'.flatMap bc) :: Bx t10 (oc x) :: RtW r X2 B2 :: RfW w X2 B2 :: MP t xs L) h' →
              CallsH P F.qbn [.slice s.1 s.2.1 s.2.2, .slice s'.1 s'.2.1 s'.2.2] (fun v h' => ∃ b, v = .bool b ∧ qaa.j14 K R4 t.1 t.2.1 t.2.2 e k (some r) (some w) i t10 (!b) h') h' := fun s s' B' X2 B2 h' hl q' S' =>
            sameBindsS (a := s) (b := s') (xs := B') (by omega) (S'.iml (m := List.mem_cons_self ..)).1 (S'.iml (m := List.mem_cons_of_mem _ (List.mem_cons_self ..))).1 ⟨_, rfl, by
              unfold qaa.j14
              exact ifF rfl (next X2 B2 h' q' S'.tl.tl)⟩
          have go : ∀ {C : OA → Nat → Nat → Heap → Prop}, (∀ (s : SV) (B' : List BN) B2 h', St (Ow 3 s (B'.flatMap bc) :: RtW r X B2 :: Bx t10 (oc x) :: RfW w X B :: MP t xs L) h' → CallsH P F.qcc [.pointer (some w), .string (mkS x.2.2.2.2.2.1)] (fun v h' => ∃ a l c, v = .slice a l c ∧ CallsH P F.qbn [.slice s.1 s.2.1 s.2.2, .slice a l c] (fun v h' => ∃ b, v = .bool b ∧ qaa.j14 K R4 t.1 t.2.1 t.2.2 e k (some r) (some w) i t10 (!b) h') h') h' → C s.1 s.2.1 s.2.2 h') →
              CallsH P F.qcw [.pointer (some r), .string (mkS x.2.2.2.2.2.1)] (fun v h' => ∃ a l c, v = .slice a l c ∧ C a l c h') h := fun {C} hC => by
            refine freeRt (n := x.2.2.2.2.2.1) S.p1 (by omega) fun h2 s S2 => ⟨_, _, _, rfl, hC s _ _ h2 S2 ?_⟩
            have lf := List.length_filter_le (fun b : BN => b.2.1 == x.2.2.2.2.2.1) B
            refine freeR (n := x.2.2.2.2.2.1) (w := w) (X := X) (B := B) (L := Ow 3 s ((B.filter fun b => b.2.1 == x.2.2.2.2.2.1).flatMap bc) :: RtW r X (B.filter fun b => !(b.2.1 == x.2.2.2.2.2.1)) :: Bx t10 (oc x) :: MP t xs L) S2.to (by omega) fun h3 s' S3 => ⟨_, _, _, rfl, sm s s' (B.filter fun b => b.2.1 == x.2.2.2.2.2.1) X (B.filter fun b => !(b.2.1 == x.2.2.2.2.2.1)) h3 (by omega) (q.filt _) ?_⟩
            exact (S3.im.p2.im).to
          refine ifT (by simp [n7]) ⟨_, S.cc 4 1 rfl, ?_⟩
          with_reducible refine And.intro ?_ ⟨_, S.cc 4 1 rfl, ?_⟩
          · exact go fun s B' B2 h' S' c => ⟨_, S'.p2.cc 4 1 rfl, c⟩
          · exact go fun s B' B2 h' S' c => c
        · -- a binding is made
          refine ifF (by simpa using n7) ⟨_, rB S, ?_⟩
          have jn : ∀ X' B' (b : Bool) h', RpI X' B' (i + 1) → St (Bx t10 (oc x) :: RtW r X' B' :: RfW w X' B' :: MP t xs L) h' → qaa.j15 K R4 t.1 t.2.1 t.2.2 e k (some r) (some w) i t10 (!(b == b)) h' := fun X' B' b h' q' S' => by
            unfold qaa.j15
            exact ifF (by cases b <;> rfl) (next X' B' h' q' S')
          have go : ∀ {C : Bool → Heap → Prop}, (∀ B' b h', St (RtW r X B' :: Bx t10 (oc x) :: RfW w X B :: MP t xs L) h' → CallsH P F.qal [.pointer (some w), .agg (List.toArray (bc (oB x)))] (fun v h' => ∃ b2, v = .bool b2 ∧ qaa.j15 K R4 t.1 t.2.1 t.2.2 e k (some r) (some w) i t10 (!(b == b2)) h') h' → C b h') → CallsH P F.qbk [.pointer (some r), .agg (List.toArray (bc (oB x)))] (fun v h' => ∃ b, v = .bool b ∧ C b h') h := fun {C} hC => by
            refine bindRt (b := oB x) S.p1 (okB_lt (by show x.2.2.2.2.1.length < 1000; omega) (by show x.2.2.2.2.2.1.length < 1000; omega) (by show x.2.2.2.2.2.2.length < 1000; omega)) (fun e1 h2 S2 => ⟨_, rfl, hC B false h2 S2 ?_⟩) fun e1 e2 e3 h2 S2 => ⟨_, rfl, hC _ true h2 S2 ?_⟩
            · refine bindR (b := oB x) (w := w) (X := X) (B := B) (L := RtW r X B :: Bx t10 (oc x) :: MP t xs L) S2.to (by omega) (fun _ h3 S3 => ⟨_, rfl, jn X B false h3 q.up S3.to⟩) fun f1 f2 f3 => ?_
              exfalso
              rcases e1 with e1 | e1 | e1
              · rw [e1] at f1; cases f1
              · exact f2 e1
              · exact f3 e1
            · refine bindR (b := oB x) (w := w) (X := X) (B := B) (L := RtW r X (insB B (oB x)) :: Bx t10 (oc x) :: MP t xs L) S2.to (by omega) (fun f1 => ?_) fun _ _ _ h3 S3 => ⟨_, rfl, jn X _ true h3 (q.bind (by show x.2.2.2.2.2.2.length < 100000; omega) e1) S3.to⟩
              exfalso
              rcases f1 with f1 | f1 | f1
              · rw [f1] at e1; cases e1
              · exact e2 f1
              · exact e3 f1
          with_reducible refine And.intro ?_ ⟨_, rB S, ?_⟩
          · exact go fun B' b h' S' c => ⟨_, rB S', c⟩
          · exact go fun B' b h' S' c => c
theorem rp_loop {h0 : Heap} (g : G h0) (m : Old h0 ∈ L) (lt : t.2.1 = xs.length) (le : e.length ≤ 100) (lk : k.length ≤ 100) (hK : ∀ h', St (MP t xs L) h' → K (.bool true) h') :
    ∀ (fuel i : Nat) (X : List XN) (B : List BN) (h : Heap), xs.length - i < fuel → i ≤ xs.length → i ≤ 60 → RpI X B i → St (RtW r X B :: RfW w X B :: MP t xs L) h → qaa.L4 K fuel t.1 t.2.1 t.2.2 e k (some r) (some w) i h
  | 0, _, _, _, _, hf, _, _, _, _ => absurd hf (Nat.not_lt_zero _)
  | fuel + 1, i, X, B, h, hf, hi, h60, q, S => by
    have out : qaa.j5 K (qaa.L4 K fuel) t.1 t.2.1 t.2.2 e k (some r) (some w) i false h := by
      unfold qaa.j5
      exact ifF rfl (rp_copy m h60 q S hK)
    unfold qaa.L4
    by_cases hlt : i < xs.length
    · refine ifT (by simp; omega) ?_
      by_cases hn : i < 60
      · rw [decide_eq_true (by omega)]
        have hx : xs[i]? = some xs[i] := List.getElem?_eq_getElem hlt
        unfold qaa.j5
        have sl : Sl 7 h t.1 t.2.1 (xs.flatMap oc) := (S.iml (m := List.mem_cons_of_mem _ (List.mem_cons_of_mem _ (List.mem_cons_self ..)))).1
        refine ifT rfl (ixS oc7 (by decide) sl rfl hx ?_)
        refine St.bd1 (cs := zo) S fun S1 => ⟨rfl, S1.wrA (ws := oc xs[i]) rfl (oc_one _) fun h2 S2 => ⟨_, S2.rall (top h) 7 rfl, ?_⟩⟩
        refine shortS S2 (fun h3 S3 => ⟨_, rfl, ifT rfl (hK h3 S3.tl.tl.tl)⟩) fun lx h3 S3 => ⟨_, rfl, ifF rfl ⟨_, S3.c 0 rfl, ?_⟩⟩
        have call := fun c hc => rp_call (K := K) (R4 := qaa.L4 K fuel) g m hn q le lk lx (fun X' B' h' q' S' => rp_loop g m lt le lk hK fuel (i + 1) X' B' h' (by omega) (by omega) (by omega) q' S') S3 c hc
        unfold bd
        by_cases n0 : xs[i].1 = 0
        · exact ⟨fun _ => call _ (by simp [n0]), fun e => absurd e (by simp [n0])⟩
        · exact ⟨fun e => absurd e (by simp [n0]), fun _ => call _ (by simp [n0])⟩
      · rw [decide_eq_false (by omega)]; exact out
    · exact ifF (by simp; omega) out
end
theorem RoutPlays.law {h : Heap} (s : SV) (xs : List ON) (sl : Sl 7 h s.1 s.2.1 (xs.flatMap oc)) (le : s.2.1 ≤ s.2.2) (mx : s.2.2 ≤ maxLen)
    (wx : ∀ x ∈ xs, (Lit.int .i64 x.1).wf = true ∧ x.2.1.length ≤ maxLen ∧ (Lit.int .i64 x.2.2.1).wf = true ∧ True ∧ x.2.2.2.2.1.length ≤ maxLen ∧ x.2.2.2.2.2.1.length ≤ maxLen ∧ x.2.2.2.2.2.2.length ≤ maxLen)
    (e : List UInt8) (we : e.length ≤ maxLen) (k : List UInt8) (wk : k.length ≤ maxLen) (g : G h) :
    CallsH P F.qaa [s.v, .string (mkS e), .string (mkS k)] (fun v h' => v = .bool true ∧ Kept h h') h := by
  refine qaa.ok ?_
  unfold qaa.p0
  have ls : s.2.1 = xs.length := by have := sl.1; rw [flat_length oc7] at this; omega
  have S0 : St (Im 7 s (xs.flatMap oc) :: [Old h]) h := (St.old h).imOld (List.mem_cons_self ..) sl le
  have m : Old h ∈ [Old h] := List.mem_cons_self ..
  refine newRt S0 fun h1 r S1 => ⟨_, rfl, newR S1 fun h2 w S2 => ⟨_, rfl, ifF' rfl ?_⟩⟩
  have S2 : St (RtW r X0 [] :: RfW w X0 [] :: MP s xs [Old h]) h2 := S2.to
  have m2 : Old h ∈ RtW r X0 [] :: RfW w X0 [] :: MP s xs [Old h] := List.mem_cons_of_mem _ (List.mem_cons_of_mem _ (List.mem_cons_of_mem _ m))
  refine awake16S g m2 S2 fun h3 S3 => ⟨_, rfl, ifF' rfl ?_⟩
  have jT : qaa.j1 (fun v h' => v = .bool true ∧ Kept h h') s.1 s.2.1 s.2.2 e k (some r) (some w) true h3 := by
    unfold qaa.j1
    refine ifT rfl (ifT rfl (awake16S g m2 S3 fun h4 S4 => ⟨_, rfl, ?_⟩))
    unfold qaa.j2
    exact ⟨rfl, S4.tl.tl.tl.keptOld m⟩
  by_cases he : e.length ≤ 100
  · refine ifF' (by simp; omega) ?_
    by_cases hk : k.length ≤ 100
    · rw [decide_eq_false (by omega)]
      unfold qaa.j1
      refine ifF rfl ⟨xs.length + 1, rp_loop g m ls he hk (fun h' S' => ⟨rfl, S'.tl.keptOld m⟩) _ 0 X0 [] h3 (by omega) (by omega) (by omega) ⟨by decide, by simp, by decide, by simp⟩ S3⟩
    · rw [decide_eq_true (by omega)]; exact jT
  · exact ifT' (by simp; omega) jT
end Go.Proofs.YtechpnlbkkfplaaGreatDoor.Pr
end
