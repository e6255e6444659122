/- routKinds_holds: all that the theorem needs, in a few texts (bundle.py; made of the texts that NOTES.md names). -/
import Derived.Below
import Derived.Carry
import Derived.ChangeOld
import Derived.ChangeShapes
import Derived.DeepKeys4
import Derived.KernelRfl
import Derived.Laws.Append
import Derived.Laws.Bits64
import Derived.Laws.BitsAllLaws
import Derived.Laws.BitsLemmas
import Derived.Laws.IdiomStrings
import Derived.Laws.Sem
import Derived.Laws.Strings
import Derived.Laws.StructEq
import Derived.Lib.ItoaNum
import Derived.LoopIn
import Derived.LoopN
import Derived.LoopNIn
import Derived.MapKept
import Derived.Maps.AppendAt
import Derived.OpenShut
import Derived.Orders
import Derived.OwnWalkIn
import Derived.RangeFuncGives
import Derived.RangeFuncSeq
import Derived.RegionIn
import Derived.Shelf.Abstract
import Derived.Shelf.Lay
import Derived.Shelf.LaysM
import Derived.Shelf.SlIter.Collect
import Derived.Shelf.Slices.Cells
import Derived.Shelf.Slices.CompactS
import Derived.Shelf.Slices.In.SortNone
import Derived.Shelf.Small.Bits
import Derived.Shelf.Sort.Plain
import Derived.Shelf.Strconv.Itoa0
import Derived.Shelf.Strings.Count
import Derived.Shelf.Strings.Explode
import Derived.Shelf.Strings.RuneCount
import Derived.Shelf.Strings.Search1
import Derived.Shelf.Strings.Search2
import Derived.Shelf.Strings.Search3
import Derived.Shelf.Strings.Shaped
import Derived.Shelf.Strings.Split
import Derived.Shelf.Strings.SplitShaped
import Derived.Shelf.Unicode.Decode
import Derived.Shelf.Unicode.DecodeAny
import Derived.Shelf.Unicode.DecodeSlow
import Derived.Shelf.Utf8.RuneCount
import Derived.Sort.KeysCollected
import Derived.Sort.MapsRangeIn
import Derived.TacticsInMore
import Derived.Test.YtechpnlbkkfplaaDoorChecked
import Derived.Test.YtechpnlbkkfplaaDoorProg
import Derived.WalkKit
import Derived.WideLaws
import Derived.WideShapes
import Derived.Test.YtechpnlbkkfplaaDoorBRoutKinds2
import Derived.Test.YtechpnlbkkfplaaDoorBRoutKinds3
import Derived.Test.YtechpnlbkkfplaaDoorBRoutKinds4
import Derived.Test.YtechpnlbkkfplaaDoorBRoutKinds5
import Derived.Test.YtechpnlbkkfplaaDoorBRoutKinds6
import Derived.Test.YtechpnlbkkfplaaDoorBRoutKinds7
import Derived.Test.YtechpnlbkkfplaaDoorBRoutKinds8
import Derived.Test.YtechpnlbkkfplaaDoorBRoutKinds9
import Derived.Test.YtechpnlbkkfplaaDoorBRoutKinds10
import Derived.Test.YtechpnlbkkfplaaDoorBRoutKinds11
import Derived.Test.YtechpnlbkkfplaaDoorBRoutKinds12
import Derived.Test.YtechpnlbkkfplaaDoorBRoutKinds13
import Derived.Test.YtechpnlbkkfplaaDoorBRoutKinds15
import Derived.Test.YtechpnlbkkfplaaDoorBRoutKinds16
import Derived.Test.YtechpnlbkkfplaaDoorBRoutKinds17
import Derived.Test.YtechpnlbkkfplaaDoorBRoutKinds18
import Derived.Test.YtechpnlbkkfplaaDoorBRoutKinds19
import Derived.Test.YtechpnlbkkfplaaDoorBRoutKinds20
import Derived.Test.YtechpnlbkkfplaaDoorBRoutKinds21
section
set_option linter.unusedVariables false
set_option linter.unusedSimpArgs false
namespace Go.Proofs.YtechpnlbkkfplaaDoor.Pr
open Go Go.Lift Go.Proofs
abbrev nms : List (List UInt8) := [nD, nF, nT]
def rkB (xs : List BN) (i : Nat) : BN := (nms.getD (i % 3) [], (xs.getD i ([], [], [])).2.1, (xs.getD i ([], [], [])).2.2)
def rkT (key : List UInt8) (k : Nat) (b : BN) : Bool := if k = 0 then b.2.2 == key else if k = 1 then true else Pl.matchW (Pl.wordsL b.2.2) (Pl.wordsL key)
structure RK (xs : List BN) (n : Nat) (B : List BN) : Prop where
  mem : ∀ b, b ∈ B ↔ ∃ j, j < n ∧ b = rkB xs j
  len : B.length ≤ n
  key : ∀ b ∈ B, b.2.2.length < 100000
theorem nms_x (k : Nat) (hk : k < 3) : ∃ x, xget X0 (nms.getD k []) = some x ∧ nms.getD k [] ≠ [] ∧ ∀ b key, takesP x b key = rkT key k b := by
  match k, hk with
  | 0, _ => exact ⟨(nD, 1, true), by decide +kernel, by decide, fun b key => rfl⟩
  | 1, _ => exact ⟨(nF, 2, true), by decide +kernel, by decide, fun b key => rfl⟩
  | 2, _ => exact ⟨(nT, 3, true), by decide +kernel, by decide, fun b key => rfl⟩
theorem nms_inj {a b : Nat} (ha : a < 3) (hb : b < 3) (e : nms.getD a [] = nms.getD b []) : a = b := by
  match a, b, ha, hb with
  | 0, 0, _, _ => rfl
  | 1, 1, _, _ => rfl
  | 2, 2, _, _ => rfl
  | 0, 1, _, _ => exact absurd e (by decide)
  | 0, 2, _, _ => exact absurd e (by decide)
  | 1, 0, _, _ => exact absurd e (by decide)
  | 1, 2, _, _ => exact absurd e (by decide)
  | 2, 0, _, _ => exact absurd e (by decide)
  | 2, 1, _, _ => exact absurd e (by decide)
theorem rk_route {xs B : List BN} {n k : Nat} {key : List UInt8} (g : RK xs n B) (u : Ord.Ups sort_bind.o id B) (hk : k < 3) :
    (∀ q, q ∈ routeP X0 B (nms.getD k []) key ↔ ∃ j, j < n ∧ j % 3 = k ∧ (rkB xs j).2.1 = q ∧ rkT key k (rkB xs j) = true) ∧ (routeP X0 B (nms.getD k []) key).Pairwise (fun a b => sort_string.o.lt a b = true) ∧ (routeP X0 B (nms.getD k []) key).length ≤ n := by
  obtain ⟨x, hx, hne, ht⟩ := nms_x k hk
  have er : routeP X0 B (nms.getD k []) key = ddL ((B.filter fun b => b.1 == nms.getD k [] && rkT key k b).map fun b => b.2.1) := by
    unfold routeP
    rw [hx]
    simp only [if_neg hne]
    congr 2
    exact List.filter_congr fun b _ => by rw [ht]
  rw [er]
  refine ⟨fun q => ?_, ddL_up ?_, ?_⟩
  · rw [ddL_mem, List.mem_map]
    constructor
    · rintro ⟨b, hb, rfl⟩
      obtain ⟨h1, h2⟩ := List.mem_filter.1 hb
      rw [Bool.and_eq_true] at h2
      obtain ⟨j, hj, rfl⟩ := (g.mem b).1 h1
      exact ⟨j, hj, nms_inj (Nat.mod_lt _ (by decide)) hk (beq_iff_eq.1 h2.1), rfl, h2.2⟩
    · rintro ⟨j, hj, h3, rfl, h4⟩
      refine ⟨rkB xs j, List.mem_filter.2 ⟨(g.mem _).2 ⟨j, hj, rfl⟩, ?_⟩, rfl⟩
      rw [h4, Bool.and_true, ← h3]
      exact beq_self_eq_true _
  · rw [List.pairwise_map]
    have uf : ((B.filter fun b => b.1 == nms.getD k [] && rkT key k b)).Pairwise fun a b => sort_bind.o.lt a b = true := u.filter _
    refine uf.imp_of_mem fun {a b} ha hb h => ?_
    have ea : a.1 = nms.getD k [] := by have := (List.mem_filter.1 ha).2; rw [Bool.and_eq_true] at this; exact beq_iff_eq.1 this.1
    have eb : b.1 = nms.getD k [] := by have := (List.mem_filter.1 hb).2; rw [Bool.and_eq_true] at this; exact beq_iff_eq.1 this.1
    have h : (sort_string.o.lt a.1 b.1 || (!sort_string.o.lt b.1 a.1 && (sort_string.o.lt a.2.1 b.2.1 || (!sort_string.o.lt b.2.1 a.2.1 && sort_string.o.lt a.2.2 b.2.2)))) = true := h
    rw [ea, eb, Ord.lt_irrefl] at h
    show sort_string.o.lt b.2.1 a.2.1 = false
    cases e : sort_string.o.lt b.2.1 a.2.1 with
    | false => rfl
    | true => rw [e, sort_string.o.asym _ _ e] at h; cases h
  · unfold ddL
    rw [rF_len]
    refine Nat.le_trans (cnt_le _ _) ?_
    rw [List.length_map]
    exact Nat.le_trans (List.length_filter_le _ _) g.len
section
variable {K : KT} {L : List Asr} {h : Heap} {t nm : SV} {xs : List BN} {key : List UInt8} {r : Addr} {B : List BN}
abbrev KL (t nm : SV) (xs : List BN) (L : List Asr) : List Asr := Ow 1 nm (nms.map encS) :: Im 3 t (xs.flatMap bc) :: L
theorem rkB_at {i : Nat} (hi : i < xs.length) : (rkB xs i).2.1 = xs[i].2.1 ∧ (rkB xs i).2.2 = xs[i].2.2 := by
  have e : xs.getD i ([], [], []) = xs[i] := by rw [List.getD_eq_getElem?_getD, List.getElem?_eq_getElem hi]; rfl
  unfold rkB
  rw [e]
  exact ⟨rfl, rfl⟩
theorem rk_take {h0 : Heap} (g : G h0) {M : List Asr} (m : Old h0 ∈ M) {k i : Nat} (hk : k < 3) (hi : i < xs.length) (hl : xs[i].2.2.length < 100000) (h2 : key.length < 100000) (C : Bool → Heap → Prop) (S : St M h) (sl : Sl 3 h t.1 t.2.1 (xs.flatMap bc))
    (hC : ∀ h', Kept h h' → St M h' → C (rkT key k (rkB xs i)) h') :
    (((k : Int) == 0) = true → ∃ p, t.1 = some p ∧ (0 : Int) ≤ (i : Int) ∧ (i : Int) < ((t.2.1 : Nat) : Int) ∧ ∃ s, hcell h (Addr.add (Addr.add p (Int.toNat (i : Int) * 3)) 2) = some (.string (mkS s)) ∧ ((s == key) = false → (((k : Int) == 1) = false → (((k : Int) == 2) = true → ∃ p, t.1 = some p ∧ (0 : Int) ≤ (i : Int) ∧ (i : Int) < ((t.2.1 : Nat) : Int) ∧ ∃ s, hcell h (Addr.add (Addr.add p (Int.toNat (i : Int) * 3)) 2) = some (.string (mkS s)) ∧ CallsH P F.qau [.string (mkS s), .string (mkS key)] (fun v h' => ∃ b, v = .bool b ∧ C b h') h) ∧ (((k : Int) == 2) = false → C false h)) ∧ (((k : Int) == 1) = true → C true h)) ∧ ((s == key) = true → C true h)) ∧
    (((k : Int) == 0) = false → (((k : Int) == 1) = false → (((k : Int) == 2) = true → ∃ p, t.1 = some p ∧ (0 : Int) ≤ (i : Int) ∧ (i : Int) < ((t.2.1 : Nat) : Int) ∧ ∃ s, hcell h (Addr.add (Addr.add p (Int.toNat (i : Int) * 3)) 2) = some (.string (mkS s)) ∧ CallsH P F.qau [.string (mkS s), .string (mkS key)] (fun v h' => ∃ b, v = .bool b ∧ C b h') h) ∧ (((k : Int) == 2) = false → C false h)) ∧ (((k : Int) == 1) = true → C true h)) := by
  have hx : xs[i]? = some xs[i] := List.getElem?_eq_getElem hi
  obtain ⟨p, ep, p0, p1, pc⟩ := ixF bc3 (by decide) sl (i := (i : Int)) (n := i) rfl hx
  have c2 := pc 2 _ rfl
  obtain ⟨e1, e2⟩ := rkB_at hi
  have k0 := hC h (Kept.refl h) S
  unfold rkT at hC k0
  rw [e2] at hC k0
  match k, hk with
  | 0, _ =>
    refine ⟨fun _ => ⟨p, ep, p0, p1, _, c2, ?_⟩, fun e => by cases e⟩
    cases he : (xs[i].2.2 == key) with
    | true => rw [if_pos rfl, he] at k0; exact ⟨fun e => (by cases e), fun _ => k0⟩
    | false => rw [if_pos rfl, he] at k0; exact ⟨fun _ => ⟨fun _ => ⟨fun e => (by cases e), fun _ => k0⟩, fun e => by cases e⟩, fun e => by cases e⟩
  | 1, _ => exact ⟨fun e => (by cases e), fun _ => ⟨fun e => (by cases e), fun _ => k0⟩⟩
  | 2, _ => exact ⟨fun e => (by cases e), fun _ => ⟨fun _ => ⟨fun _ => ⟨p, ep, p0, p1, _, c2, Match.spec (g.old S m) hl h2 fun h' kp => ⟨_, rfl, hC h' kp (St.kept S kp)⟩⟩, fun e => by cases e⟩, fun e => by cases e⟩⟩
theorem tmod3 (i : Nat) : Int.tmod (i : Int) 3 = ((i % 3 : Nat) : Int) := (Int.ofNat_tmod i 3).symm
theorem rk_in {R5 : OA → Nat → Nat → List UInt8 → OA → OA → Nat → Nat → Int → Heap → Prop} {R14 : OA → Nat → Nat → List UInt8 → OA → OA → Nat → Nat → Int → OA → Nat → Nat → Int → Int → Heap → Prop} {t5 : OA} {k i : Nat} {s : SV} {Q : List (List UInt8)} (hi : i < xs.length) (ho : Q.length ≤ 1000) (sl : Sl 3 h t.1 t.2.1 (xs.flatMap bc)) (sq : Sl 1 h s.1 s.2.1 (Q.map encS)) (b : Bool)
    (hK : qaa.j17 K R5 R14 t.1 t.2.1 t.2.2 key t5 nm.1 nm.2.1 nm.2.2 k s.1 s.2.1 s.2.2 0 i b (decide (xs[i].2.1 ∈ Q)) h) :
    ∀ (fuel q : Nat), Q.length - q < fuel → q ≤ Q.length → qaa.L19 K R5 R14 fuel t.1 t.2.1 t.2.2 key t5 nm.1 nm.2.1 nm.2.2 k s.1 s.2.1 s.2.2 0 i b (decide (xs[i].2.1 ∈ Q.take q)) q h
  | 0, _, hf, _ => absurd hf (Nat.not_lt_zero _)
  | fuel + 1, q, hf, hq => by
    have es : s.2.1 = Q.length := by have := sq.1; simpa using this.symm
    unfold qaa.L19
    by_cases hlt : q < Q.length
    · refine ifT (by simp; omega) ?_
      have et : Q.take (q + 1) = Q.take q ++ [Q[q]] := by rw [List.take_add_one, List.getElem?_eq_getElem hlt]; rfl
      have next : ∀ c : Bool, c = decide (xs[i].2.1 ∈ Q.take (q + 1)) → qaa.j20 K R5 R14 (qaa.L19 K R5 R14 fuel) t.1 t.2.1 t.2.2 key t5 nm.1 nm.2.1 nm.2.2 k s.1 s.2.1 s.2.2 0 i b c q h := fun c ec => by
        subst ec
        unfold qaa.j20
        unfold bd
        rw [show IntKind.i64.wrap ((q : Int) + 1) = ((q + 1 : Nat) : Int) from by rw [wrapI (by omega) (by omega)]; omega]
        exact rk_in hi ho sl sq b hK fuel (q + 1) (by omega) (by omega)
      by_cases hm : xs[i].2.1 ∈ Q.take q
      · rw [decide_eq_true hm]
        refine ⟨fun e => (by cases e), fun _ => next true ?_⟩
        rw [et, decide_eq_true (List.mem_append_left _ hm)]
      · rw [decide_eq_false hm]
        refine ⟨fun _ => ?_, fun e => by cases e⟩
        have hx : xs[i]? = some xs[i] := List.getElem?_eq_getElem hi
        obtain ⟨p, ep, p0, p1, pc⟩ := ixF bc3 (by decide) sl (i := (i : Int)) (n := i) rfl hx
        refine ixV (n := q) (w := encS Q[q]) sq rfl (by simp [hlt]) fun a ea ca => ⟨p, ep, p0, p1, _, ca, _, pc 1 _ rfl, ?_⟩
        unfold bd
        refine next _ ?_
        rw [et]
        by_cases e : Q[q] = xs[i].2.1
        · rw [decide_eq_true (List.mem_append_right _ (List.mem_singleton.2 e.symm))]; exact beq_iff_eq.2 e
        · rw [decide_eq_false (fun h => (List.mem_append.1 h).elim hm fun h => e (List.mem_singleton.1 h).symm)]; exact beq_eq_false_iff_ne.2 e
    · have : q = Q.length := by omega
      subst this
      rw [List.take_length]
      exact ifF (by simp; omega) hK
theorem rk_each {h0 : Heap} (g : G h0) (m : Old h0 ∈ L) {R5 : OA → Nat → Nat → List UInt8 → OA → OA → Nat → Nat → Int → Heap → Prop} {n k : Nat} {s : SV} {Q : List (List UInt8)} (hk : k < 3) (ho : Q.length ≤ 1000) (hn : n = min xs.length 40)
    (hl : ∀ j x, j < n → xs[j]? = some x → x.2.2.length < 100000) (h2 : key.length < 100000) (hQ : ∀ j x, j < n → xs[j]? = some x → j % 3 = k → rkT key k (rkB xs j) = true → x.2.1 ∈ Q)
    (hK : ∀ h', St (Ow 1 s (Q.map encS) :: RtW r X0 B :: KL t nm xs L) h' → qaa.j6 K R5 t.1 t.2.1 t.2.2 key (some r) nm.1 nm.2.1 nm.2.2 k s.1 s.2.1 s.2.2 0 h') :
    ∀ (fuel i : Nat) (h : Heap), xs.length - i < fuel → i ≤ n → St (Ow 1 s (Q.map encS) :: RtW r X0 B :: KL t nm xs L) h → qaa.L14 K R5 fuel t.1 t.2.1 t.2.2 key (some r) nm.1 nm.2.1 nm.2.2 k s.1 s.2.1 s.2.2 0 i h
  | 0, _, _, hf, _, _ => absurd hf (Nat.not_lt_zero _)
  | fuel + 1, i, h, hf, hi, S => by
    have sl : ∀ {h}, St (Ow 1 s (Q.map encS) :: RtW r X0 B :: KL t nm xs L) h → Sl 3 h t.1 t.2.1 (xs.flatMap bc) := fun S => S.isl 3 t
    have lt : t.2.1 = xs.length := by have := (sl S).1; rw [flat_length bc3] at this; omega
    have M : Old h0 ∈ Ow 1 s (Q.map encS) :: RtW r X0 B :: KL t nm xs L := List.mem_cons_of_mem _ (List.mem_cons_of_mem _ (List.mem_cons_of_mem _ (List.mem_cons_of_mem _ m)))
    have outF : qaa.j15 K R5 (qaa.L14 K R5 fuel) t.1 t.2.1 t.2.2 key (some r) nm.1 nm.2.1 nm.2.2 k s.1 s.2.1 s.2.2 0 i false h := by
      unfold qaa.j15
      exact ifF rfl (hK h S)
    unfold qaa.L14
    by_cases hlt : i < xs.length
    · refine ifT (by simp; omega) ?_
      by_cases h40 : i < 40
      · rw [decide_eq_true (show (i : Int) < 40 by omega)]
        have hx : xs[i]? = some xs[i] := List.getElem?_eq_getElem hlt
        have hin : i < n := by omega
        unfold qaa.j15
        have j16 : ∀ (b : Bool) h', b = (decide (i % 3 = k) && rkT key k (rkB xs i)) → St (Ow 1 s (Q.map encS) :: RtW r X0 B :: KL t nm xs L) h' → qaa.j16 K R5 (qaa.L14 K R5 fuel) t.1 t.2.1 t.2.2 key (some r) nm.1 nm.2.1 nm.2.2 k s.1 s.2.1 s.2.2 0 i b h' := fun b h' eb S' => by
          unfold qaa.j16
          refine ⟨Q.length + 1, ?_⟩
          have go := rk_in (K := K) (R5 := R5) (R14 := qaa.L14 K R5 fuel) (key := key) (t5 := some r) (nm := nm) (k := k) hlt ho (sl S') S'.sl b ?_ (Q.length + 1) 0 (by omega) (by omega)
          · exact go
          · unfold qaa.j17
            have next : qaa.j18 K R5 (qaa.L14 K R5 fuel) t.1 t.2.1 t.2.2 key (some r) nm.1 nm.2.1 nm.2.2 k s.1 s.2.1 s.2.2 0 i false h' := by
              unfold qaa.j18
              refine ifF rfl ?_
              unfold bd
              rw [show IntKind.i64.wrap ((i : Int) + 1) = ((i + 1 : Nat) : Int) from by rw [wrapI (by omega) (by omega)]; omega]
              exact rk_each g m hk ho hn hl h2 hQ hK fuel (i + 1) h' (by omega) (by omega) S'
            cases b with
            | false => exact ifF rfl next
            | true =>
              have eb := eb.symm
              rw [Bool.and_eq_true] at eb
              have := hQ i _ hin hx (of_decide_eq_true eb.1) eb.2
              rw [decide_eq_true this]
              exact ifT rfl next
        refine ifT rfl ⟨by decide, ?_⟩
        rw [tmod3]
        by_cases e3 : i % 3 = k
        · rw [decide_eq_true e3, Bool.true_and] at j16
          refine ifT (by rw [e3]; exact beq_self_eq_true _) ?_
          exact rk_take g M hk hlt (hl i _ hin hx) h2 (fun b h' => qaa.j16 K R5 (qaa.L14 K R5 fuel) t.1 t.2.1 t.2.2 key (some r) nm.1 nm.2.1 nm.2.2 k s.1 s.2.1 s.2.2 0 i b h') S (sl S) fun h' _ S' => j16 _ h' rfl S'
        · rw [decide_eq_false e3, Bool.false_and] at j16
          exact ifF (by simpa using fun e : ((i % 3 : Nat) : Int) = k => e3 (by omega)) (j16 false h rfl S)
      · rw [decide_eq_false (show ¬ (i : Int) < 40 by omega)]
        exact outF
    · exact ifF (by simp; omega) outF
abbrev wasP (xs : List BN) (key : List UInt8) (k : Nat) (w : List UInt8) (i : Nat) : Bool := (List.range i).any fun j => decide (j % 3 = k) && ((rkB xs j).2.1 == w && rkT key k (rkB xs j))
theorem wasP_succ (xs : List BN) (key : List UInt8) (k : Nat) (w : List UInt8) (i : Nat) : wasP xs key k w (i + 1) = (wasP xs key k w i || (decide (i % 3 = k) && ((rkB xs i).2.1 == w && rkT key k (rkB xs i)))) := by
  unfold wasP
  rw [List.range_succ, List.any_append]
  simp
theorem rk_was {h0 : Heap} (g : G h0) (m : Old h0 ∈ L) {R5 : OA → Nat → Nat → List UInt8 → OA → OA → Nat → Nat → Int → Heap → Prop} {R8 : OA → Nat → Nat → List UInt8 → OA → OA → Nat → Nat → Int → OA → Nat → Nat → Int → Int → Heap → Prop} {n k q : Nat} {s : SV} {Q : List (List UInt8)} (hk : k < 3) (ho : Q.length ≤ 1000) (hn : n = min xs.length 40) (hq : q < Q.length)
    (hl : ∀ j x, j < n → xs[j]? = some x → x.2.2.length < 100000) (h2 : key.length < 100000)
    (hK : ∀ h', St (Ow 1 s (Q.map encS) :: RtW r X0 B :: KL t nm xs L) h' → qaa.j9 K R5 R8 t.1 t.2.1 t.2.2 key (some r) nm.1 nm.2.1 nm.2.2 k s.1 s.2.1 s.2.2 q q (wasP xs key k Q[q] n) h') :
    ∀ (fuel i : Nat) (h : Heap), xs.length - i < fuel → i ≤ n → St (Ow 1 s (Q.map encS) :: RtW r X0 B :: KL t nm xs L) h → qaa.L11 K R5 R8 fuel t.1 t.2.1 t.2.2 key (some r) nm.1 nm.2.1 nm.2.2 k s.1 s.2.1 s.2.2 q q (wasP xs key k Q[q] i) i h
  | 0, _, _, hf, _, _ => absurd hf (Nat.not_lt_zero _)
  | fuel + 1, i, h, hf, hi, S => by
    have sl : ∀ {h}, St (Ow 1 s (Q.map encS) :: RtW r X0 B :: KL t nm xs L) h → Sl 3 h t.1 t.2.1 (xs.flatMap bc) := fun S => S.isl 3 t
    have lt : t.2.1 = xs.length := by have := (sl S).1; rw [flat_length bc3] at this; omega
    have M : Old h0 ∈ Ow 1 s (Q.map encS) :: RtW r X0 B :: KL t nm xs L := List.mem_cons_of_mem _ (List.mem_cons_of_mem _ (List.mem_cons_of_mem _ (List.mem_cons_of_mem _ m)))
    have outF : i = n → qaa.j12 K R5 R8 (qaa.L11 K R5 R8 fuel) t.1 t.2.1 t.2.2 key (some r) nm.1 nm.2.1 nm.2.2 k s.1 s.2.1 s.2.2 q q (wasP xs key k Q[q] i) i false h := fun e => by
      unfold qaa.j12
      rw [e]
      exact ifF rfl (hK h S)
    unfold qaa.L11
    by_cases hlt : i < xs.length
    · refine ifT (by simp; omega) ?_
      by_cases h40 : i < 40
      · rw [decide_eq_true (show (i : Int) < 40 by omega)]
        have hx : xs[i]? = some xs[i] := List.getElem?_eq_getElem hlt
        have hin : i < n := by omega
        obtain ⟨e1, e2⟩ := rkB_at hlt
        have j13 : ∀ (b : Bool) h', b = wasP xs key k Q[q] (i + 1) → St (Ow 1 s (Q.map encS) :: RtW r X0 B :: KL t nm xs L) h' → qaa.j13 K R5 R8 (qaa.L11 K R5 R8 fuel) t.1 t.2.1 t.2.2 key (some r) nm.1 nm.2.1 nm.2.2 k s.1 s.2.1 s.2.2 q q b i h' := fun b h' eb S' => by
          subst eb
          unfold qaa.j13
          unfold bd
          rw [show IntKind.i64.wrap ((i : Int) + 1) = ((i + 1 : Nat) : Int) from by rw [wrapI (by omega) (by omega)]; omega]
          exact rk_was g m hk ho hn hq hl h2 hK fuel (i + 1) h' (by omega) (by omega) S'
        rw [wasP_succ] at j13
        unfold qaa.j12
        refine ifT rfl ?_
        cases hw : wasP xs key k Q[q] i with
        | true => rw [hw, Bool.true_or] at j13; exact ⟨fun e => (by cases e), fun _ => j13 true h rfl S⟩
        | false =>
          rw [hw, Bool.false_or] at j13
          refine ⟨fun _ => ⟨by decide, ?_⟩, fun e => by cases e⟩
          rw [tmod3]
          by_cases e3 : i % 3 = k
          · rw [decide_eq_true e3, Bool.true_and] at j13
            refine ifT (by rw [e3]; exact beq_self_eq_true _) ?_
            obtain ⟨p, ep, p0, p1, pc⟩ := ixF bc3 (by decide) (sl S) (i := (i : Int)) (n := i) rfl hx
            refine ⟨p, ep, p0, p1, ixV (n := q) (w := encS Q[q]) S.sl rfl (by simp [hq]) fun a ea ca => ⟨_, pc 1 _ rfl, _, ca, ?_⟩⟩
            rw [e1] at j13
            by_cases eq : xs[i].2.1 = Q[q]
            · rw [show (xs[i].2.1 == Q[q]) = true from beq_iff_eq.2 eq, Bool.true_and] at j13
              refine ifT (beq_iff_eq.2 eq) ?_
              exact rk_take g M hk hlt (hl i _ hin hx) h2 (fun b h' => qaa.j13 K R5 R8 (qaa.L11 K R5 R8 fuel) t.1 t.2.1 t.2.2 key (some r) nm.1 nm.2.1 nm.2.2 k s.1 s.2.1 s.2.2 q q b i h') S (sl S) fun h' _ S' => j13 _ h' rfl S'
            · rw [show (xs[i].2.1 == Q[q]) = false from beq_eq_false_iff_ne.2 eq, Bool.false_and] at j13
              exact ifF (beq_eq_false_iff_ne.2 eq) (j13 false h rfl S)
          · rw [decide_eq_false e3, Bool.false_and] at j13
            exact ifF (by simpa using fun e : ((i % 3 : Nat) : Int) = k => e3 (by omega)) (j13 false h rfl S)
      · rw [decide_eq_false (show ¬ (i : Int) < 40 by omega)]
        exact outF (by omega)
    · exact ifF (by simp; omega) (outF (by omega))
theorem rk_told {h0 : Heap} (g : G h0) (m : Old h0 ∈ L) {R5 : OA → Nat → Nat → List UInt8 → OA → OA → Nat → Nat → Int → Heap → Prop} {n k : Nat} {s : SV} {Q : List (List UInt8)} (hk : k < 3) (ho : Q.length ≤ 1000) (hn : n = min xs.length 40)
    (hl : ∀ j x, j < n → xs[j]? = some x → x.2.2.length < 100000) (h2 : key.length < 100000) (hQ : ∀ w ∈ Q, wasP xs key k w n = true) (hup : Q.Pairwise fun a b => sort_string.o.lt a b = true)
    (hK : ∀ h', St (RtW r X0 B :: KL t nm xs L) h' → R5 t.1 t.2.1 t.2.2 key (some r) nm.1 nm.2.1 nm.2.2 ((k + 1 : Nat) : Int) h') :
    ∀ (fuel q : Nat) (h : Heap), Q.length - q < fuel → q ≤ Q.length → St (Ow 1 s (Q.map encS) :: RtW r X0 B :: KL t nm xs L) h → qaa.L8 K R5 fuel t.1 t.2.1 t.2.2 key (some r) nm.1 nm.2.1 nm.2.2 k s.1 s.2.1 s.2.2 q q h
  | 0, _, _, hf, _, _ => absurd hf (Nat.not_lt_zero _)
  | fuel + 1, q, h, hf, hq, S => by
    have es : s.2.1 = Q.length := by have := S.ow.1; simpa using this.symm
    unfold qaa.L8
    by_cases hlt : q < Q.length
    · refine ifT (by simp; omega) ⟨xs.length + 1, ?_⟩
      have go := rk_was (K := K) (R5 := R5) (R8 := qaa.L8 K R5 fuel) g m hk ho hn hlt hl h2 (fun h' S' => ?_) (xs.length + 1) 0 h (by omega) (by omega) S
      · exact go
      · rw [hQ _ (List.getElem_mem hlt)]
        have next : qaa.j10 K R5 (qaa.L8 K R5 fuel) t.1 t.2.1 t.2.2 key (some r) nm.1 nm.2.1 nm.2.2 k s.1 s.2.1 s.2.2 q q false h' := by
          unfold qaa.j10
          refine ifF rfl ?_
          unfold bd
          rw [show IntKind.i64.wrap ((q : Int) + 1) = ((q + 1 : Nat) : Int) from by rw [wrapI (by omega) (by omega)]; omega]
          exact rk_told g m hk ho hn hl h2 hQ hup hK fuel (q + 1) h' (by omega) (by omega) S'
        unfold qaa.j9
        refine ⟨fun _ => ?_, fun e => by cases e⟩
        by_cases h0q : 0 < q
        · refine ifT (by simp; omega) ?_
          rw [show IntKind.i64.wrap ((q : Int) - 1) = ((q - 1 : Nat) : Int) from by rw [wrapI (by omega) (by omega)]; omega]
          have hq1 : q - 1 < Q.length := by omega
          refine ixV (n := q - 1) (w := encS Q[q - 1]) S'.sl rfl (by simp [hq1]) fun a ea ca => ixV (n := q) (w := encS Q[q]) S'.sl rfl (by simp [hlt]) fun b eb cb => ⟨_, ca, _, cb, ?_⟩
          have : Op.bytesLess Q[q - 1] Q[q] = true := List.pairwise_iff_getElem.1 hup (q - 1) q hq1 hlt (by omega)
          rw [this]
          exact next
        · exact ifF (by simp; omega) next
    · have : q = Q.length := by omega
      subst this
      refine ifF (by simp; omega) ?_
      unfold qaa.j7
      refine ifF (by rw [es]; exact bne_self_eq_false _) ?_
      unfold bd
      rw [show IntKind.i64.wrap ((k : Int) + 1) = ((k + 1 : Nat) : Int) from by rw [wrapI (by omega) (by omega)]; omega]
      exact hK h S.tl
end
theorem RK.step {xs B : List BN} {n : Nat} (g : RK xs n B) (hk : (rkB xs n).2.2.length < 100000) : (rkB xs n ∈ B → RK xs (n + 1) B) ∧ (rkB xs n ∉ B → RK xs (n + 1) (insB B (rkB xs n))) := by
  refine ⟨fun hm => ⟨fun b => ?_, Nat.le_succ_of_le g.len, g.key⟩, fun hm => ⟨fun b => ?_, ?_, fun b hb => ?_⟩⟩
  · rw [g.mem]
    constructor
    · rintro ⟨j, hj, e⟩; exact ⟨j, by omega, e⟩
    · rintro ⟨j, hj, e⟩
      by_cases h : j = n
      · subst h; rw [e]; exact (g.mem _).1 hm
      · exact ⟨j, by omega, e⟩
  · rw [Ord.mem_ins, g.mem]
    constructor
    · rintro (e | ⟨j, hj, e⟩)
      · exact ⟨n, by omega, e⟩
      · exact ⟨j, by omega, e⟩
    · rintro ⟨j, hj, e⟩
      by_cases h : j = n
      · subst h; exact .inl e
      · exact .inr ⟨j, by omega, e⟩
  · rw [Ord.len_ins]; exact Nat.succ_le_succ g.len
  · rcases Ord.mem_ins.1 hb with e | e
    · rw [e]; exact hk
    · exact g.key b e
section
variable {K : KT} {L : List Asr} {h : Heap} {t nm : SV} {xs : List BN} {key : List UInt8} {r : Addr} {B : List BN}
theorem RtW.ub {X : List XN} (S : St (RtW r X B :: L) h) : Ord.Ups sort_bind.o id B := by
  obtain ⟨mx, mb, kx, kb, q, S0⟩ := RtW.out S
  exact q.ub
abbrev nN : List UInt8 := [110, 111, 32, 115, 117, 99, 104, 32, 101, 120, 99, 104, 97, 110, 103, 101]
theorem rk_kinds {h0 : Heap} (g : G h0) (m : Old h0 ∈ L) {n : Nat} (hn : n = min xs.length 40) (hl : ∀ j x, j < n → xs[j]? = some x → x.2.2.length < 100000) (h2 : key.length < 100000) (rk : RK xs n B)
    (hK : ∀ h', St (KL t nm xs L) h' → K (.bool true) h') :
    ∀ (fuel k : Nat) (h : Heap), 3 - k < fuel → k ≤ 3 → St (RtW r X0 B :: KL t nm xs L) h → qaa.L5 K fuel t.1 t.2.1 t.2.2 key (some r) nm.1 nm.2.1 nm.2.2 k h
  | 0, _, _, hf, _, _ => absurd hf (Nat.not_lt_zero _)
  | fuel + 1, k, h, hf, hk, S => by
    have M : Old h0 ∈ KL t nm xs L := List.mem_cons_of_mem _ (List.mem_cons_of_mem _ m)
    have hB : B.length ≤ 1000000 := by have := rk.len; omega
    unfold qaa.L5
    by_cases hlt : k < 3
    · have hx : (nms.map encS)[k]? = some (encS (nms.getD k [])) := by
        match k, hlt with
        | 0, _ => rfl
        | 1, _ => rfl
        | 2, _ => rfl
      refine ifT (by simp; omega) (ixV (n := k) S.p1.sl rfl hx fun a ea ca => ⟨_, ca, ?_⟩)
      obtain ⟨q1, q2, q3⟩ := rk_route (key := key) rk (RtW.ub S) hlt
      refine routeRt (exch := nms.getD k []) g M hB rk.key h2 S fun h7 s S7 => ⟨_, _, _, rfl, xs.length + 1, ?_⟩
      refine rk_each g m hlt (by omega) hn hl h2 (fun j x hj hx h3 h4 => ?_) (fun h8 S8 => ?_) _ 0 h7 (by omega) (Nat.zero_le _) S7
      · refine (q1 _).2 ⟨j, hj, h3, ?_, h4⟩
        obtain ⟨hlt', e⟩ := List.getElem?_eq_some_iff.1 hx
        rw [← e]
        exact (rkB_at hlt').1
      · unfold qaa.j6
        refine ⟨_, rk_told g m hlt (by omega) hn hl h2 (fun w hw => ?_) q2 (fun h9 S9 => rk_kinds g m hn hl h2 rk hK fuel (k + 1) h9 (by omega) (by omega) S9) ((routeP X0 B (nms.getD k []) key).length + 1) 0 h8 (by omega) (Nat.zero_le _) S8⟩
        obtain ⟨j, hj, h3, h4, h5⟩ := (q1 w).1 hw
        exact List.any_eq_true.2 ⟨j, List.mem_range.2 hj, by rw [decide_eq_true h3, h4, h5]; simp⟩
    · have : k = 3 := by omega
      subst this
      refine ifF (by decide) ?_
      unfold qaa.j4
      refine routeRt (exch := nN) g M hB rk.key h2 S fun h7 s S7 => ⟨_, _, _, rfl, ?_⟩
      have e0 : routeP X0 B nN key = [] := by
        unfold routeP
        rw [show xget X0 nN = none by decide +kernel]
      have es : s.2.1 = 0 := by have := S7.ow.1; rw [e0] at this; simpa using this.symm
      rw [es]
      exact ifT rfl (awake16S g (List.mem_cons_of_mem _ (List.mem_cons_of_mem _ M)) S7 fun h8 S8 => ⟨_, rfl, hK h8 S8.tl.tl⟩)
theorem rk_made {h0 : Heap} (g : G h0) (m : Old h0 ∈ L) (wx : ∀ x ∈ xs, x.2.1.length ≤ maxLen ∧ x.2.2.length ≤ maxLen) (h2 : key.length < 100000)
    (hK : ∀ h', St (KL t nm xs L) h' → K (.bool true) h') :
    ∀ (fuel i : Nat) (B : List BN) (h : Heap), xs.length - i < fuel → i ≤ min xs.length 40 → RK xs i B → (∀ j x, j < i → xs[j]? = some x → x.2.2.length < 100000) → St (RtW r X0 B :: KL t nm xs L) h →
      qaa.L21 K fuel t.1 t.2.1 t.2.2 key (some r) nm.1 nm.2.1 nm.2.2 i h
  | 0, _, _, _, hf, _, _, _, _ => absurd hf (Nat.not_lt_zero _)
  | fuel + 1, i, B, h, hf, hi, rk, hl, S => by
    have M : Old h0 ∈ KL t nm xs L := List.mem_cons_of_mem _ (List.mem_cons_of_mem _ m)
    have sl : Sl 3 h t.1 t.2.1 (xs.flatMap bc) := S.isl 3 t
    have lt : t.2.1 = xs.length := by have := sl.1; rw [flat_length bc3] at this; omega
    have outF : i = min xs.length 40 → qaa.j22 K (qaa.L21 K fuel) t.1 t.2.1 t.2.2 key (some r) nm.1 nm.2.1 nm.2.2 i false h := fun e => by
      unfold qaa.j22
      refine ifF rfl ?_
      unfold qaa.j3
      exact ⟨4, rk_kinds g m e hl h2 rk hK 4 0 h (by omega) (by omega) S⟩
    unfold qaa.L21
    by_cases hlt : i < xs.length
    · refine ifT (by simp; omega) ?_
      by_cases h40 : i < 40
      · rw [decide_eq_true (show (i : Int) < 40 by omega)]
        have hx : xs[i]? = some xs[i] := List.getElem?_eq_getElem hlt
        have hw := wx _ (List.getElem_mem hlt)
        obtain ⟨p, ep, p0, p1, pc⟩ := ixF bc3 (by decide) sl (i := (i : Int)) (n := i) rfl hx
        obtain ⟨e1, e2⟩ := rkB_at hlt
        have jT : qaa.j23 K (qaa.L21 K fuel) t.1 t.2.1 t.2.2 key (some r) nm.1 nm.2.1 nm.2.2 i true h := by
          unfold qaa.j23
          exact ifT rfl (awake16S g (List.mem_cons_of_mem _ M) S fun h8 S8 => ⟨_, rfl, hK h8 S8.tl⟩)
        unfold qaa.j22
        refine ifT rfl ⟨p, ep, p0, p1, _, pc 1 _ rfl, ?_⟩
        by_cases hq : xs[i].2.1.length ≤ 60
        · refine ifF' (by simp; omega) ⟨p, ep, p0, p1, _, pc 2 _ rfl, ?_⟩
          by_cases hk : xs[i].2.2.length ≤ 100
          · rw [decide_eq_false (by omega)]
            unfold qaa.j23
            have hm3 : i % 3 < 3 := Nat.mod_lt _ (by decide)
            have hn : (nms.map encS)[i % 3]? = some (encS (nms.getD (i % 3) [])) := by
              generalize i % 3 = k at hm3
              match k, hm3 with
              | 0, _ => rfl
              | 1, _ => rfl
              | 2, _ => rfl
            refine ifF rfl ⟨by decide, ?_⟩
            rw [tmod3]
            refine ixV (n := i % 3) S.p1.sl rfl hn fun a ea ca => ⟨p, ep, p0, p1, p, ep, p0, p1, _, ca, _, pc 1 _ rfl, _, pc 2 _ rfl, ?_⟩
            obtain ⟨x, hxg, hne, _⟩ := nms_x (i % 3) hm3
            have eb : rkB xs i = (nms.getD (i % 3) [], xs[i].2.1, xs[i].2.2) := Prod.ext rfl (Prod.ext e1 e2)
            have hst := rk.step (by rw [e2]; omega)
            have next : ∀ B' h', RK xs (i + 1) B' → St (RtW r X0 B' :: KL t nm xs L) h' → bd ((IntKind.i64.wrap ((i : Int) + 1)) : Int) fun n80 => qaa.L21 K fuel t.1 t.2.1 t.2.2 key (some r) nm.1 nm.2.1 nm.2.2 n80 h' := fun B' h' rk' S' => by
              unfold bd
              rw [show IntKind.i64.wrap ((i : Int) + 1) = ((i + 1 : Nat) : Int) from by rw [wrapI (by omega) (by omega)]; omega]
              refine rk_made g m wx h2 hK fuel (i + 1) B' h' (by omega) (by omega) rk' (fun j y hj hy => ?_) S'
              by_cases e : j = i
              · subst e; rw [hx] at hy; cases hy; omega
              · exact hl j y (by omega) hy
            rw [eb] at hst
            have lm : (nms.getD (i % 3) []).length ≤ 100 := by
              generalize i % 3 = k at hm3
              match k, hm3 with
              | 0, _ => decide
              | 1, _ => decide
              | 2, _ => decide
            refine bindRt (b := (nms.getD (i % 3) [], xs[i].2.1, xs[i].2.2)) S (okB_lt (by show (nms.getD (i % 3) []).length < 1000; omega) (by show xs[i].2.1.length < 1000; omega) (by show xs[i].2.2.length < 1000; omega)) (fun e h' S' => ⟨_, rfl, next B h' ?_ S'⟩) fun _ _ e h' S' => ⟨_, rfl, next _ h' (hst.2 e) S'⟩
            refine hst.1 ?_
            rcases e with e | e | e
            · have e : xget X0 (nms.getD (i % 3) []) = none := e
              rw [hxg] at e; cases e
            · exact absurd e hne
            · exact e
          · rw [decide_eq_true (by omega)]
            exact jT
        · exact ifT' (by simp; omega) jT
      · rw [decide_eq_false (show ¬ (i : Int) < 40 by omega)]
        exact outF (by omega)
    · exact ifF (by simp; omega) (outF (by omega))
end
theorem RoutKinds.law {h : Heap} (s : SV) (xs : List BN) (sl : Sl 3 h s.1 s.2.1 (xs.flatMap bc)) (le : s.2.1 ≤ s.2.2) (mx : s.2.2 ≤ maxLen) (wx : ∀ x ∈ xs, x.1.length ≤ maxLen ∧ x.2.1.length ≤ maxLen ∧ x.2.2.length ≤ maxLen) (key : List UInt8) (wk : key.length ≤ maxLen) (g : G h) :
    CallsH P F.qaa [s.v, .string (mkS key)] (fun v h' => v = .bool true ∧ Kept h h') h := by
  refine qaa.ok ?_
  unfold qaa.p0
  have S0 : St (Im 3 s (xs.flatMap bc) :: [Old h]) h := (St.old h).imOld (List.mem_cons_self ..) sl le
  have m : Old h ∈ [Old h] := List.mem_cons_self ..
  refine newRt S0 fun h1 r S1 => ⟨_, rfl, ifF' rfl ?_⟩
  by_cases hk : key.length ≤ 100
  · rw [decide_eq_false (by omega)]
    unfold qaa.j1
    refine ifF rfl ?_
    refine St.bd1 (cs := nms.map encS) S1 fun S2 => ?_
    unfold bd
    have S3 : St (RtW r X0 [] :: KL s (some (top h1), 3, 3) xs [Old h]) (al h1 (nms.map encS).toArray T.string) := (S2.bxOw (n := 3) (sz := 1) rfl).p1
    exact ⟨xs.length + 1, rk_made (nm := (some (top h1), 3, 3)) g m (fun x hx => (wx x hx).2) (by omega) (fun h' S' => ⟨rfl, S'.tl.tl.keptOld m⟩) _ 0 [] _ (by omega) (Nat.zero_le _) ⟨by simp, by simp, by simp⟩ (fun j x hj => absurd hj (Nat.not_lt_zero _)) S3⟩
  · rw [decide_eq_true (by omega)]
    unfold qaa.j1
    refine ifT rfl (ifT rfl (awake16S g (List.mem_cons_of_mem _ (List.mem_cons_of_mem _ m)) S1 fun h2 S2 => ⟨_, rfl, ?_⟩))
    unfold qaa.j2
    exact ⟨rfl, S2.tl.tl.keptOld m⟩
end Go.Proofs.YtechpnlbkkfplaaDoor.Pr
end
