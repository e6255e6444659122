/- connsBegins_holds: all that the theorem needs, in a few texts (bundle.py; made of the texts that NOTES.md names). -/
import Derived.Below
import Derived.Carry
import Derived.ChangeOld
import Derived.ChangeShapes
import Derived.KernelRfl
import Derived.Laws.Append
import Derived.Laws.Bits64
import Derived.Laws.BitsAllLaws
import Derived.Laws.BitsLemmas
import Derived.Laws.IdiomStrings
import Derived.Laws.Sem
import Derived.Laws.Strings
import Derived.Laws.StructEq
import Derived.Lib.ItoaNum
import Derived.Lib.SlBytesConst
import Derived.LoopIn
import Derived.LoopN
import Derived.LoopNIn
import Derived.MapKept
import Derived.Maps.AppendAt
import Derived.OpenShut
import Derived.Orders
import Derived.OwnWalkIn
import Derived.RangeFuncGives
import Derived.RangeFuncSeq
import Derived.RegionIn
import Derived.Shelf.Abstract
import Derived.Shelf.Lay
import Derived.Shelf.SlIter.Collect
import Derived.Shelf.Small.Bits
import Derived.Sort.KeysCollected
import Derived.Sort.MapsRangeIn
import Derived.TacticsInMore
import Derived.Test.YtjapglfpjhljpaaGreatChecked
import Derived.WalkKit
import Derived.WideLaws
import Derived.WideShapes
import Derived.Test.YtjapglfpjhljpaaGreatBConnsBegins1
import Derived.Test.YtjapglfpjhljpaaGreatBConnsBegins2
import Derived.Test.YtjapglfpjhljpaaGreatBConnsBegins3
import Derived.Test.YtjapglfpjhljpaaGreatBConnsBegins4
import Derived.Test.YtjapglfpjhljpaaGreatBConnsBegins5
import Derived.Test.YtjapglfpjhljpaaGreatBConnsBegins6
import Derived.Test.YtjapglfpjhljpaaGreatBConnsBegins7
import Derived.Test.YtjapglfpjhljpaaGreatBConnsBegins8
import Derived.Test.YtjapglfpjhljpaaGreatBConnsBegins9
import Derived.Test.YtjapglfpjhljpaaGreatBConnsBegins10
import Derived.Test.YtjapglfpjhljpaaGreatBConnsBegins11
import Derived.Test.YtjapglfpjhljpaaGreatBConnsBegins12
import Derived.Test.YtjapglfpjhljpaaGreatBConnsBegins13
import Derived.Test.YtjapglfpjhljpaaGreatBConnsBegins14
import Derived.Test.YtjapglfpjhljpaaGreatBConnsBegins15
import Derived.Test.YtjapglfpjhljpaaGreatBConnsBegins16
import Derived.Test.YtjapglfpjhljpaaGreatBConnsBegins17
import Derived.Test.YtjapglfpjhljpaaGreatBConnsBegins18
import Derived.Test.YtjapglfpjhljpaaGreatBConnsBegins19
import Derived.Test.YtjapglfpjhljpaaGreatBConnsBegins20
section
set_option linter.unusedVariables false
set_option linter.unusedSimpArgs false
namespace Go.Proofs.YtjapglfpjhljpaaGreat.Pr
open Go Go.Lift Go.Proofs
section
variable {K : KT} {L R : List Asr} {h : Heap}
theorem rkindS {n : Int} (hk : fkindP n = true) (hK : K (.bool true) h) : CallsH P F.qcc [.int .i64 n] K h := by
  refine qcc.ok ?_
  unfold qcc.p0
  have h1 : 1 ≤ n ∧ n ≤ 3 ∨ n = 8 := of_decide_eq_true hk
  by_cases a : 1 ≤ n
  · refine ifT (by simp; omega) ?_
    by_cases b : n ≤ 3
    · exact ifT' (by simp; omega) hK
    · refine ifF' (by simp; omega) ((bdE _ _).2 ?_)
      rw [show (n == 8) = true by simp; omega]
      exact hK
  · refine ifF (by simp; omega) ((bdE _ _).2 ?_)
    rw [show (n == 8) = true by simp; omega]
    exact hK
theorem rframeOfS {s : SV} {k c : Nat} {b t : Oct} (S : St L h) [mi : In (fun z => Im 1 s (u8s z)) L (frW k c b ++ t)] (hk : fkindP k = true) (hc : c < 65536) (hb : b.length ≤ 4088) (ht : t.length < 1000000)
    (hK : ∀ (v : SV) h', St L h' → K (.tuple #[.agg (List.toArray [.int .i64 (k : Int), .int .i64 (c : Int), v.v]), .int .i64 ((8 + b.length : Nat) : Int), .int .i64 0]) h') : CallsH P F.qap [.slice s.1 s.2.1 s.2.2] K h := by
  refine qap.ok ?_
  unfold qap.p0
  have hk4 := of_decide_eq_true (show decide (1 ≤ (k : Int) ∧ (k : Int) ≤ 3 ∨ (k : Int) = 8) = true from hk)
  have hk2 : k < 256 := by omega
  generalize hbs : frW k c b ++ t = bs at *
  have l0 : bs.length = 8 + b.length + t.length := by rw [← hbs, List.length_append, frW_length]
  have g : bs = octsN 1 k ++ (octsN 2 c ++ (octsN 4 b.length ++ (b ++ (206 :: t)))) := by rw [← hbs]; unfold frW; simp
  have n0 : bs[0]? = some (UInt8.ofNat k) := by rw [g]; simp [octsN, octN]
  have n1 : numAt bs 1 2 = some c := by
    unfold numAt
    rw [if_pos (by omega)]
    have : (bs.drop 1).take 2 = octsN 2 c := by
      rw [g, List.drop_append_of_le_length (by simp [octsN_length]), List.drop_of_length_le (by simp [octsN_length]), List.nil_append, List.take_append_of_le_length (by simp [octsN_length]), List.take_of_length_le (by simp [octsN_length])]
    rw [this, numN_octsN (by omega) (by omega)]
  have n3 : numAt bs 3 4 = some b.length := by
    unfold numAt
    rw [if_pos (by omega)]
    have : (bs.drop 3).take 4 = octsN 4 b.length := by
      have e : (3 : Nat) = 1 + 2 := rfl
      rw [g, e, ← List.drop_drop, List.drop_append_of_le_length (by simp [octsN_length]), List.drop_of_length_le (i := 1) (by simp [octsN_length]), List.nil_append, List.drop_append_of_le_length (by simp [octsN_length]), List.drop_of_length_le (by simp [octsN_length]), List.nil_append, List.take_append_of_le_length (by simp [octsN_length]), List.take_of_length_le (by simp [octsN_length])]
    rw [this, numN_octsN (by omega) (by omega)]
  have n7 : bs[7 + b.length]? = some 206 := by
    have e : bs = (octsN 1 k ++ octsN 2 c ++ octsN 4 b.length ++ b) ++ (206 :: t) := by rw [g]; simp
    rw [e, List.getElem?_append_right (by simp [octsN_length]; omega)]
    have : 7 + b.length - (octsN 1 k ++ octsN 2 c ++ octsN 4 b.length ++ b).length = 0 := by simp [octsN_length]; omega
    rw [this]; rfl
  have S1 := S.al (fcl 0 0 ((none, 0, 0) : SV)) T.api_Frame
  refine (bdE _ _).2 ?_
  have eh : al h #[.int .i64 0, .int .i64 0, .slice none 0 0] T.api_Frame = al h (fcl 0 0 ((none, 0, 0) : SV)).toArray T.api_Frame := rfl
  rw [eh]
  generalize al h (fcl 0 0 ((none, 0, 0) : SV)).toArray T.api_Frame = h1 at *
  generalize top h = f at *
  have sl := (isl8 S1 (s := s) (bs := bs)).1
  have lc := (isl8 S1 (s := s) (bs := bs)).2
  have ls := Sl.len sl
  have kk : (UInt8.ofNat k).toNat = k := by simp; omega
  have sl' : Sl 1 h1 s.1 s.2.1 ((bs.map fun z : UInt8 => (z.toNat : Int)).map fun z : Int => Value.int .u8 z) := by rw [List.map_map]; exact sl
  have m0 : (bs.map fun z : UInt8 => (z.toNat : Int))[0]? = some (k : Int) := by rw [List.getElem?_map, n0]; simp; omega
  have m7 : (bs.map fun z : UInt8 => (z.toNat : Int))[7 + b.length]? = some 206 := by rw [List.getElem?_map, n7]; rfl
  have wk : IntKind.i64.wrap ((k : Nat) : Int) = ((k : Nat) : Int) := wrapI (by omega) (by omega)
  refine ifT (by simp; omega) (ix (C := fun z : Int => Value.int .u8 z) sl' (i := 0) (n := 0) rfl m0 ?_)
  rw [wk]
  refine rkindS hk ⟨_, rfl, ?_⟩
  unfold qap.j1
  refine ifF rfl ?_
  have q3 : CallsH P F.qax [.slice s.1 s.2.1 s.2.2, .int .i64 ((3 : Nat) : Int), .int .i64 ((4 : Nat) : Int)] (fun v4 h5 => ∃ n6 b7, v4 = .tuple #[.int .u64 n6, .bool b7] ∧ (b7 = true → qap.j2 K s.1 s.2.1 s.2.2 f n6 b7 (decide (n6 > 4088)) h5) ∧ (b7 = false → qap.j2 K s.1 s.2.1 s.2.2 f n6 b7 false h5)) h1 := by
    refine refNum.spec (at' := 3) (n := 4) sl (by omega) (by omega) (by omega) (.inl (by omega)) ?_
    rw [n3]
    refine ⟨_, _, rfl, ifT rfl ?_⟩
    simp only [Option.getD_some, Option.isSome_some]
    rw [show decide (((b.length : Nat) : Int) > 4088) = false by simp; omega]
    unfold qap.j2
    refine ifF rfl (ifF' rfl ?_)
    have w1 : IntKind.i64.wrap ((b.length : Nat) : Int) = ((b.length : Nat) : Int) := wrapI (by omega) (by omega)
    have w2 : IntKind.i64.wrap ((8 : Int) + ((b.length : Nat) : Int)) = ((8 + b.length : Nat) : Int) := by rw [wrapI (by omega) (by omega)]; omega
    have w3 : IntKind.i64.wrap ((7 : Int) + ((b.length : Nat) : Int)) = ((7 + b.length : Nat) : Int) := by rw [wrapI (by omega) (by omega)]; omega
    have w4 : IntKind.i64.wrap (((7 + b.length : Nat) : Int) + 1) = ((8 + b.length : Nat) : Int) := by rw [wrapI (by omega) (by omega)]; omega
    rw [w1, w2, show decide (((s.2.1 : Nat) : Int) < ((8 + b.length : Nat) : Int)) = false by simp; omega]
    unfold qap.j3
    refine ifF rfl ?_
    rw [w1, w3]
    refine (bdE _ _).2 (ix (C := fun z : Int => Value.int .u8 z) sl' (n := 7 + b.length) rfl m7 (ifF rfl ?_))
    have q1 : ∀ {Q : KT}, Q (.tuple #[.int .u64 (c : Int), .bool true]) h1 → CallsH P F.qax [.slice s.1 s.2.1 s.2.2, .int .i64 ((1 : Nat) : Int), .int .i64 ((2 : Nat) : Int)] Q h1 := by
      intro Q hQ
      refine refNum.spec (at' := 1) (n := 2) sl (by omega) (by omega) (by omega) (.inl (by omega)) ?_
      rw [n1]
      exact hQ
    refine q1 ⟨_, _, rfl, ?_⟩
    obtain ⟨pa, ep, h00, h01, z, hz, ez⟩ := ix (C := fun z : Int => Value.int .u8 z) (F := fun z => z = (k : Int)) sl' (i := 0) (n := 0) rfl m0 rfl
    subst ez
    refine ⟨pa, ep, h00, h01, ⟨by omega, by omega⟩, ⟨by omega, by omega⟩, _, hz, ?_⟩
    rw [wk]
    have wc : IntKind.i64.wrap ((c : Nat) : Int) = ((c : Nat) : Int) := wrapI (by omega) (by omega)
    rw [wc]
    refine ⟨rfl, S1.putA f (ws := [.int .i64 (k : Int), .int .i64 (c : Int), .slice (slA s.1 (Int.toNat 7) s.2.2 1) (Int.toNat ((7 + b.length : Nat) : Int) - Int.toNat 7) (s.2.2 - Int.toNat 7)]) rfl (by simp [one]) fun h3 S3 => (bdE _ _).2 ⟨_, S3.rall f 3 rfl, ?_⟩⟩
    rw [w4]
    exact hK (slA s.1 (Int.toNat 7) s.2.2 1, Int.toNat ((7 + b.length : Nat) : Int) - Int.toNat 7, s.2.2 - Int.toNat 7) h3 S3.tl
  exact q3
end
def bfr : Nat → PMM
  | 0 => (10, 11, hx1)
  | 1 => (10, 31, hx2)
  | _ => (10, 40, hx3)
def bo (i : Nat) : Oct := (methW (bfr i).1 (bfr i).2.1 (bfr i).2.2).getD []
def bn : Nat → Nat
  | 0 => 8
  | i + 1 => bn i + (8 + (bo i).length)
theorem begs_drop : ∀ i < 3, helloP.drop (bn i) = frW 1 0 (bo i) ++ helloP.drop (bn (i + 1)) := by decide +kernel
theorem begs_len : ∀ i < 4, bn i ≤ helloP.length ∧ bn i ≤ 1000 := by decide +kernel
theorem begs_bo : ∀ i < 3, (bo i).length ≤ 1000 := by decide +kernel
def bst (n : Nat) : Cnn := ⟨n, [], [], false, false, [], [], (none, 0, 0)⟩
theorem begs_run0 : (runN 10 (cn0.feed (helloP.take (bn 0)))).2 = bst 1 := by kernel_rfl
theorem begs_run1 : (runN 10 (cn0.feed (helloP.take (bn 1)))).2 = bst 2 := by kernel_rfl
theorem begs_run2 : (runN 10 (cn0.feed (helloP.take (bn 2)))).2 = bst 3 := by kernel_rfl
theorem begs_run3 : (runN 10 (cn0.feed (helloP.take (bn 3)))).2 = bst 4 := by kernel_rfl
theorem begs_run : ∀ f < 4, (runN 10 (cn0.feed (helloP.take (bn f)))).2 = bst (f + 1)
  | 0, _ => begs_run0
  | 1, _ => begs_run1
  | 2, _ => begs_run2
  | 3, _ => begs_run3
  | n + 4, h => absurd h (by omega)
def bfm (k ch : Nat) (m : PMM) : Oct := frW k ch ((methW m.1 m.2.1 m.2.2).getD [])
def rowB : Nat → Oct
  | 0 => bfm 1 0 (10, 41, ⟨[], [[]], [], []⟩)
  | 1 => bfm 2 0 (20, 41, noM)
  | 2 => bfm 1 0 (0, 0, noM)
  | 3 => frW 1 0 [0, 10, 0, 99]
  | 4 => [9]
  | 5 => bfm 1 17 (20, 10, ⟨[], [[]], [], []⟩)
  | _ => bfm 1 0 (20, 10, ⟨[], [[]], [], []⟩)
def rowE : Nat → Int × Int × Int
  | 0 => (503, 10, 41)
  | 1 => (505, 0, 0)
  | 2 => (502, 0, 0)
  | 3 => (540, 10, 99)
  | 4 => (501, 0, 0)
  | 5 => (504, 0, 0)
  | _ => (503, 20, 10)
def bend (b : Bool) : Cnn := ⟨5, [], [], false, b, [], [], (none, 0, 0)⟩
theorem begs_row1 : ∀ w < 7, nxt ((bst 1).feed (rowB w)) = (some ⟨6, 0, [], ak0, (rowE w).1, (rowE w).2.1, (rowE w).2.2⟩, bend (w == 4))
  | 0, _ => by kernel_rfl
  | 1, _ => by kernel_rfl
  | 2, _ => by kernel_rfl
  | 3, _ => by kernel_rfl
  | 4, _ => by kernel_rfl
  | 5, _ => by kernel_rfl
  | 6, _ => by kernel_rfl
  | n + 7, h => by omega
theorem begs_row2 : ∀ w < 7, nxt ((bst 2).feed (rowB w)) = (some ⟨6, 0, [], ak0, (rowE w).1, (rowE w).2.1, (rowE w).2.2⟩, bend (w == 4))
  | 0, _ => by kernel_rfl
  | 1, _ => by kernel_rfl
  | 2, _ => by kernel_rfl
  | 3, _ => by kernel_rfl
  | 4, _ => by kernel_rfl
  | 5, _ => by kernel_rfl
  | 6, _ => by kernel_rfl
  | n + 7, h => by omega
theorem begs_row3 : ∀ w < 7, nxt ((bst 3).feed (rowB w)) = (some ⟨6, 0, [], ak0, (rowE w).1, (rowE w).2.1, (rowE w).2.2⟩, bend (w == 4))
  | 0, _ => by kernel_rfl
  | 1, _ => by kernel_rfl
  | 2, _ => by kernel_rfl
  | 3, _ => by kernel_rfl
  | 4, _ => by kernel_rfl
  | 5, _ => by kernel_rfl
  | 6, _ => by kernel_rfl
  | n + 7, h => by omega
theorem begs_row4 : ∀ w < 7, nxt ((bst 4).feed (rowB w)) = (some ⟨6, 0, [], ak0, (rowE w).1, (rowE w).2.1, (rowE w).2.2⟩, bend (w == 4))
  | 0, _ => by kernel_rfl
  | 1, _ => by kernel_rfl
  | 2, _ => by kernel_rfl
  | 3, _ => by kernel_rfl
  | 4, _ => by kernel_rfl
  | 5, _ => by kernel_rfl
  | 6, _ => by kernel_rfl
  | n + 7, h => by omega
theorem begs_row : ∀ f < 4, ∀ w < 7, nxt ((bst (f + 1)).feed (rowB w)) = (some ⟨6, 0, [], ak0, (rowE w).1, (rowE w).2.1, (rowE w).2.2⟩, bend (w == 4))
  | 0, _ => begs_row1
  | 1, _ => begs_row2
  | 2, _ => begs_row3
  | 3, _ => begs_row4
  | n + 4, h => by omega
theorem begs_no (b : Bool) : nxt (bend b) = (none, bend b) := by cases b <;> kernel_rfl
theorem begs_close (b : Bool) : ∀ w < 7, (closeP (bend b) (rowE w).1 (rowE w).2.1 (rowE w).2.2).1.length > 8 ∧ (closeP (bend b) (rowE w).1 (rowE w).2.1 (rowE w).2.2).2.st = 5 := by cases b <;> decide +kernel
theorem rowB_len : ∀ w < 7, (rowB w).length ≤ 1000 := by decide +kernel
section
variable {K : KT} {L R : List Asr} {h : Heap}
abbrev begV : Value := .func (.func F.qbr) #[] #[]
theorem begFrame {k ch : Nat} {a b : Int} {n s f : SV} {x : PM} (S : St L h) [In (Im 1 n) L (nums x.N)] [In (Im 1 s) L (strs x.S)] [In (Im 1 f) L (bools x.F)] (hk : k < 256) (hch : ch < 65536) (m : SmM a b x)
    (hK : ∀ p l c h', St (Im 1 (p, l, c) (u8s (bfm k ch (a, b, x))) :: L) h' → K (.slice p l c) h') :
    CallV P begV [.int .i64 (k : Int), .int .i64 (ch : Int), .agg (List.toArray (mcells a b ⟨n, s, f, (none, 0, 0)⟩))] K h := by
  refine callV_fn ?_
  show CallsH P F.qbr [.int .i64 (k : Int), .int .i64 (ch : Int), .agg (List.toArray (mcells a b ⟨n, s, f, (none, 0, 0)⟩))] K h
  refine qbr.ok ?_
  unfold qbr.p0
  have hl := m.len
  have S1 := S.al (mcells a b ⟨n, s, f, (none, 0, 0)⟩) T.api_Method
  refine (bdE _ _).2 ?_
  generalize al h (mcells a b ⟨n, s, f, (none, 0, 0)⟩).toArray T.api_Method = h1 at *
  generalize top h = t at *
  have S2 : St (Tb (fun _ => False) (none, 0, 0) x.T :: Im 1 nosv (u8s []) :: Bx t (mcells a b ⟨n, s, f, (none, 0, 0)⟩) :: L) h1 := by rw [m.T]; exact tbNil 0 (S1.imNil 1 0)
  have hw : wtD 8 x.T ≤ 67108864 := by rw [m.T]; decide
  refine ⟨_, S1.rall t 6 rfl, rmethS (t := nosv) (bs := []) (y := ⟨n, s, f, (none, 0, 0)⟩) (x := x) (B := fun _ => False) S2 ⟨by have := m.N.1; omega, by have := m.S.1; omega, by have := m.F; omega⟩ m.N.2 (fun z hz => by have := m.S.2 z hz; omega) hw (by decide) fun p l c h2 S3 => ⟨_, _, _, _, rfl, ?_⟩⟩
  rw [List.nil_append] at S3
  have S4 : St (Im 1 nosv (u8s []) :: Im 1 (p, l, c) (u8s ((methW a b x).getD [])) :: L) h2 := S3.to
  refine rframeS (t := nosv) (s := (p, l, c)) (bs := []) (b := (methW a b x).getD []) (k := k) (c := ch) S4 (by decide) (by omega) hk hch fun p2 l2 c2 h3 S6 => ⟨_, _, _, rfl, hK p2 l2 c2 h3 ?_⟩
  rw [List.nil_append] at S6
  have S7 : St (Im 1 (p2, l2, c2) (u8s (frW k ch ((methW a b x).getD []))) :: L) h3 := (S6.fz 1 (p2, l2, c2)).to
  exact S7
theorem begsL5 {c : Addr} {t0 t1 : Int} : ∀ (k : Nat) (s : Cnn) (i : Nat) (h : Heap), i + k = 10 → St (ConO c s :: L) h → Inv s →
    (∀ h', St (ConO c (runN k s).2 :: L) h' → qad.j3 K t0 t1 (some c) h') → qad.L5 K (k + 1) t0 t1 (some c) (i : Int) h
  | 0, s, i, h, hi, S, iv, hK => by
    unfold qad.L5
    have : i = 10 := by omega
    subst this
    exact ⟨fun e => (by simp at e), fun _ => hK h S⟩
  | k + 1, s, i, h, hi, S, iv, hK => by
    unfold qad.L5
    refine ⟨fun _ => ?_, fun e => (by have := of_decide_eq_false e; omega)⟩
    have iv2 := iv.nxt
    have wi : IntKind.i64.wrap ((i : Int) + 1) = ((i + 1 : Nat) : Int) := wrapI (by omega) (by omega)
    refine nextS (c := c) (s := s) S (by have := iv.e; omega) iv.b iv.a ?_
    intro h1
    have go : St (ConO c (nxt s).2 :: L) h1 → qad.L5 K (k + 1) t0 t1 (some c) ((i + 1 : Nat) : Int) h1 := fun S1 =>
      begsL5 k (nxt s).2 (i + 1) h1 (by omega) S1 iv2 fun h' S' => hK h' (by unfold runN; exact S')
    cases hx : (nxt s).1 with
    | none =>
      intro S1
      refine ⟨_, _, rfl, (bdE _ _).2 ?_⟩
      rw [wi]
      exact go S1
    | some e =>
      intro q S1
      refine ⟨_, _, rfl, (bdE _ _).2 ?_⟩
      rw [wi]
      exact go S1.d1
abbrev rcell (x : SV × Nat) : List Value := [x.1.v, .int .i64 (rowE x.2).1, .int .i64 (rowE x.2).2.1, .int .i64 (rowE x.2).2.2]
theorem rcell_len (x : SV × Nat) : (rcell x).length = 4 := rfl
theorem bld_rows' : (fun a b c d e f g : Value => Instr.fill (Lift.places P (P.underlying T.sl_struct_b_sl_uint8_code_int_class_int_id_int)) (zrow (zcl P T.struct_b_sl_uint8_code_int_class_int_id_int).toList 7 (P.cellsOf T.struct_b_sl_uint8_code_int_class_int_id_int)).toArray
    [(0, .agg (List.toArray [a, .int .i64 503, .int .i64 10, .int .i64 41])), (1, .agg (List.toArray [b, .int .i64 505, .int .i64 0, .int .i64 0])), (2, .agg (List.toArray [c, .int .i64 502, .int .i64 0, .int .i64 0])), (3, .agg (List.toArray [d, .int .i64 540, .int .i64 10, .int .i64 99])), (4, .agg (List.toArray [e, .int .i64 501, .int .i64 0, .int .i64 0])), (5, .agg (List.toArray [f, .int .i64 504, .int .i64 0, .int .i64 0])), (6, .agg (List.toArray [g, .int .i64 503, .int .i64 20, .int .i64 10]))]) =
    fun a b c d e f g => some (List.toArray [a, .int .i64 503, .int .i64 10, .int .i64 41, b, .int .i64 505, .int .i64 0, .int .i64 0, c, .int .i64 502, .int .i64 0, .int .i64 0, d, .int .i64 540, .int .i64 10, .int .i64 99, e, .int .i64 501, .int .i64 0, .int .i64 0, f, .int .i64 504, .int .i64 0, .int .i64 0, g, .int .i64 503, .int .i64 20, .int .i64 10]) := by kernel_rfl
theorem bld_rows (a b c d e f g : Value) : bldS P T.sl_struct_b_sl_uint8_code_int_class_int_id_int T.struct_b_sl_uint8_code_int_class_int_id_int 7
    [(0, .agg (List.toArray [a, .int .i64 503, .int .i64 10, .int .i64 41])), (1, .agg (List.toArray [b, .int .i64 505, .int .i64 0, .int .i64 0])), (2, .agg (List.toArray [c, .int .i64 502, .int .i64 0, .int .i64 0])), (3, .agg (List.toArray [d, .int .i64 540, .int .i64 10, .int .i64 99])), (4, .agg (List.toArray [e, .int .i64 501, .int .i64 0, .int .i64 0])), (5, .agg (List.toArray [f, .int .i64 504, .int .i64 0, .int .i64 0])), (6, .agg (List.toArray [g, .int .i64 503, .int .i64 20, .int .i64 10]))]
    [a, .int .i64 503, .int .i64 10, .int .i64 41, b, .int .i64 505, .int .i64 0, .int .i64 0, c, .int .i64 502, .int .i64 0, .int .i64 0, d, .int .i64 540, .int .i64 10, .int .i64 99, e, .int .i64 501, .int .i64 0, .int .i64 0, f, .int .i64 504, .int .i64 0, .int .i64 0, g, .int .i64 503, .int .i64 20, .int .i64 10] :=
  congrFun (congrFun (congrFun (congrFun (congrFun (congrFun (congrFun bld_rows' a) b) c) d) e) f) g
theorem bdR {F : Heap → Prop} (S : St L h) (vs : List Value) (t : TypeId) (hF : ∀ h', St (Bx (top h) vs :: L) h' → F h') : bd (al h vs.toArray t) F := hF _ (S.al vs t)
theorem tm7 (n : Int) : Int.tmod (bitsI .and .i64 n 255) ((7 : Nat) : Int) = (((n % 256).toNat % 7 : Nat) : Int) := by
  rw [m255, Int.tmod_eq_emod_of_nonneg (by omega)]; omega
theorem begs_j4 {h0 : Heap} {c : Addr} {f : Nat} {which : Int} (hf : f < 4) (S : St [ConO c (bst (f + 1)), Old h0] h) (hK : ∀ h', Kept h0 h' → K (.bool true) h') : qad.j4 K which (some c) false h := by
  unfold qad.j4
  refine ifF rfl ?_
  have z1 : SmM 10 41 ⟨[], [[]], [], []⟩ := ⟨by decide, by decide, rfl, by decide, by decide, by decide⟩
  have z2 : SmM 20 41 noM := ⟨by decide, by decide, rfl, by decide, by decide, by decide⟩
  have z3 : SmM 0 0 noM := ⟨by decide, by decide, rfl, by decide, by decide, by decide⟩
  have z4 : SmM 20 10 ⟨[], [[]], [], []⟩ := ⟨by decide, by decide, rfl, by decide, by decide, by decide⟩
  refine bdS (S.imNil 1 0) [[]] (n := 1) rfl fun h1 S1 => ?_
  refine begFrame (k := 1) (ch := 0) (a := 10) (b := 41) (n := (none, 0, 0)) (s := (some (top h), 1, 1)) (f := (none, 0, 0)) (x := ⟨[], [[]], [], []⟩) S1 (by decide) (by decide) z1 fun p0 l0 c0 h2 S2 => ⟨_, _, _, rfl, ?_⟩
  have S2' : St [Im 1 (none, 0, 0) [], Im 1 (p0, l0, c0) (u8s (rowB 0)), ConO c (bst (f + 1)), Old h0] h2 := (show St [Im 1 (p0, l0, c0) (u8s (rowB 0)), Im 1 (some (top h), 1, 1) (strs [[]]), Im 1 (none, 0, 0) [], ConO c (bst (f + 1)), Old h0] h2 from S2).to
  refine begFrame (k := 2) (ch := 0) (a := 20) (b := 41) (n := (none, 0, 0)) (s := (none, 0, 0)) (f := (none, 0, 0)) (x := noM) S2' (by decide) (by decide) z2 fun p1 l1 c1 h3 S3 => ⟨_, _, _, rfl, ?_⟩
  have S3' : St [Im 1 (none, 0, 0) [], Im 1 (p1, l1, c1) (u8s (rowB 1)), Im 1 (p0, l0, c0) (u8s (rowB 0)), ConO c (bst (f + 1)), Old h0] h3 := (show St [Im 1 (p1, l1, c1) (u8s (rowB 1)), Im 1 (none, 0, 0) [], Im 1 (p0, l0, c0) (u8s (rowB 0)), ConO c (bst (f + 1)), Old h0] h3 from S3).to
  refine begFrame (k := 1) (ch := 0) (a := 0) (b := 0) (n := (none, 0, 0)) (s := (none, 0, 0)) (f := (none, 0, 0)) (x := noM) S3' (by decide) (by decide) z3 fun p2 l2 c2 h4 S4 => ⟨_, _, _, rfl, ?_⟩
  have S4' : St [Im 1 (p2, l2, c2) (u8s (rowB 2)), Im 1 (p1, l1, c1) (u8s (rowB 1)), Im 1 (p0, l0, c0) (u8s (rowB 0)), ConO c (bst (f + 1)), Old h0] h4 := (show St [Im 1 (p2, l2, c2) (u8s (rowB 2)), Im 1 (none, 0, 0) [], Im 1 (p1, l1, c1) (u8s (rowB 1)), Im 1 (p0, l0, c0) (u8s (rowB 0)), ConO c (bst (f + 1)), Old h0] h4 from S4).to
  have S5 : St (Im 1 nosv (u8s []) :: Im 1 (some (top h4), 4, 4) (u8s [0, 10, 0, 99]) :: [Im 1 (p2, l2, c2) (u8s (rowB 2)), Im 1 (p1, l1, c1) (u8s (rowB 1)), Im 1 (p0, l0, c0) (u8s (rowB 0)), ConO c (bst (f + 1)), Old h0]) (al h4 #[.int .u8 0, .int .u8 10, .int .u8 0, .int .u8 99] T.uint8) := (S4'.lit [.int .u8 0, .int .u8 10, .int .u8 0, .int .u8 99] T.uint8 4 rfl).imNil 1 0
  refine (bdE _ _).2 (rframeS (t := nosv) (s := (some (top h4), 4, 4)) (bs := []) (b := [0, 10, 0, 99]) (k := 1) (c := 0) S5 (by decide) (by decide) (by decide) (by decide) fun p3 l3 c3 h5 S6 => ⟨_, _, _, rfl, ?_⟩)
  have S6' : St [Im 1 (p3, l3, c3) (u8s (rowB 3)), Im 1 (p2, l2, c2) (u8s (rowB 2)), Im 1 (p1, l1, c1) (u8s (rowB 1)), Im 1 (p0, l0, c0) (u8s (rowB 0)), ConO c (bst (f + 1)), Old h0] h5 := (show St (Im 1 (p3, l3, c3) (u8s (rowB 3)) :: Im 1 nosv (u8s []) :: Im 1 (some (top h4), 4, 4) (u8s [0, 10, 0, 99]) :: [Im 1 (p2, l2, c2) (u8s (rowB 2)), Im 1 (p1, l1, c1) (u8s (rowB 1)), Im 1 (p0, l0, c0) (u8s (rowB 0)), ConO c (bst (f + 1)), Old h0]) h5 from S6.fz 1 (p3, l3, c3)).to
  have S7 : St (Im 1 (none, 0, 0) [] :: Im 1 (some (top h5), 1, 1) (u8s (rowB 4)) :: [Im 1 (p3, l3, c3) (u8s (rowB 3)), Im 1 (p2, l2, c2) (u8s (rowB 2)), Im 1 (p1, l1, c1) (u8s (rowB 1)), Im 1 (p0, l0, c0) (u8s (rowB 0)), ConO c (bst (f + 1)), Old h0]) (al h5 #[.int .u8 9] T.uint8) := (S6'.lit [.int .u8 9] T.uint8 1 rfl).imNil 1 0
  refine (bdE _ _).2 ?_
  generalize al h5 #[Value.int .u8 9] T.uint8 = h6 at *
  generalize top h5 = a4 at *
  refine bdS S7 [[]] (n := 1) rfl fun h7 S8 => ?_
  refine begFrame (k := 1) (ch := 17) (a := 20) (b := 10) (n := (none, 0, 0)) (s := (some (top h6), 1, 1)) (f := (none, 0, 0)) (x := ⟨[], [[]], [], []⟩) S8 (by decide) (by decide) z4 fun p5 l5 c5 h8 S9 => ⟨_, _, _, rfl, ?_⟩
  have S9' : St [Im 1 (none, 0, 0) [], Im 1 (p5, l5, c5) (u8s (rowB 5)), Im 1 (some a4, 1, 1) (u8s (rowB 4)), Im 1 (p3, l3, c3) (u8s (rowB 3)), Im 1 (p2, l2, c2) (u8s (rowB 2)), Im 1 (p1, l1, c1) (u8s (rowB 1)), Im 1 (p0, l0, c0) (u8s (rowB 0)), ConO c (bst (f + 1)), Old h0] h8 :=
    (show St (Im 1 (p5, l5, c5) (u8s (rowB 5)) :: Im 1 (some (top h6), 1, 1) (strs [[]]) :: Im 1 (none, 0, 0) [] :: Im 1 (some a4, 1, 1) (u8s (rowB 4)) :: [Im 1 (p3, l3, c3) (u8s (rowB 3)), Im 1 (p2, l2, c2) (u8s (rowB 2)), Im 1 (p1, l1, c1) (u8s (rowB 1)), Im 1 (p0, l0, c0) (u8s (rowB 0)), ConO c (bst (f + 1)), Old h0]) h8 from S9).to
  refine bdS S9' [[]] (n := 1) rfl fun h9 S10 => ?_
  refine begFrame (k := 1) (ch := 0) (a := 20) (b := 10) (n := (none, 0, 0)) (s := (some (top h8), 1, 1)) (f := (none, 0, 0)) (x := ⟨[], [[]], [], []⟩) S10 (by decide) (by decide) z4 fun p6 l6 c6 h10 S11 => ⟨_, _, _, rfl, ?_⟩
  have S12 : St [ConO c (bst (f + 1)), Im 1 (p6, l6, c6) (u8s (rowB 6)), Im 1 (p5, l5, c5) (u8s (rowB 5)), Im 1 (some a4, 1, 1) (u8s (rowB 4)), Im 1 (p3, l3, c3) (u8s (rowB 3)), Im 1 (p2, l2, c2) (u8s (rowB 2)), Im 1 (p1, l1, c1) (u8s (rowB 1)), Im 1 (p0, l0, c0) (u8s (rowB 0)), Old h0] h10 :=
    (show St (Im 1 (p6, l6, c6) (u8s (rowB 6)) :: Im 1 (some (top h8), 1, 1) (strs [[]]) :: Im 1 (none, 0, 0) [] :: Im 1 (p5, l5, c5) (u8s (rowB 5)) :: Im 1 (some a4, 1, 1) (u8s (rowB 4)) :: [Im 1 (p3, l3, c3) (u8s (rowB 3)), Im 1 (p2, l2, c2) (u8s (rowB 2)), Im 1 (p1, l1, c1) (u8s (rowB 1)), Im 1 (p0, l0, c0) (u8s (rowB 0)), ConO c (bst (f + 1)), Old h0]) h10 from S11).to
  let rows : List (SV × Nat) := [((p0, l0, c0), 0), ((p1, l1, c1), 1), ((p2, l2, c2), 2), ((p3, l3, c3), 3), ((some a4, 1, 1), 4), ((p5, l5, c5), 5), ((p6, l6, c6), 6)]
  refine ⟨_, bld_rows _ _ _ _ _ _ _, bdR S12 (rows.flatMap rcell) _ fun h11 S13 => ?_⟩
  have S13 : St (Bx (top h10) (rows.flatMap rcell) :: [ConO c (bst (f + 1)), Im 1 (p6, l6, c6) (u8s (rowB 6)), Im 1 (p5, l5, c5) (u8s (rowB 5)), Im 1 (some a4, 1, 1) (u8s (rowB 4)), Im 1 (p3, l3, c3) (u8s (rowB 3)), Im 1 (p2, l2, c2) (u8s (rowB 2)), Im 1 (p1, l1, c1) (u8s (rowB 1)), Im 1 (p0, l0, c0) (u8s (rowB 0)), Old h0]) h11 := S13
  have S14 : St (Im 4 (some (top h10), 7, 7) (rows.flatMap rcell) :: [ConO c (bst (f + 1)), Im 1 (p6, l6, c6) (u8s (rowB 6)), Im 1 (p5, l5, c5) (u8s (rowB 5)), Im 1 (some a4, 1, 1) (u8s (rowB 4)), Im 1 (p3, l3, c3) (u8s (rowB 3)), Im 1 (p2, l2, c2) (u8s (rowB 2)), Im 1 (p1, l1, c1) (u8s (rowB 1)), Im 1 (p0, l0, c0) (u8s (rowB 0)), Old h0]) h11 := (S13.bxOw (sz := 4) (n := 7) rfl).im
  have sl := S14.isl 4 (some (top h10), 7, 7)
  have pick : ∀ {L' : List Asr} {h' : Heap} (w : Nat), w < 7 → St [ConO c (bst (f + 1)), Im 1 (p6, l6, c6) (u8s (rowB 6)), Im 1 (p5, l5, c5) (u8s (rowB 5)), Im 1 (some a4, 1, 1) (u8s (rowB 4)), Im 1 (p3, l3, c3) (u8s (rowB 3)), Im 1 (p2, l2, c2) (u8s (rowB 2)), Im 1 (p1, l1, c1) (u8s (rowB 1)), Im 1 (p0, l0, c0) (u8s (rowB 0)), Old h0] h' → ∃ sw : SV, rows[w]? = some (sw, w) ∧ St [ConO c (bst (f + 1)), Im 1 sw (u8s (rowB w)), Old h0] h' := by
    intro L' h' w hw S'
    match w, hw with
    | 0, _ => exact ⟨(p0, l0, c0), rfl, S'.to⟩
    | 1, _ => exact ⟨(p1, l1, c1), rfl, S'.to⟩
    | 2, _ => exact ⟨(p2, l2, c2), rfl, S'.to⟩
    | 3, _ => exact ⟨(p3, l3, c3), rfl, S'.to⟩
    | 4, _ => exact ⟨(some a4, 1, 1), rfl, S'.to⟩
    | 5, _ => exact ⟨(p5, l5, c5), rfl, S'.to⟩
    | 6, _ => exact ⟨(p6, l6, c6), rfl, S'.to⟩
    | n + 7, h => omega
  refine (bdE _ _).2 ((bdE _ _).2 ((bdE _ _).2 ⟨by decide, ?_⟩))
  rw [tm7]
  generalize hw : (which % 256).toNat % 7 = w
  have hw7 : w < 7 := by omega
  obtain ⟨sw, hr, S15⟩ := pick (L' := []) w hw7 S14.tl
  refine ixS rcell_len (by decide) sl (n := w) rfl hr ((bdE _ _).2 ?_)
  have S16 := S15.al [.slice none 0 0, .int .i64 0, .int .i64 0, .int .i64 0] T.struct_b_sl_uint8_code_int_class_int_id_int
  refine ⟨rfl, S16.putA (top h11) (ws := rcell (sw, w)) rfl (by simp [one]) fun h12 S17 => ⟨_, _, _, S17.rc (top h11) 0 rfl, ?_⟩⟩
  generalize top h11 = t at *
  have S18 : St [ConO c (bst (f + 1)), Bx t (rcell (sw, w)), Im 1 sw (u8s (rowB w)), Old h0] h12 := S17.to
  have rl := rowB_len w hw7
  have ef : ∀ o, (bst (f + 1)).feed o = { bst (f + 1) with b := o } := fun o => by unfold Cnn.feed; rw [if_pos ⟨by show f + 1 ≠ 6; omega, rfl⟩]; rfl
  refine feedS (c := c) (s := bst (f + 1)) (t := sw) (bs := rowB w) S18 (by show 0 < 1073741824; decide) (by omega) fun h13 S19 => ⟨rfl, ?_⟩
  have noas : ∀ {s : Cnn}, s.asms = [] → AsO s := fun e x hx => by rw [e] at hx; cases hx
  refine nextS (c := c) (s := (bst (f + 1)).feed (rowB w)) S19 (by rw [ef]; show 0 < 536870912; decide) (by rw [ef]; show (rowB w).length < _; omega) (by rw [ef]; exact noas rfl) ?_
  rw [begs_row f hf w hw7]
  intro h14 q S20
  refine ⟨_, _, rfl, (bdE _ _).2 ?_⟩
  rw [zev_al]
  have S21 := S20.al zev T.api_Event
  refine ⟨rfl, S21.putA (top h14) (ws := evc ⟨6, 0, [], ak0, (rowE w).1, (rowE w).2.1, (rowE w).2.2⟩ q) rfl (evc2_one (_, q)) fun h15 S22 => ?_⟩
  generalize top h14 = u at *
  refine nextS (c := c) (s := bend (w == 4)) S22 (by show 0 < 536870912; decide) (by show 0 < 1073741824; decide) (noas rfl) ?_
  rw [begs_no]
  intro h16 S23
  refine ⟨_, _, rfl, (bdE _ _).2 ?_⟩
  rw [zev_al]
  have S24 := S23.al zev T.api_Event
  refine ⟨rfl, S24.putA (top h16) (ws := zev) rfl (by simp [one]) fun h17 S25 => ⟨_, S25.rc t 1 rfl, _, S25.rc t 2 rfl, _, S25.rc t 3 rfl, ?_⟩⟩
  have bc := begs_close (w == 4) w hw7
  refine closeS (c := c) (s := bend (w == 4)) S25 fun p l cc h18 S26 => ⟨_, _, _, rfl, ?_⟩
  have lp : l > 8 := by
    have := (S26.osl 1 (p, l, cc)).1
    simp only [u8s_length, Nat.mul_one] at this
    omega
  refine ifT rfl (ifT rfl ⟨_, S26.rc u 0 rfl, ifT rfl ⟨_, S26.rc u 14 rfl, _, S26.rc t 1 rfl, ifT (by simp) ⟨_, S26.rc u 15 rfl, _, S26.rc t 2 rfl, ifT (by simp) ⟨_, S26.rc u 16 rfl, _, S26.rc t 3 rfl, ifT (by simp) ?_⟩⟩⟩⟩)
  refine stateS (c := c) S26 ⟨_, rfl, ?_⟩
  rw [bc.2]
  refine ifT rfl ((bdE _ _).2 ?_)
  rw [show decide (((l : Nat) : Int) > 8) = true by simp; omega]
  exact hK h18 (S26.keptOld (by simp))
theorem begs_j3 {h0 : Heap} {c : Addr} {f : Nat} {which : Int} (hf : f < 4) (S : St [ConO c (bst (f + 1)), Old h0] h) (hK : ∀ h', Kept h0 h' → K (.bool true) h') : qad.j3 K (f : Int) which (some c) h := by
  unfold qad.j3
  have hg : ([1, 2, 3, 4] : List Int)[f]? = some (((f + 1 : Nat)) : Int) := by
    match f, hf with
    | 0, _ => rfl
    | 1, _ => rfl
    | 2, _ => rfl
    | 3, _ => rfl
    | n + 4, h => omega
  have ne : ((((f + 1 : Nat)) : Int) != (((f + 1 : Nat)) : Int)) = false := by simp
  have go : ∀ {h' : Heap}, St [ConO c (bst (f + 1)), Old h0] h' → qad.j4 K which (some c) ((((f + 1 : Nat)) : Int) != (((f + 1 : Nat)) : Int)) h' := fun S' => by rw [ne]; exact begs_j4 hf S' hK
  have S2 : St (Im 1 (some (top h), 4, 4) (([1, 2, 3, 4] : List Int).map fun z => Value.int .i64 z) :: [ConO c (bst (f + 1)), Old h0]) (al h #[.int .i64 1, .int .i64 2, .int .i64 3, .int .i64 4] T.int) := S.lit [.int .i64 1, .int .i64 2, .int .i64 3, .int .i64 4] T.int 4 rfl
  have sl := S2.isl 1 (some (top h), 4, 4)
  refine ⟨stateS (c := c) (s := bst (f + 1)) S ⟨_, rfl, (bdE _ _).2 (ix (C := fun z : Int => Value.int .i64 z) sl (n := f) rfl hg (go S2.tl))⟩, (bdE _ _).2 ?_⟩
  obtain ⟨pa, ep, h00, h01, z, hz, ez⟩ := ix (C := fun z : Int => Value.int .i64 z) (F := fun z => z = ((f + 1 : Nat) : Int)) sl (n := f) rfl hg rfl
  subst ez
  refine ⟨pa, ep, h00, h01, stateS (c := c) (s := bst (f + 1)) S2 ⟨_, rfl, _, hz, go S2.tl⟩, _, hz, stateS (c := c) (s := bst (f + 1)) S2 ⟨_, rfl, go S2.tl⟩⟩
theorem begsL6 {h0 : Heap} {c : Addr} {all : SV} {f : Nat} {which : Int} (hf : f < 4) (hK : ∀ h', Kept h0 h' → K (.bool true) h') :
    ∀ (k i : Nat) (r : SV) (h : Heap), i + k = f → St [Im 1 r (u8s (helloP.drop (bn i))), Im 1 all (u8s helloP), ConO c cn0, Old h0] h → qad.L6 K (k + 1) (f : Int) which (some c) all.1 all.2.1 all.2.2 (slA all.1 0 all.2.2 1) (bn i) all.2.2 r.1 r.2.1 r.2.2 (i : Int) h := by
  intro k
  induction k with
  | zero =>
    intro i r h hi S
    have : i = f := by omega
    subst this
    unfold qad.L6
    refine ⟨fun e => (by simp at e), fun _ => ?_⟩
    unfold qad.j2
    have bl := begs_len i hf
    have la := Sl.len (isl8 S (s := all) (bs := helloP)).1
    have S1 := St.itake S all (n := bn i) (by omega)
    have e1 : (u8s helloP).take (bn i) = u8s (helloP.take (bn i)) := by simp [u8s, List.map_take]
    rw [e1] at S1
    rw [slA_zero]
    have S2 : St [ConO c cn0, Im 1 (all.1, bn i, all.2.2) (u8s (helloP.take (bn i))), Old h0] h := S1.to
    have lt : (helloP.take (bn i)).length ≤ 1000 := by rw [List.length_take]; omega
    refine feedS (c := c) (s := cn0) (t := (all.1, bn i, all.2.2)) (bs := helloP.take (bn i)) S2 (by decide) (by omega) fun h1 S3 => ⟨rfl, 11, ?_⟩
    refine begsL5 10 (cn0.feed (helloP.take (bn i))) 0 h1 rfl S3 (Inv.zero.feed (by show 0 + _ < _; omega)) fun h2 S4 => ?_
    have er := begs_run i hf
    rw [er] at S4
    exact begs_j3 hf S4.to hK
  | succ k ih =>
    intro i r h hi S
    unfold qad.L6
    refine ⟨fun _ => ?_, fun e => (by have := of_decide_eq_false e; omega)⟩
    have i3 : i < 3 := by omega
    have ed := begs_drop i i3
    have eb := begs_bo i i3
    have bl := begs_len (i + 1) (by omega)
    have la := Sl.len (isl8 S (s := all) (bs := helloP)).1
    have lac := (isl8 S (s := all) (bs := helloP)).2
    have lr := Sl.len (isl8 S (s := r) (bs := helloP.drop (bn i))).1
    have lrc := (isl8 S (s := r) (bs := helloP.drop (bn i))).2
    have hl := helloLen
    have S' : St [Im 1 r (u8s (frW 1 0 (bo i) ++ helloP.drop (bn (i + 1)))), Im 1 all (u8s helloP), ConO c cn0, Old h0] h := by rw [← ed]; exact S
    have lr2 : r.2.1 = 8 + (bo i).length + (helloP.drop (bn (i + 1))).length := by rw [lr, ed, List.length_append, frW_length]
    refine rframeOfS (s := r) (k := 1) (c := 0) (b := bo i) (t := helloP.drop (bn (i + 1))) S' (by decide) (by decide) (by omega) (by rw [List.length_drop]; omega) fun v h1 S1 => ⟨_, _, _, rfl, (bdE _ _).2 ?_⟩
    have S2 := S1.al (fcl 0 0 ((none, 0, 0) : SV)) T.api_Frame
    have eh : al h1 #[.int .i64 0, .int .i64 0, .slice none 0 0] T.api_Frame = al h1 (fcl 0 0 ((none, 0, 0) : SV)).toArray T.api_Frame := rfl
    rw [eh]
    refine ⟨rfl, S2.putA (top h1) (ws := [.int .i64 ((1 : Nat) : Int), .int .i64 ((0 : Nat) : Int), v.v]) rfl (by simp [one]) fun h2 S3 => ?_⟩
    have ebn : bn (i + 1) = bn i + (8 + (bo i).length) := rfl
    have w1 : IntKind.i64.wrap (((bn i : Nat) : Int) + ((8 + (bo i).length : Nat) : Int)) = ((bn (i + 1) : Nat) : Int) := by rw [wrapI (by omega) (by omega)]; omega
    have wi : IntKind.i64.wrap ((i : Int) + 1) = ((i + 1 : Nat) : Int) := wrapI (by omega) (by omega)
    rw [w1]
    refine ⟨⟨by omega, by omega⟩, ⟨by omega, by omega⟩, (bdE _ _).2 ((bdE _ _).2 ((bdE _ _).2 ((bdE _ _).2 ((bdE _ _).2 ((bdE _ _).2 ((bdE _ _).2 ?_))))))⟩
    rw [wi, Int.toNat_natCast, Int.toNat_natCast]
    have S4 := St.idrop S3.tl r (n := 8 + (bo i).length) (by omega)
    have e2 : (u8s (frW 1 0 (bo i) ++ helloP.drop (bn (i + 1)))).drop (8 + (bo i).length) = u8s (helloP.drop (bn (i + 1))) := by
      simp only [u8s, ← List.map_drop]
      congr 1
      rw [List.drop_append_of_le_length (by rw [frW_length]; omega), List.drop_of_length_le (by rw [frW_length]; omega)]; rfl
    rw [e2] at S4
    exact ih (i + 1) (slA r.1 (8 + (bo i).length) r.2.2 1, r.2.1 - (8 + (bo i).length), r.2.2 - (8 + (bo i).length)) h2 (by omega) S4.d1
theorem ConnsBegins.law (far : Int) (hfar : -9223372036854775808 ≤ far ∧ far < 9223372036854775808) (which : Int) (hw : -9223372036854775808 ≤ which ∧ which < 9223372036854775808) :
    CallsH P F.qad [.int .i64 far, .int .i64 which] (fun v h' => v = .bool true ∧ Kept h h') h := by
  refine qad.ok ?_
  unfold qad.p0
  refine newCS (St.old h) fun a h1 S1 => ⟨_, rfl, ifF' rfl (awake25S S1 fun h2 S2 => ⟨_, rfl, ?_⟩)⟩
  unfold qad.j1
  refine ifF rfl (helloS S2 fun p l cc h3 S3 => ⟨_, _, _, rfl, (bdE _ _).2 ?_⟩)
  have hl := helloLen
  have b0 := begs_len 0 (by decide)
  have S4 := S3.im
  have la := Sl.len (isl8 S4 (s := (p, l, cc)) (bs := helloP)).1
  have lac := (isl8 S4 (s := (p, l, cc)) (bs := helloP)).2
  have l8 : 8 ≤ helloP.length := b0.1
  simp only at la lac
  rw [m3']
  have ef : far % 4 = (((far % 4).toNat : Nat) : Int) := by omega
  rw [ef]
  generalize hf : (far % 4).toNat = f
  have hf4 : f < 4 := by omega
  refine ⟨⟨by omega, by omega⟩, (bdE _ _).2 ((bdE _ _).2 ((bdE _ _).2 ⟨⟨by omega, by omega⟩, (bdE _ _).2 ((bdE _ _).2 ((bdE _ _).2 ⟨f + 1, ?_⟩))⟩))⟩
  have S5 := St.idrop S4 (p, l, cc) (n := 8) (by show 8 ≤ l; omega)
  have e1 : (u8s helloP).drop 8 = u8s (helloP.drop (bn 0)) := by simp [u8s, List.map_drop, bn]
  rw [e1] at S5
  have S6 : St [Im 1 (slA p 8 cc 1, l - 8, cc - 8) (u8s (helloP.drop (bn 0))), Im 1 (p, l, cc) (u8s helloP), ConO a cn0, Old h] h3 := S5.to
  exact begsL6 (h0 := h) (c := a) (all := (p, l, cc)) (which := which) hf4 (fun h' k => ⟨rfl, k⟩) f 0 (slA p 8 cc 1, l - 8, cc - 8) h3 (by omega) S6
end
end Go.Proofs.YtjapglfpjhljpaaGreat.Pr
end
