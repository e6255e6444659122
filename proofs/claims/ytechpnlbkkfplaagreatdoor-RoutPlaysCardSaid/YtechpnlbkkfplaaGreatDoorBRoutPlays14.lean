/- routPlays_holds: all that the theorem needs, in a few texts (bundle.py; made of the texts that NOTES.md names). -/
import Derived.Below
import Derived.KernelRfl
import Derived.Laws.Append
import Derived.Laws.Bits64
import Derived.Laws.BitsAllLaws
import Derived.Laws.BitsLemmas
import Derived.Laws.IdiomStrings
import Derived.Laws.Sem
import Derived.Laws.Strings
import Derived.Laws.StructEq
import Derived.Lib.ItoaNum
import Derived.LoopN
import Derived.MapKept
import Derived.Orders
import Derived.Shelf.Lay
import Derived.Shelf.Small.Bits
import Derived.Test.YtechpnlbkkfplaaGreatDoorChecked
import Derived.WideLaws
import Derived.Test.YtechpnlbkkfplaaGreatDoorBRoutPlays2
import Derived.Test.YtechpnlbkkfplaaGreatDoorBRoutPlays3
import Derived.Test.YtechpnlbkkfplaaGreatDoorBRoutPlays4
import Derived.Test.YtechpnlbkkfplaaGreatDoorBRoutPlays5
import Derived.Test.YtechpnlbkkfplaaGreatDoorBRoutPlays7
import Derived.Test.YtechpnlbkkfplaaGreatDoorBRoutPlays8
import Derived.Test.YtechpnlbkkfplaaGreatDoorBRoutPlays9
import Derived.Test.YtechpnlbkkfplaaGreatDoorBRoutPlays12
section
set_option linter.unusedVariables false
set_option linter.unusedSimpArgs false
namespace Go.Lift.Ord
variable {α β : Type}
def lex (a : Ord α) (b : Ord β) : Ord (α × β) where
  lt x y := a.lt x.1 y.1 || (!a.lt y.1 x.1 && b.lt x.2 y.2)
  asym x y h := by
    have h1 := a.asym x.1 y.1
    have h2 := a.asym y.1 x.1
    have h3 := b.asym x.2 y.2
    cases e1 : a.lt x.1 y.1 with
    | true => rw [h1 e1]; rfl
    | false =>
      rw [e1] at h
      cases e2 : a.lt y.1 x.1 with
      | true => rw [e2] at h; simp at h
      | false => rw [e2] at h; simp at h; rw [h3 h]; rfl
  trans x y z h k := by
    simp only [Bool.or_eq_false_iff, Bool.and_eq_false_iff, Bool.not_eq_false'] at *
    refine ⟨a.trans _ _ _ h.1 k.1, ?_⟩
    rcases h.2 with h2 | h2
    · left
      cases e : a.lt x.1 z.1 with
      | true => rfl
      | false => have := a.trans _ _ _ k.1 e; rw [h2] at this; cases this
    · rcases k.2 with k2 | k2
      · left
        cases e : a.lt x.1 z.1 with
        | true => rfl
        | false => have := a.trans _ _ _ e h.1; rw [k2] at this; cases this
      · exact .inr (b.trans _ _ _ h2 k2)
theorem lex_anti {a : Ord α} {b : Ord β} (ha : ∀ x y, a.le x y → a.le y x → x = y) (hb : ∀ x y, b.le x y → b.le y x → x = y) (x y : α × β) (h : (lex a b).le x y) (k : (lex a b).le y x) : x = y := by
  simp only [le, lex, Bool.or_eq_false_iff, Bool.and_eq_false_iff, Bool.not_eq_false'] at h k
  have e1 := ha x.1 y.1 h.1 k.1
  have e2 : x.2 = y.2 := by
    refine hb x.2 y.2 ?_ ?_
    · rcases h.2 with h2 | h2
      · rw [k.1] at h2; cases h2
      · exact h2
    · rcases k.2 with k2 | k2
      · rw [h.1] at k2; cases k2
      · exact k2
  exact Prod.ext e1 e2
end Go.Lift.Ord
namespace Go.Proofs.YtechpnlbkkfplaaGreatDoor.Pr
open Go Go.Lift Go.Proofs
abbrev BN := List UInt8 × List UInt8 × List UInt8
abbrev bc (x : BN) : List Value := [.string (mkS x.1), .string (mkS x.2.1), .string (mkS x.2.2)]
theorem bc3 : ∀ x : BN, (bc x).length = 3 := fun _ => rfl
theorem bc_one (x : BN) : ∀ w ∈ bc x, one w = true := fun w hw => by
  rcases List.mem_cons.1 hw with rfl | hw
  · rfl
  rcases List.mem_cons.1 hw with rfl | hw
  · rfl
  rw [List.mem_singleton.1 hw]; rfl
def cmpI (x y : List UInt8) : Int := if Op.bytesLess x y then -1 else if x == y then 0 else 1
def or3 (a b c : Int) : Int := if a != 0 then a else if b != 0 then b else c
theorem cmpI_eq (x y : List UInt8) : (cmpI x y = -1 ∧ Op.bytesLess x y = true) ∨ (cmpI x y = 0 ∧ Op.bytesLess x y = false ∧ Op.bytesLess y x = false) ∨ (cmpI x y = 1 ∧ Op.bytesLess x y = false ∧ Op.bytesLess y x = true) := by
  unfold cmpI
  cases h : Op.bytesLess x y with
  | true => exact .inl ⟨rfl, rfl⟩
  | false =>
    rw [if_neg (by decide)]
    by_cases e : x = y
    · subst e; exact .inr (.inl ⟨by simp, rfl, h⟩)
    · refine .inr (.inr ⟨by rw [if_neg (by simpa using e)], rfl, ?_⟩)
      cases k : Op.bytesLess y x with
      | true => rfl
      | false => exact absurd (sort_string.le_anti x y k h) e
namespace sort_bind
def o : Lift.Ord BN := Lift.Ord.lex sort_string.o (Lift.Ord.lex sort_string.o sort_string.o)
theorem le_anti (x y : BN) (h : o.le x y) (k : o.le y x) : x = y := Lift.Ord.lex_anti sort_string.le_anti (Lift.Ord.lex_anti sort_string.le_anti sort_string.le_anti) x y h k
abbrev fc : Value := .func (.func F.qbi) #[] #[]
theorem or_lt (x y : BN) : decide (or3 (cmpI x.1 y.1) (cmpI x.2.1 y.2.1) (cmpI x.2.2 y.2.2) < 0) = o.lt x y := by
  show _ = (Op.bytesLess x.1 y.1 || (!Op.bytesLess y.1 x.1 && (Op.bytesLess x.2.1 y.2.1 || (!Op.bytesLess y.2.1 x.2.1 && Op.bytesLess x.2.2 y.2.2))))
  unfold or3
  rcases cmpI_eq x.1 y.1 with ⟨e, a⟩ | ⟨e, a, a'⟩ | ⟨e, a, a'⟩
  · rw [e, a]; rfl
  · rw [e, a, a']
    rcases cmpI_eq x.2.1 y.2.1 with ⟨e, b⟩ | ⟨e, b, b'⟩ | ⟨e, b, b'⟩
    · rw [e, b]; rfl
    · rw [e, b, b']
      rcases cmpI_eq x.2.2 y.2.2 with ⟨e, c⟩ | ⟨e, c, c'⟩ | ⟨e, c, c'⟩ <;> rw [e, c] <;> rfl
    · rw [e, b, b']; rfl
  · rw [e, a, a']; rfl
end sort_bind
section
variable {K : KT} {L : List Asr} {h : Heap}
theorem nanS {x : List UInt8} (hK : K (.bool false) h) : CallsH P F.qck [.string (mkS x)] K h := by
  refine qck.ok ?_
  unfold qck.p0
  unfold bd
  rw [show (!(x == x)) = false by simp]
  exact hK
theorem cmpS {x y : List UInt8} {F' : Int → Heap → Prop} (hK : F' (cmpI x y) h) : CallsH P F.qcm [.string (mkS x), .string (mkS y)] (fun v h' => ∃ n, v = .int .i64 n ∧ F' n h') h := by
  refine qcm.ok ?_
  unfold qcm.p0
  refine nanS ⟨_, rfl, nanS ⟨_, rfl, ifF rfl (ifF rfl ?_)⟩⟩
  unfold cmpI at hK
  cases h1 : Op.bytesLess x y with
  | true => rw [h1] at hK; exact ifT rfl ⟨_, rfl, hK⟩
  | false =>
    rw [h1, if_neg (by decide)] at hK
    refine ifF rfl ?_
    cases h2 : (x == y) with
    | true => rw [h2] at hK; exact ifF rfl ⟨_, rfl, hK⟩
    | false => rw [h2] at hK; exact ifT rfl ⟨_, rfl, hK⟩
theorem orS {p : Addr} {a b c : Int} (sa : Sl 1 h (some p) 3 [.int .i64 a, .int .i64 b, .int .i64 c]) {F' : Int → Heap → Prop} (k : F' (or3 a b c) h) : CallsH P F.qcg [.slice (some p) 3 3] (fun v h' => ∃ n, v = .int .i64 n ∧ F' n h') h := by
  refine qcg.ok ?_
  unfold qcg.p0
  unfold or3 at k
  refine ⟨4, ?_⟩
  unfold qcg.L1
  refine ⟨fun _ => ixV (n := 0) (w := .int .i64 a) sa rfl rfl fun p ep cp => ⟨a, cp, ?_⟩, fun e => absurd e (by decide)⟩
  cases ea : (a != 0) with
  | true => rw [ea] at k; exact ⟨fun _ => ⟨_, rfl, k⟩, fun e => by cases e⟩
  | false =>
    rw [ea, if_neg (by decide)] at k
    refine ⟨fun e => (by cases e), fun _ => ?_⟩
    rw [show IntKind.i64.wrap (0 + 1) = 1 by decide]
    unfold qcg.L1
    refine ⟨fun _ => ixV (n := 1) (w := .int .i64 b) sa rfl rfl fun p ep cp => ⟨b, cp, ?_⟩, fun e => absurd e (by decide)⟩
    cases eb : (b != 0) with
    | true => rw [eb] at k; exact ⟨fun _ => ⟨_, rfl, k⟩, fun e => by cases e⟩
    | false =>
      rw [eb, if_neg (by decide)] at k
      refine ⟨fun e => (by cases e), fun _ => ?_⟩
      rw [show IntKind.i64.wrap (1 + 1) = 2 by decide]
      unfold qcg.L1
      refine ⟨fun _ => ixV (n := 2) (w := .int .i64 c) sa rfl rfl fun p ep cp => ⟨c, cp, ?_⟩, fun e => absurd e (by decide)⟩
      cases ec : (c != 0) with
      | true => exact ⟨fun _ => ⟨_, rfl, k⟩, fun e => by cases e⟩
      | false =>
        refine ⟨fun e => (by cases e), fun _ => ?_⟩
        rw [show IntKind.i64.wrap (2 + 1) = 3 by decide]
        unfold qcg.L1
        have : c = 0 := by simpa using ec
        subst this
        exact ⟨fun e => absurd e (by decide), fun _ => ⟨_, rfl, k⟩⟩
theorem orderS (S : St L h) {x y : BN} (hK : ∀ h', St L h' → K (.int .i64 (or3 (cmpI x.1 y.1) (cmpI x.2.1 y.2.1) (cmpI x.2.2 y.2.2))) h') : CallsH P F.qbi [.agg (List.toArray (bc x)), .agg (List.toArray (bc y))] K h := by
  refine qbi.ok ?_
  unfold qbi.p0
  refine St.bd1 (cs := bc x) S fun S1 => St.bd1 (cs := bc y) S1 fun S2 => ?_
  generalize top (al h (List.toArray (bc x)) T.api_Bind) = t1 at *
  generalize al (al h (List.toArray (bc x)) T.api_Bind) (List.toArray (bc y)) T.api_Bind = h2 at *
  generalize top h = t0 at *
  exact qbi.r2.rule (fun d n8 n18 n28 a34 n40 h => (d 4 = true → n8 = cmpI x.1 y.1) ∧ (d 9 = true → n18 = cmpI x.2.1 y.2.1) ∧ (d 14 = true → n28 = cmpI x.2.2 y.2.2) ∧ (d 16 = true → n40 = or3 (cmpI x.1 y.1) (cmpI x.2.1 y.2.1) (cmpI x.2.2 y.2.2)) ∧
      St (cond (d 15) (Bx a34 [.int .i64 n8, .int .i64 n18, .int .i64 n28]) emp :: Bx t1 (bc y) :: Bx t0 (bc x) :: L) h)
    ⟨fun e => (by cases e), fun e => (by cases e), fun e => (by cases e), fun e => (by cases e), S2.emp'⟩
    (fun d _ _ _ _ _ h _ _ _ _ _ ⟨_, _, _, _, S⟩ => S.p2.c 0 (v := .string (mkS x.1)) rfl)
    (fun d _ _ _ _ _ h _ _ _ _ _ ⟨_, _, _, _, S⟩ => S.p1.c 0 (v := .string (mkS y.1)) rfl)
    (fun d _ _ _ _ _ h k _ _ _ h15 _ ⟨_, j2, j3, j4, S⟩ hk => cmpS (hk _ _ ⟨fun _ => rfl, j2, j3, j4, by show St (cond (d 15) _ _ :: _) _; rw [h15]; exact S.tl.emp'⟩))
    (fun d _ _ _ _ _ h _ _ _ _ ⟨_, _, _, _, S⟩ => S.p2.c 1 (v := .string (mkS x.2.1)) rfl)
    (fun d _ _ _ _ _ h _ _ _ _ ⟨_, _, _, _, S⟩ => S.p1.c 1 (v := .string (mkS y.2.1)) rfl)
    (fun d _ _ _ _ _ h k _ _ _ h15 _ ⟨j1, _, j3, j4, S⟩ hk => cmpS (hk _ _ ⟨j1, fun _ => rfl, j3, j4, by show St (cond (d 15) _ _ :: _) _; rw [h15]; exact S.tl.emp'⟩))
    (fun d _ _ _ _ _ h _ _ _ ⟨_, _, _, _, S⟩ => S.p2.c 2 (v := .string (mkS x.2.2)) rfl)
    (fun d _ _ _ _ _ h _ _ _ ⟨_, _, _, _, S⟩ => S.p1.c 2 (v := .string (mkS y.2.2)) rfl)
    (fun d _ _ _ _ _ h k _ _ _ h15 _ ⟨j1, j2, _, j4, S⟩ hk => cmpS (hk _ _ ⟨j1, j2, fun _ => rfl, j4, by show St (cond (d 15) _ _ :: _) _; rw [h15]; exact S.tl.emp'⟩))
    (fun d n8 n18 n28 _ _ h k _ _ _ _ _ ⟨j1, j2, j3, j4, S⟩ hk => St.bd1 (cs := [.int .i64 n8, .int .i64 n18, .int .i64 n28]) S.tl fun S' => hk _ _ ⟨j1, j2, j3, j4, S'⟩)
    (fun d n8 n18 n28 a34 _ h k _ h4 h9 h14 h15 ⟨j1, j2, j3, j4, S⟩ hk => by
      rw [h15] at S
      have S : St (Bx a34 [.int .i64 n8, .int .i64 n18, .int .i64 n28] :: Bx t1 (bc y) :: Bx t0 (bc x) :: L) h := S
      refine orS ⟨rfl, S.mem.1⟩ (hk _ _ ⟨j1, j2, j3, fun _ => by rw [j1 h4, j2 h9, j3 h14], ?_⟩)
      show St (cond (d 15) _ _ :: _) h
      rw [h15]
      exact S)
    (fun d _ _ _ _ _ h _ _ _ _ h16 ⟨_, _, _, j4, S⟩ => by
      unfold qbi.j1
      rw [j4 h16]
      exact hK h S.tl.tl.tl)
end
theorem sort_bind.orderV {L : List Asr} {h : Heap} {K : KT} (S : St L h) {x y : BN} (hK : ∀ m h', decide (m < 0) = sort_bind.o.lt x y → St L h' → K (.int .i64 m) h') : CallV P sort_bind.fc [.agg (List.toArray (bc x)), .agg (List.toArray (bc y))] K h :=
  callV_fn (orderS S fun h' S' => hK _ h' (sort_bind.or_lt x y) S')
end Go.Proofs.YtechpnlbkkfplaaGreatDoor.Pr
end
section
set_option linter.unusedVariables false
set_option linter.unusedSimpArgs false
set_option linter.unusedSectionVars false
namespace Go.Proofs.YtechpnlbkkfplaaGreatDoor.Pr.sort_bind
open Go Go.Lift Go.Proofs
abbrev rw (n : Nat) (f : Nat → BN) : List Value := (rowF n f).flatMap bc
theorem rw_swap {n i j : Nat} (f : Nat → BN) (hi : i < n) (hj : j < n) : ((rowF n f).set i (f j)).set j (f i) = rowF n (swp f i j) := by
  apply List.ext_getElem?
  intro k
  by_cases hk : k < n
  · rw [rowF_get _ hk, List.getElem?_set, List.getElem?_set, List.length_set, rowF_len, rowF_get _ hk]
    by_cases h1 : j = k
    · subst h1
      rw [if_pos rfl, if_pos hj]
      by_cases h2 : j = i
      · subst h2; simp [swp]
      · simp [swp, h2]
    · rw [if_neg h1]
      by_cases h2 : i = k
      · subst h2
        rw [if_pos rfl, if_pos hi]
        simp [swp]
      · rw [if_neg h2]
        have h3 : ¬ k = i := fun e => h2 e.symm
        have h4 : ¬ k = j := fun e => h1 e.symm
        simp [swp, h3, h4]
  · rw [List.getElem?_eq_none (by simp [rowF_len]; omega), List.getElem?_eq_none (by rw [rowF_len]; omega)]
section
variable {K : KT} {L : List Asr} {h : Heap}
theorem rlen {s : SV} {n : Nat} {f : Nat → BN} (S : St (Ow 3 s (rw n f) :: L) h) : s.2.1 = n := by
  have := S.ow.1
  rw [flat_length bc3, rowF_len] at this
  omega
theorem less2T {s : SV} {n : Nat} {f : Nat → BN} {x y : Int} {i j : Nat} {R : Int → Heap → Prop} (S : St (Ow 3 s (rw n f) :: L) h) (hx : x = i) (hy : y = j) (hi : i < n) (hj : j < n) (hR : ∀ m h', decide (m < 0) = o.lt (f i) (f j) → St (Ow 3 s (rw n f) :: L) h' → R m h') :
    ∃ p, s.1 = some p ∧ (0 : Int) ≤ x ∧ x < ((s.2.1 : Nat) : Int) ∧ ∃ q, s.1 = some q ∧ (0 : Int) ≤ y ∧ y < ((s.2.1 : Nat) : Int) ∧ ∃ cs, rdC h (Addr.add p (Int.toNat x * 3)) 0 3 = some cs ∧ ∃ cs', rdC h (Addr.add q (Int.toNat y * 3)) 0 3 = some cs' ∧
      CallV P fc [.agg (List.toArray cs), .agg (List.toArray cs')] (fun v h' => ∃ n, v = .int .i64 n ∧ R n h') h := by
  obtain ⟨p, ep, p0, p1, cs, rd, e⟩ := ixS bc3 (by decide) S.sl hx (rowF_get f hi) (R := fun cs => cs = bc (f i)) rfl
  obtain ⟨q, eq, q0, q1, cs', rd', e'⟩ := ixS bc3 (by decide) S.sl hy (rowF_get f hj) (R := fun cs => cs = bc (f j)) rfl
  subst e
  subst e'
  exact ⟨p, ep, p0, p1, q, eq, q0, q1, _, rd, _, rd', orderV S fun m h' em S' => ⟨_, rfl, hR m h' em S'⟩⟩
theorem swapT {s : SV} {n : Nat} {f : Nat → BN} {x y : Int} {i j : Nat} {Q : Heap → Prop} (S : St (Ow 3 s (rw n f) :: L) h) (hx : x = i) (hy : y = j) (hi : i < n) (hj : j < n) (hQ : ∀ h', St (Ow 3 s (rw n (swp f j i)) :: L) h' → Q h') :
    ∃ p, s.1 = some p ∧ (0 : Int) ≤ x ∧ x < ((s.2.1 : Nat) : Int) ∧ ∃ q, s.1 = some q ∧ (0 : Int) ≤ y ∧ y < ((s.2.1 : Nat) : Int) ∧ ∃ cs, rdC h (Addr.add p (Int.toNat x * 3)) 0 3 = some cs ∧ ∃ cs', rdC h (Addr.add q (Int.toNat y * 3)) 0 3 = some cs' ∧
      ∃ p', s.1 = some p' ∧ (0 : Int) ≤ y ∧ y < ((s.2.1 : Nat) : Int) ∧ cs.length = 3 ∧ ∃ h1, stC h (Addr.add p' (Int.toNat y * 3)) 0 cs = some h1 ∧ ∃ q', s.1 = some q' ∧ (0 : Int) ≤ x ∧ x < ((s.2.1 : Nat) : Int) ∧ cs'.length = 3 ∧ ∃ h2, stC h1 (Addr.add q' (Int.toNat x * 3)) 0 cs' = some h2 ∧ Q h2 := by
  obtain ⟨p, ep, p0, p1, cs, rd, e⟩ := ixS bc3 (by decide) S.sl hx (rowF_get f hi) (R := fun cs => cs = bc (f i)) rfl
  obtain ⟨q, eq, q0, q1, cs', rd', e'⟩ := ixS bc3 (by decide) S.sl hy (rowF_get f hj) (R := fun cs => cs = bc (f j)) rfl
  subst e
  subst e'
  obtain ⟨a, a1, a2, a3, h1, a4, S1⟩ := S.owSetN bc3 bc_one (by decide) (i := y) (n := j) hy (by rw [rowF_len]; exact hj) (f i)
  obtain ⟨b, b1, b2, b3, h2, b4, S2⟩ := S1.owSetN bc3 bc_one (by decide) (i := x) (n := i) hx (by rw [List.length_set, rowF_len]; exact hi) (f j)
  rw [rw_swap f hj hi] at S2
  exact ⟨p, ep, p0, p1, q, eq, q0, q1, _, rd, _, rd', a, a1, a2, a3, rfl, h1, a4, b, b1, b2, b3, rfl, h2, b4, hQ h2 S2⟩
theorem ins_inner {s : SV} {n a b i : Nat} {f0 : Nat → BN} {R1 : OA → Nat → Nat → Int → Int → Value → Int → Heap → Prop} (hn : n < 4611686018427387904) (hab : a < i ∧ i < b ∧ b ≤ n)
    (hQ : ∀ h' f, Pm a b f0 f → o.Srt a (i + 1) f → St (Ow 3 s (rw n f) :: L) h' → qaj.j2 K R1 s.1 s.2.1 s.2.2 a b fc i h') :
    ∀ (fuel j : Nat) (f : Nat → BN) (h : Heap), j < fuel → a ≤ j → j ≤ i → Pm a b f0 f → InsI o a i j f → St (Ow 3 s (rw n f) :: L) h → qaj.L3 K R1 fuel s.1 s.2.1 s.2.2 a b fc i j h
  | 0, _, _, _, hf, _, _, _, _, _ => absurd hf (Nat.not_lt_zero _)
  | fuel + 1, j, f, h, hf, ha, hj, pm, iv, S => by
    unfold qaj.L3
    have stop : ∀ h, St (Ow 3 s (rw n f) :: L) h → (a < j → o.lt (f j) (f (j - 1)) = false) → qaj.j4 K R1 (qaj.L3 K R1 fuel) s.1 s.2.1 s.2.2 a b fc i j false h := by
      intro h S e
      unfold qaj.j4
      exact ifF rfl (hQ h f pm (iv.done hj e) S)
    by_cases hgt : j > a
    · have ew : IntKind.i64.wrap ((j : Int) - 1) = ((j - 1 : Nat) : Int) := by rw [wrapI (by omega) (by omega)]; omega
      rw [ew]
      refine ifT (by simp; omega) (less2T (i := j) (j := j - 1) S rfl rfl (by omega) (by omega) ?_)
      intro nn h hnn S
      rw [hnn]
      cases hl : o.lt (f j) (f (j - 1)) with
      | false => exact stop h S (fun _ => hl)
      | true =>
        unfold qaj.j4
        rw [ew]
        refine ifT rfl (swapT (i := j - 1) (j := j) S rfl rfl (by omega) (by omega) fun h2 S2 => ?_)
        simp only [bd]
        exact ins_inner hn hab hQ fuel (j - 1) _ h2 (by omega) (by omega) (by omega) (pm.trans (swp_pm f ⟨by omega, by omega⟩ ⟨by omega, by omega⟩)) (iv.swap hgt hj hl) S2
    · exact ifF (by simp; omega) (stop h S (fun e => absurd e hgt))
theorem ins_outer {s : SV} {n a b : Nat} {f0 : Nat → BN} (hn : n < 4611686018427387904) (hb : b ≤ n) (hK : ∀ h' f, Pm a b f0 f → o.Srt a b f → St (Ow 3 s (rw n f) :: L) h' → K (.tuple #[]) h') :
    ∀ (fuel i : Nat) (f : Nat → BN) (h : Heap), b - i < fuel → a < i → Pm a b f0 f → o.Srt a i f → St (Ow 3 s (rw n f) :: L) h → qaj.L1 K fuel s.1 s.2.1 s.2.2 a b fc i h
  | 0, _, _, _, hf, _, _, _, _ => absurd hf (Nat.not_lt_zero _)
  | fuel + 1, i, f, h, hf, ha, pm, sr, S => by
    unfold qaj.L1
    by_cases hlt : i < b
    · refine ifT (by simp; omega) ⟨i + 1, ins_inner hn ⟨ha, hlt, hb⟩ (fun h' g pg sg Sg => ?_) _ i f h (Nat.lt_succ_self _) (by omega) (Nat.le_refl _) pm (InsI.start sr) S⟩
      unfold qaj.j2
      simp only [bd]
      rw [show IntKind.i64.wrap ((i : Int) + 1) = ((i + 1 : Nat) : Int) by rw [wrapI (by omega) (by omega)]; omega]
      exact ins_outer hn hb hK fuel (i + 1) g h' (by omega) (by omega) pg sg Sg
    · exact ifF (by simp; omega) (hK h f pm (fun p q hp hpq hq => sr p q hp hpq (by omega)) S)
theorem insS {s : SV} {n a b : Nat} {f : Nat → BN} (S : St (Ow 3 s (rw n f) :: L) h) (hn : n < 4611686018427387904) (ha : a ≤ n) (hb : b ≤ n) (hK : ∀ h' g, Pm a b f g → o.Srt a b g → St (Ow 3 s (rw n g) :: L) h' → K (.tuple #[]) h') :
    CallsH P F.qaj [.slice s.1 s.2.1 s.2.2, .int .i64 a, .int .i64 b, fc] K h := by
  refine qaj.ok ?_
  unfold qaj.p0
  simp only [bd]
  rw [show IntKind.i64.wrap ((a : Int) + 1) = ((a + 1 : Nat) : Int) by rw [wrapI (by omega) (by omega)]; omega]
  exact ⟨_, ins_outer hn hb hK _ (a + 1) f h (Nat.lt_succ_self _) (by omega) (Pm.refl _ _ _) (fun p q hp hpq hq => by omega) S⟩
abbrev sh (first : Nat) (f : Nat → BN) : Nat → BN := fun k => f (first + k)
theorem sh_swp (first r c : Nat) (f : Nat → BN) : sh first (swp f (first + r) (first + c)) = swp (sh first f) r c := by
  funext k
  unfold sh swp
  by_cases h1 : k = r
  · subst h1; simp
  · by_cases h2 : k = c
    · subst h2; simp [h1]
    · rw [if_neg (by omega), if_neg (by omega), if_neg h1, if_neg h2]
theorem sift_loop {s : SV} {n lo hi first : Nat} {f0 : Nat → BN} (hn : n < 2305843009213693952) (hh : first + hi ≤ n ∧ lo ≤ n) (hK : ∀ h' f, Pm (first + lo) (first + hi) f0 f → Heapy o lo hi (sh first f) → St (Ow 3 s (rw n f) :: L) h' → K (.tuple #[]) h') :
    ∀ (fuel r : Nat) (f : Nat → BN) (h : Heap), hi - r < fuel → lo ≤ r → r ≤ n → Pm (first + lo) (first + hi) f0 f → HeapyBut o lo hi r (sh first f) → St (Ow 3 s (rw n f) :: L) h → qap.L1 K fuel s.1 s.2.1 s.2.2 hi first fc r h
  | 0, _, _, _, hf, _, _, _, _, _ => absurd hf (Nat.not_lt_zero _)
  | fuel + 1, r, f, h, hf, hr, hrn, pm, hb, S => by
    unfold qap.L1
    simp only [bd]
    by_cases hbig : 2 * r + 1 ≥ hi
    · rw [show IntKind.i64.wrap ((IntKind.i64.wrap ((2 : Int) * (r : Int))) + 1) = ((2 * r + 1 : Nat) : Int) by rw [wrapI (n := 2 * (r : Int)) (by omega) (by omega), wrapI (by omega) (by omega)]; omega]
      exact ifT (by simp; omega) (hK h f pm (hb.done fun c hc hlt => by omega) S)
    rw [show IntKind.i64.wrap ((IntKind.i64.wrap ((2 : Int) * (r : Int))) + 1) = ((2 * r + 1 : Nat) : Int) by rw [wrapI (n := 2 * (r : Int)) (by omega) (by omega), wrapI (by omega) (by omega)]; omega]
    refine ifF (by simp; omega) ?_
    have w1 : ∀ k : Nat, k < hi → IntKind.i64.wrap ((first : Int) + ((k : Nat) : Int)) = ((first + k : Nat) : Int) := fun k hk => by rw [wrapI (by omega) (by omega)]; omega
    have w2 : IntKind.i64.wrap (((2 * r + 1 : Nat) : Int) + 1) = ((2 * r + 2 : Nat) : Int) := by rw [wrapI (by omega) (by omega)]; omega
    have j2 : ∀ h, St (Ow 3 s (rw n f) :: L) h → ∀ c : Nat, (c = 2 * r + 1 ∨ c = 2 * r + 2) → c < hi → (∀ d, (d = 2 * r + 1 ∨ d = 2 * r + 2) → d < hi → o.le (sh first f d) (sh first f c)) → qap.j2 K (qap.L1 K fuel) s.1 s.2.1 s.2.2 hi first fc r c h := by
      intro h S c hc hlt hmax
      unfold qap.j2
      rw [w1 r (by omega), w1 c hlt]
      refine less2T (i := first + r) (j := first + c) S rfl rfl (by omega) (by omega) ?_
      intro nn h hnn S
      rw [hnn]
      cases hl : o.lt (f (first + r)) (f (first + c)) with
      | false => exact ifT rfl (hK h f pm (hb.done fun d hd hdl => o.le_trans (hmax d hd hdl) hl) S)
      | true =>
        refine ifF rfl (swapT (i := first + c) (j := first + r) S rfl rfl (by omega) (by omega) fun h2 S2 => ?_)
        refine sift_loop hn hh hK fuel c _ h2 (by omega) (by omega) (by omega) (pm.trans (swp_pm f ⟨by omega, by omega⟩ ⟨by omega, by omega⟩)) ?_ S2
        rw [sh_swp]
        exact hb.step hr hc hlt (o.le_of_lt hl) hmax
    rw [w2]
    by_cases h2 : 2 * r + 2 < hi
    · rw [w1 _ (by omega), show IntKind.i64.wrap (((first + (2 * r + 1) : Nat) : Int) + 1) = ((first + (2 * r + 2) : Nat) : Int) by rw [wrapI (by omega) (by omega)]; omega]
      refine ifT (by simp; omega) (less2T (i := first + (2 * r + 1)) (j := first + (2 * r + 2)) S rfl rfl (by omega) (by omega) ?_)
      intro nn h hnn S
      rw [hnn]
      unfold qap.j3
      rw [w2]
      cases hl : o.lt (f (first + (2 * r + 1))) (f (first + (2 * r + 2))) with
      | true =>
        refine ifT rfl ?_
        simp only [bd]
        exact j2 h S (2 * r + 2) (.inr rfl) h2 fun d hd hdl => by
          rcases hd with rfl | rfl
          · exact o.le_of_lt hl
          · exact o.le_refl _
      | false =>
        exact ifF rfl (j2 h S (2 * r + 1) (.inl rfl) (by omega) fun d hd hdl => by
          rcases hd with rfl | rfl
          · exact o.le_refl _
          · exact hl)
    · refine ifF (by simp; omega) ?_
      unfold qap.j3
      exact ifF rfl (j2 h S (2 * r + 1) (.inl rfl) (by omega) fun d hd hdl => by
          rcases hd with rfl | rfl
          · exact o.le_refl _
          · omega)
theorem siftS {s : SV} {n lo hi first : Nat} {f : Nat → BN} (S : St (Ow 3 s (rw n f) :: L) h) (hn : n < 2305843009213693952) (hh : first + hi ≤ n ∧ lo ≤ n) (hb : HeapyBut o lo hi lo (sh first f))
    (hK : ∀ h' g, Pm (first + lo) (first + hi) f g → Heapy o lo hi (sh first g) → St (Ow 3 s (rw n g) :: L) h' → K (.tuple #[]) h') : CallsH P F.qap [.slice s.1 s.2.1 s.2.2, .int .i64 lo, .int .i64 hi, .int .i64 first, fc] K h := by
  refine qap.ok ?_
  unfold qap.p0
  exact ⟨_, sift_loop hn hh hK _ lo f h (Nat.lt_succ_self _) (Nat.le_refl _) hh.2 (Pm.refl _ _ _) hb S⟩
theorem heap_out {s : SV} {n hi first : Nat} {f0 : Nat → BN} (hn : n < 2305843009213693952) (hh : first + hi ≤ n) (hK : ∀ h' f, Pm first (first + hi) f0 f → o.Srt 0 hi (sh first f) → St (Ow 3 s (rw n f) :: L) h' → K (.tuple #[]) h') :
    ∀ (fuel c : Nat) (f : Nat → BN) (h : Heap) (x : Int), c < fuel → x = (c : Int) - 1 → c ≤ hi → Pm first (first + hi) f0 f → Heapy o 0 c (sh first f) → o.Srt c hi (sh first f) → (∀ p q, p < c → c ≤ q → q < hi → o.le (sh first f p) (sh first f q)) → St (Ow 3 s (rw n f) :: L) h → qat.L2 K fuel s.1 s.2.1 s.2.2 fc first 0 x h
  | 0, _, _, _, _, hf, _, _, _, _, _, _, _ => absurd hf (Nat.not_lt_zero _)
  | fuel + 1, c, f, h, x, hf, hx, hc, pm, hp, sr, ab, S => by
    unfold qat.L2
    subst hx
    cases c with
    | zero => exact ifF (by simp) (hK h f pm sr S)
    | succ c =>
      have e1 : ((c + 1 : Nat) : Int) - 1 = ((c : Nat) : Int) := by omega
      rw [e1]
      refine ifT (by simp) ?_
      have w1 : IntKind.i64.wrap ((first : Int) + (c : Int)) = ((first + c : Nat) : Int) := by rw [wrapI (by omega) (by omega)]; omega
      rw [w1]
      refine swapT (i := first + c) (j := first) S rfl rfl (by omega) (by omega) fun h2 S2 => ?_
      have p2 : Pm first (first + hi) f (swp f first (first + c)) := swp_pm f ⟨by omega, by omega⟩ ⟨by omega, by omega⟩
      have es : sh first (swp f first (first + c)) = swp (sh first f) 0 c := sh_swp first 0 c f
      have hbut : HeapyBut o 0 c 0 (sh first (swp f first (first + c))) := by
        rw [es]
        constructor
        · intro k d hk hne hd hdl
          unfold swp
          rw [if_neg (by omega), if_neg (by omega), if_neg (by omega), if_neg (by omega)]
          exact hp k d hk hd (by omega)
        · intro p d _ h0 _ _
          omega
      refine siftS (lo := 0) S2 hn ⟨by omega, by omega⟩ hbut fun h3 g pg hg Sg => ⟨rfl, ?_⟩
      have pw : Pm first (first + hi) (swp f first (first + c)) g := pg.wide (Nat.le_refl _) (by omega)
      have top := hp.top
      have eq : ∀ k, c ≤ k → sh first g k = swp (sh first f) 0 c k := fun k hk => by
        rw [← es]
        exact pg.out (.inr (by omega))
      have inn : ∀ k, k < c → ∃ j, j < c ∧ sh first g k = swp (sh first f) 0 c j := fun k hk => by
        obtain ⟨j, j1, j2, j3⟩ := pg.inn (k := first + k) ⟨by omega, by omega⟩
        refine ⟨j - first, by omega, ?_⟩
        rw [← es]
        show g (first + k) = swp f first (first + c) (first + (j - first))
        rw [j3, show first + (j - first) = j by omega]
      have low : ∀ j, j < c → ∃ i, i < c + 1 ∧ swp (sh first f) 0 c j = sh first f i := fun j hj => by
        unfold swp
        by_cases h0 : j = 0
        · rw [if_pos h0]; exact ⟨c, by omega, rfl⟩
        · rw [if_neg h0, if_neg (by omega)]; exact ⟨j, by omega, rfl⟩
      have at' : swp (sh first f) 0 c c = sh first f 0 := by
        unfold swp
        by_cases h0 : c = 0
        · subst h0; rw [if_pos rfl]
        · rw [if_neg h0, if_pos rfl]
      have hig : ∀ q, c < q → swp (sh first f) 0 c q = sh first f q := fun q hq => by
        unfold swp
        rw [if_neg (by omega), if_neg (by omega)]
      simp only [bd]
      rw [show IntKind.i64.wrap ((c : Int) - 1) = (c : Int) - 1 by rw [wrapI (by omega) (by omega)]]
      refine heap_out hn hh hK fuel c g h3 _ (by omega) rfl (by omega) (pm.trans (p2.trans pw)) hg ?_ ?_ Sg
      · intro x y hx hxy hy
        rw [eq x hx, eq y (by omega), hig y (by omega)]
        by_cases hxc : x = c
        · subst hxc; rw [at']; exact ab 0 y (by omega) (by omega) hy
        · rw [hig x (by omega)]; exact sr x y (by omega) hxy hy
      · intro p q hp' hq hqh
        obtain ⟨j, j1, j2⟩ := inn p hp'
        obtain ⟨i, i1, i2⟩ := low j j1
        rw [j2, i2, eq q hq]
        by_cases hqc : q = c
        · subst hqc; rw [at']; exact top i i1
        · rw [hig q (by omega)]; exact ab i q i1 (by omega) hqh
theorem heap_in {s : SV} {n hi first : Nat} {f0 : Nat → BN} (hn : n < 2305843009213693952) (hh : first + hi ≤ n) (hi1 : 1 ≤ hi) (hK : ∀ h' f, Pm first (first + hi) f0 f → o.Srt 0 hi (sh first f) → St (Ow 3 s (rw n f) :: L) h' → K (.tuple #[]) h') :
    ∀ (fuel m : Nat) (f : Nat → BN) (h : Heap) (x : Int), m < fuel → x = (m : Int) - 1 → m ≤ hi → Pm first (first + hi) f0 f → Heapy o m hi (sh first f) → St (Ow 3 s (rw n f) :: L) h → qat.L3 K fuel s.1 s.2.1 s.2.2 fc first 0 hi x h
  | 0, _, _, _, _, hf, _, _, _, _, _ => absurd hf (Nat.not_lt_zero _)
  | fuel + 1, m, f, h, x, hf, hx, hc, pm, hp, S => by
    unfold qat.L3
    subst hx
    cases m with
    | zero =>
      refine ifF (by simp) ?_
      unfold qat.j1
      simp only [bd]
      rw [show IntKind.i64.wrap ((hi : Int) - 1) = (hi : Int) - 1 by rw [wrapI (by omega) (by omega)]]
      exact ⟨_, heap_out hn hh hK _ hi f h _ (Nat.lt_succ_self _) rfl (Nat.le_refl _) pm hp (fun x y h1 h2 h3 => by omega) (fun p q h1 h2 h3 => by omega) S⟩
    | succ m =>
      have e1 : ((m + 1 : Nat) : Int) - 1 = ((m : Nat) : Int) := by omega
      rw [e1]
      refine ifT (by simp) (siftS (lo := m) S hn ⟨by omega, by omega⟩ ⟨?_, ?_⟩ fun h3 g pg hg Sg => ⟨rfl, ?_⟩)
      · intro k c hk hne hcc hl
        exact hp k c (by omega) hcc hl
      · intro p c hp' hr _ _
        omega
      · simp only [bd]
        rw [show IntKind.i64.wrap ((m : Int) - 1) = (m : Int) - 1 by rw [wrapI (by omega) (by omega)]]
        exact heap_in hn hh hi1 hK fuel m g h3 _ (by omega) rfl (by omega) (pm.trans (pg.wide (by omega) (Nat.le_refl _))) hg Sg
theorem heapS {s : SV} {n a b : Nat} {f : Nat → BN} (S : St (Ow 3 s (rw n f) :: L) h) (hn : n < 2305843009213693952) (ha : a < b) (hb : b ≤ n) (hK : ∀ h' g, Pm a b f g → o.Srt a b g → St (Ow 3 s (rw n g) :: L) h' → K (.tuple #[]) h') :
    CallsH P F.qat [.slice s.1 s.2.1 s.2.2, .int .i64 a, .int .i64 b, fc] K h := by
  refine qat.ok ?_
  unfold qat.p0
  simp only [bd]
  rw [show IntKind.i64.wrap ((b : Int) - (a : Int)) = ((b - a : Nat) : Int) by rw [wrapI (by omega) (by omega)]; omega]
  refine ⟨by decide, ?_⟩
  have e : IntKind.i64.wrap (Int.tdiv (IntKind.i64.wrap (((b - a : Nat) : Int) - 1)) 2) = (((b - a - 1) / 2 + 1 : Nat) : Int) - 1 := by
    rw [wrapI (n := ((b - a : Nat) : Int) - 1) (by omega) (by omega), show ((b - a : Nat) : Int) - 1 = ((b - a - 1 : Nat) : Int) by omega]
    rw [show Int.tdiv ((b - a - 1 : Nat) : Int) 2 = (((b - a - 1) / 2 : Nat) : Int) from rfl, wrapI (by omega) (by omega)]
    omega
  rw [e]
  refine ⟨_, heap_in (hi := b - a) hn (by omega) (by omega) (fun h' g pg sg Sg => ?_) _ ((b - a - 1) / 2 + 1) f h _ (Nat.lt_succ_self _) rfl (by omega) (Pm.refl _ _ _) (fun k c h1 h2 h3 => by omega) S⟩
  rw [show a + (b - a) = b by omega] at pg
  refine hK h' g pg (fun x y h1 h2 h3 => ?_) Sg
  have := sg (x - a) (y - a) (Nat.zero_le _) (by omega) (by omega)
  unfold sh at this
  rwa [show a + (x - a) = x by omega, show a + (y - a) = y by omega] at this
theorem rev_loop {s : SV} {n a b : Nat} {f0 : Nat → BN} (hn : n < 4611686018427387904) (hb : b ≤ n) (hK : ∀ h' f, Pm a b f0 f → St (Ow 3 s (rw n f) :: L) h' → K (.tuple #[]) h') :
    ∀ (fuel i j : Nat) (f : Nat → BN) (h : Heap), j + 1 - i < fuel → a ≤ i → j < b → i ≤ b → Pm a b f0 f → St (Ow 3 s (rw n f) :: L) h → qbf.L1 K fuel s.1 s.2.1 s.2.2 i j h
  | 0, _, _, _, _, hf, _, _, _, _, _ => absurd hf (Nat.not_lt_zero _)
  | fuel + 1, i, j, f, h, hf, hi, hj, hib, pm, S => by
    unfold qbf.L1
    by_cases hlt : i < j
    · refine ifT (by simp; omega) (swapT (i := j) (j := i) S rfl rfl (by omega) (by omega) fun h2 S2 => ?_)
      simp only [bd]
      rw [show IntKind.i64.wrap ((i : Int) + 1) = ((i + 1 : Nat) : Int) by rw [wrapI (by omega) (by omega)]; omega, show IntKind.i64.wrap ((j : Int) - 1) = ((j - 1 : Nat) : Int) by rw [wrapI (by omega) (by omega)]; omega]
      exact rev_loop hn hb hK fuel (i + 1) (j - 1) _ h2 (by omega) (by omega) (by omega) (by omega) (pm.trans (swp_pm f ⟨by omega, by omega⟩ ⟨by omega, by omega⟩)) S2
    · exact ifF (by simp; omega) (hK h f pm S)
theorem revS {s : SV} {n a b : Nat} {f : Nat → BN} (S : St (Ow 3 s (rw n f) :: L) h) (hn : n < 4611686018427387904) (ha : a < b) (hb : b ≤ n) (hK : ∀ h' g, Pm a b f g → St (Ow 3 s (rw n g) :: L) h' → K (.tuple #[]) h') :
    CallsH P F.qbf [.slice s.1 s.2.1 s.2.2, .int .i64 a, .int .i64 b, fc] K h := by
  refine qbf.ok ?_
  unfold qbf.p0
  simp only [bd]
  rw [show IntKind.i64.wrap ((b : Int) - 1) = ((b - 1 : Nat) : Int) by rw [wrapI (by omega) (by omega)]; omega]
  exact ⟨_, rev_loop hn hb hK _ a (b - 1) f h (Nat.lt_succ_self _) (Nat.le_refl _) (by omega) (by omega) (Pm.refl _ _ _) S⟩
theorem order2S {s : SV} {n : Nat} {f : Nat → BN} {a b : Nat} {c : Addr} {cs : List Value} {x : Int} (S : St (Ow 3 s (rw n f) :: Bx c [.int .i64 x] :: L) h) (ha : a < n) (hb : b < n)
    (hK : ∀ h' (i j : Nat) (y : Int), (i = a ∧ j = b ∨ i = b ∧ j = a) → St (Ow 3 s (rw n f) :: Bx c [.int .i64 y] :: L) h' → K (.tuple #[.int .i64 i, .int .i64 j]) h') :
    CallsH P F.qbu [.slice s.1 s.2.1 s.2.2, .int .i64 a, .int .i64 b, .pointer (some c), fc] K h := by
  refine qbu.ok ?_
  unfold qbu.p0
  refine less2T (i := b) (j := a) S rfl rfl hb ha ?_
  intro nn h hnn S
  rw [hnn]
  cases hl : o.lt (f b) (f a) with
  | false => exact ifF rfl (hK h a b x (.inl ⟨rfl, rfl⟩) S)
  | true =>
    refine ifT rfl ⟨c, rfl, x, ?_, c, rfl, ?_⟩
    · have := S.p1.c 0 (v := .int .i64 x) rfl
      exact this
    · refine S.p1.wr 0 (by simp) rfl fun h' S' => ?_
      exact hK h' b a _ (.inr ⟨rfl, rfl⟩) S'.p1
theorem medianS {s : SV} {n : Nat} {f : Nat → BN} {a b d : Nat} {c : Addr} {x : Int} (S : St (Ow 3 s (rw n f) :: Bx c [.int .i64 x] :: L) h) (ha : a < n) (hb : b < n) (hd : d < n)
    (hK : ∀ h' (i : Nat) (y : Int), (i = a ∨ i = b ∨ i = d) → St (Ow 3 s (rw n f) :: Bx c [.int .i64 y] :: L) h' → K (.int .i64 i) h') :
    CallsH P F.qbv [.slice s.1 s.2.1 s.2.2, .int .i64 a, .int .i64 b, .int .i64 d, .pointer (some c), fc] K h := by
  refine qbv.ok ?_
  unfold qbv.p0
  refine order2S (cs := []) S ha hb fun h1 a1 b1 y1 e1 S1 => ⟨_, _, rfl, ?_⟩
  refine order2S (cs := []) S1 (by omega) hd fun h2 b2 d2 y2 e2 S2 => ⟨_, _, rfl, ?_⟩
  refine order2S (cs := []) S2 (by omega) (by omega) fun h3 a3 b3 y3 e3 S3 => ⟨_, _, rfl, ?_⟩
  exact hK h3 b3 y3 (by omega) S3
theorem medAdjS {s : SV} {n : Nat} {f : Nat → BN} {a : Nat} {c : Addr} {x : Int} (S : St (Ow 3 s (rw n f) :: Bx c [.int .i64 x] :: L) h) (hn : n < 4611686018427387904) (ha : 1 ≤ a) (hb : a + 1 < n)
    (hK : ∀ h' (i : Nat) (y : Int), (a ≤ i + 1 ∧ i ≤ a + 1) → St (Ow 3 s (rw n f) :: Bx c [.int .i64 y] :: L) h' → K (.int .i64 i) h') :
    CallsH P F.qbr [.slice s.1 s.2.1 s.2.2, .int .i64 a, .pointer (some c), fc] K h := by
  refine qbr.ok ?_
  unfold qbr.p0
  rw [show IntKind.i64.wrap ((a : Int) - 1) = ((a - 1 : Nat) : Int) by rw [wrapI (by omega) (by omega)]; omega, show IntKind.i64.wrap ((a : Int) + 1) = ((a + 1 : Nat) : Int) by rw [wrapI (by omega) (by omega)]; omega]
  exact medianS S (by omega) (by omega) (by omega) fun h' i y e S' => ⟨_, rfl, hK h' i y (by omega) S'⟩
theorem pivotS {s : SV} {n a b : Nat} {f : Nat → BN} (S : St (Ow 3 s (rw n f) :: L) h) (hn : n < 4611686018427387904) (ha : a + 12 < b) (hb : b ≤ n) (hK : ∀ h' (i : Nat) (y : Int), a ≤ i → i < b → St (Ow 3 s (rw n f) :: L) h' → K (.tuple #[.int .i64 i, .int .i64 y]) h') :
    CallsH P F.qax [.slice s.1 s.2.1 s.2.2, .int .i64 a, .int .i64 b, fc] K h := by
  refine qax.ok ?_
  unfold qax.p0
  simp only [bd]
  rw [show IntKind.i64.wrap ((b : Int) - (a : Int)) = ((b - a : Nat) : Int) by rw [wrapI (by omega) (by omega)]; omega]
  have S0 : St (Ow 3 s (rw n f) :: Bx (top h) [.int .i64 0] :: L) (al h #[.int .i64 0] T.int) := (S.al [.int .i64 0] T.int).p1
  have eq4 : IntKind.i64.wrap (Int.tdiv ((b - a : Nat) : Int) 4) = (((b - a) / 4 : Nat) : Int) := by
    rw [show Int.tdiv ((b - a : Nat) : Int) 4 = (((b - a) / 4 : Nat) : Int) from rfl, wrapI (by omega) (by omega)]
  have ek : ∀ k : Nat, 1 ≤ k → k ≤ 3 → IntKind.i64.wrap ((a : Int) + IntKind.i64.wrap ((((b - a) / 4 : Nat) : Int) * ((k : Nat) : Int))) = ((a + (b - a) / 4 * k : Nat) : Int) := fun k h1 h3 => by
    have hm : (b - a) / 4 * k ≤ (b - a) / 4 * 3 := Nat.mul_le_mul_left _ h3
    rw [show (((b - a) / 4 : Nat) : Int) * (k : Int) = (((b - a) / 4 * k : Nat) : Int) by rw [Int.natCast_mul], wrapI (n := (((b - a) / 4 * k : Nat) : Int)) (by omega) (by omega), wrapI (by omega) (by omega)]
    omega
  rw [eq4, show IntKind.i64.wrap ((a : Int) + IntKind.i64.wrap ((((b - a) / 4 : Nat) : Int) * 1)) = _ from ek 1 (by omega) (by omega), show IntKind.i64.wrap ((a : Int) + IntKind.i64.wrap ((((b - a) / 4 : Nat) : Int) * 2)) = _ from ek 2 (by omega) (by omega), show IntKind.i64.wrap ((a : Int) + IntKind.i64.wrap ((((b - a) / 4 : Nat) : Int) * 3)) = _ from ek 3 (by omega) (by omega)]
  refine ⟨by decide, by decide, by decide, ?_⟩
  have j2 : ∀ (i j k : Nat) (x : Int) (h' : Heap), a ≤ i → i < b → a ≤ j → j < b → a ≤ k → k < b → St (Ow 3 s (rw n f) :: Bx (top h) [.int .i64 x] :: L) h' → qax.j2 K s.1 s.2.1 s.2.2 fc (top h) i j k h' := by
    intro i j k x h' i1 i2 j1 j2 k1 k2 S'
    unfold qax.j2
    refine medianS S' (by omega) (by omega) (by omega) fun h3 m y e S3 => ⟨_, rfl, ?_⟩
    unfold qax.j1
    refine ⟨y, S3.p1.c 0 rfl, ?_⟩
    simp only [bd]
    have S4 : St (Ow 3 s (rw n f) :: L) h3 := S3.p1.tl
    exact ⟨fun _ => hK h3 m 1 (by omega) (by omega) S4, fun _ => ⟨fun _ => hK h3 m 2 (by omega) (by omega) S4, fun _ => hK h3 m 0 (by omega) (by omega) S4⟩⟩
  refine ifT (by simp; omega) ?_
  by_cases h50 : 50 ≤ b - a
  · refine ifT (by simp; omega) ?_
    refine medAdjS S0 hn (by omega) (by omega) fun h1 i1 y1 e1 S1 => ⟨_, rfl, ?_⟩
    refine medAdjS S1 hn (by omega) (by omega) fun h2 i2 y2 e2 S2 => ⟨_, rfl, ?_⟩
    refine medAdjS S2 hn (by omega) (by omega) fun h3 i3 y3 e3 S3 => ⟨_, rfl, ?_⟩
    exact j2 _ _ _ _ _ (by omega) (by omega) (by omega) (by omega) (by omega) (by omega) S3
  · exact ifF (by simp; omega) (j2 _ _ _ _ _ (by omega) (by omega) (by omega) (by omega) (by omega) (by omega) S0)
theorem wm1 {n k : Nat} (hn : n < 4611686018427387904) (h1 : 1 ≤ k) (h2 : k ≤ n) : IntKind.i64.wrap ((k : Int) - 1) = ((k - 1 : Nat) : Int) := by rw [wrapI (by omega) (by omega)]; omega
theorem wp1 {n k : Nat} (hn : n < 4611686018427387904) (h2 : k ≤ n) : IntKind.i64.wrap ((k : Int) + 1) = ((k + 1 : Nat) : Int) := by rw [wrapI (by omega) (by omega)]; omega
section
variable {s : SV} {n a b : Nat} {f0 : Nat → BN}
variable (hn : n < 4611686018427387904) (hab : a < b ∧ b ≤ n) (low0 : 0 < a → ∀ k, a ≤ k → k < b → o.le (f0 (a - 1)) (f0 k))
include low0 hab in
theorem pm_low {f : Nat → BN} (pm : Pm a b f0 f) (h0 : 0 < a) (k : Nat) (h1 : a ≤ k) (h2 : k < b) : o.le (f (a - 1)) (f k) := by
  obtain ⟨j, j1, j2, j3⟩ := pm.inn ⟨h1, h2⟩
  rw [pm.out (k := a - 1) (.inl (by omega)), j3]
  exact low0 h0 j j1 j2
include hn hab in
theorem pin_right {R : OA → Nat → Nat → Int → Int → Value → Int → Int → Heap → Prop} {i t : Nat} (hi : a < i ∧ i < b) (ht : t < 5)
    (hQ : ∀ h' f, Pm a b f0 f → o.Srt a i f → St (Ow 3 s (rw n f) :: L) h' → R s.1 s.2.1 s.2.2 a b fc i ((t + 1 : Nat) : Int) h') :
    ∀ (fuel j : Nat) (f : Nat → BN) (h : Heap), b - j < fuel → i < j → Pm a b f0 f → o.Srt a i f → St (Ow 3 s (rw n f) :: L) h → qad.L5 K R fuel s.1 s.2.1 s.2.2 a b fc i t j h
  | 0, _, _, _, hf, _, _, _, _ => absurd hf (Nat.not_lt_zero _)
  | fuel + 1, j, f, h, hf, hj, pm, sr, S => by
    unfold qad.L5
    have j2 : ∀ h, St (Ow 3 s (rw n f) :: L) h → qad.j2 K R s.1 s.2.1 s.2.2 a b fc i t h := by
      intro h S
      unfold qad.j2
      simp only [bd]
      rw [wp1 (n := 5) (by omega) (by omega)]
      exact hQ h f pm sr S
    by_cases hlt : j < b
    · rw [wm1 (n := n) hn (by omega) (by omega)]
      refine ifT (by simp; omega) (less2T (i := j) (j := j - 1) S rfl rfl (by omega) (by omega) ?_)
      intro nn h hnn S
      rw [hnn]
      cases hl : o.lt (f j) (f (j - 1)) with
      | false => exact ifT rfl (j2 h S)
      | true =>
        refine ifF rfl (swapT (i := j - 1) (j := j) S rfl rfl (by omega) (by omega) fun h2 S2 => ?_)
        simp only [bd]
        rw [wp1 (n := n) hn (by omega)]
        refine pin_right hi ht hQ fuel (j + 1) _ h2 (by omega) (by omega) (pm.trans (swp_pm f ⟨by omega, by omega⟩ ⟨by omega, by omega⟩)) ?_ S2
        intro x y hx hxy hy
        unfold swp
        rw [if_neg (by omega), if_neg (by omega), if_neg (by omega), if_neg (by omega)]
        exact sr x y hx hxy hy
    · exact ifF (by simp; omega) (j2 h S)
include hn hab in
theorem pin_j4 {R : OA → Nat → Nat → Int → Int → Value → Int → Int → Heap → Prop} {i t : Nat} (hi : a < i ∧ i < b) (ht : t < 5)
    (hQ : ∀ h' f, Pm a b f0 f → o.Srt a i f → St (Ow 3 s (rw n f) :: L) h' → R s.1 s.2.1 s.2.2 a b fc i ((t + 1 : Nat) : Int) h') {f : Nat → BN} {h : Heap} (pm : Pm a b f0 f) (sr : o.Srt a i f) (S : St (Ow 3 s (rw n f) :: L) h) :
    qad.j4 K R s.1 s.2.1 s.2.2 a b fc i t h := by
  unfold qad.j4
  rw [show IntKind.i64.wrap ((b : Int) - (i : Int)) = ((b - i : Nat) : Int) by rw [wrapI (by omega) (by omega)]; omega]
  simp only [bd]
  rw [wp1 (n := n) hn (by omega)]
  by_cases h2 : 2 ≤ b - i
  · exact ifT (by simp; omega) ⟨_, pin_right hn hab hi ht hQ _ (i + 1) f h (Nat.lt_succ_self _) (by omega) pm sr S⟩
  · refine ifF (by simp; omega) ?_
    unfold qad.j2
    simp only [bd]
    rw [wp1 (n := 5) (by omega) (by omega)]
    exact hQ h f pm sr S
include hn hab low0 in
theorem pin_left {R : OA → Nat → Nat → Int → Int → Value → Int → Int → Heap → Prop} {i t : Nat} (hi : a < i ∧ i < b) (ht : t < 5)
    (hQ : ∀ h' f, Pm a b f0 f → o.Srt a i f → St (Ow 3 s (rw n f) :: L) h' → R s.1 s.2.1 s.2.2 a b fc i ((t + 1 : Nat) : Int) h') :
    ∀ (fuel j : Nat) (f : Nat → BN) (h : Heap), j < fuel → a ≤ j → j < i → Pm a b f0 f → InsI o a (i - 1) j f → St (Ow 3 s (rw n f) :: L) h → qad.L6 K R fuel s.1 s.2.1 s.2.2 a b fc i t j h
  | 0, _, _, _, hf, _, _, _, _, _ => absurd hf (Nat.not_lt_zero _)
  | fuel + 1, j, f, h, hf, ha, hj, pm, iv, S => by
    unfold qad.L6
    have stop : ∀ h, St (Ow 3 s (rw n f) :: L) h → (a < j → o.lt (f j) (f (j - 1)) = false) → qad.j4 K R s.1 s.2.1 s.2.2 a b fc i t h := fun h S e => by
      have := iv.done (by omega) e
      rw [show i - 1 + 1 = i by omega] at this
      exact pin_j4 hn hab hi ht hQ pm this S
    by_cases h1 : 1 ≤ j
    · rw [wm1 (n := n) hn (by omega) (by omega)]
      refine ifT (by simp; omega) (less2T (i := j) (j := j - 1) S rfl rfl (by omega) (by omega) ?_)
      intro nn h hnn S
      rw [hnn]
      cases hl : o.lt (f j) (f (j - 1)) with
      | false => exact ifT rfl (stop h S fun _ => hl)
      | true =>
        have hgt : a < j := by
          by_cases h : a < j
          · exact h
          · have e : j = a := by omega
            subst e
            have := pm_low hab low0 pm (by omega) j (Nat.le_refl _) (by omega)
            unfold Lift.Ord.le at this
            rw [hl] at this
            cases this
        refine ifF rfl (swapT (i := j - 1) (j := j) S rfl rfl (by omega) (by omega) fun h2 S2 => ?_)
        simp only [bd]
        exact pin_left hi ht hQ fuel (j - 1) _ h2 (by omega) (by omega) (by omega) (pm.trans (swp_pm f ⟨by omega, by omega⟩ ⟨by omega, by omega⟩)) (iv.swap hgt (by omega) hl) S2
    · exact ifF (by simp; omega) (stop h S fun e => by omega)
include hn hab low0 in
theorem pin_j3 {R : OA → Nat → Nat → Int → Int → Value → Int → Int → Heap → Prop} {i t : Nat} (hi : a < i ∧ i ≤ b) (ht : t < 5) (hF : ∀ h' f, Pm a b f0 f → St (Ow 3 s (rw n f) :: L) h' → K (.bool false) h') (hT : ∀ h' f, Pm a b f0 f → o.Srt a b f → St (Ow 3 s (rw n f) :: L) h' → K (.bool true) h')
    (hQ : i < b → ∀ h' f, Pm a b f0 f → o.Srt a i f → St (Ow 3 s (rw n f) :: L) h' → R s.1 s.2.1 s.2.2 a b fc i ((t + 1 : Nat) : Int) h') {f : Nat → BN} {h : Heap} (pm : Pm a b f0 f) (sr : o.Srt a i f) (hlt : i < b → o.lt (f i) (f (i - 1)) = true) (S : St (Ow 3 s (rw n f) :: L) h) :
    qad.j3 K R s.1 s.2.1 s.2.2 a b fc i t h := by
  unfold qad.j3
  by_cases he : i = b
  · subst he
    exact ifT (by simp) (hT h f pm sr S)
  · refine ifF (by simp; omega) ?_
    have hib : i < b := by omega
    cases decide (IntKind.i64.wrap ((b : Int) - (a : Int)) < 50) with
    | true => exact ifT rfl (hF h f pm S)
    | false =>
      rw [wm1 (n := n) hn (by omega) (by omega)]
      refine ifF rfl (swapT (i := i - 1) (j := i) S rfl rfl (by omega) (by omega) fun h2 S2 => ?_)
      have pm2 : Pm a b f0 (swp f i (i - 1)) := pm.trans (swp_pm f ⟨by omega, by omega⟩ ⟨by omega, by omega⟩)
      have sr2 : o.Srt a (i - 1) (swp f i (i - 1)) := fun x y hx hxy hy => by
        unfold swp
        rw [if_neg (by omega), if_neg (by omega), if_neg (by omega), if_neg (by omega)]
        exact sr x y hx hxy (by omega)
      rw [show IntKind.i64.wrap ((i : Int) - (a : Int)) = ((i - a : Nat) : Int) by rw [wrapI (by omega) (by omega)]; omega]
      simp only [bd]
      by_cases h2i : 2 ≤ i - a
      · exact ifT (by simp; omega) ⟨_, pin_left hn hab low0 ⟨hi.1, hib⟩ ht (hQ hib) _ (i - 1) _ h2 (Nat.lt_succ_self _) (by omega) (by omega) pm2 (InsI.start sr2) S2⟩
      · refine ifF (by simp; omega) (pin_j4 hn hab ⟨hi.1, hib⟩ ht (hQ hib) pm2 (fun x y hx hxy hy => by omega) S2)
include hn hab low0 in
theorem pin_scan {R : OA → Nat → Nat → Int → Int → Value → Int → Int → Heap → Prop} {t : Nat} (ht : t < 5) (hF : ∀ h' f, Pm a b f0 f → St (Ow 3 s (rw n f) :: L) h' → K (.bool false) h') (hT : ∀ h' f, Pm a b f0 f → o.Srt a b f → St (Ow 3 s (rw n f) :: L) h' → K (.bool true) h')
    (hQ : ∀ h' f (i : Nat), a < i → i < b → Pm a b f0 f → o.Srt a i f → St (Ow 3 s (rw n f) :: L) h' → R s.1 s.2.1 s.2.2 a b fc i ((t + 1 : Nat) : Int) h') :
    ∀ (fuel i : Nat) (f : Nat → BN) (h : Heap), b - i < fuel → a < i → i ≤ b → Pm a b f0 f → o.Srt a i f → St (Ow 3 s (rw n f) :: L) h → qad.L7 K R fuel s.1 s.2.1 s.2.2 a b fc i t h
  | 0, _, _, _, hf, _, _, _, _, _ => absurd hf (Nat.not_lt_zero _)
  | fuel + 1, i, f, h, hf, ha, hi, pm, sr, S => by
    unfold qad.L7
    unfold qad.j8
    by_cases hlt : i < b
    · rw [wm1 (n := n) hn (by omega) (by omega)]
      refine ifT (by simp; omega) (less2T (i := i) (j := i - 1) S rfl rfl (by omega) (by omega) ?_)
      intro nn h hnn S
      rw [hnn]
      cases hl : o.lt (f i) (f (i - 1)) with
      | true => exact ifF rfl (pin_j3 hn hab low0 ⟨ha, hi⟩ ht hF hT (fun hib h' g pg sg Sg => hQ h' g i ha hib pg sg Sg) pm sr (fun _ => hl) S)
      | false =>
        refine ifT rfl ?_
        simp only [bd]
        rw [wp1 (n := n) hn (by omega)]
        refine pin_scan ht hF hT hQ fuel (i + 1) f h (by omega) (by omega) (by omega) pm ?_ S
        intro x y hx hxy hy
        by_cases hyi : y = i
        · subst hyi
          by_cases hxe : x = y - 1
          · subst hxe; exact hl
          · exact o.le_trans (sr x (y - 1) hx (by omega) (by omega)) hl
        · exact sr x y hx hxy (by omega)
    · exact ifF (by simp; omega) (ifF rfl (pin_j3 hn hab low0 ⟨ha, hi⟩ ht hF hT (fun hib => absurd hib hlt) pm sr (fun hib => absurd hib hlt) S))
include hn hab low0 in
theorem pin_steps (hF : ∀ h' f, Pm a b f0 f → St (Ow 3 s (rw n f) :: L) h' → K (.bool false) h') (hT : ∀ h' f, Pm a b f0 f → o.Srt a b f → St (Ow 3 s (rw n f) :: L) h' → K (.bool true) h') :
    ∀ (fuel i t : Nat) (f : Nat → BN) (h : Heap), 5 - t < fuel → t ≤ 5 → a < i → i ≤ b → Pm a b f0 f → o.Srt a i f → St (Ow 3 s (rw n f) :: L) h → qad.L1 K fuel s.1 s.2.1 s.2.2 a b fc i t h
  | 0, _, _, _, _, hf, _, _, _, _, _, _ => absurd hf (Nat.not_lt_zero _)
  | fuel + 1, i, t, f, h, hf, ht, ha, hi, pm, sr, S => by
    unfold qad.L1
    by_cases hlt : t < 5
    · exact ifT (by simp; omega) ⟨_, pin_scan hn hab low0 hlt hF hT (fun h' g k k1 k2 pg sg Sg => pin_steps hF hT fuel k (t + 1) g h' (by omega) (by omega) k1 (by omega) pg sg Sg) _ i f h (Nat.lt_succ_self _) ha hi pm sr S⟩
    · exact ifF (by simp; omega) (hF h f pm S)
include hn hab low0 in
theorem pinS {h : Heap} (S : St (Ow 3 s (rw n f0) :: L) h) (hF : ∀ h' f, Pm a b f0 f → St (Ow 3 s (rw n f) :: L) h' → K (.bool false) h') (hT : ∀ h' f, Pm a b f0 f → o.Srt a b f → St (Ow 3 s (rw n f) :: L) h' → K (.bool true) h') :
    CallsH P F.qad [.slice s.1 s.2.1 s.2.2, .int .i64 a, .int .i64 b, fc] K h := by
  refine qad.ok ?_
  unfold qad.p0
  simp only [bd]
  rw [wp1 (n := n) hn (by omega)]
  exact ⟨_, pin_steps hn hab low0 hF hT _ (a + 1) 0 f0 h (Nat.lt_succ_self _) (by omega) (by omega) (by omega) (Pm.refl _ _ _) (fun x y hx hxy hy => by omega) S⟩
end
section
variable {s : SV} {n a b : Nat} {f0 : Nat → BN}
variable (hn : n < 4611686018427387904) (hb : b ≤ n)
structure PtI (a b : Nat) (f0 : Nat → BN) (i j : Nat) (f : Nat → BN) : Prop where
  hi : a < i
  hij : i ≤ j + 1
  hj : j < b
  pm : Pm a b f0 f
  lo : ∀ k, a < k → k < i → o.lt (f k) (f a) = true
  hi' : ∀ k, j < k → k < b → o.lt (f k) (f a) = false
theorem PtI.up {i j : Nat} {f : Nat → BN} (p : PtI a b f0 i j f) (hij : i ≤ j) (h : o.lt (f i) (f a) = true) : PtI a b f0 (i + 1) j f :=
  ⟨by have := p.hi; omega, by omega, p.hj, p.pm, fun k h1 h2 => by
    by_cases e : k = i
    · subst e; exact h
    · exact p.lo k h1 (by omega), p.hi'⟩
theorem PtI.down {i j : Nat} {f : Nat → BN} (p : PtI a b f0 i j f) (hij : i ≤ j) (h : o.lt (f j) (f a) = false) : PtI a b f0 i (j - 1) f :=
  ⟨p.hi, by omega, by have := p.hj; omega, p.pm, p.lo, fun k h1 h2 => by
    by_cases e : k = j
    · subst e; exact h
    · exact p.hi' k (by omega) h2⟩
theorem PtI.swap {i j : Nat} {f : Nat → BN} (p : PtI a b f0 i j f) (hij : i ≤ j) (h1 : o.lt (f i) (f a) = false) (h2 : o.lt (f j) (f a) = true) : i < j ∧ PtI a b f0 (i + 1) (j - 1) (swp f i j) := by
  have hne : i ≠ j := fun e => by subst e; rw [h1] at h2; cases h2
  have := p.hi
  have := p.hj
  have ea : swp f i j a = f a := by unfold swp; rw [if_neg (by omega), if_neg (by omega)]
  refine ⟨by omega, by omega, by omega, by omega, p.pm.trans (swp_pm f ⟨by omega, by omega⟩ ⟨by omega, by omega⟩), fun k k1 k2 => ?_, fun k k1 k2 => ?_⟩
  · rw [ea]
    unfold swp
    by_cases e : k = i
    · rw [if_pos e]; exact h2
    · rw [if_neg e, if_neg (by omega)]; exact p.lo k k1 (by omega)
  · rw [ea]
    unfold swp
    rw [if_neg (by omega)]
    by_cases e : k = j
    · rw [if_pos e]; exact h1
    · rw [if_neg e]; exact p.hi' k (by omega) k2
theorem PtI.fin {i j : Nat} {f : Nat → BN} (p : PtI a b f0 i j f) (hij : j < i) : Pm a b f0 (swp f j a) ∧ (a ≤ j ∧ j < b) ∧ (∀ k, a ≤ k → k < j → o.le (swp f j a k) (swp f j a j)) ∧ ∀ k, j < k → k < b → o.le (swp f j a j) (swp f j a k) := by
  have := p.hi
  have := p.hj
  have := p.hij
  have ej : swp f j a j = f a := by unfold swp; rw [if_pos rfl]
  refine ⟨p.pm.trans (swp_pm f ⟨by omega, by omega⟩ ⟨by omega, by omega⟩), ⟨by omega, by omega⟩, fun k k1 k2 => ?_, fun k k1 k2 => ?_⟩
  · rw [ej]
    unfold swp
    rw [if_neg (by omega)]
    by_cases e : k = a
    · rw [if_pos e]; exact o.le_of_lt (p.lo j (by omega) (by omega))
    · rw [if_neg e]; exact o.le_of_lt (p.lo k (by omega) (by omega))
  · rw [ej]
    unfold swp
    rw [if_neg (by omega), if_neg (by omega)]
    exact p.hi' k k1 k2
abbrev PtQ (K : KT) (L : List Asr) (s : SV) (n a b : Nat) (f0 : Nat → BN) : Prop := ∀ h' g (m : Nat) (d : Bool), Pm a b f0 g → (a ≤ m ∧ m < b) → (∀ k, a ≤ k → k < m → o.le (g k) (g m)) → (∀ k, m < k → k < b → o.le (g m) (g k)) → St (Ow 3 s (rw n g) :: L) h' → K (.tuple #[.int .i64 m, .bool d]) h'
include hn hb in
theorem pt_j6 {R : OA → Nat → Nat → Int → Value → Int → Int → Heap → Prop} (hK : PtQ K L s n a b f0) {i j : Nat} {f : Nat → BN} {h : Heap} (hR : ∀ (i' j' : Nat) g h', j' + 1 - i' < j + 1 - i → PtI a b f0 i' j' g → St (Ow 3 s (rw n g) :: L) h' → R s.1 s.2.1 s.2.2 a fc i' j' h')
    (p : PtI a b f0 i j f) (e1 : i ≤ j → o.lt (f i) (f a) = false) (e2 : i ≤ j → o.lt (f j) (f a) = true) (S : St (Ow 3 s (rw n f) :: L) h) : qab.j6 K R s.1 s.2.1 s.2.2 a fc i j h := by
  unfold qab.j6
  have := p.hi
  have := p.hj
  have := p.hij
  by_cases hij : j < i
  · refine ifT (by simp; omega) ?_
    unfold qab.j3
    refine swapT (i := a) (j := j) S rfl rfl (by omega) (by omega) fun h2 S2 => ?_
    obtain ⟨q1, q2, q3, q4⟩ := p.fin hij
    exact hK h2 _ j false q1 q2 q3 q4 S2
  · obtain ⟨hlt, p2⟩ := p.swap (by omega) (e1 (by omega)) (e2 (by omega))
    refine ifF (by simp; omega) (swapT (i := j) (j := i) S rfl rfl (by omega) (by omega) fun h2 S2 => ?_)
    simp only [bd]
    rw [wp1 (n := n) hn (by omega), wm1 (n := n) hn (by omega) (by omega)]
    exact hR (i + 1) (j - 1) _ h2 (by omega) p2 S2
include hn hb in
theorem pt_L7 {R : OA → Nat → Nat → Int → Value → Int → Int → Heap → Prop} (hK : PtQ K L s n a b f0) {i m : Nat} (hR : ∀ (i' j' : Nat) g h', j' + 1 - i' < m → PtI a b f0 i' j' g → St (Ow 3 s (rw n g) :: L) h' → R s.1 s.2.1 s.2.2 a fc i' j' h') :
    ∀ (fuel j : Nat) (f : Nat → BN) (h : Heap), j + 1 - i < fuel → j + 1 - i ≤ m → PtI a b f0 i j f → (i ≤ j → o.lt (f i) (f a) = false) → St (Ow 3 s (rw n f) :: L) h → qab.L7 K R fuel s.1 s.2.1 s.2.2 a fc i j h
  | 0, _, _, _, hf, _, _, _, _ => absurd hf (Nat.not_lt_zero _)
  | fuel + 1, j, f, h, hf, hm, p, e1, S => by
    unfold qab.L7
    unfold qab.j8
    have := p.hi
    have := p.hj
    have := p.hij
    have fin : ∀ h, St (Ow 3 s (rw n f) :: L) h → (i ≤ j → o.lt (f j) (f a) = true) → qab.j6 K R s.1 s.2.1 s.2.2 a fc i j h := fun h S e2 => pt_j6 hn hb hK (fun i' j' g h' hlt => hR i' j' g h' (by omega)) p e1 e2 S
    by_cases hij : i ≤ j
    · refine ifT (by simp; omega) (less2T (i := j) (j := a) S rfl rfl (by omega) (by omega) ?_)
      intro nn h hnn S
      rw [hnn]
      cases hl : o.lt (f j) (f a) with
      | true => exact ifF rfl (fin h S fun _ => hl)
      | false =>
        refine ifT rfl ?_
        simp only [bd]
        rw [wm1 (n := n) hn (by omega) (by omega)]
        exact pt_L7 hK hR fuel (j - 1) f h (by omega) (by omega) (p.down hij hl) (fun hle => e1 hij) S
    · exact ifF (by simp; omega) (ifF rfl (fin h S fun e => absurd e hij))
include hn hb in
theorem pt_L9 {R : OA → Nat → Nat → Int → Value → Int → Int → Heap → Prop} (hK : PtQ K L s n a b f0) {j m : Nat} (hR : ∀ (i' j' : Nat) g h', j' + 1 - i' < m → PtI a b f0 i' j' g → St (Ow 3 s (rw n g) :: L) h' → R s.1 s.2.1 s.2.2 a fc i' j' h') :
    ∀ (fuel i : Nat) (f : Nat → BN) (h : Heap), j + 1 - i < fuel → j + 1 - i ≤ m → PtI a b f0 i j f → St (Ow 3 s (rw n f) :: L) h → qab.L9 K R fuel s.1 s.2.1 s.2.2 a fc i j h
  | 0, _, _, _, hf, _, _, _ => absurd hf (Nat.not_lt_zero _)
  | fuel + 1, i, f, h, hf, hm, p, S => by
    unfold qab.L9
    unfold qab.j10
    have := p.hi
    have := p.hj
    have := p.hij
    have fin : ∀ h, St (Ow 3 s (rw n f) :: L) h → (i ≤ j → o.lt (f i) (f a) = false) → qab.j5 K R s.1 s.2.1 s.2.2 a fc i j h := fun h S e1 => by
      unfold qab.j5
      exact ⟨_, pt_L7 hn hb hK hR _ j f h (Nat.lt_succ_self _) hm p e1 S⟩
    by_cases hij : i ≤ j
    · refine ifT (by simp; omega) (less2T (i := i) (j := a) S rfl rfl (by omega) (by omega) ?_)
      intro nn h hnn S
      rw [hnn]
      cases hl : o.lt (f i) (f a) with
      | false => exact ifF rfl (fin h S fun _ => hl)
      | true =>
        refine ifT rfl ?_
        simp only [bd]
        rw [wp1 (n := n) hn (by omega)]
        exact pt_L9 hK hR fuel (i + 1) f h (by omega) (by omega) (p.up hij hl) S
    · exact ifF (by simp; omega) (ifF rfl (fin h S fun e => absurd e hij))
include hn hb in
theorem pt_L4 (hK : PtQ K L s n a b f0) : ∀ (fuel i j : Nat) (f : Nat → BN) (h : Heap), j + 1 - i < fuel → PtI a b f0 i j f → St (Ow 3 s (rw n f) :: L) h → qab.L4 K fuel s.1 s.2.1 s.2.2 a fc i j h
  | 0, _, _, _, _, hf, _, _ => absurd hf (Nat.not_lt_zero _)
  | fuel + 1, i, j, f, h, hf, p, S => by
    unfold qab.L4
    exact ⟨_, pt_L9 hn hb hK (m := j + 1 - i) (fun i' j' g h' hlt p' S' => pt_L4 hK fuel i' j' g h' (by omega) p' S') _ i f h (Nat.lt_succ_self _) (Nat.le_refl _) p S⟩
include hn hb in
theorem pt_j2 (hK : PtQ K L s n a b f0) {i j : Nat} {f : Nat → BN} {h : Heap} (p : PtI a b f0 i j f) (e1 : i ≤ j → o.lt (f i) (f a) = false) (e2 : i ≤ j → o.lt (f j) (f a) = true) (S : St (Ow 3 s (rw n f) :: L) h) : qab.j2 K s.1 s.2.1 s.2.2 a fc i j h := by
  unfold qab.j2
  have := p.hi
  have := p.hj
  have := p.hij
  by_cases hij : j < i
  · refine ifT (by simp; omega) ?_
    refine swapT (i := a) (j := j) S rfl rfl (by omega) (by omega) fun h2 S2 => ?_
    obtain ⟨q1, q2, q3, q4⟩ := p.fin hij
    exact hK h2 _ j true q1 q2 q3 q4 S2
  · obtain ⟨hlt, p2⟩ := p.swap (by omega) (e1 (by omega)) (e2 (by omega))
    refine ifF (by simp; omega) (swapT (i := j) (j := i) S rfl rfl (by omega) (by omega) fun h2 S2 => ?_)
    simp only [bd]
    rw [wp1 (n := n) hn (by omega), wm1 (n := n) hn (by omega) (by omega)]
    exact ⟨_, pt_L4 hn hb hK _ (i + 1) (j - 1) _ h2 (Nat.lt_succ_self _) p2 S2⟩
include hn hb in
theorem pt_L11 (hK : PtQ K L s n a b f0) {i : Nat} :
    ∀ (fuel j : Nat) (f : Nat → BN) (h : Heap), j + 1 - i < fuel → PtI a b f0 i j f → (i ≤ j → o.lt (f i) (f a) = false) → St (Ow 3 s (rw n f) :: L) h → qab.L11 K fuel s.1 s.2.1 s.2.2 a fc i j h
  | 0, _, _, _, hf, _, _, _ => absurd hf (Nat.not_lt_zero _)
  | fuel + 1, j, f, h, hf, p, e1, S => by
    unfold qab.L11
    unfold qab.j12
    have := p.hi
    have := p.hj
    have := p.hij
    by_cases hij : i ≤ j
    · refine ifT (by simp; omega) (less2T (i := j) (j := a) S rfl rfl (by omega) (by omega) ?_)
      intro nn h hnn S
      rw [hnn]
      cases hl : o.lt (f j) (f a) with
      | true => exact ifF rfl (pt_j2 hn hb hK p e1 (fun _ => hl) S)
      | false =>
        refine ifT rfl ?_
        simp only [bd]
        rw [wm1 (n := n) hn (by omega) (by omega)]
        exact pt_L11 hK fuel (j - 1) f h (by omega) (p.down hij hl) (fun hle => e1 hij) S
    · exact ifF (by simp; omega) (ifF rfl (pt_j2 hn hb hK p e1 (fun e => absurd e hij) S))
include hn hb in
theorem pt_L13 (hK : PtQ K L s n a b f0) {j : Nat} :
    ∀ (fuel i : Nat) (f : Nat → BN) (h : Heap), j + 1 - i < fuel → PtI a b f0 i j f → St (Ow 3 s (rw n f) :: L) h → qab.L13 K fuel s.1 s.2.1 s.2.2 a fc i j h
  | 0, _, _, _, hf, _, _ => absurd hf (Nat.not_lt_zero _)
  | fuel + 1, i, f, h, hf, p, S => by
    unfold qab.L13
    unfold qab.j14
    have := p.hi
    have := p.hj
    have := p.hij
    have fin : ∀ h, St (Ow 3 s (rw n f) :: L) h → (i ≤ j → o.lt (f i) (f a) = false) → qab.j1 K s.1 s.2.1 s.2.2 a fc i j h := fun h S e1 => by
      unfold qab.j1
      exact ⟨_, pt_L11 hn hb hK _ j f h (Nat.lt_succ_self _) p e1 S⟩
    by_cases hij : i ≤ j
    · refine ifT (by simp; omega) (less2T (i := i) (j := a) S rfl rfl (by omega) (by omega) ?_)
      intro nn h hnn S
      rw [hnn]
      cases hl : o.lt (f i) (f a) with
      | false => exact ifF rfl (fin h S fun _ => hl)
      | true =>
        refine ifT rfl ?_
        simp only [bd]
        rw [wp1 (n := n) hn (by omega)]
        exact pt_L13 hK fuel (i + 1) f h (by omega) (p.up hij hl) S
    · exact ifF (by simp; omega) (ifF rfl (fin h S fun e => absurd e hij))
include hn hb in
theorem partS {c : Nat} {h : Heap} (S : St (Ow 3 s (rw n f0) :: L) h) (hc : a ≤ c ∧ c < b) (hK : PtQ K L s n a b f0) :
    CallsH P F.qab [.slice s.1 s.2.1 s.2.2, .int .i64 a, .int .i64 b, .int .i64 c, fc] K h := by
  refine qab.ok ?_
  unfold qab.p0
  refine swapT (i := c) (j := a) S rfl rfl (by omega) (by omega) fun h2 S2 => ?_
  simp only [bd]
  rw [wp1 (n := n) hn (by omega), wm1 (n := n) hn (by omega) (by omega)]
  exact ⟨_, pt_L13 hn hb hK _ (a + 1) _ h2 (Nat.lt_succ_self _) ⟨by omega, by omega, by omega, swp_pm f0 ⟨by omega, by omega⟩ ⟨by omega, by omega⟩, fun k h1 h2 => by omega, fun k h1 h2 => by omega⟩ S2⟩
end
section
variable {s : SV} {n a b : Nat} {f0 : Nat → BN} {v : BN}
variable (hn : n < 4611686018427387904) (hb : b ≤ n)
structure PeI (a b : Nat) (f0 : Nat → BN) (v : BN) (i j : Nat) (f : Nat → BN) : Prop where
  hi : a < i
  hij : i ≤ j + 1
  hj : j < b
  pm : Pm a b f0 f
  ev : f a = v
  lo : ∀ k, a ≤ k → k < i → o.le (f k) v
theorem PeI.up {i j : Nat} {f : Nat → BN} (p : PeI a b f0 v i j f) (hij : i ≤ j) (h : o.lt (f a) (f i) = false) : PeI a b f0 v (i + 1) j f :=
  ⟨by have := p.hi; omega, by omega, p.hj, p.pm, p.ev, fun k h1 h2 => by
    by_cases e : k = i
    · subst e; rw [p.ev] at h; exact h
    · exact p.lo k h1 (by omega)⟩
theorem PeI.down {i j : Nat} {f : Nat → BN} (p : PeI a b f0 v i j f) (hij : i ≤ j) : PeI a b f0 v i (j - 1) f :=
  ⟨p.hi, by omega, by have := p.hj; omega, p.pm, p.ev, p.lo⟩
theorem PeI.swap {i j : Nat} {f : Nat → BN} (p : PeI a b f0 v i j f) (hij : i ≤ j) (h1 : o.lt (f a) (f i) = true) (h2 : o.lt (f a) (f j) = false) : i < j ∧ PeI a b f0 v (i + 1) (j - 1) (swp f i j) := by
  have hne : i ≠ j := fun e => by subst e; rw [h1] at h2; cases h2
  have := p.hi
  have := p.hj
  have ea : swp f i j a = f a := by unfold swp; rw [if_neg (by omega), if_neg (by omega)]
  refine ⟨by omega, by omega, by omega, by omega, p.pm.trans (swp_pm f ⟨by omega, by omega⟩ ⟨by omega, by omega⟩), by rw [ea]; exact p.ev, fun k k1 k2 => ?_⟩
  unfold swp
  by_cases e : k = i
  · rw [if_pos e]; rw [p.ev] at h2; exact h2
  · rw [if_neg e, if_neg (by omega)]; exact p.lo k k1 (by omega)
abbrev PeQ (K : KT) (L : List Asr) (s : SV) (n a b : Nat) (f0 : Nat → BN) (v : BN) : Prop := ∀ h' g (m : Nat), Pm a b f0 g → (a < m ∧ m ≤ b) → (∀ k, a ≤ k → k < m → o.le (g k) v) → St (Ow 3 s (rw n g) :: L) h' → K (.int .i64 m) h'
include hn hb in
theorem pe_j3 {R : OA → Nat → Nat → Int → Value → Int → Int → Heap → Prop} (hK : PeQ K L s n a b f0 v) {i j : Nat} {f : Nat → BN} {h : Heap} (hR : ∀ (i' j' : Nat) g h', j' + 1 - i' < j + 1 - i → PeI a b f0 v i' j' g → St (Ow 3 s (rw n g) :: L) h' → R s.1 s.2.1 s.2.2 a fc i' j' h')
    (p : PeI a b f0 v i j f) (e1 : i ≤ j → o.lt (f a) (f i) = true) (e2 : i ≤ j → o.lt (f a) (f j) = false) (S : St (Ow 3 s (rw n f) :: L) h) : qaf.j3 K R s.1 s.2.1 s.2.2 a fc i j h := by
  unfold qaf.j3
  have := p.hi
  have := p.hj
  have := p.hij
  by_cases hij : j < i
  · exact ifT (by simp; omega) (hK h f i p.pm ⟨by omega, by omega⟩ p.lo S)
  · obtain ⟨hlt, p2⟩ := p.swap (by omega) (e1 (by omega)) (e2 (by omega))
    refine ifF (by simp; omega) (swapT (i := j) (j := i) S rfl rfl (by omega) (by omega) fun h2 S2 => ?_)
    simp only [bd]
    rw [wp1 (n := n) hn (by omega), wm1 (n := n) hn (by omega) (by omega)]
    exact hR (i + 1) (j - 1) _ h2 (by omega) p2 S2
include hn hb in
theorem pe_L4 {R : OA → Nat → Nat → Int → Value → Int → Int → Heap → Prop} (hK : PeQ K L s n a b f0 v) {i m : Nat} (hR : ∀ (i' j' : Nat) g h', j' + 1 - i' < m → PeI a b f0 v i' j' g → St (Ow 3 s (rw n g) :: L) h' → R s.1 s.2.1 s.2.2 a fc i' j' h') :
    ∀ (fuel j : Nat) (f : Nat → BN) (h : Heap), j + 1 - i < fuel → j + 1 - i ≤ m → PeI a b f0 v i j f → (i ≤ j → o.lt (f a) (f i) = true) → St (Ow 3 s (rw n f) :: L) h → qaf.L4 K R fuel s.1 s.2.1 s.2.2 a fc i j h
  | 0, _, _, _, hf, _, _, _, _ => absurd hf (Nat.not_lt_zero _)
  | fuel + 1, j, f, h, hf, hm, p, e1, S => by
    unfold qaf.L4
    unfold qaf.j5
    have := p.hi
    have := p.hj
    have := p.hij
    have fin : ∀ h, St (Ow 3 s (rw n f) :: L) h → (i ≤ j → o.lt (f a) (f j) = false) → qaf.j3 K R s.1 s.2.1 s.2.2 a fc i j h := fun h S e2 => pe_j3 hn hb hK (fun i' j' g h' hlt => hR i' j' g h' (by omega)) p e1 e2 S
    by_cases hij : i ≤ j
    · refine ifT (by simp; omega) (less2T (i := a) (j := j) S rfl rfl (by omega) (by omega) ?_)
      intro nn h hnn S
      rw [hnn]
      cases hl : o.lt (f a) (f j) with
      | false => exact ifF rfl (fin h S fun _ => hl)
      | true =>
        refine ifT rfl ?_
        simp only [bd]
        rw [wm1 (n := n) hn (by omega) (by omega)]
        exact pe_L4 hK hR fuel (j - 1) f h (by omega) (by omega) (p.down hij) (fun hle => e1 hij) S
    · exact ifF (by simp; omega) (ifF rfl (fin h S fun e => absurd e hij))
include hn hb in
theorem pe_L6 {R : OA → Nat → Nat → Int → Value → Int → Int → Heap → Prop} (hK : PeQ K L s n a b f0 v) {j m : Nat} (hR : ∀ (i' j' : Nat) g h', j' + 1 - i' < m → PeI a b f0 v i' j' g → St (Ow 3 s (rw n g) :: L) h' → R s.1 s.2.1 s.2.2 a fc i' j' h') :
    ∀ (fuel i : Nat) (f : Nat → BN) (h : Heap), j + 1 - i < fuel → j + 1 - i ≤ m → PeI a b f0 v i j f → St (Ow 3 s (rw n f) :: L) h → qaf.L6 K R fuel s.1 s.2.1 s.2.2 a fc i j h
  | 0, _, _, _, hf, _, _, _ => absurd hf (Nat.not_lt_zero _)
  | fuel + 1, i, f, h, hf, hm, p, S => by
    unfold qaf.L6
    unfold qaf.j7
    have := p.hi
    have := p.hj
    have := p.hij
    have fin : ∀ h, St (Ow 3 s (rw n f) :: L) h → (i ≤ j → o.lt (f a) (f i) = true) → qaf.j2 K R s.1 s.2.1 s.2.2 a fc i j h := fun h S e1 => by
      unfold qaf.j2
      exact ⟨_, pe_L4 hn hb hK hR _ j f h (Nat.lt_succ_self _) hm p e1 S⟩
    by_cases hij : i ≤ j
    · refine ifT (by simp; omega) (less2T (i := a) (j := i) S rfl rfl (by omega) (by omega) ?_)
      intro nn h hnn S
      rw [hnn]
      cases hl : o.lt (f a) (f i) with
      | true => exact ifF rfl (fin h S fun _ => hl)
      | false =>
        refine ifT rfl ?_
        simp only [bd]
        rw [wp1 (n := n) hn (by omega)]
        exact pe_L6 hK hR fuel (i + 1) f h (by omega) (by omega) (p.up hij hl) S
    · exact ifF (by simp; omega) (ifF rfl (fin h S fun e => absurd e hij))
include hn hb in
theorem pe_L1 (hK : PeQ K L s n a b f0 v) : ∀ (fuel i j : Nat) (f : Nat → BN) (h : Heap), j + 1 - i < fuel → PeI a b f0 v i j f → St (Ow 3 s (rw n f) :: L) h → qaf.L1 K fuel s.1 s.2.1 s.2.2 a fc i j h
  | 0, _, _, _, _, hf, _, _ => absurd hf (Nat.not_lt_zero _)
  | fuel + 1, i, j, f, h, hf, p, S => by
    unfold qaf.L1
    exact ⟨_, pe_L6 hn hb hK (m := j + 1 - i) (fun i' j' g h' hlt p' S' => pe_L1 hK fuel i' j' g h' (by omega) p' S') _ i f h (Nat.lt_succ_self _) (Nat.le_refl _) p S⟩
include hn hb in
theorem pequS {c : Nat} {h : Heap} (S : St (Ow 3 s (rw n f0) :: L) h) (hc : a ≤ c ∧ c < b) (hK : PeQ K L s n a b f0 (f0 c)) :
    CallsH P F.qaf [.slice s.1 s.2.1 s.2.2, .int .i64 a, .int .i64 b, .int .i64 c, fc] K h := by
  refine qaf.ok ?_
  unfold qaf.p0
  refine swapT (i := c) (j := a) S rfl rfl (by omega) (by omega) fun h2 S2 => ?_
  simp only [bd]
  rw [wp1 (n := n) hn (by omega), wm1 (n := n) hn (by omega) (by omega)]
  have ea : swp f0 a c a = f0 c := by unfold swp; rw [if_pos rfl]
  exact ⟨_, pe_L1 hn hb hK _ (a + 1) (b - 1) _ h2 (Nat.lt_succ_self _) ⟨by omega, by omega, by omega, swp_pm f0 ⟨by omega, by omega⟩ ⟨by omega, by omega⟩, ea, fun k h1 h2 => by
    rw [show k = a by omega, ea]; exact o.le_refl _⟩ S2⟩
end
section
variable {s : SV} {n a b : Nat} {f0 : Nat → BN}
variable (hn : n < 2305843009213693952) (hab : a + 12 < b ∧ b ≤ n)
include hn hab in
theorem brk_loop (hK : ∀ h' g, Pm a b f0 g → St (Ow 3 s (rw n g) :: L) h' → K (.tuple #[]) h') {c : Addr} {M : Nat} (hM : 1 ≤ M ∧ M ≤ 2 * (b - a)) :
    ∀ (fuel i : Nat) (f : Nat → BN) (h : Heap) (x : Int), a + (b - a) / 4 * 2 + 2 - i < fuel → a ≤ i → Pm a b f0 f → St (Ow 3 s (rw n f) :: Bx c [.int .u64 x] :: L) h → qau.L1 K fuel s.1 s.2.1 s.2.2 a ((b - a : Nat) : Int) c M i h
  | 0, _, _, _, _, hf, _, _, _ => absurd hf (Nat.not_lt_zero _)
  | fuel + 1, i, f, h, x, hf, ha, pm, S => by
    unfold qau.L1
    have eq4 : IntKind.i64.wrap (Int.tdiv ((b - a : Nat) : Int) 4) = (((b - a) / 4 : Nat) : Int) := by
      rw [show Int.tdiv ((b - a : Nat) : Int) 4 = (((b - a) / 4 : Nat) : Int) from rfl, wrapI (by omega) (by omega)]
    rw [eq4, show IntKind.i64.wrap ((IntKind.i64.wrap ((a : Int) + (IntKind.i64.wrap ((((b - a) / 4 : Nat) : Int) * 2)))) + 1) = ((a + (b - a) / 4 * 2 + 1 : Nat) : Int) by
      rw [wrapI (n := (((b - a) / 4 : Nat) : Int) * 2) (by omega) (by omega), wrapI (n := (a : Int) + (((b - a) / 4 : Nat) : Int) * 2) (by omega) (by omega), wrapI (by omega) (by omega)]; omega]
    refine ⟨by decide, ?_⟩
    by_cases hle : i ≤ a + (b - a) / 4 * 2 + 1
    · refine ifT (by simp; omega) (xorS S.p1 fun h1 y S1 => ⟨y, rfl, ?_⟩)
      rw [show IntKind.u64.wrap ((M : Int) - 1) = ((M - 1 : Nat) : Int) by rw [IntKind.wrap_u64]; omega]
      obtain ⟨k, ek, hk⟩ := and_le y (M - 1) (by omega)
      rw [ek]
      simp only [bd]
      rw [wrapI (n := (k : Int)) (by omega) (by omega)]
      have j2 : ∀ q : Nat, q < b - a → qau.j2 K (qau.L1 K fuel) s.1 s.2.1 s.2.2 a ((b - a : Nat) : Int) c M i q h1 := by
        intro q hq
        unfold qau.j2
        rw [show IntKind.i64.wrap ((a : Int) + (q : Int)) = ((a + q : Nat) : Int) by rw [wrapI (by omega) (by omega)]; omega]
        refine swapT (i := a + q) (j := i) S1.p1 rfl rfl (by omega) (by omega) fun h2 S2 => ?_
        simp only [bd]
        rw [wp1 (n := n) (by omega) (by omega)]
        exact brk_loop hK hM fuel (i + 1) _ h2 _ (by omega) (by omega) (pm.trans (swp_pm f ⟨by omega, by omega⟩ ⟨by omega, by omega⟩)) S2
      by_cases hge : b - a ≤ k
      · refine ifT (by simp; omega) ?_
        rw [show IntKind.i64.wrap ((k : Int) - ((b - a : Nat) : Int)) = ((k - (b - a) : Nat) : Int) by rw [wrapI (by omega) (by omega)]; omega]
        exact j2 _ (by omega)
      · exact ifF (by simp; omega) (j2 k (by omega))
    · exact ifF (by simp; omega) (hK h f pm S.p1.tl)
include hn hab in
theorem brkS {h : Heap} (S : St (Ow 3 s (rw n f0) :: L) h) (hK : ∀ h' g, Pm a b f0 g → St (Ow 3 s (rw n g) :: L) h' → K (.tuple #[]) h') :
    CallsH P F.qau [.slice s.1 s.2.1 s.2.2, .int .i64 a, .int .i64 b, fc] K h := by
  refine qau.ok ?_
  unfold qau.p0
  simp only [bd]
  rw [show IntKind.i64.wrap ((b : Int) - (a : Int)) = ((b - a : Nat) : Int) by rw [wrapI (by omega) (by omega)]; omega]
  refine ifT (by simp; omega) ?_
  have S0 : St (Bx (top h) [.int .u64 0] :: Ow 3 s (rw n f0) :: L) (al h #[.int .u64 0] T.slices_xorshift) := S.al [.int .u64 0] T.slices_xorshift
  refine S0.wr 0 (by simp) rfl fun h3 S3 => ?_
  refine pow2S (by omega) (by omega) fun m m1 m2 => ⟨_, rfl, by decide, ?_⟩
  have eq4 : IntKind.i64.wrap (Int.tdiv ((b - a : Nat) : Int) 4) = (((b - a) / 4 : Nat) : Int) := by
    rw [show Int.tdiv ((b - a : Nat) : Int) 4 = (((b - a) / 4 : Nat) : Int) from rfl, wrapI (by omega) (by omega)]
  rw [eq4, show IntKind.i64.wrap ((IntKind.i64.wrap ((a : Int) + (IntKind.i64.wrap ((((b - a) / 4 : Nat) : Int) * 2)))) - 1) = ((a + (b - a) / 4 * 2 - 1 : Nat) : Int) by
      rw [wrapI (n := (((b - a) / 4 : Nat) : Int) * 2) (by omega) (by omega), wrapI (n := (a : Int) + (((b - a) / 4 : Nat) : Int) * 2) (by omega) (by omega), wrapI (by omega) (by omega)]; omega]
  exact ⟨_, brk_loop hn hab hK ⟨by omega, m2⟩ _ _ f0 h3 _ (Nat.lt_succ_self _) (by omega) (Pm.refl _ _ _) S3.p1⟩
end
def PdqS (s : SV) (n N : Nat) : Prop := ∀ (a b : Nat) (f : Nat → BN) (x : Int) (h : Heap) (K : KT) (L : List Asr), b - a < N → a ≤ b → b ≤ n → (0 < a → ∀ k, a ≤ k → k < b → o.le (f (a - 1)) (f k)) →
  St (Ow 3 s (rw n f) :: L) h → (∀ h' g, Pm a b f g → o.Srt a b g → St (Ow 3 s (rw n g) :: L) h' → K (.tuple #[]) h') → CallsH P F.qah [.slice s.1 s.2.1 s.2.2, .int .i64 a, .int .i64 b, .int .i64 x, fc] K h
section
variable {s : SV} {n a0 b0 : Nat} {f0 : Nat → BN}
variable (hn : n < 2305843009213693952) (hb0 : b0 ≤ n) (hrec : PdqS s n (b0 - a0)) (hK : ∀ h' g, Pm a0 b0 f0 g → o.Srt a0 b0 g → St (Ow 3 s (rw n g) :: L) h' → K (.tuple #[]) h')
include hn hb0 hrec in
theorem pdq_j5 {R : OA → Nat → Nat → Int → Int → Int → Value → Bool → Bool → Heap → Prop} {a b c : Nat} {f : Nat → BN} {h : Heap} {x : Int} {t8 t9 q : Bool}
    (hR : ∀ (a' b' : Nat) (x : Int) (u v : Bool) g h', b' - a' < b - a → a' ≤ b' → PdqI o a0 b0 f0 a' b' g → St (Ow 3 s (rw n g) :: L) h' → R s.1 s.2.1 s.2.2 a' b' x fc u v h')
    (I : PdqI o a0 b0 f0 a b f) (hab : a + 12 < b) (hc : a ≤ c ∧ c < b) (hq : q = true → 0 < a ∧ o.le (f c) (f (a - 1))) (S : St (Ow 3 s (rw n f) :: L) h) : qah.j5 K R s.1 s.2.1 s.2.2 a b x fc t8 t9 ((b - a : Nat) : Int) c q h := by
  unfold qah.j5
  have := I.ha
  have := I.hb
  cases hqq : q with
  | true =>
    obtain ⟨h0, hv⟩ := hq hqq
    refine ifT rfl (pequS (a := a) (b := b) (by omega) (by omega) S hc fun h' g m pg hm l1 Sg => ⟨_, rfl, ?_⟩)
    refine hR m b x t8 t9 g h' (by omega) (by omega) ((I.move pg).equal h0 hm ?_ l1) Sg
    rw [pg.out (k := a - 1) (.inl (by omega))]
    exact hv
  | false =>
    refine ifF rfl (partS (a := a) (b := b) (by omega) (by omega) S hc fun h' g m d pg hm l1 l2 Sg => ⟨_, _, rfl, ?_⟩)
    simp only [bd]
    rw [wp1 (n := n) (by omega) (by omega)]
    refine ⟨by decide, ?_⟩
    have I2 := I.move pg
    cases decide (IntKind.i64.wrap ((m : Int) - (a : Int)) < IntKind.i64.wrap ((b : Int) - (m : Int))) with
    | true =>
      refine ifT rfl (hrec a m g x h' _ L (by omega) (by omega) (by omega) (fun h0 k k1 k2 => I2.low h0 k k1 (by omega)) Sg fun h2 e pe se Se => ⟨rfl, ?_⟩)
      exact hR (m + 1) b x _ d e h2 (by omega) (by omega) (I2.right hm l1 l2 pe se) Se
    | false =>
      refine ifF rfl (hrec (m + 1) b g x h' _ L (by omega) (by omega) (by omega) (fun h0 k k1 k2 => l2 k (by omega) k2) Sg fun h2 e pe se Se => ⟨rfl, ?_⟩)
      exact hR a m x _ d e h2 (by omega) (by omega) (I2.left hm l1 l2 pe se) Se
include hn hb0 hrec hK in
theorem pdq_j6 {R : OA → Nat → Nat → Int → Int → Int → Value → Bool → Bool → Heap → Prop} {a b c : Nat} {f : Nat → BN} {h : Heap} {x : Int} {t8 t9 q : Bool}
    (hR : ∀ (a' b' : Nat) (x : Int) (u v : Bool) g h', b' - a' < b - a → a' ≤ b' → PdqI o a0 b0 f0 a' b' g → St (Ow 3 s (rw n g) :: L) h' → R s.1 s.2.1 s.2.2 a' b' x fc u v h')
    (I : PdqI o a0 b0 f0 a b f) (hab : a + 12 < b) (hc : a ≤ c ∧ c < b) (S : St (Ow 3 s (rw n f) :: L) h) : qah.j6 K R s.1 s.2.1 s.2.2 a b x fc t8 t9 ((b - a : Nat) : Int) c q h := by
  have := I.ha
  have := I.hb
  have j4 : ∀ (g : Nat → BN) (h' : Heap), PdqI o a0 b0 f0 a b g → St (Ow 3 s (rw n g) :: L) h' → qah.j4 K R s.1 s.2.1 s.2.2 a b x fc t8 t9 ((b - a : Nat) : Int) c h' := by
    intro g h' I2 S2
    unfold qah.j4
    by_cases h0 : 0 < a
    · rw [wm1 (n := n) (by omega) (by omega) (by omega)]
      refine ifT (by simp; omega) (less2T (i := a - 1) (j := c) S2 rfl rfl (by omega) (by omega) ?_)
      intro nn h9 hnn S2
      rw [hnn]
      exact pdq_j5 hn hb0 hrec hR I2 hab hc (fun e => ⟨h0, (by simpa using e : o.lt (g (a - 1)) (g c) = false)⟩) S2
    · exact ifF (by simp; omega) (pdq_j5 hn hb0 hrec hR I2 hab hc (fun e => by cases e) S2)
  unfold qah.j6
  cases q with
  | false => exact ifF rfl (j4 f h I S)
  | true =>
    refine ifT rfl (pinS (a := a) (b := b) (by omega) ⟨by omega, by omega⟩ I.low S (fun h' g pg Sg => ⟨_, rfl, ifF rfl (j4 g h' (I.move pg) Sg)⟩) fun h' g pg sg Sg => ⟨_, rfl, ifT rfl (hK h' g (I.move pg).pm (I.fin g pg sg) Sg)⟩)
include hn hb0 hrec hK in
theorem pdq_loop : ∀ (fuel a b : Nat) (f : Nat → BN) (h : Heap) (x : Int) (t8 t9 : Bool), b - a < fuel → a ≤ b → PdqI o a0 b0 f0 a b f → St (Ow 3 s (rw n f) :: L) h → qah.L1 K fuel s.1 s.2.1 s.2.2 a b x fc t8 t9 h
  | 0, _, _, _, _, _, _, _, hf, _, _, _ => absurd hf (Nat.not_lt_zero _)
  | fuel + 1, a, b, f, h, x, t8, t9, hf, hab, I, S => by
    unfold qah.L1
    have := I.ha
    have := I.hb
    simp only [bd]
    rw [show IntKind.i64.wrap ((b : Int) - (a : Int)) = ((b - a : Nat) : Int) by rw [wrapI (by omega) (by omega)]; omega]
    by_cases h12 : b - a ≤ 12
    · exact ifT (by simp; omega) (insS (a := a) (b := b) S (by omega) (by omega) (by omega) fun h' g pg sg Sg => ⟨rfl, hK h' g (I.move pg).pm (I.fin g pg sg) Sg⟩)
    refine ifF (by simp; omega) ?_
    have j2 : ∀ (x : Int) (g : Nat → BN) (h' : Heap), PdqI o a0 b0 f0 a b g → St (Ow 3 s (rw n g) :: L) h' → qah.j2 K (qah.L1 K fuel) s.1 s.2.1 s.2.2 a b x fc t8 t9 ((b - a : Nat) : Int) h' := by
      intro x g h' I2 S2
      have j3 : ∀ (c : Nat) (y : Int) (e : Nat → BN) (h2 : Heap), a ≤ c → c < b → PdqI o a0 b0 f0 a b e → St (Ow 3 s (rw n e) :: L) h2 → qah.j3 K (qah.L1 K fuel) s.1 s.2.1 s.2.2 a b x fc t8 t9 ((b - a : Nat) : Int) c y h2 := by
        intro c y e h2 c1 c2 I3 S3
        unfold qah.j3
        have j6 := fun q : Bool => pdq_j6 (K := K) (L := L) (R := qah.L1 K fuel) (x := x) (t8 := t8) (t9 := t9) (q := q) hn hb0 hrec hK (fun a' b' x u v g h' hlt hle I' S' => pdq_loop fuel a' b' g h' x u v (by omega) hle I' S') I3 (by omega) ⟨c1, c2⟩ S3
        exact ⟨fun _ => ⟨fun _ => j6 _, fun _ => j6 _⟩, fun _ => j6 _⟩
      unfold qah.j2
      refine pivotS (a := a) (b := b) S2 (by omega) (by omega) (by omega) fun h3 i y i1 i2 S3 => ⟨_, _, rfl, ?_⟩
      refine ⟨fun _ => revS (a := a) (b := b) S3 (by omega) (by omega) (by omega) fun h4 e pe Se => ⟨rfl, ?_⟩, fun _ => j3 i y g h3 i1 i2 I2 S3⟩
      simp only [bd]
      rw [wm1 (n := n) (by omega) (by omega) (by omega), show IntKind.i64.wrap ((i : Int) - (a : Int)) = ((i - a : Nat) : Int) by rw [wrapI (by omega) (by omega)]; omega, show IntKind.i64.wrap (((b - 1 : Nat) : Int) - ((i - a : Nat) : Int)) = ((b - 1 - (i - a) : Nat) : Int) by rw [wrapI (by omega) (by omega)]; omega]
      exact j3 _ 1 e h4 (by omega) (by omega) (I2.move pe) Se
    refine ⟨fun _ => heapS (a := a) (b := b) S (by omega) (by omega) (by omega) fun h' g pg sg Sg => ⟨rfl, hK h' g (I.move pg).pm (I.fin g pg sg) Sg⟩, fun _ => ?_⟩
    cases t8 with
    | true => exact ifF rfl (j2 x f h I S)
    | false => exact ifT rfl (brkS (a := a) (b := b) (by omega) ⟨by omega, by omega⟩ S fun h' g pg Sg => ⟨rfl, j2 _ g h' (I.move pg) Sg⟩)
end
theorem pdqS {s : SV} {n : Nat} (hn : n < 2305843009213693952) : ∀ N, PdqS s n N
  | 0 => fun a b f x h K L hl => absurd hl (Nat.not_lt_zero _)
  | N + 1 => by
    intro a b f x h K L hl hab hb low S hK
    refine qah.ok ?_
    unfold qah.p0
    have hrec : PdqS s n (b - a) := fun a' b' f' x' h' K' L' hl' => pdqS hn N a' b' f' x' h' K' L' (by omega)
    exact ⟨_, pdq_loop hn hb hrec hK _ a b f h x true true (Nat.lt_succ_self _) hab (PdqI.start low) S⟩
theorem sortS {s : SV} {xs : List BN} (S : St (Ow 3 s (xs.flatMap bc) :: L) h) (hn : xs.length < 2305843009213693952) (d : BN)
    (hK : ∀ h' (ys : List BN), ys.Perm xs → ys.Pairwise o.le → St (Ow 3 s (ys.flatMap bc) :: L) h' → K (.tuple #[]) h') :
    CallsH P F.qbt [.slice s.1 s.2.1 s.2.2, fc] K h := by
  refine qbt.ok ?_
  unfold qbt.p0
  have S0 : St (Ow 3 s (rw xs.length fun i => xs.getD i d) :: L) h := by unfold rw; rw [rowF_of]; exact S
  have el : s.2.1 = xs.length := rlen S0
  obtain ⟨p, l, c⟩ := s
  subst el
  simp only [bd]
  rw [show IntKind.u64.wrap ((xs.length : Nat) : Int) = ((xs.length : Nat) : Int) by rw [IntKind.wrap_u64]; omega]
  refine lenS (by omega) ⟨_, rfl, ?_⟩
  refine pdqS (s := (p, xs.length, c)) hn _ 0 xs.length _ _ h _ L (Nat.lt_succ_self _) (Nat.zero_le _) (Nat.le_refl _) (fun h0 => by omega) S0 fun h' g pg sg Sg => ⟨rfl, ?_⟩
  refine hK h' (rowF xs.length g) ?_ (o.srt_row sg) Sg
  have := pg.perm
  rwa [rowF_of] at this
end
end Go.Proofs.YtechpnlbkkfplaaGreatDoor.Pr.sort_bind
end
