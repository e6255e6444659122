/- The order of bindings: what the program's order answers. -/
import Derived.Test.YtechpnlbkkfplaaDoorLiftD
import Derived.Test.YtechpnlbkkfplaaDoorSortString
import Derived.Test.YtechpnlbkkfplaaDoorPrRout
import Derived.Test.YtechpnlbkkfplaaDoorPrCmpGInt
import Derived.Test.YtechpnlbkkfplaaDoorPrCmpGString
set_option linter.unusedVariables false
set_option linter.unusedSimpArgs false

namespace Go.Lift.Ord
variable {α β : Type}
/-- First by the one, then by the other. -/
def lex (a : Ord α) (b : Ord β) : Ord (α × β) where
  lt x y := a.lt x.1 y.1 || (!a.lt y.1 x.1 && b.lt x.2 y.2)
  asym x y h := by
    have h1 := a.asym x.1 y.1
    have h2 := a.asym y.1 x.1
    have h3 := b.asym x.2 y.2
    cases e1 : a.lt x.1 y.1 with
    | true => rw [h1 e1]; rfl
    | false =>
      rw [e1] at h
      cases e2 : a.lt y.1 x.1 with
      | true => rw [e2] at h; simp at h
      | false => rw [e2] at h; simp at h; rw [h3 h]; rfl
  trans x y z h k := by
    simp only [Bool.or_eq_false_iff, Bool.and_eq_false_iff, Bool.not_eq_false'] at *
    refine ⟨a.trans _ _ _ h.1 k.1, ?_⟩
    rcases h.2 with h2 | h2
    · left
      cases e : a.lt x.1 z.1 with
      | true => rfl
      | false => have := a.trans _ _ _ k.1 e; rw [h2] at this; cases this
    · rcases k.2 with k2 | k2
      · left
        cases e : a.lt x.1 z.1 with
        | true => rfl
        | false => have := a.trans _ _ _ e h.1; rw [k2] at this; cases this
      · exact .inr (b.trans _ _ _ h2 k2)
theorem lex_anti {a : Ord α} {b : Ord β} (ha : ∀ x y, a.le x y → a.le y x → x = y) (hb : ∀ x y, b.le x y → b.le y x → x = y) (x y : α × β) (h : (lex a b).le x y) (k : (lex a b).le y x) : x = y := by
  simp only [le, lex, Bool.or_eq_false_iff, Bool.and_eq_false_iff, Bool.not_eq_false'] at h k
  have e1 := ha x.1 y.1 h.1 k.1
  have e2 : x.2 = y.2 := by
    refine hb x.2 y.2 ?_ ?_
    · rcases h.2 with h2 | h2
      · rw [k.1] at h2; cases h2
      · exact h2
    · rcases k.2 with k2 | k2
      · rw [h.1] at k2; cases k2
      · exact k2
  exact Prod.ext e1 e2
end Go.Lift.Ord

namespace Go.Proofs.YtechpnlbkkfplaaDoor.Pr
open Go Go.Lift Go.Proofs

/-- A binding: exchange, queue, key. -/
abbrev BN := List UInt8 × List UInt8 × List UInt8
abbrev bc (x : BN) : List Value := [.string (mkS x.1), .string (mkS x.2.1), .string (mkS x.2.2)]
theorem bc3 : ∀ x : BN, (bc x).length = 3 := fun _ => rfl
theorem bc_one (x : BN) : ∀ w ∈ bc x, one w = true := fun w hw => by
  rcases List.mem_cons.1 hw with rfl | hw
  · rfl
  rcases List.mem_cons.1 hw with rfl | hw
  · rfl
  rw [List.mem_singleton.1 hw]; rfl

def cmpI (x y : List UInt8) : Int := if Op.bytesLess x y then -1 else if x == y then 0 else 1
def or3 (a b c : Int) : Int := if a != 0 then a else if b != 0 then b else c
theorem cmpI_eq (x y : List UInt8) : (cmpI x y = -1 ∧ Op.bytesLess x y = true) ∨ (cmpI x y = 0 ∧ Op.bytesLess x y = false ∧ Op.bytesLess y x = false) ∨ (cmpI x y = 1 ∧ Op.bytesLess x y = false ∧ Op.bytesLess y x = true) := by
  unfold cmpI
  cases h : Op.bytesLess x y with
  | true => exact .inl ⟨rfl, rfl⟩
  | false =>
    rw [if_neg (by decide)]
    by_cases e : x = y
    · subst e; exact .inr (.inl ⟨by simp, rfl, h⟩)
    · refine .inr (.inr ⟨by rw [if_neg (by simpa using e)], rfl, ?_⟩)
      cases k : Op.bytesLess y x with
      | true => rfl
      | false => exact absurd (sort_string.le_anti x y k h) e

namespace sort_bind
def o : Lift.Ord BN := Lift.Ord.lex sort_string.o (Lift.Ord.lex sort_string.o sort_string.o)
theorem le_anti (x y : BN) (h : o.le x y) (k : o.le y x) : x = y := Lift.Ord.lex_anti sort_string.le_anti (Lift.Ord.lex_anti sort_string.le_anti sort_string.le_anti) x y h k
abbrev fc : Value := .func (.func F.rout_order) #[] #[]
theorem or_lt (x y : BN) : decide (or3 (cmpI x.1 y.1) (cmpI x.2.1 y.2.1) (cmpI x.2.2 y.2.2) < 0) = o.lt x y := by
  show _ = (Op.bytesLess x.1 y.1 || (!Op.bytesLess y.1 x.1 && (Op.bytesLess x.2.1 y.2.1 || (!Op.bytesLess y.2.1 x.2.1 && Op.bytesLess x.2.2 y.2.2))))
  unfold or3
  rcases cmpI_eq x.1 y.1 with ⟨e, a⟩ | ⟨e, a, a'⟩ | ⟨e, a, a'⟩
  · rw [e, a]; rfl
  · rw [e, a, a']
    rcases cmpI_eq x.2.1 y.2.1 with ⟨e, b⟩ | ⟨e, b, b'⟩ | ⟨e, b, b'⟩
    · rw [e, b]; rfl
    · rw [e, b, b']
      rcases cmpI_eq x.2.2 y.2.2 with ⟨e, c⟩ | ⟨e, c, c'⟩ | ⟨e, c, c'⟩ <;> rw [e, c] <;> rfl
    · rw [e, b, b']; rfl
  · rw [e, a, a']; rfl
end sort_bind

section
variable {K : KT} {L : List Asr} {h : Heap}
theorem nanS {x : List UInt8} (hK : K (.bool false) h) : CallsH P F.cmp_isNaN_string [.string (mkS x)] K h := by
  refine cmp_isNaN_string.ok ?_
  unfold cmp_isNaN_string.p0
  unfold bd
  rw [show (!(x == x)) = false by simp]
  exact hK
theorem cmpS {x y : List UInt8} {F' : Int → Heap → Prop} (hK : F' (cmpI x y) h) : CallsH P F.cmp_Compare_string [.string (mkS x), .string (mkS y)] (fun v h' => ∃ n, v = .int .i64 n ∧ F' n h') h := by
  refine cmp_Compare_string.ok ?_
  unfold cmp_Compare_string.p0
  refine nanS ⟨_, rfl, nanS ⟨_, rfl, ifF rfl (ifF rfl ?_)⟩⟩
  unfold cmpI at hK
  cases h1 : Op.bytesLess x y with
  | true => rw [h1] at hK; exact ifT rfl ⟨_, rfl, hK⟩
  | false =>
    rw [h1, if_neg (by decide)] at hK
    refine ifF rfl ?_
    cases h2 : (x == y) with
    | true => rw [h2] at hK; exact ifF rfl ⟨_, rfl, hK⟩
    | false => rw [h2] at hK; exact ifT rfl ⟨_, rfl, hK⟩
theorem finO (S : St L h) {a b c : Int} (hK : ∀ h', St L h' → K (.int .i64 (or3 a b c)) h') :
    bd (al h #[.int .i64 a, .int .i64 b, .int .i64 c] T.int) fun h1 => CallsH P F.cmp_Or_int [.slice (some (top h)) 3 3] (fun v h' => ∃ n, v = .int .i64 n ∧ K (.int .i64 n) h') h1 := by
  refine St.bd1 (cs := [.int .i64 a, .int .i64 b, .int .i64 c]) S fun S1 => ?_
  generalize al h (List.toArray [.int .i64 a, .int .i64 b, .int .i64 c]) T.int = h1 at *
  have k := hK h1 S1.tl
  have sa : Sl 1 h1 (some (top h)) 3 [.int .i64 a, .int .i64 b, .int .i64 c] := ⟨rfl, S1.mem.1⟩
  refine cmp_Or_int.ok ?_
  unfold cmp_Or_int.p0
  unfold or3 at k
  refine ⟨4, ?_⟩
  unfold cmp_Or_int.L1
  refine ⟨fun _ => ixV (n := 0) (w := .int .i64 a) sa rfl rfl fun p ep cp => ⟨a, cp, ?_⟩, fun e => absurd e (by decide)⟩
  cases ea : (a != 0) with
  | true => rw [ea] at k; exact ⟨fun _ => ⟨_, rfl, k⟩, fun e => by cases e⟩
  | false =>
    rw [ea, if_neg (by decide)] at k
    refine ⟨fun e => (by cases e), fun _ => ?_⟩
    rw [show IntKind.i64.wrap (0 + 1) = 1 by decide]
    unfold cmp_Or_int.L1
    refine ⟨fun _ => ixV (n := 1) (w := .int .i64 b) sa rfl rfl fun p ep cp => ⟨b, cp, ?_⟩, fun e => absurd e (by decide)⟩
    cases eb : (b != 0) with
    | true => rw [eb] at k; exact ⟨fun _ => ⟨_, rfl, k⟩, fun e => by cases e⟩
    | false =>
      rw [eb, if_neg (by decide)] at k
      refine ⟨fun e => (by cases e), fun _ => ?_⟩
      rw [show IntKind.i64.wrap (1 + 1) = 2 by decide]
      unfold cmp_Or_int.L1
      refine ⟨fun _ => ixV (n := 2) (w := .int .i64 c) sa rfl rfl fun p ep cp => ⟨c, cp, ?_⟩, fun e => absurd e (by decide)⟩
      cases ec : (c != 0) with
      | true => exact ⟨fun _ => ⟨_, rfl, k⟩, fun e => by cases e⟩
      | false =>
        refine ⟨fun e => (by cases e), fun _ => ?_⟩
        rw [show IntKind.i64.wrap (2 + 1) = 3 by decide]
        unfold cmp_Or_int.L1
        have : c = 0 := by simpa using ec
        subst this
        exact ⟨fun e => absurd e (by decide), fun _ => ⟨_, rfl, k⟩⟩

set_option maxHeartbeats 8000000 in
theorem orderS (S : St L h) {x y : BN} (hK : ∀ h', St L h' → K (.int .i64 (or3 (cmpI x.1 y.1) (cmpI x.2.1 y.2.1) (cmpI x.2.2 y.2.2))) h') : CallsH P F.rout_order [.agg (List.toArray (bc x)), .agg (List.toArray (bc y))] K h := by
  refine rout_order.ok ?_
  unfold rout_order.p0
  refine St.bd1 (cs := bc x) S fun S1 => St.bd1 (cs := bc y) S1 fun S2 => ?_
  have hx0 := S2.p1.c 0 (v := .string (mkS x.1)) rfl
  have hx1 := S2.p1.c 1 (v := .string (mkS x.2.1)) rfl
  have hx2 := S2.p1.c 2 (v := .string (mkS x.2.2)) rfl
  have hy0 := S2.c 0 (v := .string (mkS y.1)) rfl
  have hy1 := S2.c 1 (v := .string (mkS y.2.1)) rfl
  have hy2 := S2.c 2 (v := .string (mkS y.2.2)) rfl
  generalize top (al h (List.toArray (bc x)) T.api_Bind) = t1 at *
  generalize al (al h (List.toArray (bc x)) T.api_Bind) (List.toArray (bc y)) T.api_Bind = h2 at *
  generalize top h = t0 at *
  have S3 := S2.tl.tl
  clear S S1 S2
  repeat' first
    | with_reducible refine And.intro ?_ ?_
    | with_reducible refine cmpS ?_
    | with_reducible refine ⟨_, hx0, ?_⟩
    | with_reducible refine ⟨_, hx1, ?_⟩
    | with_reducible refine ⟨_, hx2, ?_⟩
    | with_reducible refine ⟨_, hy0, ?_⟩
    | with_reducible refine ⟨_, hy1, ?_⟩
    | with_reducible refine ⟨_, hy2, ?_⟩
    | with_reducible exact finO S3 hK
end

theorem sort_bind.orderV {L : List Asr} {h : Heap} {K : KT} (S : St L h) {x y : BN} (hK : ∀ m h', decide (m < 0) = sort_bind.o.lt x y → St L h' → K (.int .i64 m) h') : CallV P sort_bind.fc [.agg (List.toArray (bc x)), .agg (List.toArray (bc y))] K h :=
  callV_fn (orderS S fun h' S' => hK _ h' (sort_bind.or_lt x y) S')
end Go.Proofs.YtechpnlbkkfplaaDoor.Pr
