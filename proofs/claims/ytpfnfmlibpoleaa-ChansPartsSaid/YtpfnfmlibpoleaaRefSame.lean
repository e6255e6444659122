/- The document's comparison of methods without tables; what the document fixes of methods. -/
import Derived.Test.YtpfnfmlibpoleaaMethW
import Derived.Test.YtpfnfmlibpoleaaRefForm
import Derived.Test.YtpfnfmlibpoleaaPrLaw4Awake
set_option linter.unusedVariables false
set_option linter.unusedSimpArgs false
namespace Go.Proofs.Ytpfnfmlibpoleaa.Pr
open Go Go.Lift Go.Proofs

section
variable {K : KT} {L R : List Asr} {h : Heap}

theorem sameTab0 {t u : SV} (ht : t.2.1 = 0) (hu : u.2.1 = 0) (hK : K (.bool true) h) : CallsH P F.waybillref1_SameTable [.slice t.1 t.2.1 t.2.2, .slice u.1 u.2.1 u.2.2] K h := by
  refine waybillref1_SameTable.ok ?_
  unfold waybillref1_SameTable.p0
  rw [ht, hu]
  refine ifF rfl ⟨1, ?_⟩
  unfold waybillref1_SameTable.L1
  exact ifF rfl hK

theorem take_eq_step {α : Type} [DecidableEq α] {l m : List α} (hl : l.length = m.length) {i : Nat} (h1 : i < l.length) (h2 : i < m.length) (ht : l.take i = m.take i) : (l[i] = m[i] ↔ l.take (i + 1) = m.take (i + 1)) := by
  have e1 := List.take_succ_eq_append_getElem h1
  have e2 := List.take_succ_eq_append_getElem h2
  rw [e1, e2, ht]
  exact ⟨fun e => by rw [e], fun e => (List.cons.inj (List.append_cancel_left e)).1⟩

theorem sm_F {a b : Addr} {y z : MV} {c1 c2 c3 c4 : Int} {l m : List Bool} (hl : l.length = m.length) (hb : l.length < 1000000) (S : St L h) {R1 R2 : List Asr} [Has (Bx a) L (mcells c1 c2 y) R1] [Has (Bx b) L (mcells c3 c4 z) R2] [In (Im 1 y.f) L (bools l)] [In (Im 1 z.f) L (bools m)] (hK : K (.bool (decide (l = m))) h) :
    ∀ (fuel i : Nat), l.length - i < fuel → i ≤ l.length → l.take i = m.take i → waybillref1_SameMethod.L4 K fuel a b i h
  | 0, _, hf, _, _ => absurd hf (Nat.not_lt_zero _)
  | fuel + 1, i, hf, hi, ht => by
    unfold waybillref1_SameMethod.L4
    have sl := S.isl 1 y.f
    have sm := S.isl 1 z.f
    have ll := sl.1
    have lm := sm.1
    simp only [bools, List.length_map, Nat.mul_one] at ll lm
    simp only [rdS (S.rc a 4 rfl), rdS (S.rc b 4 rfl)]
    by_cases hlt : i < l.length
    · have hm : i < m.length := by omega
      refine ifT (by simp; omega) ?_
      refine ixV sl (w := .bool l[i]) rfl (by simp [bools, hlt]) fun q eq cq => ?_
      simp only [rdB cq]
      refine ixV sm (w := .bool m[i]) rfl (by simp [bools, hm]) fun q2 eq2 cq2 => ?_
      simp only [rdB cq2, bd]
      have := take_eq_step hl hlt hm ht
      by_cases e : l[i] = m[i]
      · refine ifF (by simp [e]) ?_
        rw [wsucc (by omega)]
        exact sm_F hl hb S hK fuel (i + 1) (by omega) (by omega) (this.1 e)
      · refine ifT (by simp [e]) ?_
        rw [decide_eq_false (by intro x; subst x; exact e rfl)] at hK
        exact hK
    · refine ifF (by simp; omega) ?_
      rw [List.take_of_length_le (by omega), List.take_of_length_le (by omega)] at ht
      rw [decide_eq_true ht] at hK
      exact hK

theorem sm_S {a b : Addr} {y z : MV} {c1 c2 c3 c4 : Int} {l m : List Oct} (hl : l.length = m.length) (hb : l.length < 1000000) (S : St L h) {R1 R2 : List Asr} [Has (Bx a) L (mcells c1 c2 y) R1] [Has (Bx b) L (mcells c3 c4 z) R2] [In (Im 1 y.s) L (strs l)] [In (Im 1 z.s) L (strs m)] (hne : l ≠ m → K (.bool false) h) (heq : l = m → waybillref1_SameMethod.j3 K a b h) :
    ∀ (fuel i : Nat), l.length - i < fuel → i ≤ l.length → l.take i = m.take i → waybillref1_SameMethod.L5 K fuel a b i h
  | 0, _, hf, _, _ => absurd hf (Nat.not_lt_zero _)
  | fuel + 1, i, hf, hi, ht => by
    unfold waybillref1_SameMethod.L5
    have sl := S.isl 1 y.s
    have sm := S.isl 1 z.s
    have ll := sl.1
    have lm := sm.1
    simp only [strs, List.length_map, Nat.mul_one] at ll lm
    simp only [rdS (S.rc a 3 rfl), rdS (S.rc b 3 rfl)]
    by_cases hlt : i < l.length
    · have hm : i < m.length := by omega
      refine ifT (by simp; omega) ?_
      refine ixV sl (w := .string (mkS l[i])) rfl (by simp [strs, hlt]) fun q eq cq => ?_
      simp only [rdT cq]
      refine ixV sm (w := .string (mkS m[i])) rfl (by simp [strs, hm]) fun q2 eq2 cq2 => ?_
      simp only [rdT cq2, bd]
      have := take_eq_step hl hlt hm ht
      by_cases e : l[i] = m[i]
      · refine ifF (by simp [e]) ?_
        rw [wsucc (by omega)]
        exact sm_S hl hb S hne heq fuel (i + 1) (by omega) (by omega) (this.1 e)
      · exact ifT (by simp [e]) (hne (by intro x; subst x; exact e rfl))
    · refine ifF (by simp; omega) ?_
      rw [List.take_of_length_le (by omega), List.take_of_length_le (by omega)] at ht
      exact heq ht

theorem sm_N {a b : Addr} {y z : MV} {c1 c2 c3 c4 : Int} {l m : List Nat} (hl : l.length = m.length) (hb : l.length < 1000000) (S : St L h) {R1 R2 : List Asr} [Has (Bx a) L (mcells c1 c2 y) R1] [Has (Bx b) L (mcells c3 c4 z) R2] [In (Im 1 y.n) L (nums l)] [In (Im 1 z.n) L (nums m)] (hne : l ≠ m → K (.bool false) h) (heq : l = m → waybillref1_SameMethod.j2 K a b h) :
    ∀ (fuel i : Nat), l.length - i < fuel → i ≤ l.length → l.take i = m.take i → waybillref1_SameMethod.L6 K fuel a b i h
  | 0, _, hf, _, _ => absurd hf (Nat.not_lt_zero _)
  | fuel + 1, i, hf, hi, ht => by
    unfold waybillref1_SameMethod.L6
    have sl := S.isl 1 y.n
    have sm := S.isl 1 z.n
    have ll := sl.1
    have lm := sm.1
    simp only [nums, List.length_map, Nat.mul_one] at ll lm
    simp only [rdS (S.rc a 2 rfl), rdS (S.rc b 2 rfl)]
    by_cases hlt : i < l.length
    · have hm : i < m.length := by omega
      refine ifT (by simp; omega) ?_
      refine ixV sl (w := .int .u64 (l[i] : Int)) rfl (by simp [nums, hlt]) fun q eq cq => ?_
      simp only [rdN cq]
      refine ixV sm (w := .int .u64 (m[i] : Int)) rfl (by simp [nums, hm]) fun q2 eq2 cq2 => ?_
      simp only [rdN cq2, bd]
      have := take_eq_step hl hlt hm ht
      by_cases e : l[i] = m[i]
      · refine ifF (by simp [e]) ?_
        rw [wsucc (by omega)]
        exact sm_N hl hb S hne heq fuel (i + 1) (by omega) (by omega) (this.1 e)
      · exact ifT (by simp; omega) (hne (by intro x; subst x; exact e rfl))
    · refine ifF (by simp; omega) ?_
      rw [List.take_of_length_le (by omega), List.take_of_length_le (by omega)] at ht
      exact heq ht

def shortM (x : PM) : Prop := x.N.length < 1000000 ∧ x.S.length < 1000000 ∧ x.F.length < 1000000

/-- Two methods, where their tables are told to be the same, or not. -/
theorem sameMS {c1 c2 c3 c4 : Int} {y z : MV} {x w : PM} {bt : Bool} (S : St L h) [In (Im 1 y.n) L (nums x.N)] [In (Im 1 y.s) L (strs x.S)] [In (Im 1 y.f) L (bools x.F)] [In (Im 1 z.n) L (nums w.N)] [In (Im 1 z.s) L (strs w.S)] [In (Im 1 z.f) L (bools w.F)]
    (hx : shortM x) (hT : ∀ {K : KT} {L' : List Asr} {h' : Heap}, St (L' ++ L) h' → (∀ h2, St (L' ++ L) h2 → K (.bool bt) h2) → CallsH P F.waybillref1_SameTable [.slice y.t.1 y.t.2.1 y.t.2.2, .slice z.t.1 z.t.2.1 z.t.2.2] K h')
    (hK : ∀ h', St L h' → K (.bool (decide (c1 = c3 ∧ c2 = c4 ∧ x.N = w.N ∧ x.S = w.S ∧ x.F = w.F ∧ bt = true))) h') :
    CallsH P F.waybillref1_SameMethod [.agg (List.toArray (mcells c1 c2 y)), .agg (List.toArray (mcells c3 c4 z))] K h := by
  refine waybillref1_SameMethod.ok ?_
  unfold waybillref1_SameMethod.p0
  simp only [bd]
  have S1 := S.al (mcells c1 c2 y) T.api_Method
  generalize al h (mcells c1 c2 y).toArray T.api_Method = h1 at *
  have S2 := S1.al (mcells c3 c4 z) T.api_Method
  generalize al h1 (mcells c3 c4 z).toArray T.api_Method = h2 at *
  generalize top h = a at *
  generalize top h1 = b at *
  have n1 := (S.isl 1 y.n).1
  have n2 := (S.isl 1 y.s).1
  have n3 := (S.isl 1 y.f).1
  have m1 := (S.isl 1 z.n).1
  have m2 := (S.isl 1 z.s).1
  have m3 := (S.isl 1 z.f).1
  simp only [nums, strs, bools, List.length_map, Nat.mul_one] at n1 n2 n3 m1 m2 m3
  simp only [rdN (S2.rc a 0 rfl), rdN (S2.rc b 0 rfl), rdN (S2.rc a 1 rfl), rdN (S2.rc b 1 rfl), rdS (S2.rc a 2 rfl), rdS (S2.rc b 2 rfl), rdS (S2.rc a 3 rfl), rdS (S2.rc b 3 rfl), rdS (S2.rc a 4 rfl), rdS (S2.rc b 4 rfl), rdS (S2.rc a 5 rfl), rdS (S2.rc b 5 rfl)]
  have no : ∀ h', St L h' → ¬ (c1 = c3 ∧ c2 = c4 ∧ x.N = w.N ∧ x.S = w.S ∧ x.F = w.F ∧ bt = true) → K (.bool false) h' := by
    intro h' S' e
    have := hK h' S'
    rwa [decide_eq_false e] at this
  have no' : ¬ (c1 = c3 ∧ c2 = c4 ∧ x.N = w.N ∧ x.S = w.S ∧ x.F = w.F ∧ bt = true) → waybillref1_SameMethod.j1 K a b true h2 := by
    intro e
    unfold waybillref1_SameMethod.j1
    exact ifT rfl (no h2 S2.to e)
  by_cases e1 : c1 = c3
  case neg => exact ifT' (by simp [e1]) (no' fun e => e1 e.1)
  refine ifF' (by simp [e1]) ?_
  by_cases e2 : c2 = c4
  case neg => exact ifT' (by simp [e2]) (no' fun e => e2 e.2.1)
  refine ifF' (by simp [e2]) ?_
  by_cases l1 : x.N.length = w.N.length
  case neg => exact ifT' (by simp; omega) (no' fun e => l1 (by rw [e.2.2.1]))
  refine ifF' (by simp; omega) ?_
  by_cases l2 : x.S.length = w.S.length
  case neg => exact ifT' (by simp; omega) (no' fun e => l2 (by rw [e.2.2.2.1]))
  refine ifF' (by simp; omega) ?_
  by_cases l3 : x.F.length = w.F.length
  case neg => exact ifT' (by simp; omega) (no' fun e => l3 (by rw [e.2.2.2.2.1]))
  refine ifF' (by simp; omega) ?_
  refine hT (L' := [Bx b (mcells c3 c4 z), Bx a (mcells c1 c2 y)]) S2 fun h3 S3 => ⟨_, rfl, ?_⟩
  have S4 : St (Bx b (mcells c3 c4 z) :: Bx a (mcells c1 c2 y) :: L) h3 := S3
  unfold waybillref1_SameMethod.j1
  cases bt with
  | false => exact ifT rfl (no h3 S4.to fun e => by simp at e)
  | true =>
    refine ifF rfl ⟨x.N.length + 1, ?_⟩
    refine sm_N l1 hx.1 S4 (fun hne => no h3 S4.to fun e => hne e.2.2.1) (fun heq => ?_) _ 0 (by omega) (by omega) rfl
    unfold waybillref1_SameMethod.j2
    refine ⟨x.S.length + 1, sm_S l2 hx.2.1 S4 (fun hne => no h3 S4.to fun e => hne e.2.2.2.1) (fun heq2 => ?_) _ 0 (by omega) (by omega) rfl⟩
    unfold waybillref1_SameMethod.j3
    refine ⟨x.F.length + 1, sm_F l3 hx.2.2 S4 ?_ _ 0 (by omega) (by omega) rfl⟩
    have := hK h3 S4.to
    simpa [e1, e2, heq, heq2] using this

theorem awakeS (S : St L h) (hK : ∀ h', St L h' → K (.bool true) h') : CallsH P F.waybilllaw4_awake [] K h := by
  refine waybilllaw4_awake.ok ?_
  unfold waybilllaw4_awake.p0
  simp only [bd]
  have S1 : St (Im 1 (some (top h), 1, 1) (nums [5]) :: L) (al h #[.int .u64 5] T.uint64) := S.lit (nums [5]) T.uint64 1 rfl
  generalize al h #[.int .u64 5] T.uint64 = h1 at *
  have S2 : St (Im 1 (some (top h1), 2, 2) (bools [true, true]) :: Im 1 (some (top h), 1, 1) (nums [5]) :: L) (al h1 #[.bool true, .bool true] T.bool) := S1.lit (bools [true, true]) T.bool 2 rfl
  generalize al h1 #[.bool true, .bool true] T.bool = h2 at *
  generalize top h = a1 at *
  generalize top h1 = a2 at *
  have S3 : St (Im 1 (none, 0, 0) (u8s []) :: Im 1 (none, 0, 0) (strs []) :: Tb (fun _ => False) (none, 0, 0) [] :: Im 1 (some a2, 2, 2) (bools [true, true]) :: Im 1 (some a1, 1, 1) (nums [5]) :: L) h2 := ((tbNil 0 S2).imNil 1 0).imNil 1 0
  refine mappS (t := (none, 0, 0)) (bs := []) (a := 60) (b := 120) (y := ⟨(some a1, 1, 1), (none, 0, 0), (some a2, 2, 2), (none, 0, 0)⟩) (x := ⟨[5], [], [true, true], []⟩) (B := fun _ => False) S3 ⟨by simp, by simp, by simp, by simp, by simp, fun f hf => (by cases hf), by simp⟩ (by simp) (by decide) (by decide) fun p l c h3 S4 => ⟨_, _, _, _, rfl, ?_⟩
  have em : methW 60 120 ⟨[5], [], [true, true], []⟩ = some [0, 60, 0, 120, 0, 0, 0, 0, 0, 0, 0, 5, 3] := by decide +kernel
  rw [em] at S4 ⊢
  simp only [List.nil_append, Option.getD_some, Option.isSome_some] at S4 ⊢
  have S5 := S4.fz 1 (p, l, c)
  have ep : methP [0, 60, 0, 120, 0, 0, 0, 0, 0, 0, 0, 5, 3] = .inr (60, 120, ⟨[5], [], [true, true], []⟩) := by kernel_rfl
  have e1 : methP [0, 60, 0, 99] = .inl 5 := by kernel_rfl
  have e2 : methP [0, 60, 0] = .inl 4 := by kernel_rfl
  refine methS (s := (p, l, c)) S5 (by simp) fun y B h4 S6 => ⟨_, _, rfl, ?_⟩
  rw [ep] at S6
  simp only [ep, resE, resM] at S6 ⊢
  have S7 := S6.al (mcells 0 0 mnil) T.api_Method
  refine ⟨rfl, S7.putA (top h4) rfl (by simp [one]) fun h5 S8 => ?_⟩
  clear S7
  generalize top h4 = b1 at *
  have S9 : St (Im 1 (some (top h5), 4, 4) (u8s [0, 60, 0, 99]) :: _) (al h5 #[.int .u8 0, .int .u8 60, .int .u8 0, .int .u8 99] T.uint8) := S8.lit (u8s [0, 60, 0, 99]) T.uint8 4 rfl
  refine methS (s := (some (top h5), 4, 4)) (bs := [0, 60, 0, 99]) S9 (by simp) fun y2 B2 h6 S10 => ⟨_, _, rfl, ?_⟩
  have S11 := S10.al (mcells 0 0 mnil) T.api_Method
  refine ⟨rfl, S11.putA (top h6) rfl (by simp [one]) fun h7 S12 => ?_⟩
  have S13 : St (Im 1 (some (top h7), 3, 3) (u8s [0, 60, 0]) :: _) (al h7 #[.int .u8 0, .int .u8 60, .int .u8 0] T.uint8) := S12.lit (u8s [0, 60, 0]) T.uint8 3 rfl
  refine methS (s := (some (top h7), 3, 3)) (bs := [0, 60, 0]) S13 (by simp) fun y3 B3 h8 S14 => ⟨_, _, rfl, ?_⟩
  have S15 := S14.al (mcells 0 0 mnil) T.api_Method
  refine ⟨rfl, S15.putA (top h8) rfl (by simp [one]) fun h9 S16 => ?_⟩
  rw [e1, e2]
  refine Form.spec fun h10 k10 => ⟨_, _, rfl, ?_⟩
  have S17 := S16.kept k10
  have ef : formP (20, 41) = some [] := by decide +kernel
  rw [ef]
  have S18 : St (Bx b1 (mcells 60 120 y) :: Im 1 (p, l, c) (u8s [0, 60, 0, 120, 0, 0, 0, 0, 0, 0, 0, 5, 3]) :: Im 1 y.n (nums [5]) :: Im 1 y.s (strs []) :: Im 1 y.f (bools [true, true]) :: Tb B y.t [] :: L) h10 := S17.to
  have sl := (isl8 S18 (s := (p, l, c)) (bs := [0, 60, 0, 120, 0, 0, 0, 0, 0, 0, 0, 5, 3])).1
  have ll : l = 13 := Sl.len sl
  subst ll
  refine ⟨fun _ => ifT rfl (ixV (i := 12) (n := 12) sl rfl (w := .int .u8 3) rfl fun q eq cq => ?_), fun e => absurd e (by simp)⟩
  simp only [rdN cq, resE, rdC' (S18.rall b1 6 rfl)]
  refine ifT rfl (ifT rfl ?_)
  have S19 : St (Im 1 (some (top h10), 1, 1) (nums [5]) :: _) (al h10 #[.int .u64 5] T.uint64) := S18.lit (nums [5]) T.uint64 1 rfl
  generalize al h10 #[.int .u64 5] T.uint64 = h11 at *
  have S20 : St (Im 1 (some (top h11), 2, 2) (bools [true, true]) :: _) (al h11 #[.bool true, .bool true] T.bool) := S19.lit (bools [true, true]) T.bool 2 rfl
  generalize al h11 #[.bool true, .bool true] T.bool = h12 at *
  have S21 : St (Im 1 (none, 0, 0) (strs []) :: _) h12 := S20.imNil 1 0
  have lt := tbLen S21 (B := B) (s := y.t)
  refine sameMS (y := y) (z := ⟨(some (top h10), 1, 1), (none, 0, 0), (some (top h11), 2, 2), (none, 0, 0)⟩) (x := ⟨[5], [], [true, true], []⟩) (w := ⟨[5], [], [true, true], []⟩) (bt := true) S21 ⟨by simp, by simp, by simp⟩ (fun S' k => sameTab0 (u := (none, 0, 0)) lt rfl (k _ S')) fun h13 S22 => ⟨_, rfl, ?_⟩
  refine ifT rfl (ifT rfl (ifT rfl (ifT rfl (hK h13 S22.to))))
end
end Go.Proofs.Ytpfnfmlibpoleaa.Pr
