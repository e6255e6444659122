/- methTells_holds: all that the theorem needs, in a few texts (bundle.py; made of the texts that NOTES.md names). -/
import Derived.Below
import Derived.Carry
import Derived.ChangeOld
import Derived.ChangeShapes
import Derived.KernelRfl
import Derived.Laws.Append
import Derived.Laws.Bits64
import Derived.Laws.BitsAllLaws
import Derived.Laws.BitsLemmas
import Derived.Laws.IdiomStrings
import Derived.Laws.Sem
import Derived.Laws.Strings
import Derived.LoopN
import Derived.MapKept
import Derived.OpenShut
import Derived.Orders
import Derived.Test.YtjkiaeccjelklaaChecked
import Derived.WideLaws
import Derived.WideShapes
import Derived.Test.YtjkiaeccjelklaaBMethTellsUpto1
import Derived.Test.YtjkiaeccjelklaaBMethTellsUpto2
import Derived.Test.YtjkiaeccjelklaaBMethTellsUpto3
import Derived.Test.YtjkiaeccjelklaaBMethTellsUpto4
import Derived.Test.YtjkiaeccjelklaaBMethTellsUpto5
import Derived.Test.YtjkiaeccjelklaaBMethTellsUpto6
import Derived.Test.YtjkiaeccjelklaaBMethTellsUpto7
import Derived.Test.YtjkiaeccjelklaaBMethTellsUpto8
import Derived.Test.YtjkiaeccjelklaaBMethTellsUpto9
import Derived.Test.YtjkiaeccjelklaaBMethTellsUpto10
import Derived.Test.YtjkiaeccjelklaaBMethTellsUpto11
section
set_option linter.unusedVariables false
set_option linter.unusedSimpArgs false
namespace Go.Proofs.Ytjkiaeccjelklaa.Pr
open Go Go.Lift Go.Proofs
section
variable {K : KT} {L R : List Asr} {h : Heap}
theorem mcells_one (a b : Int) (y : MV) : ∀ w ∈ mcells a b y, one w = true := by
  intro w hw; simp [mcells] at hw; rcases hw with rfl | rfl | rfl | rfl | rfl | rfl <;> rfl
theorem letter_of {c : UInt8} (h : letterD c) (h1 : c ≠ 102) : letter c := by
  rcases h with e | e | e | e | e | e | e | e
  · exact absurd e h1
  · exact .inl e
  · exact .inr (.inl e)
  · exact .inr (.inr (.inl e))
  all_goals (subst e; exact .inr (.inr (.inr (by decide))))
theorem formW_len : ∀ (k : Nat) (f : Oct) (z z' : Oct × PM), (∀ c ∈ f, letterD c) → f.length < 16 → smallM z.2 → formW k f z = some z' → z'.1.length ≤ z.1.length + f.length * 1073741832
  | 0, _, _, _, _, _, _, h => by unfold formW at h; cases h
  | k + 1, f, z, z', hf, hl, hz, h => by
    unfold formW at h
    by_cases f0 : f = []
    · rw [if_pos f0] at h
      cases h; omega
    rw [if_neg f0] at h
    have fl := flagsP_le f
    by_cases hp : 0 < flagsP f
    · rw [if_pos hp] at h
      cases e : packW (flagsP f) z with
      | none => rw [e] at h; cases h
      | some y =>
        rw [e, Option.bind_some] at h
        have a := packW_small hz e (by omega)
        have := formW_len k _ y z' (fun c hc => hf c (List.mem_of_mem_drop hc)) (by rw [List.length_drop]; omega) a.1 h
        rw [List.length_drop] at this
        omega
    · rw [if_neg hp] at h
      obtain ⟨c, r, rfl⟩ := List.exists_cons_of_ne_nil f0
      have hc102 : c ≠ 102 := by
        intro e
        apply hp
        unfold flagsP
        rw [if_pos e]; omega
      have e0 : (c :: r).getD 0 0 = c := rfl
      have dr : (c :: r).drop 1 = r := rfl
      rw [e0, dr] at h
      cases e : oneW c z with
      | none => rw [e] at h; cases h
      | some y =>
        rw [e, Option.bind_some] at h
        have a := oneW_small hz e (letter_of (hf c (List.mem_cons_self ..)) hc102)
        have := formW_len k r y z' (fun c hc => hf c (List.mem_cons_of_mem _ hc)) (by simp at hl; omega) a.1 h
        simp only [List.length_cons]
        omega
theorem methW_len {a b : Int} {x : PM} {o : Oct} (hx : smallM x) (h : methW a b x = some o) : o.length < 500000000000 := by
  unfold methW at h
  cases hf : formP (a, b) with
  | none => rw [hf] at h; cases h
  | some f =>
    rw [hf] at h
    simp only at h
    have nf := formP_nice hf
    cases hw : formW (f.length + 1) f (octsN 2 (nat64 a) ++ octsN 2 (nat64 b), x) with
    | none => rw [hw] at h; cases h
    | some z =>
      rw [hw] at h
      simp only at h
      have := formW_len _ f _ z nf.1 nf.2.2 hx hw
      have n3 := nf.2.2
      simp only [List.length_append, octsN_length] at this
      split at h
      · cases h; omega
      · cases h
end
end Go.Proofs.Ytjkiaeccjelklaa.Pr
end
section
set_option linter.unusedVariables false
set_option linter.unusedSimpArgs false
namespace Go.Proofs.Ytjkiaeccjelklaa.Pr
open Go Go.Lift Go.Proofs
theorem tparse_wt {b : Oct} {l : List PF} (h : tparseP b = some l) (e : Nat) : wtD e l ≤ 2000 := by
  rw [← tdoc_eq] at h
  unfold tdocP at h
  split at h
  · cases h
  · rename_i hb
    cases hd : docP 8 b with
    | none => rw [hd] at h; cases h
    | some t =>
      rw [hd] at h
      simp only at h
      split at h
      · cases h
        have := docP_wt 8 e b _ hd
        omega
      · cases h
theorem oneP_short {c : UInt8} {s : RS} {x : PM} : (oneP c s x).1.N.length ≤ x.N.length + 1 ∧ (oneP c s x).1.S.length ≤ x.S.length + 1 ∧ (oneP c s x).1.F = x.F ∧ ((oneP c s x).1.T = x.T ∨ ∀ e, wtD e (oneP c s x).1.T ≤ 2000) := by
  have w0 : ∀ e, wtD e [] = 0 := fun e => by cases e <;> rfl
  unfold oneP
  repeat' split
  all_goals simp
  cases h : tparseP (measP 4 s).1 with
  | none => right; intro e; rw [Option.getD_none, w0]; omega
  | some l => right; intro e; exact tparse_wt h e
theorem docR_short : ∀ (f s : Oct) (fl cur : Nat) (x : PM) (r : PM × Oct), docR f s fl cur x = some r → r.1.N.length ≤ x.N.length + f.length ∧ r.1.S.length ≤ x.S.length + f.length ∧ r.1.F.length ≤ x.F.length + f.length ∧ (r.1.T = x.T ∨ ∀ e, wtD e r.1.T ≤ 2000)
  | [], s, fl, cur, x, r, h => by
    cases (show some (x, s) = some r from h)
    simp
  | c :: f, s, fl, cur, x, r, h => by
    rw [docR_cons] at h
    split at h
    · split at h
      · split at h
        · cases h
        · have := docR_short f _ _ _ _ _ h
          simp only [List.length_append, List.length_cons, List.length_nil] at this ⊢
          exact ⟨by omega, by omega, by omega, this.2.2.2⟩
      · have := docR_short f _ _ _ _ _ h
        simp only [List.length_append, List.length_cons, List.length_nil] at this ⊢
        exact ⟨by omega, by omega, by omega, this.2.2.2⟩
    · split at h
      · cases h
      · have a := docR_short f _ _ _ _ _ h
        have b := oneP_short (c := c) (s := (s, false)) (x := x)
        simp only [List.length_cons]
        refine ⟨by omega, by omega, by rw [← b.2.2.1]; omega, ?_⟩
        rcases a.2.2.2 with e | e
        · rw [e]; exact b.2.2.2
        · exact .inr e
theorem methP_short (y : Oct) : shortM (resM (methP y)).2.2 ∧ ∀ e, wtD e (resM (methP y)).2.2.T ≤ 67108864 := by
  have w0 : ∀ e, wtD e [] = 0 := fun e => by cases e <;> rfl
  have z : shortM noM ∧ ∀ e, wtD e noM.T ≤ 67108864 := ⟨by unfold shortM; decide, fun e => by rw [show noM.T = [] from rfl, w0]; omega⟩
  rw [← docM_eq]
  unfold docM
  split
  · exact z
  · cases hf : formP ((numN (takeP 2 (y, false)).1 : Int), (numN (takeP 2 (takeP 2 (y, false)).2).1 : Int)) with
    | none => exact z
    | some f =>
      simp only
      cases hd : docR f (takeP 2 (takeP 2 (y, false)).2).2.1 0 0 noM with
      | none => exact z
      | some r =>
        obtain ⟨x, s⟩ := r
        simp only
        split
        · exact z
        · have := docR_short _ _ _ _ _ _ hd
          have nf := (formP_nice hf).2.2
          have e1 : noM.N.length = 0 ∧ noM.S.length = 0 ∧ noM.F.length = 0 := ⟨rfl, rfl, rfl⟩
          simp only [resM] at this ⊢
          refine ⟨⟨by omega, by omega, by omega⟩, fun e => ?_⟩
          rcases this.2.2.2 with h | h
          · rw [h]; exact z.2 e
          · have := h e; omega
theorem xor_u8 (a b : UInt8) : bitsI .xor .u8 (a.toNat : Int) (b.toNat : Int) = (((a ^^^ b).toNat : Nat) : Int) := by
  show IntKind.u8.wrap ((BitVec.ofInt 8 (a.toNat : Int) ^^^ BitVec.ofInt 8 (b.toNat : Int)).toNat : Int) = _
  have e1 : BitVec.ofInt 8 (a.toNat : Int) = a.toBitVec := by apply BitVec.eq_of_toNat_eq; simp [BitVec.toNat_ofInt]
  have e2 : BitVec.ofInt 8 (b.toNat : Int) = b.toBitVec := by apply BitVec.eq_of_toNat_eq; simp [BitVec.toNat_ofInt]
  rw [e1, e2, IntKind.wrap_u8']
  have : (a.toBitVec ^^^ b.toBitVec).toNat = (a ^^^ b).toNat := rfl
  rw [this]
  have := (a ^^^ b).toNat_lt
  omega
section
variable {K : KT} {L R : List Asr} {h : Heap}
def smallMP (x : PM) : Bool := decide (x.N.length ≤ 30 ∧ x.S.length ≤ 30 ∧ x.F.length ≤ 60) && smallT 12 x.T && x.S.all fun s => decide (s.length ≤ 600)
theorem smallM_loop {m : Addr} {a b : Int} {y : MV} {x : PM} [In (Im 1 y.s) L (strs x.S)] (hs : x.S.length ≤ 30) (hK : ∀ h', St L h' → K (.bool (x.S.all fun s => decide (s.length ≤ 600))) h') :
    ∀ (fuel i : Nat) (h : Heap), x.S.length - i < fuel → i ≤ x.S.length → (x.S.take i).all (fun s => decide (s.length ≤ 600)) = true → St (Bx m (mcells a b y) :: L) h → qas.L2 K fuel m i h
  | 0, _, _, hf, _, _, _ => absurd hf (Nat.not_lt_zero _)
  | fuel + 1, i, h, hf, hi, ht, S => by
    unfold qas.L2
    have sl := S.isl 1 y.s
    have ll := sl.1
    simp only [strs, List.length_map, Nat.mul_one] at ll
    refine ⟨_, _, _, S.rc m 3 rfl, ?_⟩
    by_cases hlt : i < x.S.length
    · refine ifT (by simp; omega) ⟨_, _, _, S.rc m 3 rfl, ixV sl (w := .string (mkS x.S[i])) rfl (by simp [strs, hlt]) fun q eq cq => ?_⟩
      simp only [rdT cq, bd]
      by_cases e : x.S[i].length ≤ 600
      · refine ifF (by simp; omega) ?_
        rw [wsucc (by omega)]
        exact smallM_loop hs hK fuel (i + 1) h (by omega) (by omega) (by rw [all_take hlt ht, decide_eq_true e]) S
      · refine ifT (by simp; omega) ?_
        have := hK h S.tl
        rw [all_false hlt (decide_eq_false e)] at this
        exact this
    · refine ifF (by simp; omega) ?_
      rw [List.take_of_length_le (by omega)] at ht
      have := hK h S.tl
      rwa [ht] at this
theorem smallMS {a b : Int} {y : MV} {x : PM} {B : Nat → Prop} (S : St L h) [In (Im 1 y.n) L (nums x.N)] [In (Im 1 y.s) L (strs x.S)] [In (Im 1 y.f) L (bools x.F)] [In (Tb B y.t) L x.T] (hK : ∀ h', St L h' → K (.bool (smallMP x)) h') :
    CallsH P F.qas [.agg (List.toArray (mcells a b y))] K h := by
  refine qas.ok ?_
  unfold qas.p0
  simp only [bd]
  have S1 := S.al (mcells a b y) T.api_Method
  generalize al h (mcells a b y).toArray T.api_Method = h1 at *
  generalize top h = m at *
  have n1 := (S.isl 1 y.n).1
  have n2 := (S.isl 1 y.s).1
  have n3 := (S.isl 1 y.f).1
  simp only [nums, strs, bools, List.length_map, Nat.mul_one] at n1 n2 n3
  have no : ∀ h', St (Bx m (mcells a b y) :: L) h' → smallMP x = false → qas.j1 K m true h' := by
    intro h' S' e
    unfold qas.j1
    refine ifT rfl ?_
    have := hK h' S'.tl
    rwa [e] at this
  refine ⟨_, _, _, S1.rc m 2 rfl, ?_⟩
  by_cases e1 : x.N.length ≤ 30
  case neg => exact ifT' (by simp; omega) (no h1 S1 (by unfold smallMP; rw [decide_eq_false (fun e => e1 e.1)]; rfl))
  refine ifF' (by simp; omega) ⟨_, _, _, S1.rc m 3 rfl, ?_⟩
  by_cases e2 : x.S.length ≤ 30
  case neg => exact ifT' (by simp; omega) (no h1 S1 (by unfold smallMP; rw [decide_eq_false (fun e => e2 e.2.1)]; rfl))
  refine ifF' (by simp; omega) ⟨_, _, _, S1.rc m 4 rfl, ?_⟩
  by_cases e3 : x.F.length ≤ 60
  case neg => exact ifT' (by simp; omega) (no h1 S1 (by unfold smallMP; rw [decide_eq_false (fun e => e3 e.2.2)]; rfl))
  refine ifF' (by simp; omega) ⟨_, _, _, S1.rc m 5 rfl, smallS (B := B) S1 fun h2 S2 => ⟨_, rfl, ?_⟩⟩
  have e0 : decide (x.N.length ≤ 30 ∧ x.S.length ≤ 30 ∧ x.F.length ≤ 60) = true := decide_eq_true ⟨e1, e2, e3⟩
  cases ht : smallT 12 x.T with
  | false => exact no h2 S2 (by unfold smallMP; rw [ht, Bool.and_false]; rfl)
  | true =>
    unfold qas.j1
    refine ifF rfl ⟨x.S.length + 1, smallM_loop (x := x) e2 ?_ _ 0 h2 (by omega) (by omega) rfl S2⟩
    unfold smallMP at hK
    simpa [e0, ht] using hK
theorem tells_one {R3 : OA → Nat → Nat → Int → OA → Nat → Nat → OA → Nat → Nat → Int → OA → Nat → Nat → Int → Int → Int → Addr → Int → Heap → Prop} {R7 : OA → Nat → Nat → Int → OA → Nat → Nat → OA → Nat → Nat → Int → OA → Nat → Nat → Int → Int → Int → Addr → Int → OA → Nat → Nat → OA → Nat → Nat → Int → Heap → Prop}
    {sr sn ss t w xo s : SV} {wh f at' bb cut : Int} {m0 : Addr} {i k : Int} {y : Oct} (S : St L h) [In (fun z => Im 1 s (u8s z)) L y] (hy : y.length < 1000000000000) (hk : 0 ≤ k ∧ k < 5)
    (hK : ∀ h', St L h' → R7 sr.1 sr.2.1 sr.2.2 wh sn.1 sn.2.1 sn.2.2 ss.1 ss.2.1 ss.2.2 f t.1 t.2.1 t.2.2 at' bb cut m0 i w.1 w.2.1 w.2.2 xo.1 xo.2.1 xo.2.2 (k + 1) h') :
    qaa.j8 K R3 R7 sr.1 sr.2.1 sr.2.2 wh sn.1 sn.2.1 sn.2.2 ss.1 ss.2.1 ss.2.2 f t.1 t.2.1 t.2.2 at' bb cut m0 i w.1 w.2.1 w.2.2 xo.1 xo.2.1 xo.2.2 k s.1 s.2.1 s.2.2 h := by
  unfold qaa.j8
  have sh := methP_short y
  refine methS (s := s) (bs := y) S (by omega) fun y1 B1 h1 S1 => ⟨_, _, rfl, (bdE _ _).2 ?_⟩
  have S2 := S1.al (mcells 0 0 mnil) T.api_Method
  have eh : ∀ h, al h #[.int .i64 0, .int .i64 0, .slice none 0 0, .slice none 0 0, .slice none 0 0, .slice none 0 0] T.api_Method = al h (mcells 0 0 mnil).toArray T.api_Method := fun _ => rfl
  rw [eh]
  generalize al h1 (mcells 0 0 mnil).toArray T.api_Method = h2 at *
  generalize top h1 = m1 at *
  refine ⟨rfl, S2.putA m1 (ws := mcells (resM (methP y)).1 (resM (methP y)).2.1 y1) rfl (mcells_one' _ _ _) fun h3 S3 => ?_⟩
  refine rmofS (s := s) (bs := y) S3 hy fun y2 B2 h4 S4 => ⟨_, _, rfl, (bdE _ _).2 ?_⟩
  have S5 := S4.al (mcells 0 0 mnil) T.api_Method
  rw [eh]
  generalize al h4 (mcells 0 0 mnil).toArray T.api_Method = h5 at *
  generalize top h4 = m2 at *
  refine ⟨rfl, S5.putA m2 (ws := mcells (resM (methP y)).1 (resM (methP y)).2.1 y2) rfl (mcells_one' _ _ _) fun h6 S6 => ?_⟩
  refine ⟨fun _ => ?_, fun e => by simp at e⟩
  refine ⟨_, S6.rall m1 6 rfl, _, S6.rall m2 6 rfl, ?_⟩
  have hTab : ∀ {L0 : List Asr} {T0 : List PF}, (∀ e, wtD e T0 ≤ 67108864) → [In (Tb B1 y1.t) L0 T0] → [In (Tb B2 y2.t) L0 T0] → ∀ {K : KT} {L' : List Asr} {h' : Heap}, St (L' ++ L0) h' → (∀ h2, St (L' ++ L0) h2 → K (.bool true) h2) → CallsH P F.qac [.slice y1.t.1 y1.t.2.1 y1.t.2.2, .slice y2.t.1 y2.t.2.1 y2.t.2.2] K h' := by
    intro L0 T0 hw i1 i2 K L' h' S' k
    haveI : In (Tb B1 y1.t) (L' ++ L0) T0 := ⟨List.mem_append_right L' i1.mem⟩
    haveI : In (Tb B2 y2.t) (L' ++ L0) T0 := ⟨List.mem_append_right L' i2.mem⟩
    exact sameTabS (Bf := B1) (Bg := B2) S' hw fun h2 b hb S2 => by
      obtain rfl := hb.2 rfl
      exact k h2 S2
  refine sameMS (y := y1) (z := y2) (x := (resM (methP y)).2.2) (w := (resM (methP y)).2.2) (bt := true) S6 sh.1 (hTab sh.2) fun h7 S7 => ⟨_, rfl, ?_⟩
  unfold qaa.j9
  refine ifF (by simp) ((bdE _ _).2 ?_)
  rw [show IntKind.i64.wrap (k + 1) = k + 1 by rw [IntKind.wrap_i64]; omega]
  exact hK h7 S7.to
theorem tells_L7 {R3 : OA → Nat → Nat → Int → OA → Nat → Nat → OA → Nat → Nat → Int → OA → Nat → Nat → Int → Int → Int → Addr → Int → Heap → Prop}
    {sr sn ss t w xo : SV} {wh f at' bb cut : Int} {m0 : Addr} {i : Int} {raw o o' : Oct} {kk : Nat} (hbb : 0 ≤ bb ∧ bb < 256) (hr : raw.length < 1000000000000) (ho : o.length < 500000000000) (ho' : o'.length < 1000000000000) (hw : w.2.1 = o.length + 1) (hwc : w.2.1 ≤ w.2.2)
    (hkk : Int.tmod (bitsI .and .i64 cut 65535) ((w.2.1 : Nat) : Int) = (kk : Int)) (hk2 : kk ≤ o.length)
    [i1 : In (fun z => Im 1 sr (u8s z)) L raw] [i2 : In (fun z => Im 1 xo (u8s z)) L o'] [i3 : In (fun z => Im 1 (slA w.1 1 w.2.2 1, w.2.1 - 1, w.2.2 - 1) (u8s z)) L o] [i4 : In (fun z => Im 1 (slA w.1 1 w.2.2 1, 1 + kk - 1, w.2.2 - 1) (u8s z)) L (o.take kk)]
    (hK : ∀ h', St L h' → qaa.j6 K R3 sr.1 sr.2.1 sr.2.2 wh sn.1 sn.2.1 sn.2.2 ss.1 ss.2.1 ss.2.2 f t.1 t.2.1 t.2.2 at' bb cut m0 i h') :
    ∀ (fuel k : Nat) (h : Heap), 5 - k < fuel → k ≤ 5 → St L h → qaa.L7 K R3 fuel sr.1 sr.2.1 sr.2.2 wh sn.1 sn.2.1 sn.2.2 ss.1 ss.2.1 ss.2.2 f t.1 t.2.1 t.2.2 at' bb cut m0 i w.1 w.2.1 w.2.2 xo.1 xo.2.1 xo.2.2 k h
  | 0, _, _, hf, _, _ => absurd hf (Nat.not_lt_zero _)
  | fuel + 1, k, h, hf, hk, S => by
    unfold qaa.L7
    by_cases hlt : k < 5
    case neg => exact ifF (by simp; omega) (hK h S)
    have wr : IntKind.i64.wrap ((1 : Int) + Int.tmod (bitsI .and .i64 cut 65535) ((w.2.1 : Nat) : Int)) = ((1 + kk : Nat) : Int) := by rw [hkk, IntKind.wrap_i64]; omega
    have e1 : Int.toNat 1 = 1 := rfl
    obtain ⟨b, hb⟩ : ∃ b : UInt8, bb = ((b.toNat : Nat) : Int) := ⟨UInt8.ofNat bb.toNat, by rw [UInt8.toNat_ofNat']; omega⟩
    subst hb
    rw [wr, e1]
    simp only [Int.toNat_natCast]
    refine ifT (by simp; omega) ⟨by omega, ⟨by omega, by omega⟩, ⟨by omega, by omega⟩, ⟨by omega, by omega⟩, ⟨by omega, by omega⟩, ?_⟩
    have next : ∀ h', St L h' → qaa.L7 K R3 fuel sr.1 sr.2.1 sr.2.2 wh sn.1 sn.2.1 sn.2.2 ss.1 ss.2.1 ss.2.2 f t.1 t.2.1 t.2.2 at' (b.toNat : Int) cut m0 i w.1 w.2.1 w.2.2 xo.1 xo.2.1 xo.2.2 ((k : Int) + 1) h' := by
      intro h' S'
      exact tells_L7 hbb hr ho ho' hw hwc hkk hk2 hK fuel (k + 1) h' (by omega) (by omega) S'
    have fin : ∀ {p : OA} {l c : Nat} {h' : Heap}, St (Ow 1 (p, l, c) (u8s ([] ++ o ++ [b])) :: L) h' → bd (al h' #[.slice sr.1 sr.2.1 sr.2.2, .slice xo.1 xo.2.1 xo.2.2, .slice (slA w.1 1 w.2.2 1) (1 + kk - 1) (w.2.2 - 1), .slice p l c, .slice (slA w.1 1 w.2.2 1) (w.2.1 - 1) (w.2.2 - 1)] T.sl_uint8) fun h2 =>
        ∃ p2, some (top h') = some p2 ∧ (0 : Int) ≤ k ∧ (k : Int) < 5 ∧ ∃ a l2 c2, hcell h2 (p2.add (k * 1)) = some (.slice a l2 c2) ∧ qaa.j8 K R3 (qaa.L7 K R3 fuel) sr.1 sr.2.1 sr.2.2 wh sn.1 sn.2.1 sn.2.2 ss.1 ss.2.1 ss.2.2 f t.1 t.2.1 t.2.2 at' (b.toNat : Int) cut m0 i w.1 w.2.1 w.2.2 xo.1 xo.2.1 xo.2.2 k a l2 c2 h2 := by
      intro p l c h' S1
      rw [List.nil_append] at S1
      have S2 := (S1.fz 1 (p, l, c)).al [.slice sr.1 sr.2.1 sr.2.2, .slice xo.1 xo.2.1 xo.2.2, .slice (slA w.1 1 w.2.2 1) (1 + kk - 1) (w.2.2 - 1), .slice p l c, .slice (slA w.1 1 w.2.2 1) (w.2.1 - 1) (w.2.2 - 1)] T.sl_uint8
      refine (bdE _ _).2 ⟨_, rfl, by omega, by omega, ?_⟩
      rw [Nat.mul_one]
      have lt : (o.take kk).length < 1000000000000 := by simp; omega
      have lb : (o ++ [b]).length < 1000000000000 := by simp; omega
      rcases k with _ | _ | _ | _ | _ | k
      · exact ⟨_, _, _, S2.rc (top h') 0 rfl, tells_one (s := sr) (y := raw) S2 hr (by omega) fun h3 S3 => next h3 S3.to⟩
      · exact ⟨_, _, _, S2.rc (top h') 1 rfl, tells_one (s := xo) (y := o') S2 ho' (by omega) fun h3 S3 => next h3 S3.to⟩
      · exact ⟨_, _, _, S2.rc (top h') 2 rfl, tells_one (s := (slA w.1 1 w.2.2 1, 1 + kk - 1, w.2.2 - 1)) (y := o.take kk) S2 lt (by omega) fun h3 S3 => next h3 S3.to⟩
      · exact ⟨_, _, _, S2.rc (top h') 3 rfl, tells_one (s := (p, l, c)) (y := o ++ [b]) S2 lb (by omega) fun h3 S3 => next h3 S3.to⟩
      · exact ⟨_, _, _, S2.rc (top h') 4 rfl, tells_one (s := (slA w.1 1 w.2.2 1, w.2.1 - 1, w.2.2 - 1)) (y := o) S2 (by omega) (by omega) fun h3 S3 => next h3 S3.to⟩
      · omega
    have nil8 : ∀ {L' : List Asr} {h' : Heap}, St L' h' → St (Ow 1 (some (top h'), 0, 0) (u8s []) :: L') (al h' #[] T.uint8) := fun S' => (S'.al [] T.uint8).bxOw (sz := 1) (by simp)
    have one8 : ∀ {L' : List Asr} {h' : Heap}, St L' h' → St (Im 1 (some (top h'), 1, 1) (u8s [b]) :: L') (al h' #[.int .u8 (b.toNat : Int)] T.uint8) := fun S' => S'.lit [.int .u8 (b.toNat : Int)] T.uint8 1 rfl
    refine ⟨(bdE _ _).2 ⟨?_, (bdE _ _).2 ?_⟩, (bdE _ _).2 ((bdE _ _).2 ?_)⟩
    · have S1 := nil8 S
      have r1 := isl8 S1 (s := (slA w.1 1 w.2.2 1, w.2.1 - 1, w.2.2 - 1)) (bs := o)
      refine appS (s := (some (top h), 0, 0)) (bs := []) (ws := o) S1 (Src.slice r1.1 (u8s_one _)) (by simp; omega) fun p l c h2 S2 => ⟨_, _, _, rfl, (bdE _ _).2 ?_⟩
      have S3 := one8 S2
      have r2 := isl8 S3 (s := (some (top h2), 1, 1)) (bs := [b])
      exact appS (s := (p, l, c)) (bs := [] ++ o) (ws := [b]) S3 (Src.slice r2.1 (u8s_one _)) (by simp; omega) fun p l c h3 S4 => ⟨_, _, _, rfl, fin (p := p) (l := l) (c := c) S4.to⟩
    · have S1 := one8 (nil8 S)
      have r1 := isl8 S1 (s := (slA w.1 1 w.2.2 1, w.2.1 - 1, w.2.2 - 1)) (bs := o)
      refine appS (s := (some (top h), 0, 0)) (bs := []) (ws := o) S1 (Src.slice r1.1 (u8s_one _)) (by simp; omega) fun p l c h2 S2 => ⟨_, _, _, rfl, ?_⟩
      have r2 := isl8 S2 (s := (some (top (al h #[] T.uint8)), 1, 1)) (bs := [b])
      exact appS (s := (p, l, c)) (bs := [] ++ o) (ws := [b]) S2 (Src.slice r2.1 (u8s_one _)) (by simp; omega) fun p l c h3 S4 => ⟨_, _, _, rfl, fin (p := p) (l := l) (c := c) S4.to⟩
    · have S1 := nil8 (one8 S)
      have r1 := isl8 S1 (s := (slA w.1 1 w.2.2 1, w.2.1 - 1, w.2.2 - 1)) (bs := o)
      refine appS (s := (some (top (al h #[.int .u8 (b.toNat : Int)] T.uint8)), 0, 0)) (bs := []) (ws := o) S1 (Src.slice r1.1 (u8s_one _)) (by simp; omega) fun p l c h2 S2 => ⟨_, _, _, rfl, ?_⟩
      have r2 := isl8 S2 (s := (some (top h), 1, 1)) (bs := [b])
      exact appS (s := (p, l, c)) (bs := [] ++ o) (ws := [b]) S2 (Src.slice r2.1 (u8s_one _)) (by simp; omega) fun p l c h3 S4 => ⟨_, _, _, rfl, fin (p := p) (l := l) (c := c) S4.to⟩
structure GoodM (a b : Int) (x : PM) : Prop where
  sm : smallM x
  wt : ∀ e, wtD e x.T ≤ 67108864
  ra : -9223372036854775808 ≤ a ∧ a < 9223372036854775808
  rb : -9223372036854775808 ≤ b ∧ b < 9223372036854775808
theorem tells_L3 {sr sn ss t : SV} {wh f at' bb cut : Int} {m0 : Addr} {raw : Oct} {n : List Nat} {xs : List Oct} {fs : List PF} {B0 : Nat → Prop} (hn : ∀ v ∈ n, v < 18446744073709551616) (hbb : 0 ≤ bb ∧ bb < 256) (hr : raw.length ≤ 600) (hsm : smallT 12 fs = true) (hw : ∀ e, wtD e fs ≤ 67108864)
    [i1 : In (fun z => Im 1 sr (u8s z)) L raw] [i2 : In (Im 1 sn) L (nums n)] [i3 : In (Im 1 ss) L (strs xs)] [i4 : In (Tb B0 t) L fs] (hK : ∀ h', St L h' → K (.bool true) h') :
    ∀ (fuel i : Nat) (a b : Int) (y : MV) (x : PM) (B : Nat → Prop) (h : Heap), 2 - i < fuel → i ≤ 2 → GoodM a b x → St (Bx m0 (mcells a b y) :: Im 1 y.n (nums x.N) :: Im 1 y.s (strs x.S) :: Im 1 y.f (bools x.F) :: Tb B y.t x.T :: L) h →
      qaa.L3 K fuel sr.1 sr.2.1 sr.2.2 wh sn.1 sn.2.1 sn.2.2 ss.1 ss.2.1 ss.2.2 f t.1 t.2.1 t.2.2 at' bb cut m0 i h
  | 0, _, _, _, _, _, _, _, hf, _, _, _ => absurd hf (Nat.not_lt_zero _)
  | fuel + 1, i, a, b, y, x, B, h, hf, hi, g, S => by
    unfold qaa.L3
    by_cases hlt : i < 2
    case neg =>
      refine ifF (by simp; omega) ?_
      unfold qaa.j2
      exact awakeS S fun h2 S2 => ⟨_, rfl, hK h2 S2.to⟩
    refine ifT (by simp; omega) ((bdE _ _).2 ?_)
    -- what follows: another method is made
    have made : ∀ h', St (Bx m0 (mcells a b y) :: L) h' → qaa.j6 K (qaa.L3 K fuel) sr.1 sr.2.1 sr.2.2 wh sn.1 sn.2.1 sn.2.2 ss.1 ss.2.1 ss.2.2 f t.1 t.2.1 t.2.2 at' bb cut m0 i h' := by
      intro h' S'
      unfold qaa.j6
      have hT : ∀ {L' : List Asr} {K : KT} {h : Heap}, St L' h → Tb B0 t fs ∈ L' → (∀ h', St L' h' → K (.bool (tableOkP fs)) h') → CallsH P F.qbk [.slice t.1 t.2.1 t.2.2] K h := by
        intro L' K h S m hK
        haveI : In (Tb B0 t) L' fs := ⟨m⟩
        exact rtokS (B := B0) S (hw 8) hK
      refine madeS (B0 := B0) (tok := tableOkP fs) (t := t) (tt := fs) S' hn hT fun y1 B1 h1 S1 => ⟨_, rfl, rfl, ?_⟩
      have hg := madeC_good wh
      have hr := madeC_rng wh
      have c64 := madeF_N64 n hn xs f fs (tableOkP fs) (madeC wh).2
      have hlen := madeF_len n xs f fs (tableOkP fs) (madeC wh).2
      have hok := made_ok (a := wh) (n := n) (s := xs) (f := f) (t := fs)
      refine S1.putA m0 (ws := mcells (madeC wh).1.1 (madeC wh).1.2 y1) rfl (mcells_one _ _ _) fun h2 S2 => (bdE _ _).2 ?_
      generalize madeC wh = C at *
      obtain ⟨⟨ca, cb⟩, form⟩ := C
      simp only at *
      generalize madeF n xs f fs (tableOkP fs) form = x1 at *
      rw [show IntKind.i64.wrap ((i : Int) + 1) = ((i + 1 : Nat) : Int) by rw [IntKind.wrap_i64]; omega]
      have hg2 := hg.2
      have S3 : St (Bx m0 (mcells ca cb y1) :: Im 1 y1.n (nums x1.N) :: Im 1 y1.s (strs x1.S) :: Im 1 y1.f (bools x1.F) :: Tb B1 y1.t x1.T :: L) h2 := (((S2.fz 1 y1.n).fz 1 y1.s).fz 1 y1.f).to
      refine tells_L3 (B0 := B0) (raw := raw) (n := n) (xs := xs) (fs := fs) hn hbb ‹_› hsm hw hK fuel (i + 1) ca cb y1 x1 B1 h2 (by omega) (by omega) ⟨⟨by omega, c64.1, by omega, fun s hs => by have := c64.2 s hs; omega, by omega, ?_, ?_⟩, ?_, by omega, by omega⟩ S3
      · rcases hok.2 with e | e <;> rw [e]
        · exact smallT_P 12 fs hsm 8
        · intro f hf; cases hf
      · rcases hok.2 with e | e <;> rw [e]
        · have := smallT_len hsm; omega
        · decide
      · rcases hok.2 with e | e <;> rw [e]
        · exact hw
        · intro e; cases e <;> simp [wtD]
    have lit3 : ∀ {L' : List Asr} {h' : Heap}, St L' h' → St (Im 1 (some (top h'), 1, 1) (u8s [3]) :: L') (al h' #[.int .u8 3] T.uint8) := fun S' => S'.lit [.int .u8 3] T.uint8 1 rfl
    have S1 := lit3 S
    refine ⟨_, S1.rall m0 6 rfl, ?_⟩
    refine mappS (t := (some (top h), 1, 1)) (bs := [3]) (B := B) (y := y) (x := x) S1 g.sm (by decide) g.ra g.rb fun p l c h2 S2 => ⟨_, _, _, _, rfl, (bdE _ _).2 ?_⟩
    have S3 := lit3 S2
    refine ⟨_, S3.rall m0 6 rfl, ?_⟩
    refine rmethS (t := (some (top h2), 1, 1)) (bs := [3]) (B := B) (y := y) (x := x) S3 ⟨g.sm.n, g.sm.s, g.sm.f⟩ g.sm.n64 g.sm.sl (g.wt 8) (by decide) fun p2 l2 c2 h3 S4 => ⟨_, _, _, _, rfl, ?_⟩
    have lo : ((methW a b x).getD []).length < 500000000000 := by
      cases e : methW a b x with
      | none => simp
      | some o => exact methW_len g.sm e
    generalize (methW a b x).isSome = is at *
    generalize (methW a b x).getD [] = o at *
    refine ⟨fun _ => ?_, fun e => by simp at e⟩
    refine str_ok u_str8 u_u8 u_string (S4.osl 1 (p, l, c)) ⟨_, rfl, str_ok u_str8 u_u8 u_string (isl8 S4 (s := (p2, l2, c2)) (bs := [3] ++ o)).1 ⟨_, rfl, ?_⟩⟩
    unfold qaa.j4
    refine ifF (by simp) ((bdE _ _).2 ?_)
    have w1 := isl8 S4 (s := (p2, l2, c2)) (bs := [3] ++ o)
    have lw : l2 = o.length + 1 := by have := Sl.len w1.1; simp at this; omega
    have hc2 : l2 ≤ c2 := w1.2
    refine ⟨⟨by omega, by omega⟩, ?_⟩
    -- the rows are shared from now on
    have S5 : St (Im 1 (p2, l2, c2) (u8s ([3] ++ o)) :: Bx m0 (mcells a b y) :: L) h3 := S4.to
    have d1 := S5.imDrop (List.mem_cons_self ..) (n := 1) (show 1 ≤ l2 by omega)
    have ed : (u8s ([3] ++ o)).drop 1 = u8s o := rfl
    rw [ed] at d1
    have kk2 : ∃ kk : Nat, Int.tmod (bitsI .and .i64 cut 65535) ((l2 : Nat) : Int) = (kk : Int) ∧ kk ≤ o.length := by
      rw [m65535, Int.tmod_eq_emod_of_nonneg (by omega)]
      refine ⟨((cut % 65536) % (l2 : Int)).toNat, ?_, ?_⟩
      · have := Int.emod_nonneg (cut % 65536) (show (l2 : Int) ≠ 0 by omega); omega
      · have := Int.emod_lt_of_pos (cut % 65536) (show (0 : Int) < l2 by omega)
        have := Int.emod_nonneg (cut % 65536) (show (l2 : Int) ≠ 0 by omega); omega
    obtain ⟨kk, hkk, hk2⟩ := kk2
    have d2 := d1.imTake (List.mem_cons_self ..) (n := 1 + kk - 1) (show 1 + kk - 1 ≤ l2 - 1 by omega)
    have et : (u8s o).take (1 + kk - 1) = u8s (o.take kk) := by rw [show 1 + kk - 1 = kk by omega]; simp [u8s, List.map_take]
    rw [et] at d2
    have e1 : Int.toNat 1 = 1 := rfl
    rw [e1]
    have S6 : St (Ow 1 (some (top h3), 0, 0) (u8s []) :: Im 1 (slA p2 1 c2 1, 1 + kk - 1, c2 - 1) (u8s (o.take kk)) :: Im 1 (slA p2 1 c2 1, l2 - 1, c2 - 1) (u8s o) :: Im 1 (p2, l2, c2) (u8s ([3] ++ o)) :: Bx m0 (mcells a b y) :: L) (al h3 #[] T.uint8) := (d2.al [] T.uint8).bxOw (sz := 1) (by simp)
    have r1 := isl8 S6 (s := (slA p2 1 c2 1, l2 - 1, c2 - 1)) (bs := o)
    refine appS (s := (some (top h3), 0, 0)) (bs := []) (ws := o) S6 (Src.slice r1.1 (u8s_one _)) (by simp; omega) fun p3 l3 c3 h4 S7 => ⟨_, _, _, rfl, ?_⟩
    rw [List.nil_append] at S7
    have l3e : l3 = o.length := by have := (S7.ows 1 (p3, l3, c3)).1; simp [u8s] at this; omega
    have j5 : ∀ {o' : Oct} {h' : Heap}, o'.length = o.length → St (Ow 1 (p3, l3, c3) (u8s o') :: Im 1 (slA p2 1 c2 1, 1 + kk - 1, c2 - 1) (u8s (o.take kk)) :: Im 1 (slA p2 1 c2 1, l2 - 1, c2 - 1) (u8s o) :: Im 1 (p2, l2, c2) (u8s ([3] ++ o)) :: Bx m0 (mcells a b y) :: L) h' →
        qaa.j5 K (qaa.L3 K fuel) sr.1 sr.2.1 sr.2.2 wh sn.1 sn.2.1 sn.2.2 ss.1 ss.2.1 ss.2.2 f t.1 t.2.1 t.2.2 at' bb cut m0 i p2 l2 c2 p3 l3 c3 h' := by
      intro o' h' lo' S'
      unfold qaa.j5
      have S8 := S'.fz 1 (p3, l3, c3)
      exact ⟨6, tells_L7 (raw := raw) (o := o) (o' := o') (kk := kk) (w := (p2, l2, c2)) (xo := (p3, l3, c3)) hbb (by omega) lo (by omega) lw hc2 hkk hk2 (fun h5 S9 => made h5 S9.to) 6 0 h' (by omega) (by omega) S8⟩
    by_cases hz : l3 > 0
    case neg => exact ifF (by simp; omega) (j5 rfl S7)
    refine ifT (by simp; omega) ⟨by omega, ?_⟩
    obtain ⟨j, hj, hjl⟩ : ∃ j : Nat, Int.tmod (bitsI .and .i64 at' 65535) ((l3 : Nat) : Int) = (j : Int) ∧ j < o.length := by
      rw [m65535, Int.tmod_eq_emod_of_nonneg (by omega)]
      refine ⟨((at' % 65536) % (l3 : Int)).toNat, ?_, ?_⟩
      · have := Int.emod_nonneg (at' % 65536) (show (l3 : Int) ≠ 0 by omega); omega
      · have := Int.emod_lt_of_pos (at' % 65536) (show (0 : Int) < l3 by omega)
        have := Int.emod_nonneg (at' % 65536) (show (l3 : Int) ≠ 0 by omega); omega
    rw [hj]
    obtain ⟨b0, hb⟩ : ∃ b : UInt8, bb = ((b.toNat : Nat) : Int) := ⟨UInt8.ofNat bb.toNat, by rw [UInt8.toNat_ofNat']; omega⟩
    refine ixV (i := (j : Int)) (n := j) (S7.osl 1 (p3, l3, c3)) rfl (w := .int .u8 ((o[j].toNat : Nat) : Int)) (by simp [u8s, hjl]) fun q eq cq => ⟨_, cq, ?_⟩
    rw [hb, xor_u8]
    refine (S7.get (Ow 1 (p3, l3, c3))).owSet (i := (j : Int)) (n := j) rfl (by simp [u8s]; omega) rfl fun h5 S8 => ?_
    have es : (u8s o).set j (.int .u8 (((o[j] ^^^ b0).toNat : Nat) : Int)) = u8s (o.set j (o[j] ^^^ b0)) := by simp [u8s, List.map_set]
    rw [es] at S8
    rw [← hb]
    exact j5 (o' := o.set j (o[j] ^^^ b0)) (by simp) S8.to
theorem MethTells.law (sr : SV) (raw : List Int) (lr : Sl 1 h sr.1 sr.2.1 (raw.map fun n => .int .u8 n)) (le0 : sr.2.1 ≤ sr.2.2) (mx0 : sr.2.2 ≤ maxLen) (w0 : ∀ x ∈ raw, (Lit.int .u8 x).wf = true)
    (c1 c2 : Int) (rc1 : -9223372036854775808 ≤ c1 ∧ c1 < 9223372036854775808) (rc2 : -9223372036854775808 ≤ c2 ∧ c2 < 9223372036854775808) (y : MV)
    (xN : List Int) (lN : Sl 1 h y.n.1 y.n.2.1 (xN.map fun n => .int .u64 n)) (leN : y.n.2.1 ≤ y.n.2.2) (wN : ∀ x ∈ xN, (Lit.int .u64 x).wf = true)
    (xS : List Oct) (lS : Sl 1 h y.s.1 y.s.2.1 (xS.map fun l => .string (mkS l))) (leS : y.s.2.1 ≤ y.s.2.2)
    (xF : List Bool) (lF : Sl 1 h y.f.1 y.f.2.1 (xF.map fun b => .bool b)) (leF : y.f.2.1 ≤ y.f.2.2)
    (mT : List PF) (Bm : Nat → Prop) (hBm : ∀ b, Bm b → b < h.size) (leT : y.t.2.1 ≤ y.t.2.2) (dm : Nat) (trm : TRep dm Bm h y.t.1 y.t.2.1 mT) (hwm : ∀ e, wtD e mT ≤ 67108864)
    (a : Int) (wa : -9223372036854775808 ≤ a ∧ a < 9223372036854775808) (sn : SV) (xn : List Int) (ln : Sl 1 h sn.1 sn.2.1 (xn.map fun n => .int .u64 n)) (le1 : sn.2.1 ≤ sn.2.2) (mx1 : sn.2.2 ≤ maxLen) (wn : ∀ x ∈ xn, (Lit.int .u64 x).wf = true)
    (ss : SV) (xs : List Oct) (ls : Sl 1 h ss.1 ss.2.1 (xs.map fun l => .string (mkS l))) (le2 : ss.2.1 ≤ ss.2.2) (mx2 : ss.2.2 ≤ maxLen) (ws : ∀ x ∈ xs, x.length ≤ maxLen) (f : Int) (wf : -9223372036854775808 ≤ f ∧ f < 9223372036854775808)
    (t : SV) (fs : List PF) (B : Nat → Prop) (hB : ∀ b, B b → b < h.size) (le3 : t.2.1 ≤ t.2.2) (d : Nat) (tr : TRep d B h t.1 t.2.1 fs) (hw : ∀ e, wtD e fs ≤ 67108864) (hi : i64P 8 fs)
    (at' : Int) (wat : -9223372036854775808 ≤ at' ∧ at' < 9223372036854775808) (bb : Int) (wbb : 0 ≤ bb ∧ bb < 256) (cut : Int) (wcut : -9223372036854775808 ≤ cut ∧ cut < 9223372036854775808) :
    CallsH P F.qaa [sr.v, .agg (List.toArray (mcells c1 c2 y)), .int .i64 a, sn.v, ss.v, .int .i64 f, t.v, .int .i64 at', .int .u8 bb, .int .i64 cut] (fun v h' => v = .bool true ∧ Kept h h') h := by
  refine qaa.ok ?_
  unfold qaa.p0
  have nat64s : ∀ {l : List Int}, (∀ x ∈ l, (Lit.int .u64 x).wf = true) → (l.map fun n : Int => Value.int .u64 n) = nums (l.map Int.toNat) ∧ ∀ v ∈ l.map Int.toNat, v < 18446744073709551616 := by
    intro l wl
    constructor
    · unfold nums
      rw [List.map_map]
      refine List.map_congr_left fun x hx => ?_
      have := wf_u64 (wl x hx)
      simp only [Function.comp]
      congr 1
      omega
    · intro v hv
      obtain ⟨x, hx, rfl⟩ := List.mem_map.1 hv
      have := wf_u64 (wl x hx)
      omega
  have er : (raw.map fun n : Int => Value.int .u8 n) = u8s (raw.map fun n => UInt8.ofNat n.toNat) := by
    unfold u8s
    rw [List.map_map]
    refine List.map_congr_left fun x hx => ?_
    have := wf_u8 (w0 x hx)
    simp only [Function.comp, UInt8.toNat_ofNat']
    congr 1
    omega
  rw [er] at lr
  rw [(nat64s wn).1] at ln
  rw [(nat64s wN).1] at lN
  have hn := (nat64s wn).2
  have hN := (nat64s wN).2
  generalize xn.map Int.toNat = n at *
  generalize xN.map Int.toNat = N at *
  generalize (raw.map fun n => UInt8.ofNat n.toNat) = rw0 at *
  have T1 : St [Tb B t fs, Old h] h := (St.old h).sh_sub (List.mem_cons_self ..) hB (Tb.lc B t fs) ⟨le3, d, tr⟩
  have T2 : St [Im 1 sr (u8s rw0), Im 1 sn (nums n), Im 1 ss (strs xs), Tb B t fs, Old h] h := ((T1.imOld (by simp) ls le2).imOld (by simp) ln le1).imOld (by simp) lr le0
  have T3 : St (Tb Bm y.t mT :: [Im 1 sr (u8s rw0), Im 1 sn (nums n), Im 1 ss (strs xs), Tb B t fs, Old h]) h := T2.sh_sub (d' := Bm) (show Old h ∈ _ by simp) hBm (Tb.lc Bm y.t mT) ⟨leT, dm, trm⟩
  have T4 : St (Im 1 y.n (nums N) :: Im 1 y.s (strs xS) :: Im 1 y.f (bools xF) :: Tb Bm y.t mT :: [Im 1 sr (u8s rw0), Im 1 sn (nums n), Im 1 ss (strs xs), Tb B t fs, Old h]) h := ((T3.imOld (by simp) lF leF).imOld (by simp) lS leS).imOld (by simp) lN leN
  refine (bdE _ _).2 ?_
  have S1 := T4.al (mcells c1 c2 y) T.api_Method
  generalize al h (List.toArray (mcells c1 c2 y)) T.api_Method = h1 at *
  generalize top h = m0 at *
  have fin : ∀ {L : List Asr} {h1 : Heap}, St L h1 → Old h ∈ L → qaa.j1 (fun v h' => v = .bool true ∧ Kept h h') sr.1 sr.2.1 sr.2.2 a sn.1 sn.2.1 sn.2.2 ss.1 ss.2.1 ss.2.2 f t.1 t.2.1 t.2.2 at' bb cut m0 true h1 := by
    intro L h1 S m
    unfold qaa.j1
    exact ifT rfl (awakeS S fun h' S' => ⟨_, rfl, rfl, S'.keptOld m⟩)
  have lr0 : sr.2.1 = rw0.length := Sl.len (isl8 S1 (s := sr) (bs := rw0)).1
  by_cases hr : rw0.length ≤ 600
  case neg => exact ifT' (by simp; omega) (fin S1 (by simp))
  refine ifF' (by simp; omega) ⟨_, S1.rall m0 6 rfl, ?_⟩
  refine smallMS (a := c1) (b := c2) (y := y) (x := ⟨N, xS, xF, mT⟩) (B := Bm) S1 fun h2 S2 => ⟨_, rfl, ?_⟩
  cases hsm : smallMP ⟨N, xS, xF, mT⟩ with
  | false => exact ifT' rfl (fin S2 (by simp))
  | true =>
  refine ifF' rfl ?_
  by_cases hl : ss.2.1 > 30
  · exact ifT' (by simp; omega) (fin S2 (by simp))
  refine ifF' (by simp; omega) (smallS (B := B) (t := t) (fs := fs) S2 fun h3 S3 => ⟨_, rfl, ?_⟩)
  cases hs2 : smallT 12 fs with
  | false => exact fin S3 (by simp)
  | true =>
  unfold qaa.j1
  unfold smallMP at hsm
  simp only [Bool.and_eq_true, decide_eq_true_eq, List.all_eq_true] at hsm
  refine ifF rfl ⟨3, tells_L3 (L := [Im 1 sr (u8s rw0), Im 1 sn (nums n), Im 1 ss (strs xs), Tb B t fs, Old h]) (raw := rw0) (n := n) (xs := xs) (fs := fs) (B0 := B) hn wbb hr hs2 hw (fun h' S' => ⟨rfl, S'.keptOld (by simp)⟩) 3 0 c1 c2 y ⟨N, xS, xF, mT⟩ Bm h3 (by omega) (by omega) ⟨⟨?_, hN, ?_, ?_, ?_, ?_, ?_⟩, hwm, rc1, rc2⟩ S3⟩
  · have := hsm.1.1.1; simp only at *; omega
  · have := hsm.1.1.2.1; simp only at *; omega
  · intro s hs; have := hsm.2 s hs; omega
  · have := hsm.1.1.2.2; simp only at *; omega
  · exact smallT_P 12 mT hsm.1.2 8
  · have := smallT_len hsm.1.2; simp only at *; omega
end
end Go.Proofs.Ytjkiaeccjelklaa.Pr
end
