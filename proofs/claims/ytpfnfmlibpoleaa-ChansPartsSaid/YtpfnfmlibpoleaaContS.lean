/- Heads of contents: what the program reads of them; codes of errors; what a method's octets begin with. -/
import Derived.Test.YtpfnfmlibpoleaaMethW
import Derived.Test.YtpfnfmlibpoleaaPrCont
import Derived.Test.YtpfnfmlibpoleaaPrCode
set_option linter.unusedVariables false
set_option linter.unusedSimpArgs false
namespace Go.Proofs.Ytpfnfmlibpoleaa.Pr
open Go Go.Lift Go.Proofs

abbrev PH := Nat × Int × Oct
abbrev hcells (x : PH) : List Value := [.int .u64 (x.1 : Int), .int .i64 x.2.1, .string (mkS x.2.2)]
def hasT (fl : Nat) : Bool := bitsI .and .u64 (fl : Int) 32768 != 0
def hasM (fl : Nat) : Bool := bitsI .and .u64 (fl : Int) 4096 != 0
def goodFl (fl : Nat) : Bool := bitsI .andNot .u64 (fl : Int) 36864 == 0

def hp1 (b : Oct) : Bool × RS := if numN (takeP 2 (b, false)).1 = 60 then (decide (numN (takeP 2 (takeP 2 (b, false)).2).1 = 0), (takeP 2 (takeP 2 (b, false)).2).2) else (false, (takeP 2 (b, false)).2)
def hp2 (fl : Nat) (g : Bool) (s : RS) : Oct × Bool × RS := if hasT fl then ((measP 1 s).1, g && !((measP 1 s).1 == []), (measP 1 s).2) else ([], g, s)
def hp3 (fl : Nat) (g : Bool) (s : RS) : Int × Bool × RS := if hasM fl then ((numN (takeP 1 s).1 : Int), g && (decide (numN (takeP 1 s).1 = 1) || decide (numN (takeP 1 s).1 = 2)), (takeP 1 s).2) else (0, g, s)
def hp4 (x : PH) (g : Bool) (s : RS) : Sum Nat PH := if g = true ∧ s.2 = false ∧ s.1 = [] then .inr x else .inl 4
def hpB (sz fl : Nat) (g : Bool) (s : RS) : Sum Nat PH :=
  hp4 (sz, (hp3 fl (hp2 fl g s).2.1 (hp2 fl g s).2.2).1, (hp2 fl g s).1) (hp3 fl (hp2 fl g s).2.1 (hp2 fl g s).2.2).2.1 (hp3 fl (hp2 fl g s).2.1 (hp2 fl g s).2.2).2.2
/-- What octets say of a content's head. -/
def headP (b : Oct) : Sum Nat PH :=
  hpB (numN (takeP 8 (hp1 b).2).1) (numN (takeP 2 (takeP 8 (hp1 b).2).2).1) ((hp1 b).1 && goodFl (numN (takeP 2 (takeP 8 (hp1 b).2).2).1)) (takeP 2 (takeP 8 (hp1 b).2).2).2
def hdE (r : Sum Nat PH) : Nat := match r with | .inl e => e | .inr _ => 0
def hdH (r : Sum Nat PH) : PH := match r with | .inl _ => (0, 0, []) | .inr m => m

section
variable {K : KT} {L R : List Asr} {h : Heap}

theorem cont_j4 {m2 r m6 : Addr} {g : Bool} {s : RS} {x : PH} (S : St (RdA r s :: Bx m6 (hcells x) :: Bx m2 (hcells (0, 0, [])) :: L) h)
    (hK : ∀ h', St L h' → K (.tuple #[.agg (List.toArray (hcells (hdH (hp4 x g s)))), .int .i64 (hdE (hp4 x g s) : Nat)]) h') : cont_Parse.j4 K m2 (some r) g m6 h := by
  have bad : ¬ (g = true ∧ s.2 = false ∧ s.1 = []) → cont_Parse.j5 K m2 m6 true h := by
    intro e
    unfold hp4 at hK
    rw [if_neg e] at hK
    unfold cont_Parse.j5
    refine ifT rfl ⟨rfl, S.putA m2 rfl (by simp [one]) fun h1 S1 => ⟨_, S1.rall m2 3 rfl, hK h1 S1.to⟩⟩
  unfold cont_Parse.j4
  cases hg : g with
  | false => exact ifT' rfl (bad (by simp [hg]))
  | true =>
    refine ifF' rfl (okS S ⟨_, rfl, ?_⟩)
    cases hs : s.2 with
    | true => exact ifT' rfl (bad (by simp [hs]))
    | false =>
      refine ifF' rfl (leftS S ⟨_, rfl, ?_⟩)
      by_cases hl : s.1 = []
      · rw [decide_eq_false (by rw [hl]; decide)]
        unfold hp4 at hK
        rw [if_pos ⟨hg, hs, hl⟩] at hK
        unfold cont_Parse.j5
        refine ifF rfl ⟨_, S.rall m6 3 rfl, rfl, S.putA m2 rfl (by simp [one]) fun h1 S1 => ⟨_, S1.rall m2 3 rfl, hK h1 S1.to⟩⟩
      · rw [decide_eq_true (by have := List.length_pos_iff.2 hl; omega)]
        exact bad (by simp [hl])

theorem cont_j3 {m2 r m6 : Addr} {g : Bool} {s : RS} {sz fl : Nat} {t : Oct} (S : St (RdA r s :: Bx m6 (hcells (sz, 0, t)) :: Bx m2 (hcells (0, 0, [])) :: L) h)
    (hK : ∀ h', St L h' → K (.tuple #[.agg (List.toArray (hcells (hdH (hp4 (sz, (hp3 fl g s).1, t) (hp3 fl g s).2.1 (hp3 fl g s).2.2)))), .int .i64 (hdE (hp4 (sz, (hp3 fl g s).1, t) (hp3 fl g s).2.1 (hp3 fl g s).2.2) : Nat)]) h') : cont_Parse.j3 K m2 (some r) g m6 fl h := by
  unfold cont_Parse.j3
  unfold hp3 hasM at hK
  by_cases hm : (bitsI .and .u64 (fl : Int) 4096 != 0) = true
  · simp only [if_pos hm] at hK
    refine ifT hm (rintS (n := 1) S (by omega) (by omega) fun h1 S1 => ⟨_, rfl, ?_⟩)
    have hn : numN (takeP 1 s).1 < 256 := by
      unfold takeP
      split
      · decide
      · match s.1 with
        | [] => decide
        | a :: l => have := a.toNat_lt; simp [numN]; omega
    rw [wrapI (by omega) (by omega)]
    refine S1.put1 m6 1 (by simp) rfl fun h2 S2 => ?_
    simp only [List.set_cons_succ, List.set_cons_zero] at S2
    have S3 : St (RdA r (takeP 1 s).2 :: Bx m6 (hcells (sz, (numN (takeP 1 s).1 : Int), t)) :: Bx m2 (hcells (0, 0, [])) :: L) h2 := S2.to
    simp only [rdN (S3.rc m6 1 rfl)]
    cases hg : g with
    | false =>
      rw [hg] at hK
      simp only [Bool.false_and] at hK
      exact ifF rfl (cont_j4 S3 hK)
    | true =>
      rw [hg] at hK
      simp only [Bool.true_and] at hK
      refine ifT rfl ?_
      by_cases h1 : numN (takeP 1 s).1 = 1
      · simp only [h1, decide_true, Bool.true_or] at hK
        exact ifT' (by rw [h1]; rfl) (cont_j4 S3 (by rw [h1]; exact hK))
      · rw [decide_eq_false h1, Bool.false_or] at hK
        refine ifF' (by simp; omega) ?_
        simp only [bd]
        rw [show (((numN (takeP 1 s).1 : Nat) : Int) == 2) = decide (numN (takeP 1 s).1 = 2) by rw [Bool.eq_iff_iff, beq_iff_eq, decide_eq_true_eq]; omega]
        exact cont_j4 S3 hK
  · simp only [if_neg hm] at hK
    exact ifF (by simpa using hm) (cont_j4 S hK)

theorem cont_j2 {m2 r m6 : Addr} {g : Bool} {s : RS} {sz fl : Nat} (S : St (RdA r s :: Bx m6 (hcells (sz, 0, [])) :: Bx m2 (hcells (0, 0, [])) :: L) h)
    (hK : ∀ h', St L h' → K (.tuple #[.agg (List.toArray (hcells (hdH (hpB sz fl g s)))), .int .i64 (hdE (hpB sz fl g s) : Nat)]) h') : cont_Parse.j2 K m2 (some r) g m6 fl h := by
  unfold cont_Parse.j2
  unfold hpB at hK
  by_cases hm : (bitsI .and .u64 (fl : Int) 32768 != 0) = true
  · have e2 : hp2 fl g s = ((measP 1 s).1, g && !((measP 1 s).1 == []), (measP 1 s).2) := by unfold hp2 hasT; rw [if_pos hm]
    rw [e2] at hK
    refine ifT hm (rshortS S fun h1 S1 => ⟨_, rfl, S1.put1 m6 2 (by simp) rfl fun h2 S2 => ?_⟩)
    simp only [List.set_cons_succ, List.set_cons_zero] at S2
    have S3 : St (RdA r (measP 1 s).2 :: Bx m6 (hcells (sz, 0, (measP 1 s).1)) :: Bx m2 (hcells (0, 0, [])) :: L) h2 := S2.to
    simp only [rdT (S3.rc m6 2 rfl)]
    cases hg : g with
    | false =>
      rw [hg] at hK
      simp only [Bool.false_and] at hK
      exact ifF rfl (cont_j3 S3 hK)
    | true =>
      rw [hg] at hK
      simp only [Bool.true_and] at hK
      exact ifT rfl (cont_j3 S3 hK)
  · have e2 : hp2 fl g s = ([], g, s) := by unfold hp2 hasT; rw [if_neg hm]
    rw [e2] at hK
    exact ifF (by simpa using hm) (cont_j3 S hK)

theorem cont_j1 {m2 r : Addr} {g : Bool} {s : RS} (S : St (RdA r s :: Bx m2 (hcells (0, 0, [])) :: L) h)
    (hK : ∀ h', St L h' → K (.tuple #[.agg (List.toArray (hcells (hdH (hpB (numN (takeP 8 s).1) (numN (takeP 2 (takeP 8 s).2).1) (g && goodFl (numN (takeP 2 (takeP 8 s).2).1)) (takeP 2 (takeP 8 s).2).2)))),
      .int .i64 (hdE (hpB (numN (takeP 8 s).1) (numN (takeP 2 (takeP 8 s).2).1) (g && goodFl (numN (takeP 2 (takeP 8 s).2).1)) (takeP 2 (takeP 8 s).2).2) : Nat)]) h') : cont_Parse.j1 K m2 (some r) g h := by
  unfold cont_Parse.j1
  refine rintS (n := 8) S (by omega) (by omega) fun h1 S1 => ⟨_, rfl, ?_⟩
  simp only [bd]
  have S2 := S1.al (hcells (0, 0, [])) T.api_Head
  refine ⟨rfl, S2.putA (top h1) (ws := hcells (numN (takeP 8 s).1, 0, [])) rfl (by simp [one]) fun h2 S3 => rintS (n := 2) S3 (by omega) (by omega) fun h3 S4 => ⟨_, rfl, ?_⟩⟩
  have S5 : St (RdA r (takeP 2 (takeP 8 s).2).2 :: Bx (top h1) (hcells (numN (takeP 8 s).1, 0, [])) :: Bx m2 (hcells (0, 0, [])) :: L) h3 := S4.to
  cases g with
  | false => exact ifF rfl (cont_j2 S5 hK)
  | true => exact ifT rfl (cont_j2 S5 hK)

/-- What is read of a head's octets. -/
theorem contS {s : SV} {bs : Oct} (S : St L h) [In (fun b => Im 1 s (u8s b)) L bs] (hb : bs.length < 1099511627776)
    (hK : ∀ h', St L h' → K (.tuple #[.agg (List.toArray (hcells (hdH (headP bs)))), .int .i64 (hdE (headP bs) : Nat)]) h') : CallsH P F.cont_Parse [.slice s.1 s.2.1 s.2.2] K h := by
  refine cont_Parse.ok ?_
  unfold cont_Parse.p0
  simp only [bd]
  have S1 := S.al (hcells (0, 0, [])) T.api_Head
  have eh : al h #[.int .u64 0, .int .i64 0, .string (mkS ([] : List UInt8))] T.api_Head = al h (hcells (0, 0, [])).toArray T.api_Head := rfl
  rw [eh]
  generalize al h (hcells (0, 0, [])).toArray T.api_Head = h1 at *
  generalize top h = m2 at *
  refine fromS (s := s) (bs := bs) S1 hb fun h2 S2 => ⟨_, rfl, rintS (n := 2) S2 (by omega) (by omega) fun h3 S3 => ⟨_, rfl, ?_⟩⟩
  unfold headP at hK
  by_cases h60 : numN (takeP 2 (bs, false)).1 = 60
  · have e1 : hp1 bs = (decide (numN (takeP 2 (takeP 2 (bs, false)).2).1 = 0), (takeP 2 (takeP 2 (bs, false)).2).2) := by unfold hp1; rw [if_pos h60]
    rw [e1] at hK
    refine ifT (by rw [h60]; rfl) (rintS (n := 2) S3 (by omega) (by omega) fun h4 S4 => ⟨_, rfl, ?_⟩)
    rw [show (((numN (takeP 2 (takeP 2 (bs, false)).2).1 : Nat) : Int) == 0) = decide (numN (takeP 2 (takeP 2 (bs, false)).2).1 = 0) by rw [Bool.eq_iff_iff, beq_iff_eq, decide_eq_true_eq]; omega]
    exact cont_j1 S4 hK
  · have e1 : hp1 bs = (false, (takeP 2 (bs, false)).2) := by unfold hp1; rw [if_neg h60]
    rw [e1] at hK
    exact ifF (by simp; omega) (cont_j1 S3 hK)

def codeP (e : Nat) : Nat := if e = 3 then 501 else if e = 4 then 502 else if e = 5 then 540 else 506
theorem codeS {e : Nat} (hK : K (.int .i64 (codeP e : Nat)) h) : CallsH P F.code_Of [.int .i64 (e : Int)] K h := by
  refine code_Of.ok ?_
  unfold code_Of.p0
  simp only [bd]
  unfold codeP at hK
  by_cases h3 : e = 3
  · subst h3; exact ifT rfl hK
  rw [if_neg h3] at hK
  refine ifF (by simp; omega) ?_
  by_cases h4 : e = 4
  · subst h4; exact ifT rfl hK
  rw [if_neg h4] at hK
  refine ifF (by simp; omega) ?_
  by_cases h5 : e = 5
  · subst h5; exact ifT rfl hK
  rw [if_neg h5] at hK
  exact ifF (by simp; omega) hK
end
end Go.Proofs.Ytpfnfmlibpoleaa.Pr
