/- connsBegins_holds: all that the theorem needs, in a few texts (bundle.py; made of the texts that NOTES.md names). -/
import Derived.Below
import Derived.KernelRfl
import Derived.Laws.Append
import Derived.Laws.Bits64
import Derived.Laws.BitsAllLaws
import Derived.Laws.BitsLemmas
import Derived.Laws.IdiomStrings
import Derived.Laws.Sem
import Derived.Laws.Strings
import Derived.Laws.StructEq
import Derived.Lib.SlBytesConst
import Derived.LoopN
import Derived.MapKept
import Derived.Orders
import Derived.Test.YtjapglfpjhljpaaGreatChecked
import Derived.WideLaws
import Derived.Test.YtjapglfpjhljpaaGreatBConnsBegins1
import Derived.Test.YtjapglfpjhljpaaGreatBConnsBegins2
import Derived.Test.YtjapglfpjhljpaaGreatBConnsBegins3
import Derived.Test.YtjapglfpjhljpaaGreatBConnsBegins4
import Derived.Test.YtjapglfpjhljpaaGreatBConnsBegins5
import Derived.Test.YtjapglfpjhljpaaGreatBConnsBegins6
import Derived.Test.YtjapglfpjhljpaaGreatBConnsBegins7
import Derived.Test.YtjapglfpjhljpaaGreatBConnsBegins8
import Derived.Test.YtjapglfpjhljpaaGreatBConnsBegins9
import Derived.Test.YtjapglfpjhljpaaGreatBConnsBegins10
import Derived.Test.YtjapglfpjhljpaaGreatBConnsBegins11
import Derived.Test.YtjapglfpjhljpaaGreatBConnsBegins12
import Derived.Test.YtjapglfpjhljpaaGreatBConnsBegins14
import Derived.Test.YtjapglfpjhljpaaGreatBConnsBegins15
section
set_option linter.unusedVariables false
set_option linter.unusedSimpArgs false
namespace Go.Proofs.YtjapglfpjhljpaaGreat.Pr
open Go Go.Lift Go.Proofs
section
variable {K : KT} {L R : List Asr} {h : Heap}
theorem bdN {F : Heap → Prop} (S : St L h) (l : List Nat) {n : Nat} (hn : l.length = n) (hF : ∀ h', St (Im 1 (some (top h), n, n) (nums l) :: L) h' → F h') : bd (al h (nums l).toArray T.uint64) F := hF _ (S.lit (nums l) T.uint64 n (by simp [nums, hn]))
theorem bdS {F : Heap → Prop} (S : St L h) (l : List Oct) {n : Nat} (hn : l.length = n) (hF : ∀ h', St (Im 1 (some (top h), n, n) (strs l) :: L) h' → F h') : bd (al h (strs l).toArray T.string) F := hF _ (S.lit (strs l) T.string n (by simp [strs, hn]))
theorem bdB {F : Heap → Prop} (S : St L h) (l : List Bool) {n : Nat} (hn : l.length = n) (hF : ∀ h', St (Im 1 (some (top h), n, n) (bools l) :: L) h' → F h') : bd (al h (bools l).toArray T.bool) F := hF _ (S.lit (bools l) T.bool n (by simp [bools, hn]))
def mfr (ch : Nat) (m : PMM) : Oct := frW 1 ch ((methW m.1 m.2.1 m.2.2).getD [])
theorem meth24S {ch : Nat} {a b : Int} {y : MV} {x : PM} {B : Nat → Prop} (S : St L h) [In (Im 1 y.n) L (nums x.N)] [In (Im 1 y.s) L (strs x.S)] [In (Im 1 y.f) L (bools x.F)] [In (Tb B y.t) L x.T] (hch : ch < 65536)
    (hx : x.N.length < 1000000 ∧ x.S.length < 1000000 ∧ x.F.length < 1000000) (h64 : ∀ v ∈ x.N, v < 18446744073709551616) (hsl : ∀ s ∈ x.S, s.length < 1073741824) (hw : wtD 8 x.T ≤ 67108864) (hl : ((methW a b x).getD []).length < 1073741824)
    (hK : ∀ p l c h', St (Ow 1 (p, l, c) (u8s (mfr ch (a, b, x))) :: L) h' → K (.slice p l c) h') :
    CallsH P F.qca [.int .i64 (ch : Int), .agg (List.toArray (mcells a b y))] K h := by
  refine qca.ok ?_
  unfold qca.p0
  have S1 := S.al (mcells a b y) T.api_Method
  simp only [bd]
  generalize al h (mcells a b y).toArray T.api_Method = h1 at *
  generalize top h = m at *
  have S2 : St (Im 1 nosv (u8s []) :: Bx m (mcells a b y) :: L) h1 := S1.imNil 1 0
  refine ⟨_, S1.rall m 6 rfl, rmethS (t := nosv) (bs := []) (y := y) (x := x) (B := B) S2 hx h64 hsl hw (by decide) fun p l c h2 S3 => ⟨_, _, _, _, rfl, ?_⟩⟩
  rw [List.nil_append] at S3
  have S4 : St (Im 1 (p, l, c) (u8s ((methW a b x).getD [])) :: Im 1 nosv (u8s []) :: Bx m (mcells a b y) :: L) h2 := S3
  have S5 : St (Im 1 nosv (u8s []) :: Im 1 (p, l, c) (u8s ((methW a b x).getD [])) :: L) h2 := S4.to
  refine rframeS (t := nosv) (s := (p, l, c)) (bs := []) (b := (methW a b x).getD []) (k := 1) (c := ch) S5 (by decide) hl (by omega) hch fun p2 l2 c2 h3 S6 => ⟨_, _, _, rfl, hK p2 l2 c2 h3 ?_⟩
  rw [List.nil_append] at S6
  have S7 : St (Ow 1 (p2, l2, c2) (u8s (frW 1 ch ((methW a b x).getD []))) :: L) h3 := S6.to
  exact S7
end
end Go.Proofs.YtjapglfpjhljpaaGreat.Pr
end
section
set_option linter.unusedVariables false
set_option linter.unusedSimpArgs false
namespace Go.Proofs.YtjapglfpjhljpaaGreat.Pr
open Go Go.Lift Go.Proofs
structure CL where
  ch : Int
  kind : Int
  n : Int
  f : Int
  a : Oct
  b : Oct
  c : Oct
  body : Oct
abbrev callc (x : CL) (v : SV) : List Value := [.int .i64 x.ch, .int .i64 x.kind, .int .i64 x.n, .int .i64 x.f, .string (mkS x.a), .string (mkS x.b), .string (mkS x.c), v.v]
structure SmM (a b : Int) (x : PM) : Prop where
  ha : 0 ≤ a ∧ a < 65536
  hb : 0 ≤ b ∧ b < 65536
  T : x.T = []
  N : x.N.length ≤ 10 ∧ ∀ v ∈ x.N, v < 18446744073709551616
  S : x.S.length ≤ 10 ∧ ∀ s ∈ x.S, s.length ≤ 255
  F : x.F.length ≤ 20
theorem sumS_le : ∀ (l : List Oct), (∀ s ∈ l, s.length ≤ 255) → sumS l ≤ 259 * l.length
  | [], _ => by simp [sumS]
  | s :: l, h => by
    have := sumS_le l (fun z hz => h z (List.mem_cons_of_mem _ hz))
    have h1 := h s (List.mem_cons_self ..)
    rw [sumS_cons, List.length_cons]
    omega
theorem SmM.len {a b : Int} {x : PM} (m : SmM a b x) : ((methW a b x).getD []).length ≤ 4088 := by
  cases h : methW a b x with
  | none => simp
  | some o =>
    have := (meth_back m.ha m.hb m.T m.N.2 (fun s hs => by have := m.S.2 s hs; omega) h).2
    have h1 := sumS_le x.S m.S.2
    have h2 := m.N.1; have h3 := m.S.1; have h4 := m.F
    simp only [Option.getD_some]
    omega
section
variable {K : KT} {L R : List Asr} {h : Heap}
theorem meth24T {ch : Nat} {a b : Int} {n s f : SV} {x : PM} (S : St L h) [In (Im 1 n) L (nums x.N)] [In (Im 1 s) L (strs x.S)] [In (Im 1 f) L (bools x.F)] (hch : ch < 65536) (m : SmM a b x)
    (hK : ∀ p l c h', St (Im 1 (p, l, c) (u8s (mfr ch (a, b, x))) :: L) h' → K (.slice p l c) h') :
    CallsH P F.qca [.int .i64 (ch : Int), .agg (List.toArray (mcells a b ⟨n, s, f, (none, 0, 0)⟩))] K h := by
  have hl := m.len
  have S1 : St (Tb (fun _ => False) (none, 0, 0) x.T :: L) h := by rw [m.T]; exact tbNil 0 S
  have hw : wtD 8 x.T ≤ 67108864 := by rw [m.T]; decide
  refine meth24S (ch := ch) (a := a) (b := b) (y := ⟨n, s, f, (none, 0, 0)⟩) (x := x) (B := fun _ => False) S1 hch ⟨by have := m.N.1; omega, by have := m.S.1; omega, by have := m.F; omega⟩ m.N.2 (fun z hz => by have := m.S.2 z hz; omega) hw (by omega) fun p l c h' S2 => hK p l c h' ?_
  exact S2.im.d1
theorem m3' (a : Int) : bitsI .and .i64 a 3 = a % 4 := mask_i64 a 2 (by decide)
end
end Go.Proofs.YtjapglfpjhljpaaGreat.Pr
end
section
set_option linter.unusedVariables false
set_option linter.unusedSimpArgs false
namespace Go.Proofs.YtjapglfpjhljpaaGreat.Pr
open Go Go.Lift Go.Proofs
section
variable {K : KT} {L R : List Asr} {h : Heap}
abbrev Bs (t : Addr) (x : CL) (v : SV) (L : List Asr) : List Asr := Bx t (callc x v) :: Im 1 (none, 0, 0) [] :: Im 1 v (u8s x.body) :: L
end
end Go.Proofs.YtjapglfpjhljpaaGreat.Pr
end
section
set_option linter.unusedVariables false
set_option linter.unusedSimpArgs false
namespace Go.Proofs.YtjapglfpjhljpaaGreat.Pr
open Go Go.Lift Go.Proofs
section
variable {K : KT} {L R : List Asr} {h : Heap}
theorem smallM_of {n : List Nat} {s : List Oct} {f : List Bool} (h1 : n.length < 1000000) (h2 : ∀ v ∈ n, v < 18446744073709551616) (h3 : s.length < 1000000) (h4 : ∀ x ∈ s, x.length < 1073741824) (h5 : f.length < 1000000) (h6 : smallP 8 []) : smallM ⟨n, s, f, []⟩ := ⟨h1, h2, h3, h4, h5, h6, by simp⟩
theorem smallP0 : smallP 8 [] := by unfold smallP; simp
theorem send0S {c : Addr} {s : Cnn} {ch a b : Int} (S : St L h) [H : Has (ConA c) L s R] (hl : ((methW a b noM).getD []).length < 1073741824)
    (ha : -9223372036854775808 ≤ a ∧ a < 9223372036854775808) (hbb : -9223372036854775808 ≤ b ∧ b < 9223372036854775808) (he : s.ev.length < 1073741824)
    (hK : ∀ h', St (ConA c (s.send ch (mm0 a b)) :: R) h' → K (.tuple #[]) h') :
    CallsH P F.qct [.pointer (some c), .int .i64 ch, .agg (List.toArray (mcells a b mnil))] K h := by
  have S1 : St (Im 1 mnil.n (nums []) :: Im 1 mnil.s (strs []) :: Im 1 mnil.f (bools []) :: Tb (fun _ => False) mnil.t [] :: L) h := meNil S
  refine sendS (c := c) (s := s) (y := mnil) (x := noM) (B := fun _ => False) S1 (smallM_of (by simp) (by simp) (by simp) (by simp) (by simp) smallP0) hl ha hbb he fun h2 S2 => hK h2 ?_
  exact S2.d1.d1.d1.d1
theorem methP_e {bs : Oct} {e : Nat} (hp : methP bs = .inl e) : e = 4 ∨ e = 5 := by
  unfold methP at hp
  split at hp
  · cases hp; exact .inl rfl
  · split at hp
    · cases hp; exact .inr rfl
    · split at hp <;> cases hp; exact .inl rfl
theorem oneP_S (c : UInt8) (s : RS) (x : PM) : ∃ t, (oneP c s x).1.S = x.S ++ t := by
  unfold oneP
  repeat' split
  · exact ⟨[_], rfl⟩
  · exact ⟨[_], rfl⟩
  · exact ⟨[], (List.append_nil _).symm⟩
  · exact ⟨[], (List.append_nil _).symm⟩
theorem formR_S : ∀ (k : Nat) (f : Oct) (s : RS) (x : PM) (ok : Bool), ∃ t, (formR k f s x ok).1.S = x.S ++ t
  | 0, _, _, x, _ => ⟨[], by simp [formR]⟩
  | k + 1, f, s, x, ok => by
    unfold formR
    split
    · exact ⟨[], by simp⟩
    · split
      · exact formR_S k _ _ _ _
      · obtain ⟨t1, h1⟩ := oneP_S (f.getD 0 0) s x
        obtain ⟨t2, h2⟩ := formR_S k (f.drop 1) (oneP (f.getD 0 0) s x).2.2 (oneP (f.getD 0 0) s x).1 ((oneP (f.getD 0 0) s x).2.1 && ok)
        exact ⟨t1 ++ t2, by rw [h2, h1, List.append_assoc]⟩
theorem methP_open {bs : Oct} {x : Int × Int × PM} (hp : methP bs = .inr x) (h1 : x.1 = 10) (h2 : x.2.1 = 40) : ∃ z, x.2.2.S[0]? = some z := by
  unfold methP at hp
  split at hp
  · cases hp
  · split at hp
    · cases hp
    · rename_i f hf
      split at hp
      · cases hp
      · cases hp
        simp only at h1 h2 ⊢
        rw [h1, h2] at hf
        have ef : f = [115, 115, 102] := by
          have e : formP (10, 40) = some [115, 115, 102] := by decide +kernel
          rw [e] at hf; cases hf; rfl
        subst ef
        generalize (takeP 2 (takeP 2 (bs, false)).2).2 = r
        show ∃ z, (formR 4 [115, 115, 102] r noM true).1.S[0]? = some z
        unfold formR
        rw [if_neg (by simp), if_neg (by decide)]
        obtain ⟨t, ht⟩ := formR_S 3 [115, 102] (oneP 115 r noM).2.2 (oneP 115 r noM).1 ((oneP 115 r noM).2.1 && true)
        have e1 : (oneP 115 r noM).1.S = [(measP 1 r).1] := rfl
        rw [e1] at ht
        exact ⟨(measP 1 r).1, by show (formR 3 [115, 102] (oneP 115 r noM).2.2 (oneP 115 r noM).1 ((oneP 115 r noM).2.1 && true)).1.S[0]? = _; rw [ht]; rfl⟩
theorem lastS {c : Addr} {s : Cnn} {k ch : Nat} {t : SV} {bs : Oct} (S0 : St L h) [H : Has (ConA c) L s R] [mi : In (fun b => Im 1 t (u8s b)) L bs] (hb : bs.length < 1099511627776) (he : s.ev.length < 536870912)
    (hK : ∀ h', St (ConA c (lastP s k ch bs) :: R) h' → K (.tuple #[]) h') : CallsH P F.qbe [.pointer (some c), .agg (List.toArray (fcl k ch t))] K h := by
  refine qbe.ok ?_
  unfold qbe.p0
  have S1 := S0.al (fcl k ch t) T.api_Frame
  simp only [bd]
  generalize al h (fcl k ch t).toArray T.api_Frame = h1 at *
  generalize top h = f at *
  simp only [rdS (S1.rc f 2 rfl)]
  refine methS (s := t) (bs := bs) S1 hb fun y B h2 S2 => ⟨_, _, rfl, ?_⟩
  have S3 := S2.al (mcells 0 0 mnil) T.api_Method
  refine ⟨rfl, S3.putA (top h2) (ws := mcells (resM (methP bs)).1 (resM (methP bs)).2.1 y) rfl (by simp [one]) fun h3 S4 => ?_⟩
  generalize top h2 = m at *
  have S5 : St (ConA c s :: Bx m (mcells (resM (methP bs)).1 (resM (methP bs)).2.1 y) :: Bx f (fcl k ch t) :: R) h3 := (S4.get (ConA c)).to
  simp only [rdN (S5.rc f 0 rfl), rdN (S5.rc f 1 rfl), rdN (S5.rc m 0 rfl)]
  have no : lastP s k ch bs = s → qbe.j1 K (some c) m true h3 := by
    intro e
    unfold qbe.j1
    rw [e] at hK
    exact ifT rfl (hK h3 S5.d1.d1)
  by_cases c0 : ch = 0
  · refine ifF' (by rw [c0]; rfl) ?_
    by_cases k1 : k = 1
    · refine ifF' (by rw [k1]; rfl) ?_
      cases hp : methP bs with
      | inl e =>
        refine ifT' (by rcases methP_e hp with rfl | rfl <;> rfl) (no (by unfold lastP; rw [hp]))
      | inr x =>
        refine ifF' rfl ?_
        rw [hp] at S5
        simp only [resM] at S5 ⊢
        by_cases h10 : x.1 = 10
        · rw [show (x.1 != 10) = false by rw [h10]; rfl]
          unfold qbe.j1
          refine ifF rfl ?_
          simp only [rdN (S5.rc m 1 rfl), bd]
          have el : lastP s k ch bs = if x.2.1 = 50 then (s.send 0 (mm0 10 51)).gone else if x.2.1 = 51 then s.gone else s := by
            unfold lastP; rw [hp]; simp only; rw [if_neg (by simp [c0, k1, h10])]
          rw [el] at hK
          by_cases h50 : x.2.1 = 50
          · rw [if_pos h50] at hK
            refine ifT (by rw [h50]; rfl) (send0S (c := c) (s := s) S5 (by decide +kernel) (by decide) (by decide) (by omega) fun h4 S6 => ⟨rfl, ?_⟩)
            refine goneS (c := c) (s := s.send 0 (mm0 10 51)) S6 (by simp [Cnn.send, Cnn.tell]; omega) fun h5 S7 => ⟨rfl, hK h5 S7.d1.d1⟩
          · rw [if_neg h50] at hK
            refine ifF (by simpa using h50) ?_
            by_cases h51 : x.2.1 = 51
            · rw [if_pos h51] at hK
              exact ifT (by rw [h51]; rfl) (goneS (c := c) (s := s) S5 (by omega) fun h5 S7 => ⟨rfl, hK h5 S7.d1.d1⟩)
            · rw [if_neg h51] at hK
              exact ifF (by simpa using h51) (hK h3 S5.d1.d1)
        · rw [show (x.1 != 10) = true by simpa using h10]
          exact no (by unfold lastP; rw [hp]; simp only; rw [if_pos (.inr (.inr h10))])
    · exact ifT' (by simp; omega) (no (by unfold lastP; cases methP bs <;> simp [k1]))
  · exact ifT' (by simp; omega) (no (by unfold lastP; cases methP bs <;> simp [c0]))
theorem beginS {c : Addr} {s : Cnn} {a b : Int} {y : MV} {x : PM} (S0 : St L h) [H : Has (ConA c) L s R] [ms : In (Im 1 y.s) R (strs x.S)] (hS : b = 40 → ∃ z, x.S[0]? = some z) (he : s.ev.length < 536870912)
    (hK : ∀ h', St (ConA c (beginP s (a, b, x)) :: R) h' → K (.tuple #[]) h') : CallsH P F.qak [.pointer (some c), .agg (List.toArray (mcells a b y))] K h := by
  refine qak.ok ?_
  unfold qak.p0
  have S1 := (S0.get (ConA c)).al (mcells a b y) T.api_Method
  simp only [bd]
  generalize al h (mcells a b y).toArray T.api_Method = h1 at *
  generalize top h = m at *
  obtain ⟨bv, ev, xs, ma, me, rows, ⟨f1, f2⟩, S2⟩ := ConA.op (S1.get (ConA c))
  have cl : ∀ {n : Nat} {h2 : Heap}, St (Bx c (ccells { s with st := n } bv ev ma me) :: Im 1 bv (u8s s.b) :: Ow 17 ev (xs.flatMap evc2) :: EvsI xs :: Mq kI vA ma (rowA rows) :: AsI rows :: Mq kI vI me s.ending :: Bx m (mcells a b y) :: R) h2 → St (ConA c { s with st := n } :: R) h2 :=
    fun {n h2} S => (ConA.cl (s := { s with st := n }) bv ev xs ma me rows f1 f2 S).d1
  have S3 : St (ConA c s :: Bx m (mcells a b y) :: R) h1 := S1.to
  simp only [someE, rdN (S2.rc c 0 rfl), rdN (S2.rc m 1 rfl)]
  -- another one
  have j4a : s.st = 3 → b = 40 → beginP s (a, b, x) = s.wrong 530 (a, b, x) → qak.j4 K (some c) m true h1 := by
    intro e1 e2 e
    unfold qak.j4
    refine ifT rfl ?_
    simp only [rdN (S2.rc m 0 rfl), rdN (S2.rc m 1 rfl)]
    rw [e] at hK
    exact (wrongCS (c := c) (s := s) (y := mnil) (x := x) S3 (by omega) fun h2 S4 => ⟨rfl, hK h2 S4.d1⟩)
  have j4b : beginP s (a, b, x) = s.wrong 503 (a, b, x) → qak.j4 K (some c) m false h1 := by
    intro e
    unfold qak.j4
    refine ifF rfl ?_
    simp only [rdN (S2.rc m 0 rfl), rdN (S2.rc m 1 rfl)]
    rw [e] at hK
    exact (wrongCS (c := c) (s := s) (y := mnil) (x := x) S3 (by omega) fun h2 S4 => ⟨rfl, hK h2 S4.d1⟩)
  have j3t : beginP s (a, b, x) = Cnn.send { s with st := 4 } 0 (mmS 10 41 [[]]) → qak.j3 K (some c) m true h1 := by
    intro e
    unfold qak.j3
    refine ifT rfl ?_
    simp only [someE, bd]
    refine (S2.put1 c 0 (by simp) rfl fun h2 S4 => ?_)
    simp only [List.set_cons_zero] at S4
    have S5 := (cl (n := 4) S4).lit [.string (mkS [])] T.string 1 rfl
    have S6 : St (Im 1 (some (top h2), 1, 1) (strs [[]]) :: ConA c { s with st := 4 } :: R) _ := S5
    have S7 := (tbNil 0 ((S6.imNil 1 0).imNil 1 0))
    rw [e] at hK
    refine sendS (c := c) (s := { s with st := 4 }) (y := ⟨(none, 0, 0), (some (top h2), 1, 1), (none, 0, 0), (none, 0, 0)⟩) (x := ⟨[], [[]], [], []⟩) (B := fun _ => False) S7 (smallM_of (by simp) (by simp) (by simp) (by simp) (by simp) smallP0) (by decide +kernel) (by decide) (by decide) (by show s.ev.length < _; omega) fun h5 S10 => ⟨rfl, ?_⟩
    have S11 : St (ConA c (Cnn.send { s with st := 4 } 0 (10, 41, ⟨[], [[]], [], []⟩)) :: R) h5 := S10.to
    exact hK h5 S11
  have j3f : (s.st = 3 → b = 40 → beginP s (a, b, x) = s.wrong 530 (a, b, x)) → (¬ (s.st = 3 ∧ b = 40) → beginP s (a, b, x) = s.wrong 503 (a, b, x)) → qak.j3 K (some c) m false h1 := by
    intro e1 e2
    unfold qak.j3
    refine ifF rfl ?_
    simp only [someE, rdN (S2.rc c 0 rfl), rdN (S2.rc m 1 rfl), bd]
    by_cases h3 : s.st = 3
    · refine ifT (by rw [h3]; rfl) ?_
      by_cases h40 : b = 40
      · rw [show (b == 40) = true by rw [h40]; rfl]; exact j4a h3 h40 (e1 h3 h40)
      · rw [show (b == 40) = false by simpa using h40]; exact j4b (e2 fun z => h40 z.2)
    · exact ifF (by simp; omega) (j4b (e2 fun z => h3 z.1))
  have j2f : ¬ (s.st = 1 ∧ b = 11) → ¬ (s.st = 2 ∧ b = 31) → qak.j2 K (some c) m false h1 := by
    intro n1 n2
    unfold qak.j2
    refine ifF rfl ?_
    simp only [someE, rdN (S2.rc c 0 rfl), rdN (S2.rc m 1 rfl), rdS (S2.rc m 3 rfl), bd]
    by_cases h3 : s.st = 3
    · refine ifT (by rw [h3]; rfl) ?_
      by_cases h40 : b = 40
      · refine ifT (by rw [h40]; rfl) ?_
        obtain ⟨z, hz⟩ := hS h40
        refine ix (C := fun w : Oct => Value.string (mkS w)) (S2.isl 1 y.s) (n := 0) rfl hz ?_
        by_cases h47 : z = [47]
        · rw [show (z == [47]) = true by rw [h47]; rfl]
          exact j3t (by unfold beginP; simp only; rw [if_neg n1, if_neg n2, if_pos ⟨h3, h40, by rw [hz, h47]⟩])
        · rw [show (z == [47]) = false by simpa using h47]
          exact j3f (fun _ _ => by unfold beginP; simp only; rw [if_neg n1, if_neg n2, if_neg (by rw [hz]; simp [h47]), if_pos ⟨h3, h40⟩]) fun e => absurd ⟨h3, h40⟩ e
      · exact ifF (by simpa using h40) (j3f (fun _ e => absurd e h40) fun _ => by unfold beginP; simp only; rw [if_neg n1, if_neg n2, if_neg (fun z => h40 z.2.1), if_neg (fun z => h40 z.2)])
    · exact ifF (by simp; omega) (j3f (fun e _ => absurd e h3) fun _ => by unfold beginP; simp only; rw [if_neg n1, if_neg n2, if_neg (fun z => h3 z.1), if_neg (fun z => h3 z.1)])
  have j1f : ¬ (s.st = 1 ∧ b = 11) → qak.j1 K (some c) m false h1 := by
    intro n1
    unfold qak.j1
    refine ifF rfl ?_
    simp only [someE, rdN (S2.rc c 0 rfl), rdN (S2.rc m 1 rfl), bd]
    by_cases h2 : s.st = 2
    · refine ifT (by rw [h2]; rfl) ?_
      by_cases h31 : b = 31
      · rw [show (b == 31) = true by rw [h31]; rfl]
        unfold qak.j2
        refine ifT rfl ?_
        simp only [someE]
        refine (S2.put1 c 0 (by simp) rfl fun h3 S4 => ?_)
        simp only [List.set_cons_zero] at S4
        have e : beginP s (a, b, x) = { s with st := 3 } := by unfold beginP; simp only; rw [if_neg n1, if_pos ⟨h2, h31⟩]
        rw [e] at hK
        exact hK h3 (cl (n := 3) S4)
      · rw [show (b == 31) = false by simpa using h31]
        exact j2f n1 fun z => h31 z.2
    · exact ifF (by simp; omega) (j2f n1 fun z => h2 z.1)
  by_cases h1' : s.st = 1
  · refine ifT (by rw [h1']; rfl) ?_
    by_cases h11 : b = 11
    · rw [show (b == 11) = true by rw [h11]; rfl]
      unfold qak.j1
      refine ifT rfl ?_
      simp only [someE, bd]
      refine (S2.put1 c 0 (by simp) rfl fun h2 S4 => ?_)
      simp only [List.set_cons_zero] at S4
      have S5 := (cl (n := 2) S4).lit [.int .u64 16, .int .u64 4096, .int .u64 0] T.uint64 3 rfl
      have S6 : St (Im 1 (some (top h2), 3, 3) (nums [16, 4096, 0]) :: ConA c { s with st := 2 } :: R) _ := S5
      have S7 := (tbNil 0 ((S6.imNil 1 0).imNil 1 0))
      have e : beginP s (a, b, x) = Cnn.send { s with st := 2 } 0 (mmN 10 30 [16, 4096, 0]) := by unfold beginP; simp only; rw [if_pos ⟨h1', h11⟩]
      rw [e] at hK
      refine sendS (c := c) (s := { s with st := 2 }) (y := ⟨(some (top h2), 3, 3), (none, 0, 0), (none, 0, 0), (none, 0, 0)⟩) (x := ⟨[16, 4096, 0], [], [], []⟩) (B := fun _ => False) S7 (smallM_of (by simp) (by simp) (by simp) (by simp) (by simp) smallP0) (by decide +kernel) (by decide) (by decide) (by show s.ev.length < _; omega) fun h5 S10 => ⟨rfl, ?_⟩
      have S11 : St (ConA c (Cnn.send { s with st := 2 } 0 (10, 30, ⟨[16, 4096, 0], [], [], []⟩)) :: R) h5 := S10.to
      exact hK h5 S11
    · rw [show (b == 11) = false by simpa using h11]
      exact j1f fun z => h11 z.2
  · exact ifF (by simp; omega) (j1f fun z => h1' z.1)
theorem zeroS {c : Addr} {s : Cnn} {k ch : Nat} {t : SV} {bs : Oct} (S0 : St L h) [H : Has (ConA c) L s R] [mi : In (fun b => Im 1 t (u8s b)) R bs] (hb : bs.length < 1099511627776) (he : s.ev.length < 536870912)
    (hK : ∀ h', St (ConA c (zeroP s k bs) :: R) h' → K (.tuple #[]) h') : CallsH P F.qbk [.pointer (some c), .agg (List.toArray (fcl k ch t))] K h := by
  refine qbk.ok ?_
  unfold qbk.p0
  have S1 := (S0.get (ConA c)).al (fcl k ch t) T.api_Frame
  simp only [bd]
  generalize al h (fcl k ch t).toArray T.api_Frame = h1 at *
  generalize top h = f at *
  simp only [rdN (S1.rc f 0 rfl), rdS (S1.rc f 2 rfl)]
  unfold zeroP at hK
  by_cases k8 : k = 8
  · rw [if_pos k8] at hK
    exact ifT (by rw [k8]; rfl) (hK h1 S1.tl)
  rw [if_neg k8] at hK
  refine ifF (by simp; omega) ?_
  by_cases k1n : k ≠ 1
  · rw [if_pos k1n] at hK
    exact ifT (by simp; omega) (wrongCS (c := c) (s := s) (y := mnil) (x := noM) S1 (by omega) fun h2 S2 => ⟨rfl, hK h2 S2.d1⟩)
  rw [if_neg k1n] at hK
  have k1 : k = 1 := by omega
  refine ifF (by rw [k1]; rfl) (methS (s := t) (bs := bs) S1 hb fun y B h2 S2 => ⟨_, _, rfl, ?_⟩)
  have S3 := S2.al (mcells 0 0 mnil) T.api_Method
  refine ⟨rfl, S3.putA (top h2) (ws := mcells (resM (methP bs)).1 (resM (methP bs)).2.1 y) rfl (by simp [one]) fun h3 S4 => ?_⟩
  generalize top h2 = m at *
  cases hp : methP bs with
  | inl e =>
    rw [hp] at hK S4
    refine ifT (by rcases methP_e hp with rfl | rfl <;> rfl) ?_
    have S5 : St (ConA c s :: Bx f (fcl k ch t) :: R) h3 := (S4.get (ConA c)).to
    have fin : CallsH P F.qdh [.agg (List.toArray (fcl k ch t))] (fun v18 h19 => ∃ cs20, v18 = .agg (List.toArray cs20) ∧ CallsH P F.qcq [.pointer (some c), .int .i64 (codeP e : Nat), .agg (List.toArray cs20)] (fun v21 h22 => v21 = .tuple #[] ∧ K (.tuple #[]) h22) h19) h3 :=
      namedFS (k := k) (ch := ch) (s := t) (bs := bs) S5 hb fun h4 S6 => ⟨_, rfl, wrongCS (c := c) (s := s) (y := mnil) (x := (namedF k bs).2.2) S6 (by omega) fun h5 S7 => ⟨rfl, hK h5 S7.d1⟩⟩
    exact ⟨codeS (e := e) ⟨_, rfl, _, S5.rall f 3 rfl, fin⟩, ⟨_, S5.rall f 3 rfl, codeS (e := e) ⟨_, rfl, fin⟩⟩⟩
  | inr x =>
    rw [hp] at hK S4
    simp only [resM] at S4 ⊢
    refine ifF rfl ?_
    have S5 : St (ConA c s :: Im 1 y.s (strs x.2.2.S) :: Bx m (mcells x.1 x.2.1 y) :: Bx f (fcl k ch t) :: R) h3 := (S4.get (ConA c)).to
    simp only [rdN (S5.rc m 0 rfl), rdN (S5.rc m 1 rfl)]
    have j1t : x.1 = 10 → x.2.1 = 50 → qbk.j1 K (some c) f m true h3 := by
      intro e1 e2
      unfold qbk.j1
      simp only at hK
      rw [if_pos ⟨e1, e2⟩] at hK
      refine ifT rfl (send0S (c := c) (s := s) S5 (by decide +kernel) (by decide) (by decide) (by omega) fun h4 S6 => ⟨rfl, ?_⟩)
      exact goneS (c := c) (s := s.send 0 (mm0 10 51)) S6 (by simp [Cnn.send, Cnn.tell]; omega) fun h5 S7 => ⟨rfl, hK h5 S7.d1.d1.d1⟩
    have j1f : ¬ (x.1 = 10 ∧ x.2.1 = 50) → qbk.j1 K (some c) f m false h3 := by
      intro hn
      unfold qbk.j1
      simp only at hK
      rw [if_neg hn] at hK
      refine ifF rfl ?_
      simp only [rdN (S5.rc m 0 rfl), bd]
      by_cases h10 : x.1 = 10
      · rw [if_pos h10] at hK
        exact ifT (by rw [h10]; rfl) ⟨_, S5.rall m 6 rfl, beginS (c := c) (s := s) (y := y) (x := x.2.2) S5 (fun e => methP_open hp h10 e) he fun h4 S6 => ⟨rfl, hK h4 S6.d1.d1.d1⟩⟩
      · rw [if_neg h10] at hK
        refine ifF (by simpa using h10) ⟨_, S5.rall f 3 rfl, namedFS (k := k) (ch := ch) (s := t) (bs := bs) S5 hb fun h4 S6 => ⟨_, rfl, wrongCS (c := c) (s := s) (y := mnil) (x := (namedF k bs).2.2) S6 (by omega) fun h5 S7 => ⟨rfl, hK h5 S7.d1.d1.d1⟩⟩⟩
    by_cases h10 : x.1 = 10
    · refine ifT (by rw [h10]; rfl) ?_
      by_cases h50 : x.2.1 = 50
      · rw [show (x.2.1 == 50) = true by rw [h50]; rfl]; exact j1t h10 h50
      · rw [show (x.2.1 == 50) = false by simpa using h50]; exact j1f fun z => h50 z.2
    · exact ifF (by simpa using h10) (j1f fun z => h10 z.1)
theorem umEnd : P.underlying T.map_int_int = some (.map T.int T.int) := by kernel_rfl
theorem umAsm : P.underlying T.map_int_p_chans_Asm = some (.map T.int T.p_chans_Asm) := by kernel_rfl
theorem endS {c : Addr} {s : Cnn} {k ch : Nat} {t : SV} {bs : Oct} (S0 : St L h) [H : Has (ConA c) L s R] [mi : In (fun b => Im 1 t (u8s b)) R bs] (hb : bs.length < 1099511627776) (he : s.ev.length < 536870912)
    (hK : ∀ h', St (ConA c (endP s k ch bs) :: R) h' → K (.tuple #[]) h') : CallsH P F.qbn [.pointer (some c), .agg (List.toArray (fcl k ch t))] K h := by
  refine qbn.ok ?_
  unfold qbn.p0
  have S1 := (S0.get (ConA c)).al (fcl k ch t) T.api_Frame
  simp only [bd]
  generalize al h (fcl k ch t).toArray T.api_Frame = h1 at *
  generalize top h = f at *
  simp only [rdS (S1.rc f 2 rfl)]
  refine methS (s := t) (bs := bs) S1 hb fun y B h2 S2 => ⟨_, _, rfl, ?_⟩
  have S3 := S2.al (mcells 0 0 mnil) T.api_Method
  refine ⟨rfl, S3.putA (top h2) (ws := mcells (resM (methP bs)).1 (resM (methP bs)).2.1 y) rfl (by simp [one]) fun h3 S4 => ?_⟩
  generalize top h2 = m at *
  have S5 : St (ConA c s :: Bx m (mcells (resM (methP bs)).1 (resM (methP bs)).2.1 y) :: Bx f (fcl k ch t) :: R) h3 := (S4.get (ConA c)).to
  simp only [rdN (S5.rc f 0 rfl), rdN (S5.rc m 0 rfl)]
  have no : endP s k ch bs = s → qbn.j1 K (some c) f m true h3 := by
    intro e
    unfold qbn.j1
    rw [e] at hK
    exact ifT rfl (hK h3 S5.d1.d1)
  have dl : ∀ {s' : Cnn} {h4 : Heap} {Q : Heap → Prop}, St (ConA c s' :: Bx m (mcells (resM (methP bs)).1 (resM (methP bs)).2.1 y) :: Bx f (fcl k ch t) :: R) h4 → (∀ h5, St (ConA c { s' with ending := del s'.ending ch } :: R) h5 → Q h5) →
      ∃ m15, hcell h4 (c.add 6) = some (.map m15) ∧ ∃ n16, hcell h4 (f.add 1) = some (.int .i64 n16) ∧ SemH P (Builtin.delete_ #[T.map_int_int, T.int] T.unit #[.map m15, .int .i64 n16]) (fun v17 h18 => Q h18) h4 := by
    intro s' h4 Q S6 hQ
    obtain ⟨bv, ev, xs, ma, me, rows, ⟨f1, f2⟩, S7⟩ := ConA.op S6
    refine ⟨_, S7.rc c 6 rfl, _, S7.rc f 1 rfl, ?_⟩
    have S8 : St (Mq kI vI me s'.ending :: Bx c (ccells s' bv ev ma me) :: Im 1 bv (u8s s'.b) :: Ow 17 ev (xs.flatMap evc2) :: EvsI xs :: Mq kI vA ma (rowA rows) :: AsI rows :: R) h4 := S7.to
    refine St.delete klCh umEnd S8 (k := (ch : Int)) fun h5 S9 => hQ h5 ?_
    exact ConA.cl (s := { s' with ending := del s'.ending ch }) bv ev xs ma me rows f1 f2 (St.to S9)
  by_cases k1 : k = 1
  · refine ifF' (by rw [k1]; rfl) ?_
    cases hp : methP bs with
    | inl e => exact ifT' (by rcases methP_e hp with rfl | rfl <;> rfl) (no (by unfold endP; rw [hp]))
    | inr x =>
      refine ifF' rfl ?_
      rw [hp] at S5 dl
      simp only [resM] at S5 dl ⊢
      by_cases h20 : x.1 = 20
      · rw [show (x.1 != 20) = false by rw [h20]; rfl]
        unfold qbn.j1
        refine ifF rfl ?_
        simp only [rdN (S5.rc m 1 rfl), bd, someE]
        have el : endP s k ch bs = if x.2.1 = 40 then { s.send ch (mm0 20 41) with ending := del s.ending ch } else if x.2.1 = 41 then { s with ending := del s.ending ch } else s := by
          unfold endP; rw [hp]; simp only; rw [if_neg (by simp [k1, h20])]
        rw [el] at hK
        by_cases h40 : x.2.1 = 40
        · rw [if_pos h40] at hK
          refine ifT (by rw [h40]; rfl) ⟨_, S5.rc f 1 rfl, send0S (c := c) (s := s) (ch := ch) S5 (by decide +kernel) (by decide) (by decide) (by omega) fun h4 S6 => ⟨rfl, dl S6 fun h5 S7 => hK h5 S7⟩⟩
        · rw [if_neg h40] at hK
          refine ifF (by simpa using h40) ?_
          by_cases h41 : x.2.1 = 41
          · rw [if_pos h41] at hK
            exact ifT (by rw [h41]; rfl) (dl S5 fun h5 S7 => hK h5 S7)
          · rw [if_neg h41] at hK
            exact ifF (by simpa using h41) (hK h3 S5.d1.d1)
      · rw [show (x.1 != 20) = true by simpa using h20]
        exact no (by unfold endP; rw [hp]; simp only; rw [if_pos (.inr h20)])
  · exact ifT' (by simp; omega) (no (by unfold endP; cases methP bs <;> simp [k1]))
end
end Go.Proofs.YtjapglfpjhljpaaGreat.Pr
end
section
set_option linter.unusedVariables false
set_option linter.unusedSimpArgs false
namespace Go.Proofs.YtjapglfpjhljpaaGreat.Pr
open Go Go.Lift Go.Proofs
abbrev rowC (rows : List (Int × Addr × CA)) : List (Int × CA) := rows.map fun r => (r.1, r.2.2)
section
variable {K : KT} {L R : List Asr} {h : Heap}
theorem AsI.mid : ∀ {pre post : List (Int × Addr × CA)} {x : Int × Addr × CA} {L : List Asr}, St (AsI (pre ++ x :: post) :: L) h → St (AsmA x.2.1 x.2.2 :: AsI (pre ++ post) :: L) h
  | [], post, x, L, S => St.split (A := AsmA x.2.1 x.2.2) (B := AsI post) S
  | y :: pre, post, x, L, S => by
    have S1 : St (AsmA y.2.1 y.2.2 :: AsI (pre ++ x :: post) :: L) h := St.split (A := AsmA y.2.1 y.2.2) (B := AsI (pre ++ x :: post)) S
    have S2 := AsI.mid S1.p1
    have S3 : St (AsmA y.2.1 y.2.2 :: AsI (pre ++ post) :: AsmA x.2.1 x.2.2 :: L) h := S2.to
    exact (St.join (A := AsmA y.2.1 y.2.2) (B := AsI (pre ++ post)) S3).p1
theorem AsI.unmid : ∀ {pre post : List (Int × Addr × CA)} {x : Int × Addr × CA} {L : List Asr}, St (AsmA x.2.1 x.2.2 :: AsI (pre ++ post) :: L) h → St (AsI (pre ++ x :: post) :: L) h
  | [], post, x, L, S => St.join (A := AsmA x.2.1 x.2.2) (B := AsI post) S
  | y :: pre, post, x, L, S => by
    have S1 : St (AsmA y.2.1 y.2.2 :: AsI (pre ++ post) :: AsmA x.2.1 x.2.2 :: L) h := St.split (A := AsmA y.2.1 y.2.2) (B := AsI (pre ++ post)) S.p1
    have S2 : St (AsmA x.2.1 x.2.2 :: AsI (pre ++ post) :: AsmA y.2.1 y.2.2 :: L) h := S1.to
    have S3 := AsI.unmid S2
    exact St.join (A := AsmA y.2.1 y.2.2) (B := AsI (pre ++ x :: post)) S3.p1
theorem rows_split : ∀ {rows : List (Int × Addr × CA)} {ch : Int} {a : Addr}, get? (rowA rows) ch = some a → ∃ pre ca post, rows = pre ++ (ch, a, ca) :: post ∧ ch ∉ pre.map (·.1)
  | [], ch, a, e => by simp [get?, fnd] at e
  | y :: r, ch, a, e => by
    by_cases hk : ch = y.1
    · have : get? (rowA (y :: r)) ch = some y.2.1 := by
        unfold get? fnd; simp [hk]
      rw [this] at e
      cases e
      exact ⟨[], y.2.2, r, by rw [hk]; rfl, by simp⟩
    · have e2 : get? (rowA r) ch = some a := by
        rw [← e]
        show get? (rowA r) ch = get? ((y.1, y.2.1) :: rowA r) ch
        have g : ∀ (l : List (Int × Addr)) (i j : Nat), (fnd l ch i).map (·.2) = (fnd l ch j).map (·.2) := by
          intro l
          induction l with
          | nil => intros; rfl
          | cons z l ih => intro i j; unfold fnd; split; rfl; exact ih _ _
        unfold get?
        conv => rhs; unfold fnd
        rw [if_neg hk]
        exact g _ _ _
      obtain ⟨pre, ca, post, h1, h2⟩ := rows_split e2
      exact ⟨y :: pre, ca, post, by rw [h1]; rfl, by simp [h2]; exact fun e => hk e⟩
theorem upd_mid : ∀ {pre post : List (Int × Addr × CA)} {ch : Int} {a : Addr} {ca ca' : CA}, ch ∉ pre.map (·.1) → upd (rowC (pre ++ (ch, a, ca) :: post)) ch ca' = rowC (pre ++ (ch, a, ca') :: post)
  | [], post, ch, a, ca, ca', _ => by show upd ((ch, ca) :: rowC post) ch ca' = _; unfold upd; rw [if_pos rfl]; rfl
  | y :: pre, post, ch, a, ca, ca', hn => by
    have hk : ch ≠ y.1 := fun e => hn (by simp [e])
    show upd ((y.1, y.2.2) :: rowC (pre ++ (ch, a, ca) :: post)) ch ca' = _
    unfold upd
    rw [if_neg hk, upd_mid (fun e => hn (by simp at e ⊢; exact .inr e))]
    rfl
theorem AsI.del : ∀ {rows : List (Int × Addr × CA)} {ch : Int} {L : List Asr}, St (AsI rows :: L) h → ∃ rows2, rowA rows2 = del (rowA rows) ch ∧ rowC rows2 = del (rowC rows) ch ∧ St (AsI rows2 :: L) h
  | [], ch, L, S => ⟨[], rfl, rfl, S⟩
  | y :: r, ch, L, S => by
    have S1 : St (AsmA y.2.1 y.2.2 :: AsI r :: L) h := St.split (A := AsmA y.2.1 y.2.2) (B := AsI r) S
    by_cases hk : ch = y.1
    · refine ⟨r, ?_, ?_, S1.tl⟩
      · show rowA r = Lift.del ((y.1, y.2.1) :: rowA r) ch
        unfold Lift.del; rw [if_pos hk]
      · show rowC r = Lift.del ((y.1, y.2.2) :: rowC r) ch
        unfold Lift.del; rw [if_pos hk]
    · obtain ⟨r2, h1, h2, S2⟩ := AsI.del (ch := ch) S1.p1
      refine ⟨y :: r2, ?_, ?_, St.join (A := AsmA y.2.1 y.2.2) (B := AsI r2) S2.p1⟩
      · show (y.1, y.2.1) :: rowA r2 = Lift.del ((y.1, y.2.1) :: rowA r) ch
        unfold Lift.del; rw [if_neg hk, h1]
      · show (y.1, y.2.2) :: rowC r2 = Lift.del ((y.1, y.2.2) :: rowC r) ch
        unfold Lift.del; rw [if_neg hk, h2]
theorem hardS {n : Nat} (hK : K (.bool (hardP n)) h) : CallsH P F.qdw [.int .i64 (n : Int)] K h := by
  refine qdw.ok ?_
  unfold qdw.p0
  unfold hardP at hK
  simp only [bd]
  have e540 : ∀ {q : Prop} [Decidable q], (q ↔ (n : Int) = 540) → K (.bool (decide q)) h → K (.bool ((n : Int) == 540)) h := by
    intro q _ hq hk
    rw [show ((n : Int) == 540) = decide q by rw [Bool.eq_iff_iff]; simp [hq]]
    exact hk
  by_cases h1 : 501 ≤ n
  · refine ifT (by simp; omega) ?_
    by_cases h6 : n ≤ 506
    · rw [show decide (501 ≤ n ∧ n ≤ 506 ∨ n = 530 ∨ n = 540) = true by simp; omega] at hK
      exact ifT' (by simp; omega) hK
    · refine ifF' (by simp; omega) ?_
      by_cases h530 : n = 530
      · rw [show decide (501 ≤ n ∧ n ≤ 506 ∨ n = 530 ∨ n = 540) = true by simp; omega] at hK
        exact ifT' (by rw [h530]; rfl) hK
      · exact ifF' (by simp; omega) (e540 (by omega) hK)
  · refine ifF (by simp; omega) ?_
    by_cases h530 : n = 530
    · omega
    · exact ifF' (by simp; omega) (e540 (by omega) hK)
theorem bld_evA' : (fun (a b : Int) (c d e f g i j k l m n : Value) => Instr.fill (Lift.places P (P.underlying T.api_Event)) (zcl P T.api_Event) [(0, .int .i64 a), (1, .int .i64 b), (3, .agg (List.toArray [c, d, e, f, g, i, j, k, l, m, n]))]) = fun a b c d e f g i j k l m n => some (List.toArray [.int .i64 a, .int .i64 b, .slice none 0 0, c, d, e, f, g, i, j, k, l, m, n, .int .i64 0, .int .i64 0, .int .i64 0]) := by kernel_rfl
theorem bld_evA (a b : Int) (c d e f g i j k l m n : Value) : bld P T.api_Event [(0, .int .i64 a), (1, .int .i64 b), (3, .agg (List.toArray [c, d, e, f, g, i, j, k, l, m, n]))] [.int .i64 a, .int .i64 b, .slice none 0 0, c, d, e, f, g, i, j, k, l, m, n, .int .i64 0, .int .i64 0, .int .i64 0] :=
  congrFun (congrFun (congrFun (congrFun (congrFun (congrFun (congrFun (congrFun (congrFun (congrFun (congrFun (congrFun (congrFun bld_evA' a) b) c) d) e) f) g) i) j) k) l) m) n
theorem askCS {c : Addr} {s : Cnn} {k ch : Nat} {t : SV} {bs : Oct} {a : Addr} {bv ev : SV} {xs : List (EV × QV)} {ma me : Nat} {pre post : List (Int × Addr × CA)} {ca : CA} (f1 : bv = s.bv ∧ xs.map Prod.fst = s.ev) (f2 : rowC (pre ++ ((ch : Int), a, ca) :: post) = s.asms) (f3 : (ch : Int) ∉ pre.map (·.1))
    (S0 : St (Bx c (ccells s bv ev ma me) :: Im 1 bv (u8s s.b) :: Ow 17 ev (xs.flatMap evc2) :: EvsI xs :: Mq kI vA ma (rowA (pre ++ ((ch : Int), a, ca) :: post)) :: AsI (pre ++ ((ch : Int), a, ca) :: post) :: Mq kI vI me s.ending :: R) h)
    [mi : In (fun b => Im 1 t (u8s b)) R bs] (hb : bs.length < 1099511627776) (he : s.ev.length < 536870912) (hc : ca.body.length < 1099511627776) (hh : ca.w = 2 → ca.hd.1 < 1099511627776)
    (hK : ∀ h', St (ConA c (askP s ch ca k bs) :: R) h' → K (.tuple #[]) h') : CallsH P F.qao [.pointer (some c), .int .i64 (ch : Int), .pointer (some a), .agg (List.toArray (fcl k ch t))] K h := by
  refine qao.ok ?_
  unfold qao.p0
  have S1 := S0.al (fcl k ch t) T.api_Frame
  simp only [bd]
  generalize al h (fcl k ch t).toArray T.api_Frame = h1 at *
  generalize top h = f at *
  refine ⟨_, S1.rall f 3 rfl, ?_⟩
  have S2 : St (AsI (pre ++ ((ch : Int), a, ca) :: post) :: Bx c (ccells s bv ev ma me) :: Im 1 bv (u8s s.b) :: Ow 17 ev (xs.flatMap evc2) :: EvsI xs :: Mq kI vA ma (rowA (pre ++ ((ch : Int), a, ca) :: post)) :: Mq kI vI me s.ending :: Bx f (fcl k ch t) :: R) h1 := S1.to
  have S3 := AsI.mid S2
  refine frameS (a := a) (c := ca) (kind := k) (ch := ch) (s := t) (bs := bs) S3 hb hc hh ?_
  intro y B bv2 h2 S4
  refine ⟨_, _, rfl, ?_⟩
  generalize hr : frameR k bs ca = r at *
  have S5 := (show St (AsmA a r.2.2 :: AsI (pre ++ post) :: Im 1 y.n (nums r.1.m.2.2.N) :: Im 1 y.s (strs r.1.m.2.2.S) :: Im 1 y.f (bools r.1.m.2.2.F) :: Tb B y.t r.1.m.2.2.T :: Ow 1 bv2 (u8s r.1.body) :: Bx c (ccells s bv ev ma me) :: Im 1 bv (u8s s.b) :: Ow 17 ev (xs.flatMap evc2) :: EvsI xs :: Mq kI vA ma (rowA (pre ++ ((ch : Int), a, ca) :: post)) :: Mq kI vI me s.ending :: Bx f (fcl k ch t) :: R) h2 from S4.to)
  have S6 := AsI.unmid (x := ((ch : Int), a, r.2.2)) S5
  have er : rowA (pre ++ ((ch : Int), a, ca) :: post) = rowA (pre ++ ((ch : Int), a, r.2.2) :: post) := by simp
  rw [er] at S6
  have S7 : St (ConA c { s with asms := upd s.asms ch r.2.2 } :: EvI ⟨2, ch, [], r.1, 0, 0, 0⟩ ⟨nosv, y, bv2⟩ :: Bx f (fcl k ch t) :: R) h2 := by
    have S8 : St (Ow 1 nosv (u8s []) :: Im 1 y.n (nums r.1.m.2.2.N) :: Im 1 y.s (strs r.1.m.2.2.S) :: Im 1 y.f (bools r.1.m.2.2.F) :: Tb B y.t r.1.m.2.2.T :: Ow 1 bv2 (u8s r.1.body) :: Bx c (ccells s bv ev ma me) :: Im 1 bv (u8s s.b) :: Ow 17 ev (xs.flatMap evc2) :: EvsI xs :: Mq kI vA ma (rowA (pre ++ ((ch : Int), a, r.2.2) :: post)) :: AsI (pre ++ ((ch : Int), a, r.2.2) :: post) :: Mq kI vI me s.ending :: Bx f (fcl k ch t) :: R) h2 := (show St (Ow 1 nosv (u8s []) :: _) h2 from S6.owNil 1).to
    have S9 : St (EvI ⟨2, ch, [], r.1, 0, 0, 0⟩ ⟨nosv, y, bv2⟩ :: Bx c (ccells s bv ev ma me) :: Im 1 bv (u8s s.b) :: Ow 17 ev (xs.flatMap evc2) :: EvsI xs :: Mq kI vA ma (rowA (pre ++ ((ch : Int), a, r.2.2) :: post)) :: AsI (pre ++ ((ch : Int), a, r.2.2) :: post) :: Mq kI vI me s.ending :: Bx f (fcl k ch t) :: R) h2 := St.ex' B (St.close (As := [_, _, _, _, _, _]) S8)
    have S10 : St (Bx c (ccells s bv ev ma me) :: Im 1 bv (u8s s.b) :: Ow 17 ev (xs.flatMap evc2) :: EvsI xs :: Mq kI vA ma (rowA (pre ++ ((ch : Int), a, r.2.2) :: post)) :: AsI (pre ++ ((ch : Int), a, r.2.2) :: post) :: Mq kI vI me s.ending :: EvI ⟨2, ch, [], r.1, 0, 0, 0⟩ ⟨nosv, y, bv2⟩ :: Bx f (fcl k ch t) :: R) h2 := S9.to
    exact ConA.cl (s := { s with asms := upd s.asms ch r.2.2 }) bv ev xs ma me _ f1 (by rw [← f2]; exact (upd_mid f3).symm) S10
  have S8 := S7.al zeros T.api_Ask
  have eh : al h2 #[.bool false, .int .i64 0, .int .i64 0, .slice none 0 0, .slice none 0 0, .slice none 0 0, .slice none 0 0, .int .u64 0, .int .i64 0, .string (mkS ([] : List UInt8)), .slice none 0 0] T.api_Ask = al h2 zeros.toArray T.api_Ask := rfl
  rw [eh]
  generalize al h2 zeros.toArray T.api_Ask = h3 at *
  generalize top h2 = x at *
  refine ⟨rfl, S8.putA x (ws := askc r.1 y bv2) rfl (by simp [one]) fun h4 S9 => ?_⟩
  refine (S9.get (Bx x)).rdP 1 (n := 6) (by simp) ?_
  have S10 := S9.al (mcells 0 0 mnil) T.api_Method
  have eh2 : al h4 #[.int .i64 0, .int .i64 0, .slice none 0 0, .slice none 0 0, .slice none 0 0, .slice none 0 0] T.api_Method = al h4 (mcells 0 0 mnil).toArray T.api_Method := rfl
  rw [eh2]
  generalize al h4 (mcells 0 0 mnil).toArray T.api_Method = h5 at *
  generalize top h4 = m at *
  refine ⟨rfl, S10.putA m (ws := mcells r.1.m.1 r.1.m.2.1 y) rfl (by simp [one]) fun h6 S11 => ?_⟩
  have S12 : St (ConA c { s with asms := upd s.asms ch r.2.2 } :: EvI ⟨2, ch, [], r.1, 0, 0, 0⟩ ⟨nosv, y, bv2⟩ :: Bx x (askc r.1 y bv2) :: Bx m (mcells r.1.m.1 r.1.m.2.1 y) :: Bx f (fcl k ch t) :: R) h6 := S11.to
  generalize hs1 : ({ s with asms := upd s.asms ch r.2.2 } : Cnn) = s1 at *
  have he1 : s1.ev.length < 536870912 := by rw [← hs1]; exact he
  have ed : askP s ch ca k bs = if r.2.1 ≠ 0 then (if hardP r.2.1 then s1.closing else s1).tell ⟨7, ch, [], ak0, r.2.1, r.1.m.1, r.1.m.2.1⟩
      else if r.1.rd = false then s1
      else if r.1.m.1 = 20 ∧ r.1.m.2.1 = 10 then s1.wrong 504 (namedF k bs)
      else if r.1.m.1 = 10 ∨ r.1.m.1 = 20 ∧ r.1.m.2.1 = 41 then s1.wrong 503 (namedF k bs)
      else if r.1.m.1 = 20 ∧ r.1.m.2.1 = 40 then Cnn.tell { s1.send ch (mm0 20 41) with asms := del s1.asms ch } (evCh 4 ch)
      else s1.tell ⟨2, ch, [], r.1, 0, 0, 0⟩ := by unfold askP; rw [hr, ← hs1]
  rw [ed] at hK
  have j1 : ∀ {s2 : Cnn} {h7 : Heap}, s2.ev.length < 536870912 → St (ConA c s2 :: EvI ⟨2, ch, [], r.1, 0, 0, 0⟩ ⟨nosv, y, bv2⟩ :: Bx x (askc r.1 y bv2) :: Bx m (mcells r.1.m.1 r.1.m.2.1 y) :: Bx f (fcl k ch t) :: R) h7 → askP s ch ca k bs = s2.tell ⟨7, ch, [], ak0, r.2.1, r.1.m.1, r.1.m.2.1⟩ → qao.j1 K (some c) (ch : Int) (r.2.1 : Nat) m h7 := by
    intro s2 h7 hl S13 e
    unfold qao.j1
    simp only [rdN (S13.rc m 0 rfl), rdN (S13.rc m 1 rfl)]
    rw [← ed, e] at hK
    exact tellS (c := c) (s := s2) (e := ⟨7, ch, [], ak0, r.2.1, r.1.m.1, r.1.m.2.1⟩) (q := qnil) (evI_nil rfl rfl S13) (by omega) fun h8 S14 => ⟨rfl, hK h8 S14.d1.d1.d1.d1⟩
  by_cases hn : r.2.1 ≠ 0
  · refine ifT (by simp; omega) (hardS ⟨_, rfl, ?_⟩)
    cases hh2 : hardP r.2.1 with
    | true => exact ifT rfl (closingS (c := c) (s := s1) S12 fun h7 S13 => ⟨rfl, j1 (s2 := s1.closing) he1 S13 (by rw [ed, if_pos hn, hh2]; rfl)⟩)
    | false => exact ifF rfl (j1 he1 S12 (by rw [ed, if_pos hn, hh2]; rfl))
  rw [if_neg hn] at hK
  refine ifF (by simp; omega) ?_
  simp only [rdB (S12.rc x 0 rfl)]
  cases hrd : r.1.rd with
  | false =>
    rw [if_pos hrd] at hK
    exact ifT rfl (hK h6 S12.d1.d1.d1.d1)
  | true =>
  rw [if_neg (by rw [hrd]; simp)] at hK
  refine ifF rfl ?_
  simp only [rdN (S12.rc m 0 rfl), rdN (S12.rc m 1 rfl)]
  have S13 : St (ConA c s1 :: Bx f (fcl k ch t) :: R) h6 := S12.to
  have nm : ∀ {n : Nat}, (∀ h', St (ConA c (s1.wrong n (namedF k bs)) :: R) h' → K (.tuple #[]) h') → CallsH P F.qdh [.agg (List.toArray (fcl k ch t))] (fun v25 h26 => ∃ cs27, v25 = .agg (List.toArray cs27) ∧ CallsH P F.qcq [.pointer (some c), .int .i64 (n : Int), .agg (List.toArray cs27)] (fun v28 h29 => v28 = .tuple #[] ∧ K (.tuple #[]) h29) h26) h6 :=
    fun {n} hK => namedFS (k := k) (ch := ch) (s := t) (bs := bs) S13 hb fun h7 S14 => ⟨_, rfl, wrongCS (c := c) (s := s1) (y := mnil) (x := (namedF k bs).2.2) S14 (by omega) fun h8 S15 => ⟨rfl, hK h8 S15.d1⟩⟩
  have j4t : r.1.m.1 = 20 → r.1.m.2.1 = 40 → qao.j4 K (some c) (ch : Int) x true h6 := by
    intro e1 e2
    unfold qao.j4
    rw [if_neg (by rw [e1, e2]; decide), if_neg (by rw [e1, e2]; decide), if_pos ⟨e1, e2⟩] at hK
    refine ifT rfl (send0S (c := c) (s := s1) (ch := ch) S13 (by decide +kernel) (by decide) (by decide) (by omega) fun h7 S14 => ⟨rfl, c, rfl, ?_⟩)
    obtain ⟨bv', ev', xs', ma', me', rows', ⟨g1, g2⟩, S15⟩ := ConA.op S14
    refine ⟨_, S15.rc c 5 rfl, ?_⟩
    have S16 : St (Mq kI vA ma' (rowA rows') :: AsI rows' :: Bx c (ccells (s1.send ch (mm0 20 41)) bv' ev' ma' me') :: Im 1 bv' (u8s (s1.send ch (mm0 20 41)).b) :: Ow 17 ev' (xs'.flatMap evc2) :: EvsI xs' :: Mq kI vI me' (s1.send ch (mm0 20 41)).ending :: R) h7 := S15.to
    refine St.delete klCh umAsm S16 (k := (ch : Int)) fun h8 S17 => ?_
    obtain ⟨rows2, r1, r2, S18⟩ := AsI.del (ch := (ch : Int)) S17.p1
    have S19 : St (ConA c { s1.send ch (mm0 20 41) with asms := del s1.asms ch } :: R) h8 := by
      refine ConA.cl (s := { s1.send ch (mm0 20 41) with asms := del s1.asms ch }) bv' ev' xs' ma' me' rows2 g1 (by show rowC rows2 = del s1.asms ch; rw [r2, show rowC rows' = s1.asms from g2]) ?_
      rw [← r1] at S18
      exact St.to S18
    exact tellS (c := c) (s := { s1.send ch (mm0 20 41) with asms := del s1.asms ch }) (e := evCh 4 ch) (q := qnil) (evI_nil rfl rfl S19) (by simp [Cnn.send, Cnn.tell]; omega) fun h9 S20 => ⟨rfl, hK h9 S20⟩
  have j4f : ¬ (r.1.m.1 = 20 ∧ r.1.m.2.1 = 10) → ¬ (r.1.m.1 = 10 ∨ r.1.m.1 = 20 ∧ r.1.m.2.1 = 41) → ¬ (r.1.m.1 = 20 ∧ r.1.m.2.1 = 40) → qao.j4 K (some c) (ch : Int) x false h6 := by
    intro n1 n2 n3
    unfold qao.j4
    rw [if_neg n1, if_neg n2, if_neg n3] at hK
    have S14 : St (EvI ⟨2, ch, [], r.1, 0, 0, 0⟩ ⟨nosv, y, bv2⟩ :: ConA c s1 :: Bx x (askc r.1 y bv2) :: Bx m (mcells r.1.m.1 r.1.m.2.1 y) :: Bx f (fcl k ch t) :: R) h6 := S12.to
    exact ifF rfl ⟨_, S12.rall x 11 rfl, _, bld_evA _ _ _ _ _ _ _ _ _ _ _ _ _, tellS (c := c) (s := s1) (e := ⟨2, ch, [], r.1, 0, 0, 0⟩) (q := ⟨nosv, y, bv2⟩) S14 (by omega) fun h9 S15 => ⟨rfl, hK h9 S15.d1.d1.d1⟩⟩
  have j3t : ¬ (r.1.m.1 = 20 ∧ r.1.m.2.1 = 10) → (r.1.m.1 = 10 ∨ r.1.m.1 = 20 ∧ r.1.m.2.1 = 41) → qao.j3 K (some c) (ch : Int) f x m true h6 := by
    intro n1 n2
    unfold qao.j3
    rw [if_neg n1, if_pos n2] at hK
    exact ifT rfl ⟨_, S12.rall f 3 rfl, nm (n := 503) hK⟩
  have j3f : ¬ (r.1.m.1 = 20 ∧ r.1.m.2.1 = 10) → ¬ (r.1.m.1 = 10 ∨ r.1.m.1 = 20 ∧ r.1.m.2.1 = 41) → qao.j3 K (some c) (ch : Int) f x m false h6 := by
    intro n1 n2
    unfold qao.j3
    refine ifF rfl ?_
    simp only [rdN (S12.rc m 0 rfl), rdN (S12.rc m 1 rfl), bd]
    by_cases h20 : r.1.m.1 = 20
    · refine ifT (by rw [h20]; rfl) ?_
      by_cases h40 : r.1.m.2.1 = 40
      · rw [show (r.1.m.2.1 == 40) = true by rw [h40]; rfl]; exact j4t h20 h40
      · rw [show (r.1.m.2.1 == 40) = false by simpa using h40]; exact j4f n1 n2 fun z => h40 z.2
    · exact ifF (by simpa using h20) (j4f n1 n2 fun z => h20 z.1)
  have j2t : (r.1.m.1 = 20 ∧ r.1.m.2.1 = 10) → qao.j2 K (some c) (ch : Int) f x m true h6 := by
    intro n1
    unfold qao.j2
    rw [if_pos n1] at hK
    exact ifT rfl ⟨_, S12.rall f 3 rfl, nm (n := 504) hK⟩
  have j2f : ¬ (r.1.m.1 = 20 ∧ r.1.m.2.1 = 10) → qao.j2 K (some c) (ch : Int) f x m false h6 := by
    intro n1
    unfold qao.j2
    refine ifF rfl ?_
    simp only [rdN (S12.rc m 0 rfl), rdN (S12.rc m 1 rfl), bd]
    by_cases h10 : r.1.m.1 = 10
    · exact ifT' (by rw [h10]; rfl) (j3t n1 (.inl h10))
    · refine ifF' (by simpa using h10) ?_
      by_cases h20 : r.1.m.1 = 20
      · refine ifT (by rw [h20]; rfl) ?_
        by_cases h41 : r.1.m.2.1 = 41
        · rw [show (r.1.m.2.1 == 41) = true by rw [h41]; rfl]; exact j3t n1 (.inr ⟨h20, h41⟩)
        · rw [show (r.1.m.2.1 == 41) = false by simpa using h41]; exact j3f n1 fun z => z.elim h10 fun z => h41 z.2
      · exact ifF (by simpa using h20) (j3f n1 fun z => z.elim h10 fun z => h20 z.1)
  by_cases h20 : r.1.m.1 = 20
  · refine ifT (by rw [h20]; rfl) ?_
    by_cases h10 : r.1.m.2.1 = 10
    · rw [show (r.1.m.2.1 == 10) = true by rw [h10]; rfl]; exact j2t ⟨h20, h10⟩
    · rw [show (r.1.m.2.1 == 10) = false by simpa using h10]; exact j2f fun z => h10 z.2
  · exact ifF (by simpa using h20) (j2f fun z => h20 z.1)
end
end Go.Proofs.YtjapglfpjhljpaaGreat.Pr
end
section
set_option linter.unusedVariables false
set_option linter.unusedSimpArgs false
namespace Go.Proofs.YtjapglfpjhljpaaGreat.Pr
open Go Go.Lift Go.Proofs
def AOk (a : CA) : Prop := (a.w ≠ 2 → a.body = []) ∧ (a.w = 2 → a.hd.1 ≤ 10000 ∧ a.body.length ≤ a.hd.1)
theorem AOk.zero : AOk ca0 := ⟨fun _ => rfl, fun h => absurd h (by decide)⟩
theorem AOk.step {a : CA} (o : AOk a) (k : Int) (b : Oct) : AOk (frameR k b a).2.2 := by
  have wr : ∀ n m, AOk (wrongR n m a).2.2 := fun _ _ => AOk.zero
  unfold frameR
  split
  · unfold methodR
    split
    · exact wr _ _
    · split
      · exact wr _ _
      · split
        · exact ⟨fun _ => rfl, fun h => absurd h (by simp)⟩
        · exact AOk.zero
  · split
    · unfold headR
      split
      · exact wr _ _
      · rename_i hw
        split
        · exact wr _ _
        · rename_i x hx
          split
          · exact wr _ _
          · rename_i h1
            split
            · exact AOk.zero
            · have e : a.body = [] := o.1 (by omega)
              exact ⟨fun h => absurd rfl h, fun _ => ⟨by simp; omega, by simp [e]⟩⟩
    · split
      · unfold bodyR
        split
        · exact wr _ _
        · rename_i hw
          split
          · exact wr _ _
          · rename_i h1
            split
            · exact AOk.zero
            · have := o.2 (by omega)
              exact ⟨fun h => absurd (show a.w = 2 by omega) h, fun _ => ⟨this.1, by simp; omega⟩⟩
      · exact wr _ _
theorem AOk.body {a : CA} (o : AOk a) : a.body.length < 1099511627776 := by
  by_cases h : a.w = 2
  · have := o.2 h; omega
  · rw [o.1 h]; simp
theorem AOk.hd {a : CA} (o : AOk a) (h : a.w = 2) : a.hd.1 < 1099511627776 := by have := o.2 h; omega
theorem get?_nk {ν : Type} : ∀ {l : List (Int × ν)} {k : Int}, get? l k = none ↔ k ∉ l.map (·.1) := by
  have g : ∀ (l : List (Int × ν)) (k : Int) (i : Nat), fnd l k i = none ↔ k ∉ l.map (·.1) := by
    intro l k
    induction l with
    | nil => intro i; simp [fnd]
    | cons z l ih =>
      intro i
      unfold fnd
      by_cases hk : k = z.1
      · rw [if_pos hk]; simp [hk]
      · rw [if_neg hk, ih (i + 1)]; simp [hk]
  intro l k
  have := g l k 0
  unfold get?
  cases hf : fnd l k 0 with
  | none => exact ⟨fun _ => this.1 hf, fun _ => rfl⟩
  | some x => simp; rw [hf] at this; simpa using this
theorem upd_new {ν : Type} : ∀ {l : List (Int × ν)} {k : Int} {v : ν}, k ∉ l.map (·.1) → upd l k v = l ++ [(k, v)]
  | [], k, v, _ => rfl
  | y :: r, k, v, hn => by
    have hk : k ≠ y.1 := fun e => hn (by simp [e])
    show upd (y :: r) k v = _
    unfold upd
    rw [if_neg hk, upd_new (fun e => hn (by simp at e ⊢; exact .inr e))]
    rfl
theorem rows_keys (rows : List (Int × Addr × CA)) : (rowA rows).map (·.1) = (rowC rows).map (·.1) := by simp
theorem get_mid {ν : Type} : ∀ {pre post : List (Int × ν)} {k : Int} {v : ν}, k ∉ pre.map (·.1) → get? (pre ++ (k, v) :: post) k = some v := by
  have g : ∀ (l : List (Int × ν)) (k : Int) (i j : Nat), (fnd l k i).map (·.2) = (fnd l k j).map (·.2) := by
    intro l k
    induction l with
    | nil => intros; rfl
    | cons z l ih => intro i j; unfold fnd; split; rfl; exact ih _ _
  intro pre
  induction pre with
  | nil => intro post k v _; unfold get?; simp [fnd]
  | cons y r ih =>
    intro post k v hn
    have hk : k ≠ y.1 := fun e => hn (by simp [e])
    have := ih (post := post) (k := k) (v := v) (fun e => hn (by simp at e ⊢; exact .inr e))
    rw [← this]
    unfold get?
    conv => lhs; rw [List.cons_append]; unfold fnd
    rw [if_neg hk]
    exact g _ _ _ _
section
variable {K : KT} {L R : List Asr} {h : Heap}
theorem channelS {c : Addr} {s : Cnn} {k ch : Nat} {t : SV} {bs : Oct} (S0 : St L h) [H : Has (ConA c) L s R] [mi : In (fun b => Im 1 t (u8s b)) R bs] (hb : bs.length < 1099511627776) (he : s.ev.length < 536870912) (hA : ∀ x ∈ s.asms, AOk x.2)
    (hK : ∀ h', St (ConA c (channelP s k ch bs) :: R) h' → K (.tuple #[]) h') : CallsH P F.qan [.pointer (some c), .agg (List.toArray (fcl k ch t))] K h := by
  refine qan.ok ?_
  unfold qan.p0
  have S1 := (S0.get (ConA c)).al (fcl k ch t) T.api_Frame
  simp only [bd]
  generalize al h (fcl k ch t).toArray T.api_Frame = h1 at *
  generalize top h = f at *
  obtain ⟨bv, ev, xs, ma, me, rows, ⟨f1, f2⟩, S2⟩ := ConA.op (S1.get (ConA c))
  refine ⟨c, rfl, _, S2.rc c 5 rfl, _, S2.rc f 1 rfl, ?_⟩
  have S3 : St (Mq kI vA ma (rowA rows) :: Bx c (ccells s bv ev ma me) :: Im 1 bv (u8s s.b) :: Ow 17 ev (xs.flatMap evc2) :: EvsI xs :: AsI rows :: Mq kI vI me s.ending :: Bx f (fcl k ch t) :: R) h1 := S2.to
  refine St.lookup klCh umAsm (z := .pointer none) (by kernel_rfl) S3 (k := (ch : Int)) ⟨get? (rowA rows) (ch : Int), (get? (rowA rows) (ch : Int)).isSome, by cases get? (rowA rows) (ch : Int) <;> rfl, _, _, _, S2.rc f 2 rfl, ?_⟩
  refine methS (s := t) (bs := bs) S2 hb fun y B h2 S4 => ⟨_, _, rfl, ?_⟩
  have S5 := S4.al (mcells 0 0 mnil) T.api_Method
  refine ⟨rfl, S5.putA (top h2) (ws := mcells (resM (methP bs)).1 (resM (methP bs)).2.1 y) rfl (by simp [one]) fun h3 S6 => ?_⟩
  generalize top h2 = m at *
  generalize hr : methP bs = r at *
  have S7 : St (Bx c (ccells s bv ev ma me) :: Im 1 bv (u8s s.b) :: Ow 17 ev (xs.flatMap evc2) :: EvsI xs :: Mq kI vA ma (rowA rows) :: AsI rows :: Mq kI vI me s.ending :: Bx m (mcells (resM r).1 (resM r).2.1 y) :: Bx f (fcl k ch t) :: R) h3 := S6.to
  have S8 : St (ConA c s :: Bx m (mcells (resM r).1 (resM r).2.1 y) :: Bx f (fcl k ch t) :: R) h3 := ConA.cl bv ev xs ma me rows f1 f2 S7
  have e0 : resE r = 0 ∨ resE r = 4 ∨ resE r = 5 := by
    cases r with
    | inl e => exact .inr (methP_e hr)
    | inr x => exact .inl rfl
  have j3 : ∀ {s1 : Cnn} {h4 : Heap}, s1.ev.length < 536870912 → St (ConA c s1 :: Bx f (fcl k ch t) :: R) h4 → (Cnn.send s1 ch (mmS 20 11 [[]])).tell (evCh 3 ch) = channelP s k ch bs → qan.j3 K (some c) f h4 := by
    intro s1 h4 hl S9 e
    unfold qan.j3
    simp only [rdN (S9.rc f 1 rfl), bd]
    have S10 := S9.lit [.string (mkS [])] T.string 1 rfl
    have S11 : St (Im 1 (some (top h4), 1, 1) (strs [[]]) :: ConA c s1 :: Bx f (fcl k ch t) :: R) _ := S10
    have S12 := (tbNil 0 ((S11.imNil 1 0).imNil 1 0))
    refine sendS (c := c) (s := s1) (y := ⟨(none, 0, 0), (some (top h4), 1, 1), (none, 0, 0), (none, 0, 0)⟩) (x := ⟨[], [[]], [], []⟩) (B := fun _ => False) S12 (smallM_of (by simp) (by simp) (by simp) (by simp) (by simp) smallP0) (by decide +kernel) (by decide) (by decide) (by omega) fun h5 S13 => ⟨rfl, ?_⟩
    have S14 : St (ConA c (Cnn.send s1 ch (20, 11, ⟨[], [[]], [], []⟩)) :: Bx f (fcl k ch t) :: R) h5 := S13.to
    simp only [rdN (S14.rc f 1 rfl)]
    refine tellS (c := c) (s := Cnn.send s1 ch (20, 11, ⟨[], [[]], [], []⟩)) (e := evCh 3 ch) (q := qnil) (evI_nil rfl rfl S14) (by simp [Cnn.send, Cnn.tell]; omega) fun h6 S15 => ⟨rfl, hK h6 ?_⟩
    rw [← e]
    exact S15.d1
  have j2 : ∀ (o : Bool), ¬ (0 < (get? s.ending (ch : Int)).getD 0) → (o = true ↔ (k = 1 ∧ resE r = 0 ∧ (resM r).1 = 20 ∧ (resM r).2.1 = 10) ∧ get? (rowA rows) (ch : Int) = none) → qan.j2 K (some c) f (get? (rowA rows) (ch : Int)) (get? (rowA rows) (ch : Int)).isSome o h3 := by
    intro o hz ho
    unfold qan.j2
    cases o with
    | true =>
      obtain ⟨ho1, ho2⟩ := ho.1 rfl
      have nA := get?_nk.1 ho2
      have nC : (ch : Int) ∉ (rowC rows).map (·.1) := by rw [← rows_keys]; exact nA
      have ec : channelP s k ch bs = (Cnn.send { s with asms := upd s.asms ch ca0 } ch (mmS 20 11 [[]])).tell (evCh 3 ch) := by
        unfold channelP
        have : get? s.asms (ch : Int) = none := by rw [← f2]; exact get?_nk.2 nC
        rw [if_neg hz, this, hr]
        simp only
        rw [if_pos ho1]
      refine ifT rfl ⟨c, rfl, ?_⟩
      have fin : ∀ {h4 : Heap} {a : Addr}, St (AsmA a ca0 :: Bx c (ccells s bv ev ma me) :: Im 1 bv (u8s s.b) :: Ow 17 ev (xs.flatMap evc2) :: EvsI xs :: Mq kI vA ma (rowA rows) :: AsI rows :: Mq kI vI me s.ending :: Bx m (mcells (resM r).1 (resM r).2.1 y) :: Bx f (fcl k ch t) :: R) h4 →
          SemH P (unit (Instr.mapUpdate T.map_int_p_chans_Asm (.map (some ma)) (.int .i64 ch) (.pointer (some a)))) (fun v39 h40 => qan.j3 K (some c) f h40) h4 := by
        intro h4 a S9
        have S10 : St (Mq kI vA ma (rowA rows) :: AsmA a ca0 :: AsI rows :: Bx c (ccells s bv ev ma me) :: Im 1 bv (u8s s.b) :: Ow 17 ev (xs.flatMap evc2) :: EvsI xs :: Mq kI vI me s.ending :: Bx f (fcl k ch t) :: R) h4 := S9.to
        refine St.update klCh umAsm S10 (k := (ch : Int)) (v := a) fun u h5 S11 => ?_
        rw [upd_new nA] at S11
        have S12 : St (AsI (rows ++ [((ch : Int), a, ca0)]) :: Mq kI vA ma (rowA rows ++ [((ch : Int), a)]) :: Bx c (ccells s bv ev ma me) :: Im 1 bv (u8s s.b) :: Ow 17 ev (xs.flatMap evc2) :: EvsI xs :: Mq kI vI me s.ending :: Bx f (fcl k ch t) :: R) h5 := by
          refine AsI.unmid (pre := rows) (post := []) (x := ((ch : Int), a, ca0)) ?_
          rw [List.append_nil]
          exact S11.to
        have er : rowA rows ++ [((ch : Int), a)] = rowA (rows ++ [((ch : Int), a, ca0)]) := by simp
        rw [er] at S12
        have S13 : St (ConA c { s with asms := upd s.asms ch ca0 } :: Bx f (fcl k ch t) :: R) h5 := by
          refine ConA.cl (s := { s with asms := upd s.asms ch ca0 }) bv ev xs ma me (rows ++ [((ch : Int), a, ca0)]) f1 ?_ (St.to S12)
          show _ = upd s.asms (ch : Int) ca0
          rw [← f2, upd_new nC]; simp
        exact j3 (s1 := { s with asms := upd s.asms ch ca0 }) he S13 ec.symm
      have nw : ∀ {Q : KT}, (∀ h' a, St (AsmA a ca0 :: Bx c (ccells s bv ev ma me) :: Im 1 bv (u8s s.b) :: Ow 17 ev (xs.flatMap evc2) :: EvsI xs :: Mq kI vA ma (rowA rows) :: AsI rows :: Mq kI vI me s.ending :: Bx m (mcells (resM r).1 (resM r).2.1 y) :: Bx f (fcl k ch t) :: R) h' → Q (.pointer (some a)) h') → CallsH P F.qds [] Q h3 :=
        fun hQ => newS S7 fun h' S' => hQ h' _ S'
      refine ⟨⟨_, S7.rc c 5 rfl, ⟨_, S7.rc f 1 rfl, nw fun h' a S' => ⟨_, rfl, fin S'⟩⟩, nw fun h' a S' => ⟨_, rfl, _, S'.rc f 1 rfl, fin S'⟩⟩, ⟨_, S7.rc f 1 rfl, ⟨_, S7.rc c 5 rfl, nw fun h' a S' => ⟨_, rfl, fin S'⟩⟩, nw fun h' a S' => ⟨_, rfl, _, S'.rc c 5 rfl, fin S'⟩⟩, nw fun h' a S' => ⟨_, rfl, _, S'.rc c 5 rfl, _, S'.rc f 1 rfl, fin S'⟩⟩
    | false =>
      refine ifF rfl ?_
      simp only [bd]
      cases hg : get? (rowA rows) (ch : Int) with
      | none =>
        have nC : (ch : Int) ∉ (rowC rows).map (·.1) := by rw [← rows_keys]; exact get?_nk.1 hg
        have ec : channelP s k ch bs = s.wrong 504 (mm0 0 0) := by
          unfold channelP
          have : get? s.asms (ch : Int) = none := by rw [← f2]; exact get?_nk.2 nC
          rw [if_neg hz, this, hr]
          simp only
          rw [if_neg]
          intro z
          have := ho.2 ⟨z, hg⟩
          cases this
        rw [ec] at hK
        exact ifT rfl (wrongCS (c := c) (s := s) (y := mnil) (x := noM) S8 (by omega) fun h4 S9 => ⟨rfl, hK h4 S9.d1.d1⟩)
      | some a =>
        obtain ⟨pre, ca, post, er, hn⟩ := rows_split hg
        refine ifF rfl ⟨_, S7.rc f 1 rfl, _, S7.rall f 3 rfl, ?_⟩
        subst er
        have hm : get? s.asms (ch : Int) = some ca := by
          rw [← f2]
          have : rowC (pre ++ ((ch : Int), a, ca) :: post) = rowC pre ++ ((ch : Int), ca) :: rowC post := by simp
          exact (congrArg (fun l => get? l (ch : Int)) this).trans (get_mid (by simpa using hn))
        have ec : channelP s k ch bs = askP s ch ca k bs := by
          unfold channelP
          rw [if_neg hz, hm]
        rw [ec] at hK
        have oa : AOk ca := hA ((ch : Int), ca) (by rw [← f2]; simp)
        have S9 : St (Bx c (ccells s bv ev ma me) :: Im 1 bv (u8s s.b) :: Ow 17 ev (xs.flatMap evc2) :: EvsI xs :: Mq kI vA ma (rowA (pre ++ ((ch : Int), a, ca) :: post)) :: AsI (pre ++ ((ch : Int), a, ca) :: post) :: Mq kI vI me s.ending :: R) h3 := S7.to
        exact askCS (k := k) (ch := ch) (t := t) (bs := bs) f1 f2 hn S9 hb he oa.body oa.hd fun h4 S10 => ⟨rfl, hK h4 S10⟩
  have j1 : ∀ (o : Bool), (o = true ↔ (k = 1 ∧ resE r = 0 ∧ (resM r).1 = 20 ∧ (resM r).2.1 = 10)) → qan.j1 K (some c) f (get? (rowA rows) (ch : Int)) (get? (rowA rows) (ch : Int)).isSome o h3 := by
    intro o ho
    unfold qan.j1
    refine ⟨c, rfl, _, S7.rc c 6 rfl, _, S7.rc f 1 rfl, ?_⟩
    have S9 : St (Mq kI vI me s.ending :: Bx m (mcells (resM r).1 (resM r).2.1 y) :: Bx f (fcl k ch t) :: R) h3 := S7.to
    refine St.lookup klCh umEnd (z := .int .i64 0) (by kernel_rfl) S9 (k := (ch : Int)) ⟨(get? s.ending (ch : Int)).getD 0, by cases get? s.ending (ch : Int) <;> rfl, ?_⟩
    simp only [bd]
    by_cases hz : 0 < (get? s.ending (ch : Int)).getD 0
    · have ec : channelP s k ch bs = endP s k ch bs := by unfold channelP; rw [if_pos hz]
      rw [ec] at hK
      exact ifT (by simpa using hz) ⟨_, S8.rall f 3 rfl, endS (c := c) (s := s) (k := k) (ch := ch) (t := t) (bs := bs) S8 hb he fun h4 S10 => ⟨rfl, hK h4 S10.d1.d1⟩⟩
    · refine ifF (by simpa using hz) ?_
      cases o with
      | true =>
        refine ifT rfl (j2 _ hz ?_)
        cases hg : get? (rowA rows) (ch : Int) with
        | none => simp [ho.1 rfl]
        | some a => simp
      | false =>
        refine ifF rfl (j2 _ hz ?_)
        constructor
        · intro e; cases e
        · intro z; have := ho.2 z.1; cases this
  simp only [rdN (S7.rc f 0 rfl), rdN (S7.rc m 0 rfl), rdN (S7.rc m 1 rfl)]
  by_cases k1 : k = 1
  · refine ifT (by rw [k1]; rfl) ?_
    by_cases z0 : resE r = 0
    · refine ifT (by rw [z0]; rfl) ?_
      by_cases h20 : (resM r).1 = 20
      · refine ifT (by rw [h20]; rfl) ?_
        exact j1 _ (by simp [k1, z0, h20])
      · exact ifF (by simpa using h20) (j1 _ (by simp [h20]))
    · exact ifF (by simp; omega) (j1 _ (by simp [z0]))
  · exact ifF (by simp; omega) (j1 _ (by simp [k1]))
theorem takeFS {c : Addr} {s : Cnn} {k ch : Nat} {t : SV} {bs : Oct} (S0 : St L h) [H : Has (ConA c) L s R] [mi : In (fun b => Im 1 t (u8s b)) R bs] (hb : bs.length < 1099511627776) (he : s.ev.length < 536870912) (hA : ∀ x ∈ s.asms, AOk x.2)
    (hK : ∀ h', St (ConA c (takeF s k ch bs) :: R) h' → K (.tuple #[]) h') : CallsH P F.qbm [.pointer (some c), .agg (List.toArray (fcl k ch t))] K h := by
  refine qbm.ok ?_
  unfold qbm.p0
  have S1 := (S0.get (ConA c)).al (fcl k ch t) T.api_Frame
  simp only [bd]
  generalize al h (fcl k ch t).toArray T.api_Frame = h1 at *
  generalize top h = f at *
  obtain ⟨bv, ev, xs, ma, me, rows, ⟨f1, f2⟩, S2⟩ := ConA.op (S1.get (ConA c))
  have S3 : St (ConA c s :: Bx f (fcl k ch t) :: R) h1 := S1.to
  simp only [someE, rdN (S2.rc c 0 rfl), rdN (S2.rc f 1 rfl)]
  unfold takeF at hK
  by_cases h5 : s.st = 5
  · rw [if_pos h5] at hK
    exact ifT (by rw [h5]; rfl) ⟨_, S2.rall f 3 rfl, lastS (c := c) (s := s) (k := k) (ch := ch) (t := t) (bs := bs) S3 hb he fun h4 S10 => ⟨rfl, hK h4 S10.d1⟩⟩
  rw [if_neg h5] at hK
  refine ifF (by simp; omega) ?_
  by_cases h0 : ch = 0
  · rw [if_pos h0] at hK
    exact ifT (by rw [h0]; rfl) ⟨_, S2.rall f 3 rfl, zeroS (c := c) (s := s) (k := k) (ch := ch) (t := t) (bs := bs) S3 hb he fun h4 S10 => ⟨rfl, hK h4 S10.d1⟩⟩
  rw [if_neg h0] at hK
  refine ifF (by simp; omega) ?_
  have bad : s.st ≠ 4 ∨ 16 < ch → qbm.j1 K (some c) f true h1 := by
    intro z
    rw [if_pos z] at hK
    unfold qbm.j1
    exact ifT rfl (wrongCS (c := c) (s := s) (y := mnil) (x := noM) S3 (by omega) fun h4 S9 => ⟨rfl, hK h4 S9.d1⟩)
  by_cases h4 : s.st = 4
  · refine ifF' (by rw [h4]; rfl) ?_
    by_cases h16 : 16 < ch
    · rw [show decide (((ch : Nat) : Int) > 16) = true by simp; omega]
      exact bad (.inr h16)
    · rw [show decide (((ch : Nat) : Int) > 16) = false by simp; omega]
      unfold qbm.j1
      rw [if_neg (by omega)] at hK
      exact ifF rfl ⟨_, S2.rall f 3 rfl, channelS (c := c) (s := s) (k := k) (ch := ch) (t := t) (bs := bs) S3 hb he hA fun h4 S10 => ⟨rfl, hK h4 S10.d1⟩⟩
  · exact ifT' (by simp; omega) (bad (.inl h4))
end
end Go.Proofs.YtjapglfpjhljpaaGreat.Pr
end
section
set_option linter.unusedVariables false
set_option linter.unusedSimpArgs false
namespace Go.Proofs.YtjapglfpjhljpaaGreat.Pr
open Go Go.Lift Go.Proofs
def U8 : Value → Prop := fun v => ∃ n, v = .int .u8 n
theorem U8.u8s (b : Oct) : ∀ v ∈ u8s b, U8 v := by intro v hv; obtain ⟨x, _, rfl⟩ := List.mem_map.1 hv; exact ⟨_, rfl⟩
theorem U8.nums (l : List Nat) : ∀ v ∈ nums l, ¬ U8 v := by intro v hv ⟨n, e⟩; obtain ⟨x, _, rfl⟩ := List.mem_map.1 hv; cases e
theorem U8.strs (l : List Oct) : ∀ v ∈ strs l, ¬ U8 v := by intro v hv ⟨n, e⟩; obtain ⟨x, _, rfl⟩ := List.mem_map.1 hv; cases e
theorem U8.bools (l : List Bool) : ∀ v ∈ bools l, ¬ U8 v := by intro v hv ⟨n, e⟩; obtain ⟨x, _, rfl⟩ := List.mem_map.1 hv; cases e
theorem TRep.less {D B : Nat → Prop} {h : Heap} (u : ∀ b, D b → UBb U8 h b) : ∀ {d : Nat} {p : OA} {l : Nat} {fs : List PF}, TRep d B h p l fs → TRep d (fun b => B b ∧ ¬ D b) h p l fs
  | 0, _, _, _, t => False.elim t
  | d + 1, p, l, fs, t => by
    obtain ⟨h1, h2⟩ := t
    refine ⟨h1, ?_⟩
    cases p with
    | none => exact h2
    | some a =>
      obtain ⟨h3, ts, h4, h5, h6⟩ := h2
      refine ⟨fun e => ⟨h3 e, fun hD => ?_⟩, ts, h4, h5, fun i f t e1 e2 => ⟨(h6 i f t e1 e2).1, TRep.less u (h6 i f t e1 e2).2⟩⟩
      obtain ⟨f, fs', rfl⟩ := List.exists_cons_of_ne_nil e
      obtain ⟨s, ts', rfl⟩ := List.exists_cons_of_ne_nil (show ts ≠ [] by intro x; subst x; simp at h4)
      have hc := h5.get (i := 0) (v := .string (mkS f.name)) rfl
      obtain ⟨n, e⟩ := u a.block hD _ (by rw [add_block]) _ hc
      cases e
theorem Tw.tb {B : Nat → Prop} {s : SV} {fs : List PF} : Tw U8 (Tb B s fs) (ex fun B' => Tb B' s fs) := by
  refine Tw.shr fun D h ⟨h1, d, t⟩ u I' hd hl => ⟨fun b => B b ∧ ¬ D b, fun _ => rfl, hd, fun h2 l2 => ?_⟩
  refine Tb.lc _ s fs h h2 (fun b hb => ?_) ⟨h1, d, TRep.less u t⟩
  have hn := (hd b).2 hb
  cases ho : I' b with
  | none => exact absurd ho hn
  | some o => rw [l2 b o ho, hl b o ho]
theorem Tw.mono {U : Value → Prop} {A A' A'' : Asr} (t : Tw U A A') (m : ∀ E I, A' E I → A'' E I) : Tw U A A'' := fun D E I h a e i n u => by
  obtain ⟨I', a', s, z⟩ := t D E I h a e i n u
  exact ⟨I', m _ _ a', s, z⟩
theorem sep_mono {A B A' B' : Asr} (ma : ∀ E I, A E I → A' E I) (mb : ∀ E I, B E I → B' E I) (E I : Frag) : sep A B E I → sep A' B' E I := fun ⟨E1, I1, E2, I2, hA, hB, r⟩ => ⟨E1, I1, E2, I2, ma _ _ hA, mb _ _ hB, r⟩
theorem sep_exr {α : Sort _} {A : Asr} {F : α → Asr} (E I : Frag) : sep A (ex F) E I → ex (fun x => sep A (F x)) E I := fun ⟨E1, I1, E2, I2, hA, ⟨x, hB⟩, r⟩ => ⟨x, E1, I1, E2, I2, hA, hB, r⟩
theorem sep_exl {α : Sort _} {B : Asr} {F : α → Asr} (E I : Frag) : sep (ex F) B E I → ex (fun x => sep (F x) B) E I := fun ⟨E1, I1, E2, I2, ⟨x, hA⟩, hB, r⟩ => ⟨x, E1, I1, E2, I2, hA, hB, r⟩
theorem five_ex {α : Sort _} {A B C D : Asr} {F : α → Asr} {L : List Asr} (E I : Frag) : stars (A :: B :: C :: D :: ex F :: L) E I → ex (fun x => stars (A :: B :: C :: D :: F x :: L)) E I := by
  intro s
  have s1 := sep_mono (fun _ _ x => x) (sep_mono (fun _ _ x => x) (sep_mono (fun _ _ x => x) (sep_mono (fun _ _ x => x) (sep_exl (B := stars L))))) E I s
  have s2 := sep_mono (fun _ _ x => x) (sep_mono (fun _ _ x => x) (sep_mono (fun _ _ x => x) sep_exr)) E I s1
  have s3 := sep_mono (fun _ _ x => x) (sep_mono (fun _ _ x => x) sep_exr) E I s2
  have s4 := sep_mono (fun _ _ x => x) sep_exr E I s3
  exact sep_exr E I s4
theorem Tw.evI {e : EV} {q : QV} : Tw U8 (EvI e q) (EvI e q) := by
  refine Tw.ex1 fun B => Tw.mono (A' := stars [Ow 1 q.sb (u8s e.b), Im 1 q.y.n (nums e.ask.m.2.2.N), Im 1 q.y.s (strs e.ask.m.2.2.S), Im 1 q.y.f (bools e.ask.m.2.2.F), ex fun B' => Tb B' q.y.t e.ask.m.2.2.T, Ow 1 q.bv (u8s e.ask.body)]) ?_ (fun E I x => five_ex E I x)
  exact Tw.sep Tw.own (Tw.sep (Tw.im (U8.nums _)) (Tw.sep (Tw.im (U8.strs _)) (Tw.sep (Tw.im (U8.bools _)) (Tw.sep Tw.tb (Tw.sep Tw.own Tw.emp)))))
theorem Tw.evsI : ∀ {xs : List (EV × QV)}, Tw U8 (EvsI xs) (EvsI xs)
  | [] => Tw.emp
  | x :: r => Tw.sep Tw.evI Tw.evsI
theorem Tw.asm {a : Addr} {c : CA} : Tw U8 (AsmA a c) (AsmA a c) := by
  refine Tw.ex fun y => ⟨y, Tw.ex1 fun B => ?_⟩
  intro D E I h ⟨bv, x⟩ e i n u
  have t : Tw U8 (stars [Bx a (acells c y bv), Im 1 y.n (nums c.m.2.2.N), Im 1 y.s (strs c.m.2.2.S), Im 1 y.f (bools c.m.2.2.F), Tb B y.t c.m.2.2.T, Ow 1 bv (u8s c.body)])
      (ex fun B' => stars [Bx a (acells c y bv), Im 1 y.n (nums c.m.2.2.N), Im 1 y.s (strs c.m.2.2.S), Im 1 y.f (bools c.m.2.2.F), Tb B' y.t c.m.2.2.T, Ow 1 bv (u8s c.body)]) :=
    Tw.mono (Tw.sep Tw.own (Tw.sep (Tw.im (U8.nums _)) (Tw.sep (Tw.im (U8.strs _)) (Tw.sep (Tw.im (U8.bools _)) (Tw.sep Tw.tb (Tw.sep Tw.own Tw.emp)))))) (fun E I x => five_ex E I x)
  obtain ⟨I', ⟨B', a'⟩, s, z⟩ := t D E I h x e i n u
  exact ⟨I', ⟨B', bv, a'⟩, s, z⟩
theorem Tw.asI : ∀ {rows : List (Int × Addr × CA)}, Tw U8 (AsI rows) (AsI rows)
  | [] => Tw.emp
  | x :: r => Tw.sep Tw.asm Tw.asI
def ConO (c : Addr) (s : Cnn) : Asr := ex fun v : SV × SV × List (EV × QV) × Nat × Nat × List (Int × Addr × CA) => sep (fact (v.2.2.1.map Prod.fst = s.ev ∧ v.2.2.2.2.2.map (fun r => (r.1, r.2.2)) = s.asms))
  (stars [Bx c (ccells s v.1 v.2.1 v.2.2.2.1 v.2.2.2.2.1), Ou U8 v.1 (u8s s.b), Ow 17 v.2.1 (v.2.2.1.flatMap evc2), EvsI v.2.2.1, Mq kI vA v.2.2.2.1 (rowA v.2.2.2.2.2), AsI v.2.2.2.2.2, Mq kI vI v.2.2.2.2.1 s.ending])
section
variable {K : KT} {L R : List Asr} {h : Heap}
theorem ConO.op {c : Addr} {s : Cnn} (S : St (ConO c s :: L) h) : ∃ bv ev xs ma me rows, (xs.map Prod.fst = s.ev ∧ rows.map (fun r : Int × Addr × CA => (r.1, r.2.2)) = s.asms) ∧
    St (Bx c (ccells s bv ev ma me) :: Ou U8 bv (u8s s.b) :: Ow 17 ev (xs.flatMap evc2) :: EvsI xs :: Mq kI vA ma (rowA rows) :: AsI rows :: Mq kI vI me s.ending :: L) h := by
  obtain ⟨⟨bv, ev, xs, ma, me, rows⟩, S⟩ := S.ex
  obtain ⟨f, S⟩ := S.split.fact
  exact ⟨bv, ev, xs, ma, me, rows, f, S.open⟩
theorem ConO.cl {c : Addr} {s : Cnn} (bv ev : SV) (xs : List (EV × QV)) (ma me : Nat) (rows : List (Int × Addr × CA)) (f1 : xs.map Prod.fst = s.ev) (f2 : rows.map (fun r : Int × Addr × CA => (r.1, r.2.2)) = s.asms)
    (S : St (Bx c (ccells s bv ev ma me) :: Ou U8 bv (u8s s.b) :: Ow 17 ev (xs.flatMap evc2) :: EvsI xs :: Mq kI vA ma (rowA rows) :: AsI rows :: Mq kI vI me s.ending :: L) h) : St (ConO c s :: L) h :=
  St.ex' (bv, ev, xs, ma, me, rows) (St.join (St.fact' ⟨f1, f2⟩ (St.close (As := [_, _, _, _, _, _, _]) S)))
theorem St.unav1 {D : Nat → Prop} {A : Asr} (S : St (av D A :: L) h) : St (A :: L) h := by
  obtain ⟨E, I, T, e, ⟨a, o1, o2, o3⟩, hk, hp, ha⟩ := S.cons_elim
  exact St.cons_intro e ⟨a.1, o1, o2, o3⟩ hk hp ha
theorem lendC {c : Addr} {s : Cnn} (S : St (ConO c s :: R) h) : ∃ bv : SV, bv.2.1 = s.b.length ∧ bv.2.1 ≤ bv.2.2 ∧ St (ConA c { s with bv := bv } :: Lent U8 bv (u8s s.b) :: R.map (av (odm bv))) h := by
  obtain ⟨bv, ev, xs, ma, me, rows, ⟨f1, f2⟩, S1⟩ := ConO.op S
  have S2 : St (Ou U8 bv (u8s s.b) :: Bx c (ccells s bv ev ma me) :: Ow 17 ev (xs.flatMap evc2) :: EvsI xs :: Mq kI vA ma (rowA rows) :: AsI rows :: Mq kI vI me s.ending :: R) h := S1.p1
  have S3 : St (stars [Bx c (ccells s bv ev ma me), Ow 17 ev (xs.flatMap evc2), EvsI xs, Mq kI vA ma (rowA rows), AsI rows, Mq kI vI me s.ending] :: Ou U8 bv (u8s s.b) :: R) h := St.close (As := [_, _, _, _, _, _]) (show St (Bx c (ccells s bv ev ma me) :: Ow 17 ev (xs.flatMap evc2) :: EvsI xs :: Mq kI vA ma (rowA rows) :: AsI rows :: Mq kI vI me s.ending :: Ou U8 bv (u8s s.b) :: R) h from S2.to)
  have S4 := S3.p1
  have ho := S4.ouOwn
  refine ⟨bv, by have := ho.1; simp [u8s] at this; omega, ho.2.1, ?_⟩
  have S5 : St (Lent U8 bv (u8s s.b) :: av (odm bv) (stars [Bx c (ccells s bv ev ma me), Ow 17 ev (xs.flatMap evc2), EvsI xs, Mq kI vA ma (rowA rows), AsI rows, Mq kI vI me s.ending]) :: R.map (av (odm bv))) h := S4.lend
  have S6 := S5.lentIm
  have S7 := St.unav1 (S6.p2)
  have S8 : St (Bx c (ccells s bv ev ma me) :: Ow 17 ev (xs.flatMap evc2) :: EvsI xs :: Mq kI vA ma (rowA rows) :: AsI rows :: Mq kI vI me s.ending :: Im 1 bv (u8s s.b) :: Lent U8 bv (u8s s.b) :: R.map (av (odm bv))) h := St.open S7
  have S9 : St (Bx c (ccells s bv ev ma me) :: Im 1 bv (u8s s.b) :: Ow 17 ev (xs.flatMap evc2) :: EvsI xs :: Mq kI vA ma (rowA rows) :: AsI rows :: Mq kI vI me s.ending :: Lent U8 bv (u8s s.b) :: R.map (av (odm bv))) h := S8.to
  exact ConA.cl (s := { s with bv := bv }) bv ev xs ma me rows ⟨rfl, f1⟩ f2 S9
def BvOk (bv : SV) (b : Oct) (s' : Cnn) : Prop := (∃ n, n ≤ bv.2.1 ∧ s'.bv = (slA bv.1 n bv.2.2 1, bv.2.1 - n, bv.2.2 - n) ∧ s'.b = b.drop n) ∨ (s'.bv = (none, 0, 0) ∧ s'.b = [])
theorem thawC {c : Addr} {s' : Cnn} {bv : SV} {b : Oct} (ok : BvOk bv b s') (S : St (ConA c s' :: Lent U8 bv (u8s b) :: R.map (av (odm bv))) h) : St (ConO c s' :: R) h := by
  obtain ⟨bv', ev, xs, ma, me, rows, ⟨⟨f0, f1⟩, f2⟩, S1⟩ := ConA.op S
  have S2 : St (stars [Bx c (ccells s' bv' ev ma me), Ow 17 ev (xs.flatMap evc2), EvsI xs, Mq kI vA ma (rowA rows), AsI rows, Mq kI vI me s'.ending] :: Lent U8 bv (u8s b) :: R.map (av (odm bv))) h := St.close (As := [_, _, _, _, _, _]) S1.p1.tl
  have S3 := St.thaw (Tw.sep Tw.own (Tw.sep Tw.own (Tw.sep Tw.evsI (Tw.sep Tw.own (Tw.sep Tw.asI (Tw.sep Tw.own Tw.emp)))))) S2
  have fin : St (Ou U8 bv' (u8s s'.b) :: stars [Bx c (ccells s' bv' ev ma me), Ow 17 ev (xs.flatMap evc2), EvsI xs, Mq kI vA ma (rowA rows), AsI rows, Mq kI vI me s'.ending] :: R) h := by
    rcases ok with ⟨n, hn, e1, e2⟩ | ⟨e1, e2⟩
    · have S4 := St.ouDrop (n := n) S3 hn
      have eb : (u8s b).drop n = u8s (b.drop n) := by simp [u8s, List.map_drop]
      rw [eb, ← e2, ← e1, ← f0] at S4
      exact S4
    · rw [f0, e1, e2]
      have S4 := St.ouNil (U := U8) S3.tl
      rw [f0, e1] at S4
      exact S4
  have S5 : St (Bx c (ccells s' bv' ev ma me) :: Ow 17 ev (xs.flatMap evc2) :: EvsI xs :: Mq kI vA ma (rowA rows) :: AsI rows :: Mq kI vI me s'.ending :: Ou U8 bv' (u8s s'.b) :: R) h := St.open fin.p1
  have S6 : St (Bx c (ccells s' bv' ev ma me) :: Ou U8 bv' (u8s s'.b) :: Ow 17 ev (xs.flatMap evc2) :: EvsI xs :: Mq kI vA ma (rowA rows) :: AsI rows :: Mq kI vI me s'.ending :: R) h := S5.to
  exact ConO.cl bv' ev xs ma me rows f1 f2 S6
theorem u_z : U8 (.int .u8 0) := ⟨_, rfl⟩
theorem feedS {c : Addr} {s : Cnn} {t : SV} {bs : Oct} (S0 : St L h) [H : Has (ConO c) L s R] [mi : In (fun b => Im 1 t (u8s b)) R bs] (hb : s.b.length < 1073741824) (hc : bs.length < 1073741824) (hK : ∀ h', St (ConO c (s.feed bs) :: R) h' → K (.tuple #[]) h') :
    CallsH P F.qbi [.pointer (some c), .slice t.1 t.2.1 t.2.2] K h := by
  refine qbi.ok ?_
  unfold qbi.p0
  obtain ⟨bv, ev, xs, ma, me, rows, ⟨f1, f2⟩, S1⟩ := ConO.op (S0.get (ConO c))
  simp only [someE, rdN (S1.rc c 0 rfl), rdB (S1.rc c 4 rfl)]
  have no : (s.st ≠ 6 ∧ s.deaf = false → False) → qbi.j1 K (some c) t.1 t.2.1 t.2.2 false h := by
    intro hn
    unfold qbi.j1
    have e : s.feed bs = s := by unfold Cnn.feed; rw [if_neg hn]
    rw [e] at hK
    exact ifF rfl (hK h (S0.get (ConO c)))
  by_cases h6 : s.st = 6
  · exact ifF (by rw [h6]; rfl) (no fun x => x.1 h6)
  · refine ifT (by simp; omega) ?_
    cases hd : s.deaf with
    | true => exact no fun x => by rw [hd] at x; cases x.2
    | false =>
      show qbi.j1 K (some c) t.1 t.2.1 t.2.2 true h
      unfold qbi.j1
      refine ifT rfl ⟨c, rfl, _, _, _, S1.rc c 1 rfl, ?_⟩
      have S2 : St (Ou U8 bv (u8s s.b) :: Bx c (ccells s bv ev ma me) :: Ow 17 ev (xs.flatMap evc2) :: EvsI xs :: Mq kI vA ma (rowA rows) :: AsI rows :: Mq kI vI me s.ending :: R) h := S1.p1
      have ho := S2.ouOwn.1
      have hi := (isl8 S1 (s := t) (bs := bs)).1
      have hi1 := hi.1
      simp only [u8s_length, Nat.mul_one] at ho hi1
      refine St.ouApp sl_uint8 u_sl (fun k e => by cases e) u_z S2 (Src.slice hi (u8s_one _)) (U8.u8s _) (U8.u8s _) (by omega) (by omega) fun p cc h2 S3 => ⟨_, _, _, rfl, c, rfl, ?_⟩
      refine S3.put1 c 1 (by simp) rfl fun h3 S4 => hK h3 ?_
      simp only [List.set_cons_succ, List.set_cons_zero] at S4
      have e : s.feed bs = { s with b := s.b ++ bs } := by unfold Cnn.feed; rw [if_pos ⟨h6, hd⟩]
      rw [e]
      have eu : u8s s.b ++ u8s bs = u8s (s.b ++ bs) := by simp [u8s]
      rw [eu] at S4
      exact ConO.cl (s := { s with b := s.b ++ bs }) (p, bv.2.1 + t.2.1, cc) ev xs ma me rows f1 f2 S4
end
end Go.Proofs.YtjapglfpjhljpaaGreat.Pr
end
section
set_option linter.unusedVariables false
set_option linter.unusedSimpArgs false
namespace Go.Proofs.YtjapglfpjhljpaaGreat.Pr
open Go Go.Lift Go.Proofs
def er (s : Cnn) : Cnn := { s with bv := (none, 0, 0) }
theorem ConO.er {c : Addr} {s s' : Cnn} (e : er s = er s') : ConO c s = ConO c s' := by
  have e1 : ∀ s, ConO c s = ConO c (Pr.er s) := fun _ => rfl
  rw [e1 s, e, ← e1]
theorem er_last (s : Cnn) (k ch : Nat) (b : Oct) : er (lastP s k ch b) = lastP (er s) k ch b := by
  cases s; unfold lastP er; dsimp only
  repeat' (first | rfl | split)
theorem er_begin (s : Cnn) (m : PMM) : er (beginP s m) = beginP (er s) m := by
  cases s; unfold beginP er; dsimp only
  repeat' (first | rfl | split)
theorem er_zero (s : Cnn) (k : Nat) (b : Oct) : er (zeroP s k b) = zeroP (er s) k b := by
  have e := er_begin s
  unfold zeroP
  split
  · rfl
  · split
    · rfl
    · split
      · rfl
      · split
        · rfl
        · split
          · exact e _
          · rfl
theorem er_end (s : Cnn) (k : Nat) (ch : Int) (b : Oct) : er (endP s k ch b) = endP (er s) k ch b := by
  cases s; unfold endP er; dsimp only
  repeat' (first | rfl | split)
theorem er_ask (s : Cnn) (ch : Int) (a : CA) (k : Nat) (b : Oct) : er (askP s ch a k b) = askP (er s) ch a k b := by
  cases s; unfold askP er; dsimp only
  repeat' (first | rfl | split)
theorem er_channel (s : Cnn) (k : Nat) (ch : Int) (b : Oct) : er (channelP s k ch b) = channelP (er s) k ch b := by
  have e1 := er_end s k ch b
  have e2 := fun a => er_ask s ch a k b
  unfold channelP
  show er (if 0 < (get? s.ending ch).getD 0 then _ else _) = if 0 < (get? s.ending ch).getD 0 then _ else match get? s.asms ch with | some a => _ | none => _
  split
  · exact e1
  · cases hg : get? s.asms ch with
    | some a => exact e2 a
    | none =>
      show er (if k = 1 ∧ resE (methP b) = 0 ∧ (resM (methP b)).1 = 20 ∧ (resM (methP b)).2.1 = 10 then _ else _) = if k = 1 ∧ resE (methP b) = 0 ∧ (resM (methP b)).1 = 20 ∧ (resM (methP b)).2.1 = 10 then _ else _
      split <;> rfl
theorem er_take (s : Cnn) (k ch : Nat) (b : Oct) : er (takeF s k ch b) = takeF (er s) k ch b := by
  have e1 := er_last s k ch b
  have e2 := er_zero s k b
  have e3 := er_channel s k ch b
  unfold takeF
  show er (if s.st = 5 then _ else if ch = 0 then _ else if s.st ≠ 4 ∨ 16 < ch then _ else _) = if s.st = 5 then _ else if ch = 0 then _ else if s.st ≠ 4 ∨ 16 < ch then _ else _
  split
  · exact e1
  · split
    · exact e2
    · split
      · rfl
      · exact e3
def KB (s s' : Cnn) : Prop := (s'.bv = s.bv ∧ s'.b = s.b) ∨ (s'.bv = (none, 0, 0) ∧ s'.b = [])
theorem KB.last (s : Cnn) (k ch : Nat) (b : Oct) : KB s (lastP s k ch b) := by
  unfold lastP
  repeat' (first | exact .inl ⟨rfl, rfl⟩ | exact .inr ⟨rfl, rfl⟩ | split)
theorem KB.begin (s : Cnn) (m : PMM) : KB s (beginP s m) := by
  unfold beginP
  repeat' (first | exact .inl ⟨rfl, rfl⟩ | exact .inr ⟨rfl, rfl⟩ | split)
theorem KB.zero (s : Cnn) (k : Nat) (b : Oct) : KB s (zeroP s k b) := by
  unfold zeroP
  repeat' (first | exact .inl ⟨rfl, rfl⟩ | exact .inr ⟨rfl, rfl⟩ | exact KB.begin _ _ | split)
theorem KB.end (s : Cnn) (k : Nat) (ch : Int) (b : Oct) : KB s (endP s k ch b) := by
  unfold endP
  repeat' (first | exact .inl ⟨rfl, rfl⟩ | exact .inr ⟨rfl, rfl⟩ | split)
theorem KB.ask (s : Cnn) (ch : Int) (a : CA) (k : Nat) (b : Oct) : KB s (askP s ch a k b) := by
  unfold askP
  dsimp only
  generalize frameR k b a = r
  split
  · cases hardP r.2.1 <;> exact .inl ⟨rfl, rfl⟩
  · repeat' (first | exact .inl ⟨rfl, rfl⟩ | exact .inr ⟨rfl, rfl⟩ | split)
theorem KB.channel (s : Cnn) (k : Nat) (ch : Int) (b : Oct) : KB s (channelP s k ch b) := by
  unfold channelP
  repeat' (first | exact .inl ⟨rfl, rfl⟩ | exact .inr ⟨rfl, rfl⟩ | exact KB.end _ _ _ _ | exact KB.ask _ _ _ _ _ | split)
theorem KB.take (s : Cnn) (k ch : Nat) (b : Oct) : KB s (takeF s k ch b) := by
  unfold takeF
  repeat' (first | exact .inl ⟨rfl, rfl⟩ | exact .inr ⟨rfl, rfl⟩ | exact KB.last _ _ _ _ | exact KB.zero _ _ _ | exact KB.channel _ _ _ _ | split)
theorem upd_mem {ν : Type} : ∀ {l : List (Int × ν)} {k : Int} {v : ν} {x : Int × ν}, x ∈ upd l k v → x ∈ l ∨ x.2 = v
  | [], k, v, x, h => by unfold upd at h; simp at h; exact .inr (by rw [h])
  | y :: r, k, v, x, h => by
    unfold upd at h
    split at h
    · rcases List.mem_cons.1 h with rfl | h
      · exact .inr rfl
      · exact .inl (List.mem_cons_of_mem _ h)
    · rcases List.mem_cons.1 h with rfl | h
      · exact .inl (List.mem_cons_self ..)
      · exact (upd_mem h).imp (List.mem_cons_of_mem _) id
theorem del_mem {ν : Type} : ∀ {l : List (Int × ν)} {k : Int} {x : Int × ν}, x ∈ Lift.del l k → x ∈ l
  | [], k, x, h => by unfold Lift.del at h; exact h
  | y :: r, k, x, h => by
    unfold Lift.del at h
    split at h
    · exact List.mem_cons_of_mem _ h
    · rcases List.mem_cons.1 h with rfl | h
      · exact List.mem_cons_self ..
      · exact List.mem_cons_of_mem _ (del_mem h)
theorem get?_mem' {l : List (Int × CA)} {k : Int} {a : CA} (h : get? l k = some a) : (k, a) ∈ l := get?_mem h
def AsO (s : Cnn) : Prop := ∀ x ∈ s.asms, AOk x.2
theorem AsO.begin {s : Cnn} (o : AsO s) (m : PMM) : AsO (beginP s m) := by
  unfold beginP
  repeat' (first | exact o | split)
theorem AsO.last {s : Cnn} (o : AsO s) (k ch : Nat) (b : Oct) : AsO (lastP s k ch b) := by
  unfold lastP
  repeat' (first | exact o | split)
theorem AsO.zero {s : Cnn} (o : AsO s) (k : Nat) (b : Oct) : AsO (zeroP s k b) := by
  unfold zeroP
  repeat' (first | exact o | exact AsO.begin o _ | split)
theorem AsO.end {s : Cnn} (o : AsO s) (k : Nat) (ch : Int) (b : Oct) : AsO (endP s k ch b) := by
  unfold endP
  repeat' (first | exact o | split)
theorem AsO.ask {s : Cnn} (o : AsO s) (ch : Int) (a : CA) (oa : AOk a) (k : Nat) (b : Oct) : AsO (askP s ch a k b) := by
  have o2 : ∀ x ∈ upd s.asms ch (frameR k b a).2.2, AOk x.2 := fun x hx => by
    rcases upd_mem hx with h | h
    · exact o x h
    · rw [h]; exact oa.step k b
  unfold askP
  dsimp only
  generalize frameR k b a = r at *
  split
  · cases hardP r.2.1 <;> exact o2
  · split
    · exact o2
    · split
      · exact o2
      · split
        · exact o2
        · split
          · exact fun x hx => o2 x (del_mem hx)
          · exact o2
theorem AsO.channel {s : Cnn} (o : AsO s) (k : Nat) (ch : Int) (b : Oct) : AsO (channelP s k ch b) := by
  unfold channelP
  split
  · exact AsO.end o _ _ _
  · split
    · rename_i a ha
      exact AsO.ask o ch a (o (ch, a) (get?_mem' ha)) k b
    · split
      · exact fun x hx => by
          rcases upd_mem hx with h | h
          · exact o x h
          · rw [h]; exact AOk.zero
      · exact o
theorem AsO.take {s : Cnn} (o : AsO s) (k ch : Nat) (b : Oct) : AsO (takeF s k ch b) := by
  unfold takeF
  repeat' (first | exact o | exact AsO.last o _ _ _ | exact AsO.zero o _ _ | exact AsO.channel o _ _ _ | split)
theorem AsO.greet {s : Cnn} (o : AsO s) : AsO (greetP s).2 := by
  unfold greetP
  repeat' (first | exact o | split)
theorem AsO.step {s : Cnn} (o : AsO s) : AsO (stepP s).2 := by
  unfold stepP
  split
  · exact o
  · split
    · exact AsO.greet o
    · split
      · exact o
      · split <;> exact o
      · rename_i k ch b n _
        exact AsO.take (s := { s with b := s.b.drop n }) o k ch b
theorem framP_n {bs : Oct} {k ch n : Nat} {b : Oct} (h : framP bs = .ok k ch b n) : n ≤ bs.length := by
  unfold framP at h
  split at h
  · cases h
  · repeat' (first | (cases h; done) | split at h)
    cases h
    rename_i hl _
    omega
theorem framP_b {bs : Oct} {k ch n : Nat} {b : Oct} (h : framP bs = .ok k ch b n) : b.length ≤ 4088 := by
  unfold framP at h
  split at h
  · cases h
  · repeat' (first | (cases h; done) | split at h)
    cases h
    rename_i h1 _ _
    rw [List.length_take]
    omega
section
variable {K : KT} {L R : List Asr} {h : Heap}
theorem greetS {c : Addr} {s : Cnn} (S0 : St L h) [H : Has (ConA c) L s R] (he : s.ev.length < 536870912) (hb : s.b.length < 1073741824) (hK : ∀ h' s', er s' = er (greetP s).2 → BvOk s.bv s.b s' → St (ConA c s' :: R) h' → K (.bool (greetP s).1) h') :
    CallsH P F.qcn [.pointer (some c)] K h := by
  refine qcn.ok ?_
  unfold qcn.p0
  obtain ⟨bv, ev, xs, ma, me, rows, ⟨f1, f2⟩, S1⟩ := ConA.op (S0.get (ConA c))
  have lb := Sl.len (isl8 S1 (s := bv) (bs := s.b)).1
  have lc := (isl8 S1 (s := bv) (bs := s.b)).2
  simp only [someE, rdS (S1.rc c 1 rfl), bd]
  have hn : (if (8 : Int) < ((bv.2.1 : Nat) : Int) then 8 else ((bv.2.1 : Nat) : Int)) = ((min s.b.length 8 : Nat) : Int) := by
    rw [lb]; split <;> omega
  rw [hn]
  generalize hm : min s.b.length 8 = n at *
  refine ⟨⟨by omega, by omega⟩, ?_⟩
  have sl0 : Sl 1 h (slA bv.1 0 bv.2.2 1) n (u8s (s.b.take n)) := by
    have := Sl.take (isl8 S1 (s := bv) (bs := s.b)).1 (n := n) (by omega)
    rw [slA_zero]
    simpa [u8s, List.map_take] using this
  rw [Int.toNat_natCast]
  refine str_ok u_sl u_u8 u_str sl0 ⟨_, rfl, prefixS ⟨_, rfl, ?_⟩⟩
  have ln : (s.b.take n).length = n := by rw [List.length_take]; omega
  rw [ln]
  unfold greetP at hK
  rw [hm] at hK
  by_cases hp : greeting.take n = s.b.take n
  · rw [if_neg (by simpa using hp)] at hK
    refine ifF (by rw [show decide (List.take n ([65, 77, 81, 80, 0, 0, 9, 1] : List UInt8) = s.b.take n) = true from decide_eq_true hp]; rfl) ?_
    by_cases h8 : s.b.length < 8
    · rw [if_pos h8] at hK
      exact ifT (by simp; omega) (hK h s rfl (.inl ⟨0, Nat.zero_le _, by rw [slA_zero]; rfl, rfl⟩) (S0.get (ConA c)))
    · rw [if_neg h8] at hK
      have n8 : n = 8 := by omega
      refine ifF (by simp; omega) ⟨_, _, _, S1.rc c 1 rfl, ⟨by omega, by omega⟩, ?_⟩
      have S2 := St.idrop (show St (Im 1 bv (u8s s.b) :: Bx c (ccells s bv ev ma me) :: Ow 17 ev (xs.flatMap evc2) :: EvsI xs :: Mq kI vA ma (rowA rows) :: AsI rows :: Mq kI vI me s.ending :: R) h from S1.p1) bv (n := 8) (by omega)
      have eb : (u8s s.b).drop 8 = u8s (s.b.drop 8) := by simp [u8s, List.map_drop]
      rw [eb] at S2
      rw [n8]
      refine S2.put1 c 1 (by simp) rfl fun h2 S3 => S3.put1 c 0 (by simp) rfl fun h3 S4 => ?_
      simp only [List.set_cons_succ, List.set_cons_zero] at S4
      have S4' : St (Bx c (ccells { s with b := s.b.drop 8, st := 1, bv := (slA bv.1 8 bv.2.2 1, bv.2.1 - 8, bv.2.2 - 8) } (slA bv.1 8 bv.2.2 1, bv.2.1 - 8, bv.2.2 - 8) ev ma me) :: Im 1 (slA bv.1 8 bv.2.2 1, bv.2.1 - 8, bv.2.2 - 8) (u8s (s.b.drop 8)) :: Ow 17 ev (xs.flatMap evc2) :: EvsI xs :: Mq kI vA ma (rowA rows) :: AsI rows :: Mq kI vI me s.ending :: R) h3 := S4.to
      have S5 : St (ConA c { s with b := s.b.drop 8, st := 1, bv := (slA bv.1 8 bv.2.2 1, bv.2.1 - 8, bv.2.2 - 8) } :: R) h3 := ConA.cl (s := { s with b := s.b.drop 8, st := 1, bv := (slA bv.1 8 bv.2.2 1, bv.2.1 - 8, bv.2.2 - 8) }) (slA bv.1 8 bv.2.2 1, bv.2.1 - 8, bv.2.2 - 8) ev xs ma me rows ⟨rfl, f1.2⟩ f2 S4'
      have S6 := S5.lit [.int .u64 0, .int .u64 9] T.uint64 2 rfl
      generalize top h3 = p1 at *
      have S7 := S6.lit [.string (mkS [80, 76, 65, 73, 78]), .string (mkS [101, 110, 95, 85, 83])] T.string 2 rfl
      have S8 : St (Im 1 (some (top (al h3 [Value.int .u64 0, .int .u64 9].toArray T.uint64)), 2, 2) (strs [[80, 76, 65, 73, 78], [101, 110, 95, 85, 83]]) :: Im 1 (some p1, 2, 2) (nums [0, 9]) :: ConA c { s with b := s.b.drop 8, st := 1, bv := (slA bv.1 8 bv.2.2 1, bv.2.1 - 8, bv.2.2 - 8) } :: R) _ := S7
      have S9 := tbNil 0 (S8.imNil 1 0)
      refine sendS (c := c) (s := { s with b := s.b.drop 8, st := 1, bv := (slA bv.1 8 bv.2.2 1, bv.2.1 - 8, bv.2.2 - 8) }) (y := ⟨(some p1, 2, 2), (some _, 2, 2), (none, 0, 0), (none, 0, 0)⟩) (x := startM.2.2) (B := fun _ => False) S9 (smallM_of (by simp) (by simp) (by simp) (by simp) (by simp) smallP0) (by decide +kernel) (by decide) (by decide) (by simpa using by omega) fun h5 S10 => ⟨rfl, ?_⟩
      have S11 : St (ConA c (Cnn.send { s with b := s.b.drop 8, st := 1, bv := (slA bv.1 8 bv.2.2 1, bv.2.1 - 8, bv.2.2 - 8) } 0 (10, 10, startM.2.2)) :: R) h5 := S10.to
      exact hK h5 (Cnn.send { s with b := s.b.drop 8, st := 1, bv := (slA bv.1 8 bv.2.2 1, bv.2.1 - 8, bv.2.2 - 8) } 0 (10, 10, startM.2.2)) rfl (.inl ⟨8, by rw [← f1.1]; omega, by rw [← f1.1]; rfl, rfl⟩) S11
  · rw [if_pos (by simpa using hp)] at hK
    refine ifT (by rw [show decide (List.take n ([65, 77, 81, 80, 0, 0, 9, 1] : List UInt8) = s.b.take n) = false from decide_eq_false hp]; rfl) ?_
    refine bytesConst (bs := greeting) (n := 8) rfl (S0.get (ConA c)) fun h2 S2 => ⟨_, _, _, rfl, ?_⟩
    refine tellS (c := c) (s := s) (e := evOut greeting) (q := ⟨(some (top h), 8, 8), mnil, nosv⟩) (evI_out S2) (by omega) fun h3 S3 => ⟨rfl, ?_⟩
    refine goneS (c := c) (s := s.tell (evOut greeting)) S3 (by simp [Cnn.tell]; omega) fun h4 S4 => ⟨rfl, hK h4 _ rfl (.inr ⟨rfl, rfl⟩) S4⟩
theorem drop_zero_bv (bv : SV) : (slA bv.1 0 bv.2.2 1, bv.2.1 - 0, bv.2.2 - 0) = bv := by rw [slA_zero]; rfl
theorem stepAS {c : Addr} {s : Cnn} (S0 : St L h) [H : Has (ConA c) L s R] (he : s.ev.length < 536870912) (hb : s.b.length < 1073741824) (hA : AsO s)
    (hK : ∀ h' s', er s' = er (stepP s).2 → BvOk s.bv s.b s' → St (ConA c s' :: R) h' → K (.bool (stepP s).1) h') : CallsH P F.qav [.pointer (some c)] K h := by
  refine qav.ok ?_
  unfold qav.p0
  have S1 := S0.get (ConA c)
  obtain ⟨bv, ev, xs, ma, me, rows, ⟨⟨f0, f1⟩, f2⟩, S2⟩ := ConA.op S1
  have same : BvOk s.bv s.b s := .inl ⟨0, Nat.zero_le _, (drop_zero_bv _).symm, rfl⟩
  simp only [someE, rdN (S2.rc c 0 rfl), rdB (S2.rc c 4 rfl)]
  unfold stepP at hK
  have stop : s.st = 6 ∨ s.deaf = true → qav.j1 K (some c) true h := by
    intro z
    rw [if_pos z] at hK
    unfold qav.j1
    exact ifT rfl (hK h s rfl same S1)
  have go : ¬ (s.st = 6 ∨ s.deaf = true) → qav.j1 K (some c) false h := by
    intro z
    rw [if_neg z] at hK
    unfold qav.j1
    refine ifF rfl ?_
    simp only [someE, rdN (S2.rc c 0 rfl)]
    by_cases h0 : s.st = 0
    · rw [if_pos h0] at hK
      exact ifT (by rw [h0]; rfl) (greetS (c := c) (s := s) S1 he hb fun h' s' e1 e2 S' => ⟨_, rfl, hK h' s' e1 e2 S'⟩)
    rw [if_neg h0] at hK
    refine ifF (by simp; omega) ⟨_, _, _, S2.rc c 1 rfl, ?_⟩
    have lb := Sl.len (isl8 S2 (s := bv) (bs := s.b)).1
    refine framS (s := bv) (bs := s.b) S2 (by omega) fun p l cc h2 S3 => ⟨_, _, _, rfl, ?_⟩
    have S4 := S3.al (fcl 0 0 ((none, 0, 0) : SV)) T.api_Frame
    refine ⟨rfl, S4.putA (top h2) (ws := fcl (framP s.b).k (framP s.b).ch (p, l, cc)) rfl (by simp [one]) fun h3 S5 => ?_⟩
    generalize top h2 = f at *
    have S6 : St (Bx c (ccells s bv ev ma me) :: Im 1 bv (u8s s.b) :: Ow 17 ev (xs.flatMap evc2) :: EvsI xs :: Mq kI vA ma (rowA rows) :: AsI rows :: Mq kI vI me s.ending :: Bx f (fcl (framP s.b).k (framP s.b).ch (p, l, cc)) :: Im 1 (p, l, cc) (u8s (framP s.b).b) :: R) h3 := S5.to
    have S7 : St (ConA c s :: R) h3 := (ConA.cl bv ev xs ma me rows ⟨f0, f1⟩ f2 S6).d1.d1
    simp only [bd]
    cases hf : framP s.b with
    | more =>
      rw [hf] at hK
      exact ifT rfl (hK h3 s rfl same S7)
    | bad =>
      rw [hf] at hK S6
      refine ifF rfl (ifT rfl ?_)
      simp only [someE, rdN (S6.rc c 0 rfl)]
      by_cases h5 : s.st = 5
      · rw [if_pos h5] at hK
        rw [show (((s.st : Nat) : Int) == 5) = true by rw [h5]; rfl]
        unfold qav.j2
        exact ifT rfl (goneS (c := c) (s := s) S7 (by omega) fun h4 S8 => ⟨rfl, hK h4 _ rfl (.inr ⟨rfl, rfl⟩) S8⟩)
      · rw [if_neg h5] at hK
        rw [show (((s.st : Nat) : Int) == 5) = false by simp; omega]
        unfold qav.j2
        refine ifF rfl ?_
        simp only [bd, someE]
        refine ifT rfl ?_
        refine S6.put1 c 1 (by simp) rfl fun h4 S8 => S8.put1 c 4 (by simp) rfl fun h5' S9 => ?_
        simp only [List.set_cons_succ, List.set_cons_zero] at S9
        have S10 : St (Im 1 nosv (u8s []) :: Bx c (ccells { s with b := [], deaf := true, bv := (none, 0, 0) } nosv ev ma me) :: Ow 17 ev (xs.flatMap evc2) :: EvsI xs :: Mq kI vA ma (rowA rows) :: AsI rows :: Mq kI vI me s.ending :: R) h5' := (show St (Im 1 nosv (u8s []) :: _) h5' from S9.imNil 1 0).to
        have S11 : St (ConA c { s with b := [], deaf := true, bv := (none, 0, 0) } :: R) h5' := ConA.cl (s := { s with b := [], deaf := true, bv := (none, 0, 0) }) nosv ev xs ma me rows ⟨rfl, f1⟩ f2 S10.p1
        exact wrongCS (c := c) (s := { s with b := [], deaf := true, bv := (none, 0, 0) }) (y := mnil) (x := noM) S11 (by show s.ev.length < _; omega) fun h6 S12 => ⟨rfl, hK h6 (Cnn.wrong { s with b := [], deaf := true, bv := (none, 0, 0) } 501 (mm0 0 0)) rfl (.inr ⟨rfl, rfl⟩) S12⟩
    | ok k ch b n =>
      rw [hf] at hK S6
      have hn : n ≤ s.b.length := framP_n hf
      refine ifF rfl (ifF rfl ?_)
      unfold qav.j2
      refine ifF rfl ?_
      simp only [bd, someE]
      refine ifF rfl ⟨_, _, _, S6.rc c 1 rfl, ⟨by simp only [FR.n]; omega, by simp only [FR.n]; omega⟩, ?_⟩
      have S8 := St.idrop (show St (Im 1 bv (u8s s.b) :: Bx c (ccells s bv ev ma me) :: Ow 17 ev (xs.flatMap evc2) :: EvsI xs :: Mq kI vA ma (rowA rows) :: AsI rows :: Mq kI vI me s.ending :: Bx f (fcl k ch (p, l, cc)) :: Im 1 (p, l, cc) (u8s b) :: R) h3 from S6.p1) bv (n := n) (by omega)
      have eb : (u8s s.b).drop n = u8s (s.b.drop n) := by simp [u8s, List.map_drop]
      rw [eb] at S8
      have en : (((FR.ok k ch b n).n : Nat) : Int).toNat = n := Int.toNat_natCast _
      rw [en]
      refine S8.put1 c 1 (by simp) rfl fun h4 S9 => ?_
      simp only [List.set_cons_succ, List.set_cons_zero] at S9
      have S10 : St (Bx c (ccells { s with b := s.b.drop n, bv := (slA bv.1 n bv.2.2 1, bv.2.1 - n, bv.2.2 - n) } (slA bv.1 n bv.2.2 1, bv.2.1 - n, bv.2.2 - n) ev ma me) :: Im 1 (slA bv.1 n bv.2.2 1, bv.2.1 - n, bv.2.2 - n) (u8s (s.b.drop n)) :: Ow 17 ev (xs.flatMap evc2) :: EvsI xs :: Mq kI vA ma (rowA rows) :: AsI rows :: Mq kI vI me s.ending :: Bx f (fcl k ch (p, l, cc)) :: Im 1 (p, l, cc) (u8s b) :: R) h4 := S9.to
      have S11 : St (ConA c { s with b := s.b.drop n, bv := (slA bv.1 n bv.2.2 1, bv.2.1 - n, bv.2.2 - n) } :: Bx f (fcl k ch (p, l, cc)) :: Im 1 (p, l, cc) (u8s b) :: R) h4 := ConA.cl (s := { s with b := s.b.drop n, bv := (slA bv.1 n bv.2.2 1, bv.2.1 - n, bv.2.2 - n) }) (slA bv.1 n bv.2.2 1, bv.2.1 - n, bv.2.2 - n) ev xs ma me rows ⟨rfl, f1⟩ f2 S10
      refine ⟨_, S11.rall f 3 rfl, takeFS (c := c) (s := { s with b := s.b.drop n, bv := (slA bv.1 n bv.2.2 1, bv.2.1 - n, bv.2.2 - n) }) (k := k) (ch := ch) (t := (p, l, cc)) (bs := b) S11 (by have := framP_b hf; omega) he hA fun h5 S12 => ⟨rfl, ?_⟩⟩
      refine hK h5 (takeF { s with b := s.b.drop n, bv := (slA bv.1 n bv.2.2 1, bv.2.1 - n, bv.2.2 - n) } k ch b) ?_ ?_ S12.d1.d1
      · rw [er_take]; exact (er_take { s with b := s.b.drop n } k ch b).symm
      · rcases KB.take { s with b := s.b.drop n, bv := (slA bv.1 n bv.2.2 1, bv.2.1 - n, bv.2.2 - n) } k ch b with ⟨e1, e2⟩ | ⟨e1, e2⟩
        · exact .inl ⟨n, by rw [← f0]; omega, by rw [e1, ← f0], e2⟩
        · exact .inr ⟨e1, e2⟩
  by_cases h6 : s.st = 6
  · exact ifT' (by rw [h6]; rfl) (stop (.inl h6))
  · refine ifF' (by simp; omega) ?_
    cases hd : s.deaf with
    | true => exact stop (.inr hd)
    | false => exact go (by rw [hd]; simp [h6])
theorem stepS {c : Addr} {s : Cnn} (S0 : St L h) [H : Has (ConO c) L s R] (he : s.ev.length < 536870912) (hb : s.b.length < 1073741824) (hA : AsO s)
    (hK : ∀ h', St (ConO c (stepP s).2 :: R) h' → K (.bool (stepP s).1) h') : CallsH P F.qav [.pointer (some c)] K h := by
  obtain ⟨bv, hl, hc, S1⟩ := lendC (S0.get (ConO c))
  have e2 : (stepP { s with bv := bv }).1 = (stepP s).1 ∧ er (stepP { s with bv := bv }).2 = er (stepP s).2 := by
    unfold stepP
    show (if s.st = 6 ∨ s.deaf = true then _ else if s.st = 0 then greetP { s with bv := bv } else _ : Bool × Cnn).1 = _ ∧ er (if s.st = 6 ∨ s.deaf = true then (false, { s with bv := bv }) else if s.st = 0 then greetP { s with bv := bv } else _ : Bool × Cnn).2 = _
    split
    · exact ⟨rfl, rfl⟩
    · split
      · unfold greetP
        show (if greeting.take (min s.b.length 8) ≠ s.b.take (min s.b.length 8) then _ else if s.b.length < 8 then _ else _ : Bool × Cnn).1 = _ ∧ er (if greeting.take (min s.b.length 8) ≠ s.b.take (min s.b.length 8) then _ else if s.b.length < 8 then _ else _ : Bool × Cnn).2 = _
        split
        · exact ⟨rfl, rfl⟩
        · split <;> exact ⟨rfl, rfl⟩
      · show (match framP s.b with | .more => _ | .bad => if s.st = 5 then _ else _ | .ok k ch b n => _ : Bool × Cnn).1 = _ ∧ er (match framP s.b with | .more => _ | .bad => if s.st = 5 then _ else _ | .ok k ch b n => _ : Bool × Cnn).2 = _
        cases framP s.b with
        | more => exact ⟨rfl, rfl⟩
        | bad => dsimp only; split <;> exact ⟨rfl, rfl⟩
        | ok k ch b n => exact ⟨rfl, (er_take { s with b := s.b.drop n, bv := bv } k ch b).trans (er_take { s with b := s.b.drop n } k ch b).symm⟩
  refine stepAS (c := c) (s := { s with bv := bv }) S1 he hb hA fun h' s' e1 ok S2 => ?_
  have S3 := thawC ok S2
  rw [ConO.er (e1.trans e2.2)] at S3
  rw [e2.1]
  exact hK h' S3
end
end Go.Proofs.YtjapglfpjhljpaaGreat.Pr
end
section
set_option linter.unusedVariables false
set_option linter.unusedSimpArgs false
namespace Go.Proofs.YtjapglfpjhljpaaGreat.Pr
open Go Go.Lift Go.Proofs
def EvB (s s' : Cnn) : Prop := s'.ev.length ≤ s.ev.length + 2
theorem EvB.last (s : Cnn) (k ch : Nat) (b : Oct) : EvB s (lastP s k ch b) := by
  unfold lastP EvB
  repeat' (first | (simp [Cnn.send, Cnn.gone, Cnn.tell]; done) | split)
theorem EvB.begin (s : Cnn) (m : PMM) : EvB s (beginP s m) := by
  unfold beginP EvB
  repeat' (first | (simp [Cnn.send, Cnn.gone, Cnn.tell, Cnn.wrong, Cnn.closing]; done) | split)
theorem EvB.zero (s : Cnn) (k : Nat) (b : Oct) : EvB s (zeroP s k b) := by
  unfold zeroP
  repeat' (first | exact EvB.begin _ _ | (simp [EvB, Cnn.send, Cnn.gone, Cnn.tell, Cnn.wrong, Cnn.closing]; done) | split)
theorem EvB.end (s : Cnn) (k : Nat) (ch : Int) (b : Oct) : EvB s (endP s k ch b) := by
  unfold endP
  repeat' (first | (simp [EvB, Cnn.send, Cnn.gone, Cnn.tell, Cnn.wrong, Cnn.closing]; done) | split)
theorem EvB.ask (s : Cnn) (ch : Int) (a : CA) (k : Nat) (b : Oct) : EvB s (askP s ch a k b) := by
  unfold askP
  dsimp only
  generalize frameR k b a = r
  split
  · cases hardP r.2.1 <;> simp [EvB, Cnn.tell, Cnn.closing]
  · repeat' (first | (simp [EvB, Cnn.send, Cnn.gone, Cnn.tell, Cnn.wrong, Cnn.closing]; done) | split)
theorem EvB.channel (s : Cnn) (k : Nat) (ch : Int) (b : Oct) : EvB s (channelP s k ch b) := by
  unfold channelP
  repeat' (first | exact EvB.end _ _ _ _ | exact EvB.ask _ _ _ _ _ | (simp [EvB, Cnn.send, Cnn.gone, Cnn.tell, Cnn.wrong, Cnn.closing]; done) | split)
theorem EvB.take (s : Cnn) (k ch : Nat) (b : Oct) : EvB s (takeF s k ch b) := by
  unfold takeF
  repeat' (first | exact EvB.last _ _ _ _ | exact EvB.zero _ _ _ | exact EvB.channel _ _ _ _ | (simp [EvB, Cnn.send, Cnn.gone, Cnn.tell, Cnn.wrong, Cnn.closing]; done) | split)
theorem EvB.greet (s : Cnn) : EvB s (greetP s).2 := by
  unfold greetP
  repeat' (first | (simp [EvB, Cnn.send, Cnn.gone, Cnn.tell, Cnn.wrong, Cnn.closing]; done) | split)
theorem EvB.step (s : Cnn) : EvB s (stepP s).2 := by
  unfold stepP
  split
  · simp [EvB]
  · split
    · exact EvB.greet s
    · split
      · simp [EvB]
      · split <;> simp [EvB, Cnn.send, Cnn.gone, Cnn.tell, Cnn.wrong, Cnn.closing]
      · exact EvB.take { s with b := _ } _ _ _
theorem framP_n8 {bs : Oct} {k ch n : Nat} {b : Oct} (h : framP bs = .ok k ch b n) : 8 ≤ n := by
  unfold framP at h
  split at h
  · cases h
  · repeat' (first | (cases h; done) | split at h)
    cases h
    omega
theorem step_prog (s : Cnn) (h : (stepP s).1 = true) : (stepP s).2.ev ≠ [] ∨ (stepP s).2.b.length < s.b.length := by
  unfold stepP at h ⊢
  by_cases h1 : s.st = 6 ∨ s.deaf = true
  · rw [if_pos h1] at h; cases h
  · rw [if_neg h1] at h ⊢
    by_cases h2 : s.st = 0
    · rw [if_pos h2] at h ⊢
      unfold greetP at h ⊢
      split
      · exact .inl (by simp [Cnn.send, Cnn.gone, Cnn.tell])
      · split
        · rename_i a b; rw [if_neg a, if_pos b] at h; cases h
        · exact .inl (by simp [Cnn.send, Cnn.gone, Cnn.tell])
    · rw [if_neg h2] at h ⊢
      cases hf : framP s.b with
      | more => rw [hf] at h; cases h
      | bad =>
        dsimp only
        split <;> exact .inl (by simp [Cnn.send, Cnn.gone, Cnn.tell, Cnn.wrong])
      | ok k ch b n =>
        have h8 := framP_n8 hf
        have hn := framP_n hf
        refine .inr ?_
        rcases KB.take { s with b := s.b.drop n } k ch b with ⟨_, e⟩ | ⟨_, e⟩
        · show (takeF { s with b := s.b.drop n } k ch b).b.length < _; rw [e]; simp; omega
        · show (takeF { s with b := s.b.drop n } k ch b).b.length < _; rw [e]; simp; omega
theorem step_b (s : Cnn) : (stepP s).2.b.length ≤ s.b.length := by
  unfold stepP
  split
  · exact Nat.le_refl _
  · split
    · unfold greetP
      repeat' (first | (simp [Cnn.send, Cnn.gone, Cnn.tell]; done) | split)
    · cases hf : framP s.b with
      | more => exact Nat.le_refl _
      | bad => dsimp only; split <;> simp [Cnn.send, Cnn.gone, Cnn.tell, Cnn.wrong, Cnn.closing]
      | ok k ch b n =>
        rcases KB.take { s with b := s.b.drop n } k ch b with ⟨_, e⟩ | ⟨_, e⟩
        · show (takeF { s with b := s.b.drop n } k ch b).b.length ≤ _; rw [e]; simp
        · show (takeF { s with b := s.b.drop n } k ch b).b.length ≤ _; rw [e]; simp
def need (s : Cnn) : Nat := if s.ev = [] then s.b.length + 2 else 1
theorem need_step {s : Cnn} (h : (stepP s).1 = true) (he : s.ev = []) : need (stepP s).2 + 1 ≤ need s := by
  unfold need
  rw [if_pos he]
  rcases step_prog s h with h1 | h1
  · rw [if_neg h1]; omega
  · split <;> omega
def nxt (s : Cnn) : Option EV × Cnn := nextP (need s) s
theorem nextP_more : ∀ {f g : Nat} {s : Cnn}, need s ≤ f → need s ≤ g → nextP f s = nextP g s
  | 0, g, s, h, _ => by unfold need at h; split at h <;> omega
  | f + 1, 0, s, _, h => by unfold need at h; split at h <;> omega
  | f + 1, g + 1, s, h1, h2 => by
    unfold nextP
    cases he : s.ev with
    | cons e r => rfl
    | nil =>
      dsimp only
      by_cases hs : (stepP s).1 = true
      · rw [if_pos hs, if_pos hs]
        have := need_step hs he
        exact nextP_more (by omega) (by omega)
      · rw [if_neg hs, if_neg hs]
theorem nxt_ev {s : Cnn} {e : EV} {r : List EV} (he : s.ev = e :: r) : nxt s = (some e, { s with ev := r }) := by
  unfold nxt need
  rw [if_neg (by rw [he]; simp)]
  unfold nextP
  rw [he]
theorem nxt_step {s : Cnn} (he : s.ev = []) (hs : (stepP s).1 = true) : nxt s = nxt (stepP s).2 := by
  have := need_step hs he
  unfold nxt
  obtain ⟨k, hk⟩ : ∃ k, need s = k + 1 := ⟨need s - 1, by omega⟩
  rw [hk]
  conv => lhs; unfold nextP
  rw [he]
  dsimp only
  rw [if_pos hs]
  exact nextP_more (by omega) (Nat.le_refl _)
theorem nxt_stop {s : Cnn} (he : s.ev = []) (hs : (stepP s).1 = false) : nxt s = (none, (stepP s).2) := by
  unfold nxt need
  rw [if_pos he]
  unfold nextP
  rw [he]
  dsimp only
  rw [if_neg (by rw [hs]; simp)]
section
variable {K : KT} {L R : List Asr} {h : Heap}
def NextK (K : KT) (c : Addr) (R : List Asr) (r : Option EV × Cnn) : Prop := ∀ h', match r.1 with
  | some e => ∀ q, St (ConO c r.2 :: EvI e q :: R) h' → K (.tuple #[.agg (List.toArray (evc e q)), .bool true]) h'
  | none => St (ConO c r.2 :: R) h' → K (.tuple #[.agg (List.toArray zev), .bool false]) h'
theorem nextL {c t : Addr} : ∀ (fuel : Nat) {s : Cnn} {h : Heap} {zs : List Value}, zs.length = 17 → need s ≤ fuel → St (ConO c s :: Bx t zs :: R) h → s.ev.length < 536870912 → s.b.length < 1073741824 → AsO s → NextK K c R (nxt s) → qba.L2 K fuel (some c) t h
  | 0, s, h, zs, hz, hn, _, _, _, _, _ => by unfold need at hn; split at hn <;> omega
  | fuel + 1, s, h, zs, hz, hn, S, he, hb, hA, hK => by
    unfold qba.L2
    obtain ⟨bv, ev, xs, ma, me, rows, ⟨f1, f2⟩, S1⟩ := ConO.op S
    refine ⟨c, rfl, _, _, _, S1.rc c 2 rfl, ?_⟩
    have lx : xs.length = s.ev.length := by rw [← f1]; simp
    have le : ev.2.1 = xs.length := by
      have := (S1.osl 17 ev).1
      rw [flat_length evc2_len xs] at this
      omega
    cases xs with
    | nil =>
      have e0 : s.ev = [] := by rw [← f1]; rfl
      refine ifT (by rw [le]; rfl) (stepS (c := c) (s := s) S he hb hA fun h2 S2 => ⟨_, rfl, ?_⟩)
      cases hs : (stepP s).1 with
      | false =>
        rw [nxt_stop e0 hs] at hK
        refine ifT rfl ⟨rfl, S2.putA t (ws := zev) (by rw [hz]; rfl) (by simp [one]) fun h3 S3 => ⟨_, S3.rall t 17 rfl, hK h3 S3.tl⟩⟩
      | true =>
        rw [nxt_step e0 hs] at hK
        have h1 := need_step hs e0
        have h2' := EvB.step s
        have h3 := step_b s
        unfold EvB at h2'
        exact ifF rfl (nextL fuel hz (by omega) S2 (by rw [e0] at h2'; simp at h2'; omega) (by omega) (AsO.step hA) hK)
    | cons x r =>
      have e1 : s.ev = x.1 :: r.map Prod.fst := by rw [← f1]; rfl
      rw [nxt_ev e1] at hK
      have le' : ev.2.1 = r.length + 1 := le
      refine ifF (by simp; omega) ?_
      unfold qba.j1
      refine ⟨c, rfl, _, _, _, S1.rc c 2 rfl, ?_⟩
      refine ixS evc2_len (by decide) (S1.osl 17 ev) (n := 0) rfl rfl ?_
      simp only [bd]
      have S2 := S1.al zev T.api_Event
      refine ⟨rfl, S2.putA (top h) (ws := evc2 x) rfl (evc2_one x) fun h2 S3 => ⟨c, rfl, _, _, _, S3.rc c 2 rfl, ⟨by omega, by omega⟩, c, rfl, ?_⟩⟩
      generalize top h = b at *
      have S4 : St (Ow 17 ev ((x :: r).flatMap evc2) :: Bx b (evc2 x) :: Bx c (ccells s bv ev ma me) :: Ou U8 bv (u8s s.b) :: EvsI (x :: r) :: Mq kI vA ma (rowA rows) :: AsI rows :: Mq kI vI me s.ending :: Bx t zs :: R) h2 := S3.to
      have S5 := S4.owDrop (n := 1) (by rw [le]; simp)
      have ed : ((x :: r).flatMap evc2).drop (1 * 17) = r.flatMap evc2 := flat_drop evc2_len (x :: r) 1
      rw [ed] at S5
      refine S5.put1 c 2 (by simp) rfl fun h3 S6 => ?_
      simp only [List.set_cons_succ, List.set_cons_zero, show Int.toNat 1 = 1 from rfl] at S6
      refine ⟨_, S6.rall b 17 rfl, rfl, S6.putA t (ws := evc2 x) (by rw [hz]; rfl) (evc2_one x) fun h4 S7 => ⟨_, S7.rall t 17 rfl, hK h4 x.2 ?_⟩⟩
      have S8 : St (EvsI (x :: r) :: Bx c (ccells s bv (slA ev.1 1 ev.2.2 17, ev.2.1 - 1, ev.2.2 - 1) ma me) :: Ou U8 bv (u8s s.b) :: Ow 17 (slA ev.1 1 ev.2.2 17, ev.2.1 - 1, ev.2.2 - 1) (r.flatMap evc2) :: Mq kI vA ma (rowA rows) :: AsI rows :: Mq kI vI me s.ending :: R) h4 := S7.to
      have S9 : St (EvI x.1 x.2 :: EvsI r :: Bx c (ccells s bv (slA ev.1 1 ev.2.2 17, ev.2.1 - 1, ev.2.2 - 1) ma me) :: Ou U8 bv (u8s s.b) :: Ow 17 (slA ev.1 1 ev.2.2 17, ev.2.1 - 1, ev.2.2 - 1) (r.flatMap evc2) :: Mq kI vA ma (rowA rows) :: AsI rows :: Mq kI vI me s.ending :: R) h4 := St.split (A := EvI x.1 x.2) (B := EvsI r) S8
      have S10 : St (Bx c (ccells s bv (slA ev.1 1 ev.2.2 17, ev.2.1 - 1, ev.2.2 - 1) ma me) :: Ou U8 bv (u8s s.b) :: Ow 17 (slA ev.1 1 ev.2.2 17, ev.2.1 - 1, ev.2.2 - 1) (r.flatMap evc2) :: EvsI r :: Mq kI vA ma (rowA rows) :: AsI rows :: Mq kI vI me s.ending :: EvI x.1 x.2 :: R) h4 := S9.to
      exact ConO.cl (s := { s with ev := r.map Prod.fst }) bv _ r ma me rows rfl f2 S10
theorem nextS {c : Addr} {s : Cnn} (S0 : St L h) [H : Has (ConO c) L s R] (he : s.ev.length < 536870912) (hb : s.b.length < 1073741824) (hA : AsO s) (hK : NextK K c R (nxt s)) : CallsH P F.qba [.pointer (some c)] K h := by
  refine qba.ok ?_
  unfold qba.p0
  have S1 := (S0.get (ConO c)).al zev T.api_Event
  simp only [bd]
  exact ⟨need s, nextL (need s) (zs := zev) rfl (Nat.le_refl _) S1.p1 he hb hA hK⟩
end
end Go.Proofs.YtjapglfpjhljpaaGreat.Pr
end
