/- What a slice of fields holds: a row of plain fields, each with a row of its own; by depth. -/
import Derived.Test.YtpfnfmlibpoleaaMethForm
import Derived.Test.YtpfnfmlibpoleaaOctsS
set_option linter.unusedVariables false
namespace Go.Proofs.Ytpfnfmlibpoleaa.Pr
open Go Go.Lift Go.Proofs

inductive PF where
  | mk (name : Oct) (kind : UInt8) (n : Int) (s : Oct) (t : List PF)

def PF.name : PF → Oct | .mk a _ _ _ _ => a
def PF.kind : PF → UInt8 | .mk _ a _ _ _ => a
def PF.n : PF → Int | .mk _ _ a _ _ => a
def PF.s : PF → Oct | .mk _ _ _ a _ => a
def PF.t : PF → List PF | .mk _ _ _ _ a => a

def fcells (x : PF × SV) : List Value := [.string (mkS x.1.name), .int .u8 (x.1.kind.toNat : Int), .int .i64 x.1.n, .string (mkS x.1.s), x.2.v]
theorem fcells_len (x : PF × SV) : (fcells x).length = 5 := rfl

/-- The slice at p of l fields stands for fs; all that is read lies in blocks of B. -/
def TRep : Nat → (Nat → Prop) → Heap → OA → Nat → List PF → Prop
  | 0, _, _, _, _, _ => False
  | d + 1, B, h, p, l, fs => fs.length = l ∧ match p with
    | none => fs = []
    | some a => (fs ≠ [] → B a.block) ∧ ∃ ts : List SV, ts.length = fs.length ∧ At h a ((fs.zip ts).flatMap fcells) ∧ ∀ (i : Nat) (f : PF) (t : SV), fs[i]? = some f → ts[i]? = some t → t.2.1 ≤ t.2.2 ∧ TRep d B h t.1 t.2.1 f.t

theorem TRep.loc {h h' : Heap} : ∀ {d : Nat} {B : Nat → Prop} {p : OA} {l : Nat} {fs : List PF}, (∀ i, B i → h'[i]? = h[i]?) → TRep d B h p l fs → TRep d B h' p l fs
  | 0, _, _, _, _, _, t => False.elim t
  | d + 1, B, p, l, fs, hB, t => by
    obtain ⟨h1, h2⟩ := t
    refine ⟨h1, ?_⟩
    cases p with
    | none => exact h2
    | some a =>
      obtain ⟨h3, ts, h4, h5, h6⟩ := h2
      refine ⟨h3, ts, h4, h5.loc fun hne => hB _ (h3 ?_), fun i f t e1 e2 => ⟨(h6 i f t e1 e2).1, TRep.loc hB (h6 i f t e1 e2).2⟩⟩
      intro e; subst e; simp at hne

theorem TRep.mono {B B' : Nat → Prop} {h : Heap} (hB : ∀ i, B i → B' i) : ∀ {d : Nat} {p : OA} {l : Nat} {fs : List PF}, TRep d B h p l fs → TRep d B' h p l fs
  | 0, _, _, _, t => False.elim t
  | d + 1, p, l, fs, t => by
    obtain ⟨h1, h2⟩ := t
    refine ⟨h1, ?_⟩
    cases p with
    | none => exact h2
    | some a =>
      obtain ⟨h3, ts, h4, h5, h6⟩ := h2
      exact ⟨fun e => hB _ (h3 e), ts, h4, h5, fun i f t e1 e2 => ⟨(h6 i f t e1 e2).1, TRep.mono hB (h6 i f t e1 e2).2⟩⟩

theorem TRep.deeper {B : Nat → Prop} {h : Heap} : ∀ {d : Nat} {p : OA} {l : Nat} {fs : List PF}, TRep d B h p l fs → TRep (d + 1) B h p l fs
  | 0, _, _, _, t => False.elim t
  | d + 1, p, l, fs, t => by
    obtain ⟨h1, h2⟩ := t
    refine ⟨h1, ?_⟩
    cases p with
    | none => exact h2
    | some a =>
      obtain ⟨h3, ts, h4, h5, h6⟩ := h2
      exact ⟨h3, ts, h4, h5, fun i f t e1 e2 => ⟨(h6 i f t e1 e2).1, TRep.deeper (h6 i f t e1 e2).2⟩⟩

theorem TRep.len {B : Nat → Prop} {h : Heap} {d : Nat} {p : OA} {l : Nat} {fs : List PF} (t : TRep d B h p l fs) : l = fs.length := by
  cases d with
  | zero => exact False.elim t
  | succ d => exact t.1.symm

/-- The cells of a row of fields. -/
theorem TRep.sl {B : Nat → Prop} {h : Heap} {d : Nat} {p : OA} {l : Nat} {fs : List PF} (t : TRep (d + 1) B h p l fs) : ∃ ts : List SV, ts.length = fs.length ∧ Sl 5 h p l ((fs.zip ts).flatMap fcells) ∧ ∀ (i : Nat) (f : PF) (t : SV), fs[i]? = some f → ts[i]? = some t → t.2.1 ≤ t.2.2 ∧ TRep d B h t.1 t.2.1 f.t := by
  obtain ⟨h1, h2⟩ := t
  cases p with
  | none =>
    have e : fs = [] := h2
    subst e
    simp only [List.length_nil] at h1
    subst h1
    exact ⟨[], rfl, ⟨rfl, rfl⟩, fun i f t e => by simp at e⟩
  | some a =>
    obtain ⟨h3, ts, h4, h5, h6⟩ := h2
    exact ⟨ts, h4, ⟨by rw [flat_length fcells_len]; simp [h4]; omega, h5⟩, h6⟩

theorem TRep.deep {B : Nat → Prop} {h : Heap} {p : OA} {l : Nat} {fs : List PF} {d : Nat} (t : TRep d B h p l fs) : ∀ k, TRep (d + k) B h p l fs
  | 0 => t
  | k + 1 => (t.deep k).deeper

/-- A shared table: what it reads lies in the blocks B. -/
def Tb (B : Nat → Prop) (s : SV) (fs : List PF) : Asr := sh B (fun h => s.2.1 ≤ s.2.2 ∧ ∃ d, TRep d B h s.1 s.2.1 fs)

theorem Tb.lc (B : Nat → Prop) (s : SV) (fs : List PF) : Lc B (fun h => s.2.1 ≤ s.2.2 ∧ ∃ d, TRep d B h s.1 s.2.1 fs) := fun h1 h2 e ⟨x, d, t⟩ => ⟨x, d, t.loc e⟩

section
variable {L : List Asr} {h : Heap}
theorem tbNil (c : Nat) (S : St L h) : St (Tb (fun _ => False) (none, 0, c) [] :: L) h := S.sh_sub0 (fun b x => x) fun h => ⟨Nat.zero_le _, 1, rfl, rfl⟩
theorem tbDup (S : St L h) {B : Nat → Prop} {s : SV} {fs : List PF} [m : In (Tb B s) L fs] : St (Tb B s fs :: L) h := S.dup m.mem (Tb.lc B s fs)
/-- The cells of a table, and the tables of its fields. -/
theorem tbAt (S : St L h) {B : Nat → Prop} {s : SV} {fs : List PF} [m : In (Tb B s) L fs] : ∃ ts : List SV, ts.length = fs.length ∧ Sl 5 h s.1 s.2.1 ((fs.zip ts).flatMap fcells) ∧ s.2.1 = fs.length ∧ s.2.1 ≤ s.2.2 ∧
    ∀ (i : Nat) (f : PF) (t : SV), fs[i]? = some f → ts[i]? = some t → St (Tb B t f.t :: L) h := by
  obtain ⟨⟨h1, d, t⟩, h2⟩ := S.sh m.mem
  have t' := t.deeper
  obtain ⟨ts, a1, a2, a3⟩ := t'.sl
  exact ⟨ts, a1, a2, t.len, h1, fun i f t e1 e2 => S.sh_sub m.mem (fun b hb => hb) (Tb.lc B t f.t) ⟨(a3 i f t e1 e2).1, d, (a3 i f t e1 e2).2⟩⟩
theorem tbLen (S : St L h) {B : Nat → Prop} {s : SV} {fs : List PF} [m : In (Tb B s) L fs] : s.2.1 = fs.length := by
  obtain ⟨⟨h1, d, t⟩, h2⟩ := S.sh m.mem
  exact t.len

/-- The tables of a row of fields. -/
def Tbs (B : Nat → Prop) (ts : List SV) (fs : List PF) : Asr := sh B (fun h => ts.length = fs.length ∧ ∃ d, ∀ (i : Nat) (f : PF) (t : SV), fs[i]? = some f → ts[i]? = some t → t.2.1 ≤ t.2.2 ∧ TRep d B h t.1 t.2.1 f.t)
theorem Tbs.lc (B : Nat → Prop) (ts : List SV) (fs : List PF) : Lc B (fun h => ts.length = fs.length ∧ ∃ d, ∀ (i : Nat) (f : PF) (t : SV), fs[i]? = some f → ts[i]? = some t → t.2.1 ≤ t.2.2 ∧ TRep d B h t.1 t.2.1 f.t) :=
  fun h1 h2 e ⟨x, d, t⟩ => ⟨x, d, fun i f t' e1 e2 => ⟨(t i f t' e1 e2).1, (t i f t' e1 e2).2.loc e⟩⟩
/-- A growing row of fields. -/
def OwT (s : SV) (fs : List PF) : Asr := ex fun x : List SV × (Nat → Prop) => sep (Ow 5 s ((fs.zip x.1).flatMap fcells)) (Tbs x.2 x.1 fs)

theorem owtNil (S : St L h) : St (OwT (none, 0, 0) [] :: L) h :=
  St.ex' ([], fun _ => False) (St.join ((S.sh_sub0 (d' := fun _ => False) (fun b x => x) fun h => ⟨rfl, 0, fun i f t e => by simp at e⟩).owNil 5))

theorem owtLen {s : SV} {fs : List PF} (S : St (OwT s fs :: L) h) : s.2.1 = fs.length := by
  obtain ⟨x, S⟩ := S.ex
  have S := S.split
  have h1 := S.ow.1
  have h2 := (S.p1.sh (List.mem_cons_self ..)).1.1
  rw [flat_length fcells_len, List.length_zip, h2, Nat.min_self] at h1
  omega

/-- The whole row, shared from now on. -/
theorem owtTb {s : SV} {fs : List PF} (S : St (OwT s fs :: L) h) : ∃ B, St (Tb B s fs :: L) h := by
  have hl := owtLen S
  obtain ⟨⟨ts, B⟩, S⟩ := S.ex
  have S := S.split
  have o := S.ow
  obtain ⟨h2, d, h3⟩ := (S.p1.sh (List.mem_cons_self ..)).1
  simp only at S o h2 h3
  refine ⟨fun b => (0 < s.2.2 * 5 ∧ ∃ a, s.1 = some a ∧ a.block = b) ∨ B b, S.toSh own_dom sh_dom (fun b hb => hb) (Tb.lc _ s fs) ⟨o.2.1, d + 1, hl.symm, ?_⟩⟩
  have sl := o.sl
  cases hp : s.1 with
  | none =>
    rw [hp] at sl
    have e := sl.2
    simp only at e
    have := flat_length fcells_len (fs.zip ts)
    rw [e, List.length_zip, h2, Nat.min_self] at this
    exact List.eq_nil_of_length_eq_zero (by simp at this; omega)
  | some a =>
    rw [hp] at sl o
    refine ⟨fun hne => .inl ⟨?_, a, rfl, rfl⟩, ts, h2, sl.2, fun i f t e1 e2 => ⟨(h3 i f t e1 e2).1, (h3 i f t e1 e2).2.mono fun _ x => .inr x⟩⟩
    have := o.2.1
    have : 0 < fs.length := List.length_pos_iff.2 hne
    omega
end
end Go.Proofs.Ytpfnfmlibpoleaa.Pr
