/- The lift's words on what is owned and what is shared: rows of assertions over parts of the heap that stand apart. -/
import Derived.Test.YtechpnlbkkfplaaDoorLiftK
set_option linter.unusedVariables false
set_option linter.unusedSimpArgs false
namespace Go.Lift

/-- A part of the heap. -/
abbrev Frag := Nat → Option Obj
def Frag.le (f : Frag) (h : Heap) : Prop := ∀ b o, f b = some o → h[b]? = some o
def Dj (f g : Frag) : Prop := ∀ b, f b = none ∨ g b = none

/-- What is said of a part that is owned, and of one that is shared. -/
abbrev Asr := Frag → Frag → Prop

structure Slot where
  A : Asr
  E : Frag
  I : Frag

structure Slot.ok (h : Heap) (t : Slot) : Prop where
  hA : t.A t.E t.I
  e : t.E.le h
  i : t.I.le h
  d : Dj t.E t.I

def Slot.ap (s t : Slot) : Prop := Dj s.E t.E ∧ Dj s.E t.I ∧ Dj t.E s.I

/-- These hold of the heap, each of a part of its own. -/
def St (L : List Asr) (h : Heap) : Prop := ∃ T : List Slot, T.map Slot.A = L ∧ (∀ t ∈ T, Slot.ok h t) ∧ T.Pairwise Slot.ap

theorem Dj.symm {f g : Frag} (d : Dj f g) : Dj g f := fun b => (d b).symm
theorem Slot.ap.symm {s t : Slot} (a : s.ap t) : t.ap s := ⟨a.1.symm, a.2.2, a.2.1⟩
theorem Frag.lt {f : Frag} {h : Heap} (l : f.le h) {b : Nat} (hb : f b ≠ none) : b < h.size := by
  cases e : f b with
  | none => exact absurd e hb
  | some o => exact (Array.getElem?_eq_some_iff.1 (l b o e)).1

theorem St.cons_elim {A : Asr} {L : List Asr} {h : Heap} (S : St (A :: L) h) : ∃ (E I : Frag) (T : List Slot), T.map Slot.A = L ∧ Slot.ok h ⟨A, E, I⟩ ∧ (∀ t ∈ T, Slot.ok h t) ∧ T.Pairwise Slot.ap ∧ ∀ t ∈ T, Slot.ap ⟨A, E, I⟩ t := by
  obtain ⟨T, e, hk, hp⟩ := S
  cases T with
  | nil => cases e
  | cons t T =>
    simp only [List.map_cons, List.cons.injEq] at e
    obtain ⟨rfl, e⟩ := e
    rw [List.pairwise_cons] at hp
    exact ⟨t.E, t.I, T, e, hk t (List.mem_cons_self ..), fun u hu => hk u (List.mem_cons_of_mem _ hu), hp.2, hp.1⟩

theorem St.cons_intro {A : Asr} {L : List Asr} {h : Heap} {E I : Frag} {T : List Slot} (e : T.map Slot.A = L) (h0 : Slot.ok h ⟨A, E, I⟩) (hk : ∀ t ∈ T, Slot.ok h t) (hp : T.Pairwise Slot.ap) (ha : ∀ t ∈ T, Slot.ap ⟨A, E, I⟩ t) : St (A :: L) h := by
  refine ⟨⟨A, E, I⟩ :: T, by simp [e], fun t ht => ?_, List.pairwise_cons.2 ⟨ha, hp⟩⟩
  rcases List.mem_cons.1 ht with rfl | ht
  · exact h0
  · exact hk t ht

theorem St.nil (h : Heap) : St [] h := ⟨[], rfl, by simp, List.Pairwise.nil⟩
theorem St.tl {A : Asr} {L : List Asr} {h : Heap} (S : St (A :: L) h) : St L h := by
  obtain ⟨E, I, T, e, _, hk, hp, _⟩ := S.cons_elim
  exact ⟨T, e, hk, hp⟩

/-- One of them comes to the front. -/
theorem St.front {A : Asr} (L1 : List Asr) {L2 : List Asr} {h : Heap} (S : St (L1 ++ A :: L2) h) : St (A :: (L1 ++ L2)) h := by
  obtain ⟨T, e, hk, hp⟩ := S
  obtain ⟨T1, T2, rfl, e1, e2⟩ := List.map_eq_append_iff.1 e
  obtain ⟨t, T3, rfl, e3, e4⟩ := List.map_eq_cons_iff.1 e2
  have hperm : (T1 ++ t :: T3).Perm (t :: (T1 ++ T3)) := List.perm_middle
  refine ⟨t :: (T1 ++ T3), by simp [e1, e3, e4], fun u hu => hk u (hperm.mem_iff.2 hu), (hperm.pairwise_iff fun x => Slot.ap.symm x).1 hp⟩

section
variable {A B C D E F G H J K : Asr} {L : List Asr} {h : Heap}
theorem St.p1 (S : St (A :: B :: L) h) : St (B :: A :: L) h := St.front [A] S
theorem St.p2 (S : St (A :: B :: C :: L) h) : St (C :: A :: B :: L) h := St.front [A, B] S
theorem St.p3 (S : St (A :: B :: C :: D :: L) h) : St (D :: A :: B :: C :: L) h := St.front [A, B, C] S
theorem St.p4 (S : St (A :: B :: C :: D :: E :: L) h) : St (E :: A :: B :: C :: D :: L) h := St.front [A, B, C, D] S
theorem St.p5 (S : St (A :: B :: C :: D :: E :: F :: L) h) : St (F :: A :: B :: C :: D :: E :: L) h := St.front [A, B, C, D, E] S
theorem St.p6 (S : St (A :: B :: C :: D :: E :: F :: G :: L) h) : St (G :: A :: B :: C :: D :: E :: F :: L) h := St.front [A, B, C, D, E, F] S
theorem St.p7 (S : St (A :: B :: C :: D :: E :: F :: G :: H :: L) h) : St (H :: A :: B :: C :: D :: E :: F :: G :: L) h := St.front [A, B, C, D, E, F, G] S
theorem St.p8 (S : St (A :: B :: C :: D :: E :: F :: G :: H :: J :: L) h) : St (J :: A :: B :: C :: D :: E :: F :: G :: H :: L) h := St.front [A, B, C, D, E, F, G, H] S
/-- The second is dropped, .. -/
theorem St.d1 (S : St (A :: B :: L) h) : St (A :: L) h := St.tl (St.p1 S)
end

theorem St.mem_front {A : Asr} {L : List Asr} {h : Heap} (S : St L h) (m : A ∈ L) : ∃ L', St (A :: L') h := by
  obtain ⟨L1, L2, rfl⟩ := List.append_of_mem m
  exact ⟨_, St.front L1 S⟩

theorem St.kept {L : List Asr} {h h' : Heap} (S : St L h) (k : Kept h h') : St L h' := by
  obtain ⟨T, e, hk, hp⟩ := S
  refine ⟨T, e, fun t ht => ?_, hp⟩
  have := hk t ht
  exact ⟨this.hA, fun b o hb => by rw [k.blk b (Frag.lt this.e (by simp [hb])) fun x => x]; exact this.e b o hb, fun b o hb => by rw [k.blk b (Frag.lt this.i (by simp [hb])) fun x => x]; exact this.i b o hb, this.d⟩

/-- The first one turns, and the heap with it. -/
theorem St.step {A A' : Asr} {L : List Asr} {h h' : Heap} (S : St (A :: L) h)
    (f : ∀ E I, A E I → E.le h → I.le h → Dj E I → ∃ E' I', A' E' I' ∧ E'.le h' ∧ I'.le h' ∧ Dj E' I' ∧ (∀ b, E' b ≠ none → E b ≠ none ∨ h.size ≤ b) ∧ (∀ b, I' b ≠ none → I b ≠ none ∨ E b ≠ none ∨ h.size ≤ b) ∧
      Keeps (fun b => E b ≠ none) h h') : St (A' :: L) h' := by
  obtain ⟨E, I, T, e, h0, hk, hp, ha⟩ := S.cons_elim
  obtain ⟨E', I', hA', hE', hI', hd', s1, s2, k⟩ := f E I h0.hA h0.e h0.i h0.d
  refine St.cons_intro e ⟨hA', hE', hI', hd'⟩ (fun t ht => ?_) hp fun t ht => ?_
  · have o := hk t ht
    obtain ⟨a1, a2, a3⟩ := ha t ht
    refine ⟨o.hA, fun b x hb => ?_, fun b x hb => ?_, o.d⟩
    · have hn : E b = none := (a1 b).resolve_right (by simp [hb])
      rw [k.blk b (Frag.lt o.e (by simp [hb])) (by simp [hn])]; exact o.e b x hb
    · have hn : E b = none := (a2 b).resolve_right (by simp [hb])
      rw [k.blk b (Frag.lt o.i (by simp [hb])) (by simp [hn])]; exact o.i b x hb
  · have o := hk t ht
    obtain ⟨a1, a2, a3⟩ := ha t ht
    refine ⟨fun b => ?_, fun b => ?_, fun b => ?_⟩
    · by_cases hb : t.E b = none
      · exact .inr hb
      · refine .inl (Classical.byContradiction fun hn => ?_)
        rcases s1 b hn with h1 | h1
        · exact h1 ((a1 b).resolve_right hb)
        · exact absurd (Frag.lt o.e hb) (Nat.not_lt.2 h1)
    · by_cases hb : t.I b = none
      · exact .inr hb
      · refine .inl (Classical.byContradiction fun hn => ?_)
        rcases s1 b hn with h1 | h1
        · exact h1 ((a2 b).resolve_right hb)
        · exact absurd (Frag.lt o.i hb) (Nat.not_lt.2 h1)
    · by_cases hb : t.E b = none
      · exact .inl hb
      · refine .inr (Classical.byContradiction fun hn => ?_)
        rcases s2 b hn with h1 | h1 | h1
        · exact h1 ((a3 b).resolve_left hb)
        · exact h1 ((a1 b).resolve_right hb)
        · exact absurd (Frag.lt o.e hb) (Nat.not_lt.2 h1)

/-- One more, in new blocks. -/
theorem St.new {A : Asr} {L : List Asr} {h h' : Heap} (S : St L h) (k : Kept h h') (E I : Frag) (hA : A E I) (hE : E.le h') (hI : I.le h') (hd : Dj E I) (s1 : ∀ b, E b ≠ none → h.size ≤ b) (s2 : ∀ b, I b ≠ none → h.size ≤ b) : St (A :: L) h' := by
  obtain ⟨T, e, hk, hp⟩ := S
  obtain ⟨T', e', hk', hp'⟩ : St L h' := St.kept ⟨T, e, hk, hp⟩ k
  refine St.cons_intro e ⟨hA, hE, hI, hd⟩ ?_ hp fun t ht => ?_
  · intro t ht
    have o := hk t ht
    exact ⟨o.hA, fun b x hb => by rw [k.blk b (Frag.lt o.e (by simp [hb])) fun x => x]; exact o.e b x hb, fun b x hb => by rw [k.blk b (Frag.lt o.i (by simp [hb])) fun x => x]; exact o.i b x hb, o.d⟩
  · have o := hk t ht
    refine ⟨fun b => ?_, fun b => ?_, fun b => ?_⟩
    · by_cases hb : t.E b = none
      · exact .inr hb
      · exact .inl (Classical.byContradiction fun hn => absurd (Frag.lt o.e hb) (Nat.not_lt.2 (s1 b hn)))
    · by_cases hb : t.I b = none
      · exact .inr hb
      · exact .inl (Classical.byContradiction fun hn => absurd (Frag.lt o.i hb) (Nat.not_lt.2 (s1 b hn)))
    · by_cases hb : t.E b = none
      · exact .inl hb
      · exact .inr (Classical.byContradiction fun hn => absurd (Frag.lt o.e hb) (Nat.not_lt.2 (s2 b hn)))

/-- One more that only shares what the first one shares. -/
theorem St.share {A B : Asr} {L : List Asr} {h : Heap} (S : St (A :: L) h) (f : ∀ E I, A E I → E.le h → I.le h → ∃ I', B (fun _ => none) I' ∧ I'.le h ∧ ∀ b, I' b ≠ none → I b ≠ none) : St (B :: A :: L) h := by
  obtain ⟨E, I, T, e, h0, hk, hp, ha⟩ := S.cons_elim
  obtain ⟨I', hB, hI', s⟩ := f E I h0.hA h0.e h0.i
  have o1 : Slot.ok h ⟨B, fun _ => none, I'⟩ := ⟨hB, fun b o hb => (by cases hb), hI', fun b => Or.inl rfl⟩
  refine St.cons_intro (T := ⟨A, E, I⟩ :: T) (by simp [e]) o1 (fun t ht => ?_) (List.pairwise_cons.2 ⟨ha, hp⟩) fun t ht => ?_
  · rcases List.mem_cons.1 ht with rfl | ht
    · exact h0
    · exact hk t ht
  · have hs : ∀ b, t.E b = none ∨ I' b = none := by
      intro b
      by_cases hb : I' b = none
      · exact .inr hb
      · refine .inl ?_
        rcases List.mem_cons.1 ht with rfl | ht
        · exact (h0.d b).resolve_right (s b hb)
        · exact ((ha t ht).2.2 b).resolve_right (s b hb)
    exact ⟨fun b => .inl rfl, fun b => .inl rfl, hs⟩

/-! ### One of them, wherever it stands -/

theorem St.perm {L L' : List Asr} {h : Heap} (S : St L h) (p : L.Perm L') : St L' h := by
  induction p generalizing h with
  | nil => exact S
  | @cons A l l' p ih =>
    obtain ⟨E, I, T, e, h0, hk, hp, ha⟩ := S.cons_elim
    have : ∀ {l l' : List Asr}, l.Perm l' → ∀ T : List Slot, T.map Slot.A = l → ∃ T' : List Slot, T'.map Slot.A = l' ∧ T.Perm T' := by
      intro l l' p
      induction p with
      | nil => intro T e; exact ⟨T, e, .refl _⟩
      | cons x p ih =>
        intro T e
        obtain ⟨t, T1, rfl, e1, e2⟩ := List.map_eq_cons_iff.1 e
        obtain ⟨T', h1, h2⟩ := ih T1 e2
        exact ⟨t :: T', by simp [e1, h1], h2.cons t⟩
      | swap x y l =>
        intro T e
        obtain ⟨t, T1, rfl, e1, e2⟩ := List.map_eq_cons_iff.1 e
        obtain ⟨u, T2, rfl, e3, e4⟩ := List.map_eq_cons_iff.1 e2
        exact ⟨u :: t :: T2, by simp [e1, e3, e4], List.Perm.swap ..⟩
      | trans p q ih1 ih2 =>
        intro T e
        obtain ⟨T1, h1, h2⟩ := ih1 T e
        obtain ⟨T2, h3, h4⟩ := ih2 T1 h1
        exact ⟨T2, h3, h2.trans h4⟩
    obtain ⟨T', h1, h2⟩ := this p T e
    exact St.cons_intro h1 h0 (fun t ht => hk t (h2.mem_iff.2 ht)) ((h2.pairwise_iff fun x => Slot.ap.symm x).1 hp) fun t ht => ha t (h2.mem_iff.2 ht)
  | swap A B l => exact St.p1 S
  | trans p q ih1 ih2 => exact ih2 (ih1 S)

/-- Something of the kind F is there: it holds x; R is the rest. -/
class Has {σ : Type} (F : σ → Asr) (L : List Asr) (x : outParam σ) (R : outParam (List Asr)) : Prop where
  perm : L.Perm (F x :: R)
instance (priority := high) Has.head {σ : Type} {F : σ → Asr} {x : σ} {R : List Asr} : Has F (F x :: R) x R := ⟨.refl _⟩
instance Has.tail {σ : Type} {F : σ → Asr} {A : Asr} {L : List Asr} {x : σ} {R : List Asr} [H : Has F L x R] : Has F (A :: L) x (A :: R) := ⟨(H.perm.cons A).trans (.swap ..)⟩
theorem St.get {σ : Type} (F : σ → Asr) {L : List Asr} {x : σ} {R : List Asr} {h : Heap} (S : St L h) [H : Has F L x R] : St (F x :: R) h := S.perm H.perm

/-- Something of the kind F is there, and may stay. -/
class In {σ : Type} (F : σ → Asr) (L : List Asr) (x : outParam σ) : Prop where
  mem : F x ∈ L
instance (priority := high) In.head {σ : Type} {F : σ → Asr} {x : σ} {R : List Asr} : In F (F x :: R) x := ⟨List.mem_cons_self ..⟩
instance In.tail {σ : Type} {F : σ → Asr} {A : Asr} {L : List Asr} {x : σ} [H : In F L x] : In F (A :: L) x := ⟨List.mem_cons_of_mem _ H.mem⟩

/-- This one is there. -/
class Pick (A : Asr) (L : List Asr) (R : outParam (List Asr)) : Prop where
  perm : L.Perm (A :: R)
instance (priority := high) Pick.head {A : Asr} {R : List Asr} : Pick A (A :: R) R := ⟨.refl _⟩
instance Pick.tail {A B : Asr} {L R : List Asr} [H : Pick A L R] : Pick A (B :: L) (B :: R) := ⟨(H.perm.cons B).trans (.swap ..)⟩
/-- All of these are there, in whatever order; the others are dropped. -/
class Sub (L' L : List Asr) : Prop where
  ex : ∃ D, L.Perm (L' ++ D)
instance (priority := high) Sub.refl {L : List Asr} : Sub L L := ⟨[], by simp⟩
instance (priority := low) Sub.nil {L : List Asr} : Sub [] L := ⟨L, .refl _⟩
instance Sub.cons {A : Asr} {L' L R : List Asr} [H : Pick A L R] [K : Sub L' R] : Sub (A :: L') L := ⟨K.ex.choose, H.perm.trans (K.ex.choose_spec.cons A)⟩
instance (priority := low) Sub.drop {A : Asr} {L' L : List Asr} [K : Sub L' L] : Sub L' (A :: L) := ⟨K.ex.choose ++ [A], by
  have := K.ex.choose_spec.cons A
  rw [← List.append_assoc]
  exact this.trans (List.perm_append_singleton A _).symm⟩
theorem St.left : ∀ {L D : List Asr} {h : Heap}, St (L ++ D) h → St L h
  | [], _, h, _ => St.nil h
  | A :: L, D, h, S => by
    obtain ⟨T, e, hk, hp⟩ := S
    obtain ⟨T1, T2, rfl, e1, e2⟩ := List.map_eq_append_iff.1 e
    exact ⟨T1, e1, fun t ht => hk t (List.mem_append_left _ ht), (List.pairwise_append.1 hp).1⟩
theorem St.to {L L' : List Asr} {h : Heap} (S : St L h) [H : Sub L' L] : St L' h := (S.perm H.ex.choose_spec).left

/-! ### Words for assertions -/

def emp : Asr := fun E I => (∀ b, E b = none) ∧ ∀ b, I b = none
def fact (φ : Prop) : Asr := fun E I => (∀ b, E b = none) ∧ (∀ b, I b = none) ∧ φ
def ex {α : Sort _} (F : α → Asr) : Asr := fun E I => ∃ x, F x E I
def sep (A B : Asr) : Asr := fun E I => ∃ E1 I1 E2 I2, A E1 I1 ∧ B E2 I2 ∧ Dj E1 E2 ∧ Dj E1 I2 ∧ Dj E2 I1 ∧ Dj E1 I1 ∧ Dj E2 I2 ∧ (∀ b, E b = (E1 b).or (E2 b)) ∧ (∀ b, I b = (I1 b).or (I2 b)) ∧
  ∀ b o o', I1 b = some o → I2 b = some o' → o = o'
def stars : List Asr → Asr
  | [] => emp
  | A :: L => sep A (stars L)

theorem St.ex {α : Sort _} {F : α → Asr} {L : List Asr} {h : Heap} (S : St (ex F :: L) h) : ∃ x, St (F x :: L) h := by
  obtain ⟨E, I, T, e, ⟨⟨x, hx⟩, h1, h2, h3⟩, hk, hp, ha⟩ := S.cons_elim
  exact ⟨x, St.cons_intro e ⟨hx, h1, h2, h3⟩ hk hp ha⟩
theorem St.ex' {α : Sort _} {F : α → Asr} {L : List Asr} {h : Heap} (x : α) (S : St (F x :: L) h) : St (Lift.ex F :: L) h := by
  obtain ⟨E, I, T, e, ⟨hx, h1, h2, h3⟩, hk, hp, ha⟩ := S.cons_elim
  exact St.cons_intro e ⟨⟨x, hx⟩, h1, h2, h3⟩ hk hp ha

theorem St.fact {φ : Prop} {L : List Asr} {h : Heap} (S : St (fact φ :: L) h) : φ ∧ St L h := by
  obtain ⟨E, I, T, e, ⟨⟨_, _, hx⟩, h1, h2, h3⟩, hk, hp, ha⟩ := S.cons_elim
  exact ⟨hx, T, e, hk, hp⟩
theorem St.emp' {L : List Asr} {h : Heap} (S : St L h) : St (emp :: L) h :=
  S.new (Kept.refl h) (fun _ => none) (fun _ => none) ⟨fun _ => rfl, fun _ => rfl⟩ (fun b o hb => by cases hb) (fun b o hb => by cases hb) (fun b => .inl rfl) (fun b hb => absurd rfl hb) (fun b hb => absurd rfl hb)
theorem St.fact' {φ : Prop} {L : List Asr} {h : Heap} (hφ : φ) (S : St L h) : St (Lift.fact φ :: L) h :=
  S.new (Kept.refl h) (fun _ => none) (fun _ => none) ⟨fun _ => rfl, fun _ => rfl, hφ⟩ (fun b o hb => by cases hb) (fun b o hb => by cases hb) (fun b => .inl rfl) (fun b hb => absurd rfl hb) (fun b hb => absurd rfl hb)

theorem St.split {A B : Asr} {L : List Asr} {h : Heap} (S : St (sep A B :: L) h) : St (A :: B :: L) h := by
  obtain ⟨E, I, T, e, ⟨⟨E1, I1, E2, I2, hA, hB, d1, d2, d3, d4, d5, hE0, hI0, hc⟩, h1, h2, h3⟩, hk, hp, ha⟩ := S.cons_elim
  simp only at h1 h2 h3
  have hE : ∀ b, E b = (E1 b).or (E2 b) := hE0
  have hI : ∀ b, I b = (I1 b).or (I2 b) := hI0
  have e1 : E1.le h := fun b o hb => h1 b o (by rw [hE, hb]; rfl)
  have e2 : E2.le h := fun b o hb => h1 b o (by rw [hE, hb, (d1 b).resolve_right (by simp [hb])]; rfl)
  have i1 : I1.le h := fun b o hb => h2 b o (by rw [hI, hb]; rfl)
  have i2 : I2.le h := fun b o hb => by
    cases hb1 : I1 b with
    | none => exact h2 b o (by rw [hI, hb, hb1]; rfl)
    | some o' => rw [← hc b o' o hb1 hb]; exact i1 b o' hb1
  have n1 : ∀ b, E b = none → E1 b = none ∧ E2 b = none := fun b hb => by rw [hE] at hb; exact Option.or_eq_none_iff.1 hb
  have n2 : ∀ b, I b = none → I1 b = none ∧ I2 b = none := fun b hb => by rw [hI] at hb; exact Option.or_eq_none_iff.1 hb
  refine St.cons_intro (T := ⟨B, E2, I2⟩ :: T) (by simp [e]) (E := E1) (I := I1) ⟨hA, e1, i1, d4⟩ (fun t ht => ?_) (List.pairwise_cons.2 ⟨fun t ht => ?_, hp⟩) fun t ht => ?_
  · rcases List.mem_cons.1 ht with rfl | ht
    · exact ⟨hB, e2, i2, d5⟩
    · exact hk t ht
  · obtain ⟨a1, a2, a3⟩ := ha t ht
    exact ⟨fun b => (a1 b).imp (fun x => (n1 b x).2) id, fun b => (a2 b).imp (fun x => (n1 b x).2) id, fun b => (a3 b).imp id fun x => (n2 b x).2⟩
  · rcases List.mem_cons.1 ht with rfl | ht
    · exact ⟨d1, d2, d3⟩
    · obtain ⟨a1, a2, a3⟩ := ha t ht
      exact ⟨fun b => (a1 b).imp (fun x => (n1 b x).1) id, fun b => (a2 b).imp (fun x => (n1 b x).1) id, fun b => (a3 b).imp id fun x => (n2 b x).1⟩

theorem St.join {A B : Asr} {L : List Asr} {h : Heap} (S : St (A :: B :: L) h) : St (sep A B :: L) h := by
  obtain ⟨E1, I1, T, e, o1, hk, hp, ha⟩ := (St.cons_elim S)
  cases T with
  | nil => cases e
  | cons t T =>
    simp only [List.map_cons, List.cons.injEq] at e
    obtain ⟨rfl, e⟩ := e
    rw [List.pairwise_cons] at hp
    have o2 := hk t (List.mem_cons_self ..)
    obtain ⟨a1, a2, a3⟩ := ha t (List.mem_cons_self ..)
    refine St.cons_intro (T := T) e (E := fun b => (E1 b).or (t.E b)) (I := fun b => (I1 b).or (t.I b)) ⟨⟨E1, I1, t.E, t.I, o1.hA, o2.hA, a1, a2, a3, o1.d, o2.d, fun _ => rfl, fun _ => rfl, fun b o o' h1 h2 => ?_⟩, fun b o hb => ?_, fun b o hb => ?_, fun b => ?_⟩
      (fun u hu => hk u (List.mem_cons_of_mem _ hu)) hp.2 fun u hu => ?_
    · have := o1.i b o h1
      rw [o2.i b o' h2] at this
      exact (Option.some.inj this).symm
    · rcases Option.or_eq_some_iff.1 hb with hb | ⟨_, hb⟩
      · exact o1.e b o hb
      · exact o2.e b o hb
    · rcases Option.or_eq_some_iff.1 hb with hb | ⟨_, hb⟩
      · exact o1.i b o hb
      · exact o2.i b o hb
    · simp only [Option.or_eq_none_iff]
      have q1 := o1.d b
      have q2 := o2.d b
      have q3 := a2 b
      have q4 := a3 b
      simp only at q1 q2 q3 q4
      rcases q1 with x | x <;> rcases q2 with y | y <;> simp_all
    · obtain ⟨b1, b2, b3⟩ := ha u (List.mem_cons_of_mem _ hu)
      obtain ⟨c1, c2, c3⟩ := hp.1 u hu
      refine ⟨fun b => ?_, fun b => ?_, fun b => ?_⟩
      · simp only [Option.or_eq_none_iff]
        have x := b1 b; have y := c1 b
        simp only at x y
        rcases x with x | x <;> rcases y with y | y <;> simp_all
      · simp only [Option.or_eq_none_iff]
        have x := b2 b; have y := c2 b
        simp only at x y
        rcases x with x | x <;> rcases y with y | y <;> simp_all
      · simp only [Option.or_eq_none_iff]
        have x := b3 b; have y := c3 b
        simp only at x y
        rcases x with x | x <;> rcases y with y | y <;> simp_all

theorem St.open : ∀ {As L : List Asr} {h : Heap}, St (stars As :: L) h → St (As ++ L) h
  | [], L, h, S => S.tl
  | A :: As, L, h, S => by
    have S1 := St.split S
    have S2 := St.open S1.p1
    exact St.frontI As S2
where
  St.frontI {A : Asr} (L1 : List Asr) {L2 : List Asr} {h : Heap} (S : St (L1 ++ A :: L2) h) : St (A :: (L1 ++ L2)) h := St.front L1 S

theorem St.back {A : Asr} (L1 : List Asr) {L2 : List Asr} {h : Heap} (S : St (A :: (L1 ++ L2)) h) : St (L1 ++ A :: L2) h := by
  obtain ⟨E, I, T, e, h0, hk, hp, ha⟩ := S.cons_elim
  obtain ⟨T1, T2, rfl, e1, e2⟩ := List.map_eq_append_iff.1 e
  have hperm : (T1 ++ ⟨A, E, I⟩ :: T2).Perm (⟨A, E, I⟩ :: (T1 ++ T2)) := List.perm_middle
  refine ⟨T1 ++ ⟨A, E, I⟩ :: T2, by simp [e1, e2], fun u hu => ?_, (hperm.pairwise_iff fun x => Slot.ap.symm x).2 (List.pairwise_cons.2 ⟨ha, hp⟩)⟩
  rcases List.mem_cons.1 (hperm.mem_iff.1 hu) with rfl | hu
  · exact h0
  · exact hk u hu

theorem St.close : ∀ {As L : List Asr} {h : Heap}, St (As ++ L) h → St (stars As :: L) h
  | [], L, h, S => S.emp'
  | A :: As, L, h, S => by
    have S1 : St (As ++ A :: L) h := St.back As S
    exact St.join (St.close S1).p1

/-! ### What is owned, what is shared -/

def own (d : Nat → Prop) (Φ : Heap → Prop) : Asr := fun E I => (∀ b, E b ≠ none ↔ d b) ∧ (∀ b, I b = none) ∧ ∀ h, E.le h → Φ h
def sh (d : Nat → Prop) (Φ : Heap → Prop) : Asr := fun E I => (∀ b, E b = none) ∧ (∀ b, I b ≠ none ↔ d b) ∧ ∀ h, I.le h → Φ h
/-- What is said hangs on these blocks alone. -/
def Lc (d : Nat → Prop) (Φ : Heap → Prop) : Prop := ∀ h h' : Heap, (∀ b, d b → h'[b]? = h[b]?) → Φ h → Φ h'

open Classical in
noncomputable def cutF (d : Nat → Prop) (h : Heap) : Frag := fun b => if d b then h[b]? else none
theorem cutF_le (d : Nat → Prop) (h : Heap) : (cutF d h).le h := fun b o hb => by
  unfold cutF at hb
  split at hb
  · exact hb
  · cases hb
theorem cutF_dom {d : Nat → Prop} {h : Heap} (hd : ∀ b, d b → b < h.size) (b : Nat) : cutF d h b ≠ none ↔ d b := by
  unfold cutF
  by_cases hb : d b
  · rw [if_pos hb]
    have := hd b hb
    simp [hb, this]
  · rw [if_neg hb]; simp [hb]
theorem cutF_agree {d : Nat → Prop} {h h' : Heap} (hd : ∀ b, d b → b < h.size) (l : (cutF d h).le h') : ∀ b, d b → h'[b]? = h[b]? := fun b hb => by
  have hl := hd b hb
  have : cutF d h b = some h[b] := by unfold cutF; rw [if_pos hb]; exact Array.getElem?_eq_getElem hl
  rw [l b _ this, Array.getElem?_eq_getElem hl]

theorem St.own {d : Nat → Prop} {Φ : Heap → Prop} {L : List Asr} {h : Heap} (S : St (own d Φ :: L) h) : Φ h ∧ ∀ b, d b → b < h.size := by
  obtain ⟨E, I, T, e, ⟨⟨q1, q2, q3⟩, h1, h2, h3⟩, hk, hp, ha⟩ := S.cons_elim
  exact ⟨q3 h h1, fun b hb => Frag.lt h1 ((q1 b).2 hb)⟩

theorem St.own_step {d d' : Nat → Prop} {Φ Φ' : Heap → Prop} {L : List Asr} {h h' : Heap} (S : St (Lift.own d Φ :: L) h) (k : Keeps d h h') (hd : ∀ b, d' b → d b ∨ h.size ≤ b) (hl : ∀ b, d' b → b < h'.size) (lc : Lc d' Φ') (hΦ : Φ' h') : St (Lift.own d' Φ' :: L) h' :=
  S.step fun E I ⟨q1, q2, q3⟩ e i dj => ⟨cutF d' h', fun _ => none, ⟨cutF_dom hl, fun _ => rfl, fun h2 l2 => lc h' h2 (cutF_agree hl l2) hΦ⟩, cutF_le _ _, fun b o hb => (by cases hb), fun b => .inr rfl,
    fun b hb => (hd b ((cutF_dom hl b).1 hb)).imp (fun x => (q1 b).2 x) id, fun b hb => absurd rfl hb, k.mono fun b _ hb => (q1 b).2 hb⟩

theorem St.own_new {d : Nat → Prop} {Φ : Heap → Prop} {L : List Asr} {h h' : Heap} (S : St L h) (k : Kept h h') (hd : ∀ b, d b → h.size ≤ b ∧ b < h'.size) (lc : Lc d Φ) (hΦ : Φ h') : St (Lift.own d Φ :: L) h' :=
  S.new k (cutF d h') (fun _ => none) ⟨cutF_dom fun b hb => (hd b hb).2, fun _ => rfl, fun h2 l2 => lc h' h2 (cutF_agree (fun b hb => (hd b hb).2) l2) hΦ⟩ (cutF_le _ _) (fun b o hb => by cases hb) (fun b => .inr rfl)
    (fun b hb => (hd b ((cutF_dom (fun b hb => (hd b hb).2) b).1 hb)).1) fun b hb => absurd rfl hb

/-- What is owned is shared from now on. -/
theorem St.freeze {d d' : Nat → Prop} {Φ Φ' : Heap → Prop} {L : List Asr} {h : Heap} (S : St (Lift.own d Φ :: L) h) (hd : ∀ b, d' b → d b) (lc : Lc d' Φ') (hΦ : Φ' h) : St (sh d' Φ' :: L) h := by
  have hl := S.own.2
  exact S.step fun E I ⟨q1, q2, q3⟩ e i dj => ⟨fun _ => none, cutF d' h, ⟨fun _ => rfl, cutF_dom fun b hb => hl b (hd b hb), fun h2 l2 => lc h h2 (cutF_agree (fun b hb => hl b (hd b hb)) l2) hΦ⟩, fun b o hb => (by cases hb), cutF_le _ _, fun b => .inl rfl,
    fun b hb => absurd rfl hb, fun b hb => .inr (.inl ((q1 b).2 (hd b ((cutF_dom (fun b hb => hl b (hd b hb)) b).1 hb)))), Keeps.refl _ _⟩

theorem St.sh {d : Nat → Prop} {Φ : Heap → Prop} {L : List Asr} {h : Heap} (S : St L h) (m : sh d Φ ∈ L) : Φ h ∧ ∀ b, d b → b < h.size := by
  obtain ⟨L', S'⟩ := S.mem_front m
  obtain ⟨E, I, T, e, ⟨⟨q1, q2, q3⟩, h1, h2, h3⟩, hk, hp, ha⟩ := S'.cons_elim
  exact ⟨q3 h h2, fun b hb => Frag.lt h2 ((q2 b).2 hb)⟩

/-- More of what is shared. -/
theorem St.sh_sub {d d' : Nat → Prop} {Φ Φ' : Heap → Prop} {L : List Asr} {h : Heap} (S : St L h) (m : Lift.sh d Φ ∈ L) (hd : ∀ b, d' b → d b) (lc : Lc d' Φ') (hΦ : Φ' h) : St (Lift.sh d' Φ' :: L) h := by
  have hl := (S.sh m).2
  obtain ⟨L1, L2, rfl⟩ := List.append_of_mem m
  have S1 := St.front L1 S
  have S2 : St (Lift.sh d' Φ' :: Lift.sh d Φ :: (L1 ++ L2)) h := S1.share fun E I ⟨q1, q2, q3⟩ e i => ⟨cutF d' h, ⟨fun _ => rfl, cutF_dom fun b hb => hl b (hd b hb), fun h2 l2 => lc h h2 (cutF_agree (fun b hb => hl b (hd b hb)) l2) hΦ⟩, cutF_le _ _,
    fun b hb => (q2 b).2 (hd b ((cutF_dom (fun b hb => hl b (hd b hb)) b).1 hb))⟩
  exact St.back (Lift.sh d' Φ' :: L1) (S2.p1)

/-- What is shared by two of them. -/
theorem St.sh_sub0 {d' : Nat → Prop} {Φ' : Heap → Prop} {L : List Asr} {h : Heap} (S : St L h) (hd : ∀ b, ¬ d' b) (hΦ : ∀ h, Φ' h) : St (Lift.sh d' Φ' :: L) h :=
  S.new (Kept.refl h) (fun _ => none) (fun _ => none) ⟨fun _ => rfl, fun b => ⟨fun x => absurd rfl x, fun x => absurd x (hd b)⟩, fun h _ => hΦ h⟩ (fun b o hb => by cases hb) (fun b o hb => by cases hb) (fun b => .inl rfl) (fun b hb => absurd rfl hb) (fun b hb => absurd rfl hb)

/-- Two become one that is shared. -/
theorem St.toSh {A B : Asr} {dA dB d : Nat → Prop} {Ψ : Heap → Prop} {L : List Asr} {h : Heap} (S : St (A :: B :: L) h) (hA : ∀ E I, A E I → ∀ b, dA b → E b ≠ none ∨ I b ≠ none) (hB : ∀ E I, B E I → ∀ b, dB b → E b ≠ none ∨ I b ≠ none)
    (hd : ∀ b, d b → dA b ∨ dB b) (lc : Lc d Ψ) (hΨ : Ψ h) : St (Lift.sh d Ψ :: L) h := by
  refine S.join.step fun E I ⟨E1, I1, E2, I2, a1, a2, d1, d2, d3, d4, d5, hE, hI, hc⟩ e i dj => ?_
  have hn : ∀ b, d b → E b ≠ none ∨ I b ≠ none := by
    intro b hb
    rcases hd b hb with x | x
    · rcases hA _ _ a1 b x with y | y
      · exact .inl fun z => y (by rw [hE] at z; exact (Option.or_eq_none_iff.1 z).1)
      · exact .inr fun z => y (by rw [hI] at z; exact (Option.or_eq_none_iff.1 z).1)
    · rcases hB _ _ a2 b x with y | y
      · exact .inl fun z => y (by rw [hE] at z; exact (Option.or_eq_none_iff.1 z).2)
      · exact .inr fun z => y (by rw [hI] at z; exact (Option.or_eq_none_iff.1 z).2)
  have hl : ∀ b, d b → b < h.size := fun b hb => (hn b hb).elim (Frag.lt e) (Frag.lt i)
  exact ⟨fun _ => none, cutF d h, ⟨fun _ => rfl, cutF_dom hl, fun h2 l2 => lc h h2 (cutF_agree hl l2) hΨ⟩, fun b o hb => (by cases hb), cutF_le _ _, fun b => .inl rfl, fun b hb => absurd rfl hb,
    fun b hb => (hn b ((cutF_dom hl b).1 hb)).elim (fun x => .inr (.inl x)) .inl, Keeps.refl _ _⟩
theorem own_dom {d : Nat → Prop} {Φ : Heap → Prop} (E I : Frag) (a : Lift.own d Φ E I) (b : Nat) (hb : d b) : E b ≠ none ∨ I b ≠ none := .inl ((a.1 b).2 hb)
theorem sh_dom {d : Nat → Prop} {Φ : Heap → Prop} (E I : Frag) (a : Lift.sh d Φ E I) (b : Nat) (hb : d b) : E b ≠ none ∨ I b ≠ none := .inr ((a.2.1 b).2 hb)

end Go.Lift
