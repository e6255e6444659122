/- The lift's words on boxes, rows and maps that are owned, and rows that are shared: reads, writes, append, new ones; in the printed goals' own form. -/
import Derived.Test.YtechpnlbkkfplaaDoorLiftSep
set_option linter.unusedVariables false
set_option linter.unusedSimpArgs false
namespace Go.Lift

abbrev SV := OA × Nat × Nat
abbrev SV.v (s : SV) : Value := .slice s.1 s.2.1 s.2.2

/-- A box. -/
def Bx (a : Addr) (vs : List Value) : Asr := own (fun b => b = a.block) (fun h => Mem h a vs ∧ a.spot = none)
/-- A slice of one's own. -/
def Ow (sz : Nat) (s : SV) (vs : List Value) : Asr := own (fun b => 0 < s.2.2 * sz ∧ ∃ a, s.1 = some a ∧ a.block = b) (fun h => Own sz h s.1 s.2.1 s.2.2 vs)
/-- A map of one's own. -/
def Mq {κ ν : Type} [DecidableEq κ] (kk : κ → Value) (vv : ν → Value) (m : Nat) (kvs : List (κ × ν)) : Asr := own (fun b => b = m) (fun h => Mp kk vv h (some m) kvs)
/-- A shared slice. -/
def Im (sz : Nat) (s : SV) (vs : List Value) : Asr := sh (fun b => vs ≠ [] ∧ ∃ a, s.1 = some a ∧ a.block = b) (fun h => Sl sz h s.1 s.2.1 vs ∧ s.2.1 ≤ s.2.2)
/-- What was there is there. -/
def Old (h0 : Heap) : Asr := sh (fun b => b < h0.size) (fun h => ∀ b, b < h0.size → h[b]? = h0[b]?)

/-! ### What hangs on what -/

theorem At.loc {h h' : Heap} {a : Addr} {vs : List Value} (e : vs ≠ [] → h'[a.block]? = h[a.block]?) (m : At h a vs) : At h' a vs := by
  refine ⟨m.1, fun i hi => ?_⟩
  rw [← m.2 i hi]
  exact hcell_eq (by rw [add_block]; exact e (by intro x; subst x; simp at hi))
theorem Mem.loc {h h' : Heap} {a : Addr} {vs : List Value} (e : h'[a.block]? = h[a.block]?) (m : Mem h a vs) : Mem h' a vs := by
  refine ⟨m.1.loc fun _ => e, fun i hi => ?_⟩
  rw [← m.2 i hi]
  exact hfrozen_eq (by rw [add_block]; exact e)
theorem Own.loc {sz : Nat} {h h' : Heap} {p : OA} {l c : Nat} {vs : List Value} (e : 0 < c * sz → ∀ a, p = some a → h'[a.block]? = h[a.block]?) (m : Own sz h p l c vs) : Own sz h' p l c vs := by
  refine ⟨m.1, m.2.1, ?_⟩
  cases p with
  | none => exact m.2.2
  | some a =>
    obtain ⟨r, h1, h2⟩ := m.2.2
    refine ⟨r, h1, ?_⟩
    by_cases hc : 0 < c * sz
    · exact h2.loc (e hc a rfl)
    · have h3 := m.1
      have h4 := m.2.1
      have h5 : c = l + (c - l) := by omega
      have h6 : l * sz + (c - l) * sz = 0 := by rw [← Nat.add_mul, ← h5]; exact Nat.eq_zero_of_not_pos hc
      have : vs ++ r = [] := List.eq_nil_of_length_eq_zero (by rw [List.length_append]; omega)
      rw [this] at h2 ⊢
      exact ⟨⟨h2.1.1, fun i hi => absurd hi (Nat.not_lt_zero i)⟩, fun i hi => absurd hi (Nat.not_lt_zero i)⟩
theorem Sl.loc {sz : Nat} {h h' : Heap} {p : OA} {l : Nat} {vs : List Value} (e : vs ≠ [] → ∀ a, p = some a → h'[a.block]? = h[a.block]?) (m : Sl sz h p l vs) : Sl sz h' p l vs := by
  refine ⟨m.1, ?_⟩
  cases p with
  | none => exact m.2
  | some a => exact At.loc (fun hv => e hv a rfl) m.2
theorem Mp.loc {κ ν : Type} [DecidableEq κ] {kk : κ → Value} {vv : ν → Value} {h h' : Heap} {m : Nat} {kvs : List (κ × ν)} (e : h'[m]? = h[m]?) (x : Mp kk vv h (some m) kvs) : Mp kk vv h' (some m) kvs := by
  obtain ⟨es, clock, hb, hr⟩ := x
  exact ⟨es, clock, by rw [e]; exact hb, hr⟩

theorem Own.lt {sz : Nat} {h : Heap} {a : Addr} {l c : Nat} {vs : List Value} (o : Own sz h (some a) l c vs) (hc : 0 < c * sz) : a.block < h.size := by
  obtain ⟨r, h1, h2⟩ := o.2.2
  have h3 := o.1
  refine h2.1.lt fun e => ?_
  have := congrArg List.length e
  simp only [List.length_append, List.length_nil] at this
  have h4 := o.2.1
  have : c = l + (c - l) := by omega
  rw [this, Nat.add_mul] at hc
  omega

section
variable {L : List Asr} {h : Heap}

/-! ### Boxes -/

theorem St.mem {a : Addr} {vs : List Value} (S : St (Bx a vs :: L) h) : Mem h a vs := S.own.1.1
theorem St.sp {a : Addr} {vs : List Value} (S : St (Bx a vs :: L) h) : a.spot = none := S.own.1.2
theorem St.blt {a : Addr} {vs : List Value} (S : St (Bx a vs :: L) h) : a.block < h.size := S.own.2 _ rfl
theorem St.c {a : Addr} {vs : List Value} (S : St (Bx a vs :: L) h) (i : Nat) {v : Value} (e : vs[i]? = some v) : hcell h (a.add i) = some v := S.mem.1.get e
theorem St.cc {a : Addr} {vs : List Value} (S : St (Bx a vs :: L) h) (i j : Nat) {v : Value} (e : vs[i + j]? = some v) : hcell h ((a.add i).add j) = some v := by
  rw [add_add S.sp]; exact S.mem.1.get e

theorem St.upd {a : Addr} {vs vs' : List Value} (S : St (Bx a vs :: L) h) {h' : Heap} (k : Keeps (fun b => b = a.block) h h') (m : Mem h' a vs') : St (Bx a vs' :: L) h' :=
  S.own_step (d' := fun b => b = a.block) k (fun b hb => .inl hb) (fun b hb => Nat.lt_of_lt_of_le (by rw [hb]; exact S.blt) k.size) (fun h1 h2 e m => ⟨m.1.loc (e _ rfl), m.2⟩) ⟨m, S.sp⟩

/-- A cell is written. -/
theorem St.wr {a : Addr} {vs : List Value} (S : St (Bx a vs :: L) h) (i : Nat) {v : Value} (hi : i < vs.length) (ho : one v = true) {R : Heap → Prop} (hR : ∀ h', St (Bx a (vs.set i v) :: L) h' → R h') :
    ∃ h', stC h (a.add i) 0 [v] = some h' ∧ R h' := by
  refine ⟨_, S.mem.stc hi ho, hR _ (S.upd ?_ (S.mem.st1 hi v))⟩
  have := hset_keeps h (a.add i) v
  rwa [add_block] at this
theorem St.wrr {a : Addr} {vs : List Value} (S : St (Bx a vs :: L) h) (i j : Nat) {v : Value} (hi : i + j < vs.length) (ho : one v = true) {R : Heap → Prop} (hR : ∀ h', St (Bx a (vs.set (i + j) v) :: L) h' → R h') :
    ∃ h', stC h ((a.add i).add j) 0 [v] = some h' ∧ R h' := by
  rw [add_add S.sp]; exact S.wr (i + j) hi ho hR

/-- All cells are read. -/
theorem St.rdA {a : Addr} {vs : List Value} (S : St (Bx a vs :: L) h) {n : Nat} (hn : vs.length = n) {R : List Value → Prop} (hR : R vs) : ∃ cs, rdC h a 0 n = some cs ∧ R cs := ⟨vs, S.mem.1.rd hn, hR⟩
/-- Some cells are read. -/
theorem St.rdP {a : Addr} {vs : List Value} (S : St (Bx a vs :: L) h) (i : Nat) {n : Nat} (hn : i + n ≤ vs.length) {R : List Value → Prop} (hR : R ((vs.drop i).take n)) : ∃ cs, rdC h (a.add i) 0 n = some cs ∧ R cs :=
  ⟨(vs.drop i).take n, ((S.mem.1.drop i).take n).rd (by simp; omega), hR⟩

/-- Many cells are written. -/
theorem St.wrs {a : Addr} {vs : List Value} (S : St (Bx a vs :: L) h) (i : Nat) {ws : List Value} (hi : i + ws.length ≤ vs.length) (ho : ∀ w ∈ ws, one w = true) {R : Heap → Prop}
    (hR : ∀ h', St (Bx a (vs.take i ++ ws ++ vs.drop (i + ws.length)) :: L) h' → R h') : ∃ h', stC h (a.add i) 0 ws = some h' ∧ R h' := by
  obtain ⟨h', e1, e2, e3, e4⟩ := stC_many (a := a) (ws := ws) (i := i) S.mem hi ho
  refine ⟨h', ?_, hR h' (S.upd e3 e2)⟩
  rw [stC_shift S.sp]; exact e1
/-- .. all of them. -/
theorem St.wrA {a : Addr} {vs : List Value} (S : St (Bx a vs :: L) h) {ws : List Value} (hi : ws.length = vs.length) (ho : ∀ w ∈ ws, one w = true) {R : Heap → Prop}
    (hR : ∀ h', St (Bx a ws :: L) h' → R h') : ∃ h', stC h a 0 ws = some h' ∧ R h' := by
  obtain ⟨h', e1, e2, e3, e4⟩ := stC_many (a := a) (ws := ws) (i := 0) S.mem (by omega) ho
  have e5 : vs.drop (0 + ws.length) = [] := List.drop_eq_nil_of_le (by omega)
  rw [e5] at e2
  exact ⟨h', e1, hR h' (S.upd e3 (by simpa using e2))⟩

/-- A new box. -/
theorem St.al (S : St L h) (vs : List Value) (t : TypeId) : St (Bx (top h) vs :: L) (Lift.al h vs.toArray t) :=
  S.own_new (Keeps.al _ h _ _) (fun b hb => by rw [hb, top_block, al_size]; omega) (fun h1 h2 e m => ⟨m.1.loc (e _ rfl), m.2⟩) ⟨Mem.new h vs t, rfl⟩

/-! ### Rows of one's own -/

theorem Ow.lc (sz : Nat) (s : SV) (vs : List Value) : Lc (fun b => 0 < s.2.2 * sz ∧ ∃ a, s.1 = some a ∧ a.block = b) (fun h => Own sz h s.1 s.2.1 s.2.2 vs) := fun h1 h2 e m => m.loc fun hc a ea => e _ ⟨hc, a, ea, rfl⟩
theorem St.ow {sz : Nat} {s : SV} {vs : List Value} (S : St (Ow sz s vs :: L) h) : Own sz h s.1 s.2.1 s.2.2 vs := S.own.1
theorem St.sl {sz : Nat} {s : SV} {vs : List Value} (S : St (Ow sz s vs :: L) h) : Sl sz h s.1 s.2.1 vs := S.ow.sl

theorem St.owNil (sz : Nat) (S : St L h) : St (Ow sz (none, 0, 0) [] :: L) h :=
  S.own_new (Kept.refl h) (fun b ⟨_, a, e, _⟩ => by cases e) (Ow.lc sz _ _) (Own.nil sz h)

theorem St.owUpd {sz : Nat} {s s' : SV} {vs vs' : List Value} (S : St (Ow sz s vs :: L) h) {h' : Heap} (k : Keeps (fun i => 0 < s.2.2 * sz ∧ ∃ a, s.1 = some a ∧ a.block = i) h h') (hs : s'.1 = s.1 ∧ s'.2.2 = s.2.2 ∧ h'.size = h.size ∨ s'.1 = some (top h) ∧ h'.size = h.size + 1)
    (o : Own sz h' s'.1 s'.2.1 s'.2.2 vs') : St (Ow sz s' vs' :: L) h' := by
  refine S.own_step k (fun b ⟨hc, a, e1, e2⟩ => ?_) (fun b ⟨hc, a, e1, e2⟩ => ?_) (Ow.lc sz s' vs') o
  · rcases hs with ⟨hs, h2, _⟩ | ⟨hs, _⟩
    · exact .inl ⟨by rw [← h2]; exact hc, a, by rw [← hs]; exact e1, e2⟩
    · rw [hs] at e1; cases e1; rw [← e2, top_block]; exact .inr (Nat.le_refl _)
  · rcases hs with ⟨hs, h2, _⟩ | ⟨hs, hz⟩
    · exact Nat.lt_of_lt_of_le (S.own.2 b ⟨by rw [← h2]; exact hc, a, by rw [← hs]; exact e1, e2⟩) k.size
    · rw [hs] at e1; cases e1; rw [← e2, top_block, hz]; omega

/-- A new row out of a contract that tells of the heap: it is not below. -/
theorem St.owNew {sz : Nat} {p : OA} {l c : Nat} {vs : List Value} {h' : Heap} (S : St L h) (o : Own sz h' p l c vs) (f : Fr h.size p) (k : Kept h h') : St (Ow sz (p, l, c) vs :: L) h' :=
  S.own_new k (fun b ⟨hc, a, e1, e2⟩ => by subst e1; rw [← e2]; exact ⟨f a rfl, Own.lt o hc⟩) (Ow.lc sz _ _) o

/-- append, to a row of one's own. -/
theorem St.app {P : Program} {t tx ty e : TypeId} {d : TypeDesc} {sz by' : Nat} {z : List Value} (T : SlT P t e sz by' z) (hz : z.length = sz) (htx : P.underlying tx = some d) (hd : ∀ k, d ≠ .int k)
    {s : SV} {n : Nat} {vs ws : List Value} {xv : Value} (S : St (Ow sz s vs :: L) h) (src : Src P sz h xv n ws) (hb : (s.2.1 + n) * by' ≤ 140737488355328) (h63 : s.2.1 + n ≤ 9223372036854775807) {K : KT}
    (hK : ∀ p' c' h', St (Ow sz (p', s.2.1 + n, c') (vs ++ ws) :: L) h' → K (.slice p' (s.2.1 + n) c') h') : SemH P (Builtin.append_ #[t, tx] ty #[.slice s.1 s.2.1 s.2.2, xv]) K h :=
  append_ok2 T hz htx hd S.ow src hb h63 fun p' c' h' o' hp k => hK p' c' h' (S.owUpd (s' := (p', s.2.1 + n, c')) k hp o')

/-- An element is written. -/
theorem St.owSet {s : SV} {vs : List Value} (S : St (Ow 1 s vs :: L) h) {i : Int} {n : Nat} (hi : i = n) (hn : n < vs.length) {v : Value} (ho : one v = true) {R : Heap → Prop} (hR : ∀ h', St (Ow 1 s (vs.set n v) :: L) h' → R h') :
    ∃ a, s.1 = some a ∧ (0 : Int) ≤ i ∧ i < ((s.2.1 : Nat) : Int) ∧ ∃ h', stC h (Addr.add a (Int.toNat i * 1)) 0 [v] = some h' ∧ R h' :=
  put S.ow hi hn ho fun h' o k hz => hR h' (S.owUpd (s' := s) (k.mono fun i _ x => ⟨by have := S.ow.1; have := S.ow.2.1; omega, x⟩) (.inl ⟨rfl, rfl, hz⟩) o)

/-- A row of one's own is shared from now on. -/
theorem St.im {sz : Nat} {s : SV} {vs : List Value} (S : St (Ow sz s vs :: L) h) : St (Im sz s vs :: L) h :=
  S.freeze (fun b ⟨hv, x⟩ => ⟨by have h1 := S.ow.1; have h2 := List.length_pos_iff.2 hv; exact Nat.lt_of_lt_of_le (show 0 < s.2.1 * sz by omega) (Nat.mul_le_mul_right sz S.ow.2.1), x⟩) (fun h1 h2 e m => ⟨m.1.loc fun hv a ea => e _ ⟨hv, a, ea, rfl⟩, m.2⟩) ⟨S.sl, S.ow.2.1⟩

/-- A box is a full row. -/
theorem St.bxOw {sz n : Nat} {a : Addr} {vs : List Value} (S : St (Bx a vs :: L) h) (hn : vs.length = n * sz) : St (Ow sz (some a, n, n) vs :: L) h :=
  S.own_step (Keeps.refl _ _) (fun b ⟨_, x, e1, e2⟩ => by cases e1; exact .inl e2.symm) (fun b ⟨_, x, e1, e2⟩ => by cases e1; rw [← e2]; exact S.blt) (Ow.lc sz _ _) ⟨hn, Nat.le_refl _, [], by simp, by simpa using S.mem⟩

/-! ### Rows that are shared -/

theorem St.iml {sz : Nat} {s : SV} {vs : List Value} (S : St L h) (m : Im sz s vs ∈ L) : Sl sz h s.1 s.2.1 vs ∧ s.2.1 ≤ s.2.2 := (S.sh m).1
theorem Im.lc (sz : Nat) (s : SV) (vs : List Value) : Lc (fun b => vs ≠ [] ∧ ∃ a, s.1 = some a ∧ a.block = b) (fun h => Sl sz h s.1 s.2.1 vs ∧ s.2.1 ≤ s.2.2) := fun h1 h2 e m => ⟨m.1.loc fun hv a ea => e _ ⟨hv, a, ea, rfl⟩, m.2⟩
theorem St.imNil (sz : Nat) (c : Nat) (S : St L h) : St (Im sz (none, 0, c) [] :: L) h := S.sh_sub0 (fun b x => x.1 rfl) fun h => ⟨⟨by simp, rfl⟩, Nat.zero_le _⟩
theorem St.dup {d : Nat → Prop} {Φ : Heap → Prop} (S : St L h) (m : Lift.sh d Φ ∈ L) (lc : Lc d Φ) : St (Lift.sh d Φ :: L) h := S.sh_sub m (fun b x => x) lc (S.sh m).1
theorem St.imDup {sz : Nat} {s : SV} {vs : List Value} (S : St L h) (m : Im sz s vs ∈ L) : St (Im sz s vs :: L) h := S.dup m (Im.lc sz s vs)

/-- A part of a shared row. -/
theorem St.imSub {sz : Nat} {s s' : SV} {vs vs' : List Value} (S : St L h) (m : Im sz s vs ∈ L) (hp : ∀ a, s'.1 = some a → vs' ≠ [] → vs ≠ [] ∧ ∃ b, s.1 = some b ∧ b.block = a.block) (hs : Sl sz h s'.1 s'.2.1 vs') (hc : s'.2.1 ≤ s'.2.2) : St (Im sz s' vs' :: L) h :=
  S.sh_sub m (fun b ⟨h1, a, h2, h3⟩ => by obtain ⟨x, y, h4, h5⟩ := hp a h2 h1; exact ⟨x, y, h4, h5.trans h3⟩) (Im.lc sz s' vs') ⟨hs, hc⟩

theorem St.imTake {s : SV} {vs : List Value} (S : St L h) (m : Im 1 s vs ∈ L) {n : Nat} (hn : n ≤ s.2.1) : St (Im 1 (s.1, n, s.2.2) (vs.take n) :: L) h := by
  obtain ⟨h1, h2⟩ := S.iml m
  refine S.imSub m (fun a e hv => ⟨fun x => hv (by rw [x]; simp), a, e, rfl⟩) (h1.take hn) (Nat.le_trans hn h2)
theorem St.imDrop {s : SV} {vs : List Value} (S : St L h) (m : Im 1 s vs ∈ L) {n : Nat} (hn : n ≤ s.2.1) : St (Im 1 (slA s.1 n s.2.2 1, s.2.1 - n, s.2.2 - n) (vs.drop n) :: L) h := by
  obtain ⟨h1, h2⟩ := S.iml m
  refine S.imSub m (fun a e hv => ⟨fun x => hv (by rw [x]; simp), ?_⟩) (h1.drop h2 hn) (Nat.sub_le_sub_right h2 n)
  exact slA_block e

/-- What lay there before. -/
theorem St.old (h : Heap) : St [Old h] h :=
  ⟨[⟨Old h, fun _ => none, cutF (fun b => b < h.size) h⟩], rfl, fun t ht => by
    rw [List.mem_singleton] at ht; subst ht
    exact ⟨⟨fun _ => rfl, cutF_dom fun b hb => hb, fun h2 l2 => cutF_agree (fun b hb => hb) l2⟩, fun b o hb => (by cases hb), cutF_le _ _, fun b => .inl rfl⟩, List.pairwise_singleton ..⟩
theorem St.keptOld {h0 : Heap} (S : St L h) (m : Old h0 ∈ L) : Kept h0 h := by
  obtain ⟨h1, h2⟩ := S.sh m
  refine ⟨?_, fun b hb _ => h1 b hb⟩
  rcases Nat.lt_or_ge h.size h0.size with hl | hl
  · exact absurd (h2 h.size hl) (Nat.lt_irrefl _)
  · exact hl
theorem St.imOld {h0 : Heap} (S : St L h) (m : Old h0 ∈ L) {sz : Nat} {s : SV} {vs : List Value} (sl : Sl sz h0 s.1 s.2.1 vs) (hc : s.2.1 ≤ s.2.2) : St (Im sz s vs :: L) h :=
  S.sh_sub m (fun b ⟨h1, a, h2, h3⟩ => by
      rw [← h3]
      have := sl.2
      rw [h2] at this
      exact At.lt this h1) (Im.lc sz s vs) ⟨sl.kept (S.keptOld m), hc⟩

/-! ### Maps -/

section maps
variable {κ ν : Type} [DecidableEq κ] {kk : κ → Value} {vv : ν → Value} {m : Nat} {kvs : List (κ × ν)}
theorem Mq.lc (kk : κ → Value) (vv : ν → Value) (m : Nat) (kvs : List (κ × ν)) : Lc (fun b => b = m) (fun h => Mp kk vv h (some m) kvs) := fun h1 h2 e x => x.loc (e _ rfl)
theorem St.mp (S : St (Mq kk vv m kvs :: L) h) : Mp kk vv h (some m) kvs := S.own.1
theorem St.mqUpd {kvs' : List (κ × ν)} (S : St (Mq kk vv m kvs :: L) h) {h' : Heap} (k : Keeps (fun i => i = m) h h') (x : Mp kk vv h' (some m) kvs') : St (Mq kk vv m kvs' :: L) h' :=
  S.own_step (d' := fun b => b = m) k (fun b hb => .inl hb) (fun b hb => by rw [hb]; exact x.lt) (Mq.lc kk vv m kvs') x
/-- A new map. -/
theorem St.mqNew (S : St L h) (kk : κ → Value) (vv : ν → Value) : St (Mq kk vv h.size [] :: L) (h.push (.map #[] 0)) :=
  S.own_new (Keeps.push _ h _) (fun b hb => by rw [hb]; simp) (Mq.lc kk vv _ _) (Mp.new kk vv h)
theorem St.lookup {P : Program} {t kt et : TypeId} (KL : KeyL P kt kk) (ht : P.underlying t = some (.map kt et)) {z : Value} (hz : (P.info? et).bind (·.zero) = some z) (S : St (Mq kk vv m kvs :: L) h) {k : κ} {ok : Bool} {K : KT}
    (hK : K (if ok then .tuple #[(get? kvs k).elim z vv, .bool (get? kvs k).isSome] else (get? kvs k).elim z vv) h) : SemH P (Instr.lookup t (.map (some m)) (kk k) ok) K h := lookup_ok KL ht hz S.mp hK
theorem St.update {P : Program} {t kt et : TypeId} (KL : KeyL P kt kk) (ht : P.underlying t = some (.map kt et)) (S : St (Mq kk vv m kvs :: L) h) {k : κ} {v : ν} {K : KT}
    (hK : ∀ u h', St (Mq kk vv m (Lift.upd kvs k v) :: L) h' → K u h') : SemH P (unit (Instr.mapUpdate t (.map (some m)) (kk k) (vv v))) K h :=
  update_ok KL ht S.mp fun u h' x k' _ => hK u h' (S.mqUpd k' x)
theorem St.delete {P : Program} {t kt et kt' ty : TypeId} (KL : KeyL P kt kk) (ht : P.underlying t = some (.map kt et)) (S : St (Mq kk vv m kvs :: L) h) {k : κ} {K : KT}
    (hK : ∀ h', St (Mq kk vv m (del kvs k) :: L) h' → K (.tuple #[]) h') : SemH P (Builtin.delete_ #[t, kt'] ty #[.map (some m), kk k]) K h :=
  delete_ok KL ht S.mp fun h' x k' _ => hK h' (S.mqUpd k' x)
theorem St.lenMap {P : Program} {t kt et ty : TypeId} (ht : P.underlying t = some (.map kt et)) (S : St (Mq kk vv m kvs :: L) h) {K : KT} (hK : K (.int .i64 (kvs.length : Nat)) h) : SemH P (Builtin.len_ #[t] ty #[.map (some m)]) K h := lenMap_ok ht S.mp hK
end maps

/-! ### make, texts -/

theorem St.make1 {P : Program} {t e : TypeId} {by' : Nat} {z : Value} (T : SlT P t e 1 by' [z]) {n : Int} {k : Nat} (hn : n = k) (S : St L h) {K : KT} (hm : k < 9223372036854775808) (hb : by' * k ≤ 281474976710656)
    (hK : ∀ h', St (Ow 1 (some (top h), k, k) (List.replicate k z) :: L) h' → K (.slice (some (top h)) k k) h') : SemH P (Instr.makeSlice t (.int .i64 n) (.int .i64 n)) K h :=
  make_own T hn hm hb fun h' o k' hz => hK h' (S.owNew o (Fr.top (Nat.le_refl _)) k')
theorem St.bytes {P : Program} {src dst e : TypeId} (hs : P.underlying src = some .string) (hd : P.underlying dst = some (.slice e)) (he : P.underlying e = some (.int .u8)) (S : St L h) {bs : List UInt8} {K : KT}
    (hK : ∀ c h', St (Ow 1 (some (top h), bs.length, c) (u8s bs) :: L) h' → K (.slice (some (top h)) bs.length c) h') : SemH P (Go.convert src dst (.string (mkS bs))) K h :=
  bytes_ok hs hd he fun c h' o k' hz => hK c h' (S.owNew o (Fr.top (Nat.le_refl _)) k')

/-! ### The same, wherever they stand -/

section anywhere
variable {R : List Asr} {sz : Nat} {s : SV} {vs : List Value} {a : Addr} {Q : Heap → Prop}
/-- Reads that are known. -/
theorem St.rc (S : St L h) (a : Addr) [Has (Bx a) L vs R] (i : Nat) {v : Value} (e : vs[i]? = some v) : hcell h (a.add i) = some v := (S.get (Bx a)).c i e
theorem St.rcc (S : St L h) (a : Addr) [Has (Bx a) L vs R] (i j : Nat) {v : Value} (e : vs[i + j]? = some v) : hcell h ((a.add i).add j) = some v := (S.get (Bx a)).cc i j e
theorem St.rall (S : St L h) (a : Addr) [Has (Bx a) L vs R] (n : Nat) (hn : vs.length = n) : rdC h a 0 n = some vs := (S.get (Bx a)).mem.1.rd hn
theorem St.put1 (S : St L h) (a : Addr) [Has (Bx a) L vs R] (i : Nat) {v : Value} (hi : i < vs.length) (ho : one v = true) (hR : ∀ h', St (Bx a (vs.set i v) :: R) h' → Q h') : ∃ h', stC h (a.add i) 0 [v] = some h' ∧ Q h' := (S.get (Bx a)).wr i hi ho hR
theorem St.put2 (S : St L h) (a : Addr) [Has (Bx a) L vs R] (i j : Nat) {v : Value} (hi : i + j < vs.length) (ho : one v = true) (hR : ∀ h', St (Bx a (vs.set (i + j) v) :: R) h' → Q h') : ∃ h', stC h ((a.add i).add j) 0 [v] = some h' ∧ Q h' := (S.get (Bx a)).wrr i j hi ho hR
theorem St.putA (S : St L h) (a : Addr) [Has (Bx a) L vs R] {ws : List Value} (hi : ws.length = vs.length) (ho : ∀ w ∈ ws, one w = true) (hR : ∀ h', St (Bx a ws :: R) h' → Q h') : ∃ h', stC h a 0 ws = some h' ∧ Q h' := (S.get (Bx a)).wrA hi ho hR
theorem St.ows (S : St L h) (sz : Nat) (s : SV) [Has (Ow sz s) L vs R] : Own sz h s.1 s.2.1 s.2.2 vs := (S.get (Ow sz s)).ow
theorem St.osl (S : St L h) (sz : Nat) (s : SV) [Has (Ow sz s) L vs R] : Sl sz h s.1 s.2.1 vs := (S.get (Ow sz s)).sl
theorem St.fz (S : St L h) (sz : Nat) (s : SV) [Has (Ow sz s) L vs R] : St (Im sz s vs :: R) h := (S.get (Ow sz s)).im
theorem St.isl (S : St L h) (sz : Nat) (s : SV) [H : In (Im sz s) L vs] : Sl sz h s.1 s.2.1 vs := (S.iml H.mem).1
theorem St.ile (S : St L h) (sz : Nat) (s : SV) [H : In (Im sz s) L vs] : s.2.1 ≤ s.2.2 := (S.iml H.mem).2
theorem St.idup (S : St L h) (sz : Nat) (s : SV) [H : In (Im sz s) L vs] : St (Im sz s vs :: L) h := S.imDup H.mem
theorem St.itake (S : St L h) (s : SV) [H : In (Im 1 s) L vs] {n : Nat} (hn : n ≤ s.2.1) : St (Im 1 (s.1, n, s.2.2) (vs.take n) :: L) h := S.imTake H.mem hn
theorem St.idrop (S : St L h) (s : SV) [H : In (Im 1 s) L vs] {n : Nat} (hn : n ≤ s.2.1) : St (Im 1 (slA s.1 n s.2.2 1, s.2.1 - n, s.2.2 - n) (vs.drop n) :: L) h := S.imDrop H.mem hn
end anywhere

/-- 'm.field = append(m.field, x)': the row in cell k of a box grows by one element of one cell. -/
theorem St.push1 {P : Program} {t ty e : TypeId} {by' : Nat} {z : Value} {R1 R2 : List Asr} {vs cs : List Value} {Q : Heap → Prop} (T : SlT P t e 1 by' [z]) (S : St L h) (m : Addr) (k : Nat) (s : SV) [Has (Bx m) L cs R1] [Has (Ow 1 s) R1 vs R2] {w : Value} (hw : one w = true) (hk : k < cs.length)
    (hb : (s.2.1 + 1) * by' ≤ 140737488355328) (h63 : s.2.1 + 1 ≤ 9223372036854775807) (hQ : ∀ p c h2, St (Bx m (cs.set k (.slice p (s.2.1 + 1) c)) :: Ow 1 (p, s.2.1 + 1, c) (vs ++ [w]) :: R2) h2 → Q h2) :
    SemH P (Builtin.append_ #[t, t] ty #[.slice s.1 s.2.1 s.2.2, .slice (some (top h)) 1 1]) (fun v h' => ∃ a l c, v = .slice a l c ∧ ∃ h2, stC h' (m.add k) 0 [.slice a l c] = some h2 ∧ Q h2) (Lift.al h #[w] e) := by
  have S1 : St (Ow 1 s vs :: Bx m cs :: R2) h := St.perm (S.perm (Has.perm (F := Bx m))) (((Has.perm (F := Ow 1 s)).cons _).trans (List.Perm.swap ..))
  have S2 := S1.al [w] e
  refine St.app T rfl T.1 (fun k e => by cases e) S2.p1 (Src.slice (n := 1) ⟨rfl, S2.mem.1⟩ (by simpa using hw)) hb h63 fun p' c' h' S3 => ⟨_, _, _, rfl, ?_⟩
  exact S3.p2.wr k hk rfl fun h2 S4 => hQ p' c' h2 S4.to

/-- .. by what a source holds. -/
theorem St.pushS {P : Program} {t tx ty e : TypeId} {by' : Nat} {z : Value} {R1 R2 : List Asr} {vs cs ws : List Value} {xv : Value} {n : Nat} {d : TypeDesc} {Q : Heap → Prop} (T : SlT P t e 1 by' [z]) (htx : P.underlying tx = some d) (hd : ∀ k, d ≠ .int k) (S : St L h) (m : Addr) (k : Nat) (s : SV)
    [Has (Bx m) L cs R1] [Has (Ow 1 s) R1 vs R2] (src : Src P 1 h xv n ws) (hk : k < cs.length)
    (hb : (s.2.1 + n) * by' ≤ 140737488355328) (h63 : s.2.1 + n ≤ 9223372036854775807) (hQ : ∀ p c h2, St (Bx m (cs.set k (.slice p (s.2.1 + n) c)) :: Ow 1 (p, s.2.1 + n, c) (vs ++ ws) :: R2) h2 → Q h2) :
    SemH P (Builtin.append_ #[t, tx] ty #[.slice s.1 s.2.1 s.2.2, xv]) (fun v h' => ∃ a l c, v = .slice a l c ∧ ∃ h2, stC h' (m.add k) 0 [.slice a l c] = some h2 ∧ Q h2) h := by
  have S1 : St (Ow 1 s vs :: Bx m cs :: R2) h := St.perm (S.perm (Has.perm (F := Bx m))) (((Has.perm (F := Ow 1 s)).cons _).trans (List.Perm.swap ..))
  refine St.app T rfl htx hd S1 src hb h63 fun p' c' h' S3 => ⟨_, _, _, rfl, ?_⟩
  exact S3.p1.wr k hk rfl fun h2 S4 => hQ p' c' h2 S4

/-- Reading at an index. -/
theorem ixV {p : OA} {l : Nat} {vs : List Value} (m : Sl 1 h p l vs) {i : Int} {n : Nat} (hi : i = n) {w : Value} (hw : vs[n]? = some w) {R : Addr → Prop} (hR : ∀ a, p = some a → hcell h (a.add (Int.toNat i * 1)) = some w → R a) :
    ∃ a, p = some a ∧ (0 : Int) ≤ i ∧ i < ((l : Nat) : Int) ∧ R a := by
  subst hi
  have hn := (List.getElem?_eq_some_iff.1 hw).1
  have hl := m.1
  obtain ⟨a, e, hc⟩ := m.ix hn
  exact ⟨a, e, by omega, by omega, hR a e (by rw [Int.toNat_natCast, hc, hw])⟩

/-- A row that is written out, shared. -/
theorem St.lit (S : St L h) (vs : List Value) (t : TypeId) (n : Nat) (hn : vs.length = n) : St (Im 1 (some (top h), n, n) vs :: L) (Lift.al h vs.toArray t) := ((S.al vs t).bxOw (sz := 1) (by omega)).im

/-! ### Reads that are known -/

theorem rdS {a : Addr} {p : OA} {l c : Nat} (e : hcell h a = some (.slice p l c)) {G : OA → Nat → Nat → Prop} : (∃ x y z, hcell h a = some (.slice x y z) ∧ G x y z) ↔ G p l c :=
  ⟨fun ⟨x, y, z, h1, h2⟩ => by rw [e] at h1; cases h1; exact h2, fun g => ⟨_, _, _, e, g⟩⟩
theorem rdN {a : Addr} {k : IntKind} {n : Int} (e : hcell h a = some (.int k n)) {G : Int → Prop} : (∃ x, hcell h a = some (.int k x) ∧ G x) ↔ G n :=
  ⟨fun ⟨x, h1, h2⟩ => by rw [e] at h1; cases h1; exact h2, fun g => ⟨_, e, g⟩⟩
theorem rdB {a : Addr} {n : Bool} (e : hcell h a = some (.bool n)) {G : Bool → Prop} : (∃ x, hcell h a = some (.bool x) ∧ G x) ↔ G n :=
  ⟨fun ⟨x, h1, h2⟩ => by rw [e] at h1; cases h1; exact h2, fun g => ⟨_, e, g⟩⟩
theorem rdT {a : Addr} {n : List UInt8} (e : hcell h a = some (.string (mkS n))) {G : List UInt8 → Prop} : (∃ x, hcell h a = some (.string (mkS x)) ∧ G x) ↔ G n :=
  ⟨fun ⟨x, h1, h2⟩ => by
    rw [e] at h1
    simp only [Option.some.injEq, Value.string.injEq] at h1
    have := congrArg sl h1
    rw [sl_mkS, sl_mkS] at this
    subst this; exact h2, fun g => ⟨_, e, g⟩⟩
theorem rdP {a : Addr} {n : OA} (e : hcell h a = some (.pointer n)) {G : OA → Prop} : (∃ x, hcell h a = some (.pointer x) ∧ G x) ↔ G n :=
  ⟨fun ⟨x, h1, h2⟩ => by rw [e] at h1; cases h1; exact h2, fun g => ⟨_, e, g⟩⟩
theorem rdM {a : Addr} {n : Option Nat} (e : hcell h a = some (.map n)) {G : Option Nat → Prop} : (∃ x, hcell h a = some (.map x) ∧ G x) ↔ G n :=
  ⟨fun ⟨x, h1, h2⟩ => by rw [e] at h1; cases h1; exact h2, fun g => ⟨_, e, g⟩⟩
theorem rdC' {a : Addr} {n : Nat} {vs : List Value} (e : rdC h a 0 n = some vs) {G : List Value → Prop} : (∃ x, rdC h a 0 n = some x ∧ G x) ↔ G vs :=
  ⟨fun ⟨x, h1, h2⟩ => by rw [e] at h1; cases h1; exact h2, fun g => ⟨_, e, g⟩⟩
theorem someE {α : Type} {a : α} {G : α → Prop} : (∃ x, some a = some x ∧ G x) ↔ G a := ⟨fun ⟨x, h1, h2⟩ => by cases h1; exact h2, fun g => ⟨_, rfl, g⟩⟩
theorem bdE {α : Type} (e : α) (F : α → Prop) : bd e F ↔ F e := Iff.rfl
end
end Go.Lift
